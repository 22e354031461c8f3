/- Printed by print.lean: typed twins of functions and their proofs. No condition. -/
import Derived.Test.YtkegollaleklaaaGreatV
import Derived.Test.YtkegollaleklaaaGreatExt
import Derived.Test.YtkegollaleklaaaGreatProg
import Derived.KernelRfl
namespace Go.Proofs.YtkegollaleklaaaGreat.Tw
open Go.Mach
set_option linter.unusedVariables false
set_option maxRecDepth 100000
abbrev kI : K := .int .i64
abbrev kB : K := .int .u8
abbrev t0 : Type := List (Int × Int) × Int
abbrev t1 : Type := Int × List (Int × Int)
abbrev t2 : Type := Int × Unit × Unit × Unit
abbrev t3 : Type := Unit × Int × Unit × Unit
abbrev t4 : Type := List Int × List Int × Int
abbrev t5 : Type := List Int × List (List Int)
abbrev t6 : Type := Int × List Int × Int × Int
abbrev t7 : Type := List (List Int) × Int × Int
abbrev t8 : Type := List (Int × Int) × Int × Int
abbrev t9 : Type := Int × t2
abbrev t10 : Type := Unit × t3
abbrev t11 : Type := List Int × Int × Int × Int × Int
abbrev t12 : Type := (Unit × Unit × Unit) × Int × Int
abbrev t13 : Type := Int × t8
abbrev t14 : Type := List (Int × Bool × List Int) × Int
abbrev t15 : Type := Int × List (Int × Bool × List Int)
abbrev t16 : Type := (Int × Unit) × (Int × Unit) × Unit
abbrev t17 : Type := List (Int × Int) × List (Int × Int)
abbrev t18 : Type := Int × t9
abbrev t19 : Type := List Int × t5
abbrev t20 : Type := Int × t11
abbrev t21 : Type := Unit × t10
abbrev t22 : Type := List (List Int) × List (List Int) × Int
abbrev t23 : Type := Int × t13
abbrev t24 : Type := List (Int × Bool × List Int) × Int × Int
abbrev t25 : Type := List (Int × Int) × t0
abbrev t26 : Type := Int × t18
abbrev t27 : Type := Int × t19
abbrev t28 : Type := Int × t20
abbrev t29 : Type := Bool × t21
abbrev t30 : Type := List (Int × Int) × t8
abbrev t31 : Type := List (Int × Bool × List Int) × Int × Unit × Unit
abbrev t32 : Type := Int × t27
abbrev t33 : Type := Int × t28
abbrev t34 : Type := Int × t29
abbrev t35 : Type := List t23 × Int
abbrev t36 : Type := Int × t32
abbrev t37 : Type := Int × t34
abbrev t38 : Type := List t23 × Int × Int
abbrev t39 : Type := Int × t36
abbrev t40 : Type := Int × t37
abbrev t41 : Type := List (Int × Bool × List Int) × t14
abbrev t42 : Type := t39 × Int
abbrev t43 : Type := Int × t40
abbrev t44 : Type := Int × t43
abbrev t45 : Type := List (Int × Int) × t39
abbrev t46 : Type := Unit × t44
abbrev t47 : Type := Int × t45
abbrev t48 : Type := t39 × List Int × Int × Int
abbrev t49 : Type := Int × t46
abbrev t50 : Type := Int × t47
abbrev t51 : Type := Int × t49
abbrev t52 : Type := List (Int × Int) × List (Int × Int) × t38
abbrev t53 : Type := Int × t50
abbrev t54 : Type := Int × t51
abbrev t55 : Type := Int × Int × Bool × List t23 × t10
abbrev t56 : Type := List t50 × Int
abbrev t57 : Type := Int × List t50
abbrev t58 : Type := Unit × List t50
abbrev t59 : Type := t26 × t39
abbrev t60 : Type := List t50 × Int × Int
abbrev t61 : Type := List t53 × Int
abbrev t62 : Type := List (List t50) × Int
abbrev t63 : Type := Int × List (List t50)
abbrev t64 : Type := List (List t50) × Unit
abbrev t65 : Type := List t53 × Int × Int
abbrev t66 : Type := List (List t50) × Int × Int
abbrev t67 : Type := List (List (List t50)) × Int
abbrev t68 : Type := List (List t50) × Int × Bool
abbrev t69 : Type := Int × List (List (List t50))
abbrev t70 : Type := List (Int × Int) × t56
abbrev t71 : Type := List (List (List t50)) × Int × Int
abbrev t72 : Type := List Int × Int × Int × Int × t55
abbrev t73 : Type := t26 × t39 × t7
abbrev t74 : Type := List (List (List t50)) × t3
abbrev t75 : Type := List (Int × Bool × List Int) × Int × List t50 × Unit
abbrev t76 : Type := List t23 × t74
abbrev t77 : Type := Int × Bool × t76
abbrev t78 : Type := List t50 × List t53
abbrev t79 : Type := Int × t78
abbrev t80 : Type := List t50 × t60
abbrev t81 : Type := List t50 × Unit × t56
abbrev t82 : Type := List t23 × List (List (List t50)) × t31
abbrev t83 : Type := Int × Int × t77
abbrev t84 : Type := Unit × t79
abbrev t85 : Type := List (List t50) × t62
abbrev t86 : Type := t26 × t39 × Int × t56
abbrev t87 : Type := Int × Int × t83
abbrev t88 : Type := List (List (List t50)) × t67
abbrev t89 : Type := List Int × t87
abbrev t90 : Type := List (Int × Bool × List Int) × t79
abbrev t91 : Type := Int × Int × Int × Int × Bool × t82
abbrev t92 : Type := List (List (List t50)) × Int × Int × t66
abbrev t93 : Type := Int × Int × t89
abbrev t94 : Type := Int × Int × List Int × Int × t91
abbrev t95 : Type := Int × Bool × List t23 × Unit × t84
abbrev t96 : Type := List t23 × List (List (List t50)) × t75
abbrev t97 : Type := List Int × Int × Int × Int × Int × t95
abbrev t98 : Type := List (List (List t50)) × t84
abbrev t99 : Type := Int × Int × Int × Int × Bool × t96
abbrev t100 : Type := List (List (List t50)) × Int × t64 × t68
abbrev t101 : Type := List (List (List t50)) × t90
abbrev t102 : Type := Int × Int × List Int × Int × t99
abbrev t103 : Type := Int × Unit × t100
abbrev t104 : Type := List t23 × t98
abbrev t105 : Type := Bool × t104
abbrev t106 : Type := Int × Int × t105
abbrev t107 : Type := List t23 × t101
abbrev t108 : Type := Bool × t107
abbrev t109 : Type := Int × Int × t106
abbrev t110 : Type := Int × t108
abbrev t111 : Type := Int × t110
abbrev t112 : Type := List Int × Int × t109
abbrev t113 : Type := Int × t111
abbrev t114 : Type := Int × t113
abbrev t115 : Type := Int × Int × t112
abbrev t116 : Type := Int × t114
abbrev t117 : Type := List Int × t116
abbrev t118 : Type := Int × t117
abbrev t119 : Type := Int × t118
abbrev t120 : Type := Int × t119
abbrev t121 : Type := t120 × Int
abbrev t122 : Type := t120 × Int × Int
abbrev t123 : Type := t120 × Int × Int × Int
abbrev t124 : Type := t120 × t54 × t121
abbrev kk11 : K := (.list (.list kI))
abbrev kk10 : K := (.list (.pair kI kI))
abbrev kk9 : K := (.pair kI (.pair .bool (.list kI)))
abbrev kk8 : K := (.list kk9)
abbrev kk7 : K := (.pair kI (.pair kI (.pair kk10 (.pair kI kI))))
abbrev kk6 : K := (.list kk7)
abbrev kk5 : K := (.pair kI (.pair kI (.pair kk10 (.pair kI (.pair kI (.pair kI (.pair kI (.pair (.list kI) (.pair (.list kI) kk11)))))))))
abbrev kk4 : K := (.list kk5)
abbrev kk3 : K := (.pair kI kk5)
abbrev kk2 : K := (.list kk4)
abbrev kk1 : K := (.list kk3)
abbrev kk0 : K := (.list kk2)
abbrev cc0 : List PC := [.dat kI, .dat kI, .dat kI, .own true kI, .dat kI, .dat kI, .dat kI, .dat kI, .dat kI, .dat .bool, .own true kk7, .own true kk2, .own true kk9, .dat kI, .own true kk5, .own true kk3]
abbrev cc1 : List PC := [.dat kI, .dat kI, .dat kI, .own true kI, .dat kI, .dat kI, .dat kI, .dat kI, .dat kI, .dat .bool, .own true kk7, .own true kk2, .own true kk9, .dat kI, .own true kk5, .nil]
abbrev cc2 : List PC := [.dat kI, .dat kI, .dat kI, .own true kI, .dat kI, .dat kI, .dat kI, .dat kI, .dat kI, .dat .bool, .own true kk7, .own true kk2, .nil, .dat kI, .own true kk5, .own true kk3]
abbrev cc3 : List PC := [.dat kI, .dat kI, .dat kI, .own true kI, .dat kI, .dat kI, .dat kI, .dat kI, .dat kI, .dat .bool, .own true kk7, .own true kk2, .own true kk9, .dat kI, .nil, .nil]
abbrev cc4 : List PC := [.dat kI, .dat kI, .dat kI, .own true kI, .dat kI, .dat kI, .dat kI, .dat kI, .dat kI, .dat .bool, .own true kk7, .nil, .nil, .dat kI, .own true kk5, .own true kk3]
abbrev cc5 : List PC := [.dat kI, .dat kI, .dat kI, .dat (.list kI), .dat kI, .dat kI, .dat kI, .dat kI, .dat kI, .dat .bool, .dat kk6, .dat kk0, .dat kk8, .dat kI, .dat kk4, .dat kk1]
abbrev cc6 : List PC := [.dat kI, .dat kI, .dat kI, .own true kI, .dat kI, .dat kI, .dat kI, .dat kI, .dat kI, .dat .bool, .own true kk7, .own true kk2, .nil, .dat kI, .nil, .nil]
abbrev cc7 : List PC := [.dat kI, .dat kI, .dat kI, .own true kI, .dat kI, .dat kI, .dat kI, .dat kI, .dat kI, .dat .bool, .own true kk7, .nil, .nil, .dat kI, .nil, .nil]
abbrev cc8 : List PC := [.dat kI, .dat kI, .own true (.pair kI kI), .dat kI, .dat kI, .dat kI, .dat kI, .own true kI, .own true kI, .own true (.list kI)]
abbrev cc9 : List PC := [.dat kI, .dat kI, .dat kI, .nil, .dat kI, .dat kI, .dat kI, .dat kI, .dat kI, .dat .bool, .nil, .nil, .nil, .dat kI, .nil, .nil]
abbrev cc10 : List PC := [.dat kI, .dat kI, .dat kI, .dat kk10, .dat kI, .dat kI, .dat kI, .dat kI, .dat (.list kI), .dat (.list kI), .dat kk11]
abbrev cc11 : List PC := [.dat kI, .dat kI, .dat kk10, .dat kI, .dat kI, .dat kI, .dat kI, .dat (.list kI), .dat (.list kI), .dat kk11]
abbrev cc12 : List PC := [.dat kI, .dat kI, .dat kI, .dat kI, .own true kI, .own true kI, .own true (.list kI)]
abbrev cc13 : List PC := [.dat kI, .dat kI, .dat kI, .dat kI, .dat (.list kI), .dat (.list kI), .dat kk11]
abbrev cc14 : List PC := [.dat kI, .dat kI, .dat kI, .dat (.list kI), .dat kI, .dat kI, .dat kI, .dat kI]
abbrev cc15 : List PC := [.dat kI, .dat kI, .dat kI, .dat kI, .own true kI, .nil, .own true (.list kI)]
abbrev cc16 : List PC := [.dat kI, .dat kI, .nil, .dat kI, .dat kI, .dat kI, .dat kI, .nil, .nil, .nil]
abbrev cc17 : List PC := [.dat kI, .dat kI, .dat kI, .own true kI, .dat kI, .dat kI, .dat kI, .dat kI]
abbrev cc18 : List PC := [.dat kI, .dat kI, .own true (.pair kI kI), .dat kI, .dat kI]
abbrev cc19 : List PC := [.dat kI, .dat kI, .dat kI, .dat kI, .nil, .nil, .nil]
abbrev cc20 : List PC := [.dat kI, .dat kI, .dat kk10, .dat kI, .dat kI]
abbrev cc21 : List PC := [.dat kI, .dat .bool, .dat (.list kI)]
abbrev cc22 : List PC := [.fn 144 [.pim [kI] 0, .pim [kI] 0]]
abbrev cc23 : List PC := [.dat kI, .dat .bool, .own true kI]
abbrev cc24 : List PC := [.ref 3 11 [] false false kk2]
abbrev cc25 : List PC := [.own true (.pair kI kI)]
abbrev cc26 : List PC := [.fn 190 [.pim [kI] 0]]
abbrev cc27 : List PC := [.own true (.list kI)]
abbrev cc28 : List PC := [.dat kI, .dat kI]
theorem mixed : Tryz.prog.follows .mixedOrders = true := by kernel_rfl

/-! laws.szIntS -/
def laws_szIntS : List Int × Int → Option Int
  | (a, b) => (some (decide ((w64 (b - (ln a))) < 0))).bind fun c => bif c then some (-1) else some (w64 (b - (ln a)))
def laws_szIntS_e : FEnt := ⟨12, [.tmp 4], [], [(.one, [.dat (.list kI)]), (.one, [.dat kI])], ⟨16, [⟨4, .one, [.dat kI]⟩]⟩, laws_szIntS⟩
theorem laws_szIntS_ok : FnOk Tryz.prog 115 laws_szIntS_e := fnOk_mk (tb := []) (c := (Tryz.f115.body).getD .skip) mixed Tryz.func115 bN (by kernel_rfl) (by kernel_rfl) (by kernel_rfl) trivial (by intro d; kernel_rfl)


/-! laws.szConf -/
def laws_szConf : t33 × Int → Option Int
  | ((a, b, c, d, e, f, g, h), i) => (laws_szIntS (d, i)).bind fun j => bif decide (j < 0) then some (-1) else some j
def laws_szConf_e : FEnt := ⟨12, [.tmp 4], [], [(.agg, cc14), (.one, [.dat kI])], ⟨16, [⟨4, .one, [.dat kI]⟩]⟩, laws_szConf⟩
theorem laws_szConf_ok : FnOk Tryz.prog 54 laws_szConf_e := fnOk_mk (tb := []) (c := (Tryz.f54.body).getD .skip) mixed Tryz.func54 (bC laws_szIntS_ok bN) (by kernel_rfl) (by kernel_rfl) (by kernel_rfl) trivial (by intro d; kernel_rfl)


/-! laws.szSpanS -/
def laws_szSpanS : t0 → Option Int
  | (a, b) => (some (decide ((w64 (b - (ln a))) < 0))).bind fun c => bif c then some (-1) else some (w64 (b - (ln a)))
def laws_szSpanS_e : FEnt := ⟨12, [.tmp 4], [], [(.one, [.dat kk10]), (.one, [.dat kI])], ⟨16, [⟨4, .one, [.dat kI]⟩]⟩, laws_szSpanS⟩
theorem laws_szSpanS_ok : FnOk Tryz.prog 162 laws_szSpanS_e := fnOk_mk (tb := []) (c := (Tryz.f162.body).getD .skip) mixed Tryz.func162 bN (by kernel_rfl) (by kernel_rfl) (by kernel_rfl) trivial (by intro d; kernel_rfl)


/-! laws.szSeat -/
def laws_szSeat : t23 × Int → Option Int
  | ((a, b, c, d, e), f) => (laws_szSpanS (c, f)).bind fun g => bif decide (g < 0) then some (-1) else some g
def laws_szSeat_e : FEnt := ⟨12, [.tmp 4], [], [(.agg, cc20), (.one, [.dat kI])], ⟨16, [⟨4, .one, [.dat kI]⟩]⟩, laws_szSeat⟩
theorem laws_szSeat_ok : FnOk Tryz.prog 116 laws_szSeat_e := fnOk_mk (tb := []) (c := (Tryz.f116.body).getD .skip) mixed Tryz.func116 (bC laws_szSpanS_ok bN) (by kernel_rfl) (by kernel_rfl) (by kernel_rfl) trivial (by intro d; kernel_rfl)


/-! laws.szSeatS -/
def laws_szSeatS_s122 : t38 → Option (t38 ⊕ Int ⊕ Int)
  | (a, b, c) => bif decide (c < (ln a)) then ix c a.length ((some (gx a c (0, 0, [], 0, 0))).bind fun (d, e, f, g, h) => (laws_szSeat ((d, e, f, g, h), b)).bind fun i => bif decide (i < 0) then some (.inr (.inl (-1))) else some (.inl (a, i, w64 (c + 1)))) else some (.inr (.inr b))
def laws_szSeatS_n122 : NEnt := ⟨⟨31, [⟨0, .one, [.dat kk6]⟩, ⟨1, .one, [.dat kI]⟩, ⟨5, .one, [.dat kI]⟩]⟩, [(.ret, ⟨31, [⟨4, .one, [.dat kI]⟩]⟩), (.exit 0, ⟨31, [⟨1, .one, [.dat kI]⟩]⟩)], lp laws_szSeatS_s122⟩
def laws_szSeatS : t35 → Option Int
  | (a, b) => (some (decide ((w64 (b - (ln a))) < 0))).bind fun c => bif c then some (-1) else bx (lp laws_szSeatS_s122 (a, w64 (b - (ln a)), 0)) (fun d => some d) fun d => some d
def laws_szSeatS_e : FEnt := ⟨27, [.tmp 4], [], [(.one, [.dat kk6]), (.one, [.dat kI])], ⟨31, [⟨4, .one, [.dat kI]⟩]⟩, laws_szSeatS⟩
theorem laws_szSeatS_ok : FnOk Tryz.prog 55 laws_szSeatS_e := fnOk_mk (tb := [(122, laws_szSeatS_n122)]) (c := (Tryz.f55.body).getD .skip) mixed Tryz.func55 (bC laws_szSeat_ok bN) (by kernel_rfl) (by kernel_rfl) (by kernel_rfl) ⟨nodeLoop (by kernel_rfl) laws_szSeatS_s122 (by kernel_rfl) (by intro d; kernel_rfl), trivial⟩ (by intro d; kernel_rfl)


/-! laws.szIntSS -/
def laws_szIntSS_s122 : t7 → Option (t7 ⊕ Int ⊕ Int)
  | (a, b, c) => bif decide (c < (ln a)) then ix c a.length ((laws_szIntS (gx a c [], b)).bind fun d => bif decide (d < 0) then some (.inr (.inl (-1))) else some (.inl (a, d, w64 (c + 1)))) else some (.inr (.inr b))
def laws_szIntSS_n122 : NEnt := ⟨⟨31, [⟨0, .one, [.dat kk11]⟩, ⟨1, .one, [.dat kI]⟩, ⟨5, .one, [.dat kI]⟩]⟩, [(.ret, ⟨31, [⟨4, .one, [.dat kI]⟩]⟩), (.exit 0, ⟨31, [⟨1, .one, [.dat kI]⟩]⟩)], lp laws_szIntSS_s122⟩
def laws_szIntSS : List (List Int) × Int → Option Int
  | (a, b) => (some (decide ((w64 (b - (ln a))) < 0))).bind fun c => bif c then some (-1) else bx (lp laws_szIntSS_s122 (a, w64 (b - (ln a)), 0)) (fun d => some d) fun d => some d
def laws_szIntSS_e : FEnt := ⟨27, [.tmp 4], [], [(.one, [.dat kk11]), (.one, [.dat kI])], ⟨31, [⟨4, .one, [.dat kI]⟩]⟩, laws_szIntSS⟩
theorem laws_szIntSS_ok : FnOk Tryz.prog 196 laws_szIntSS_e := fnOk_mk (tb := [(122, laws_szIntSS_n122)]) (c := (Tryz.f196.body).getD .skip) mixed Tryz.func196 (bC laws_szIntS_ok bN) (by kernel_rfl) (by kernel_rfl) (by kernel_rfl) ⟨nodeLoop (by kernel_rfl) laws_szIntSS_s122 (by kernel_rfl) (by intro d; kernel_rfl), trivial⟩ (by intro d; kernel_rfl)


/-! laws.szSketch -/
def laws_szSketch : t42 → Option Int
  | ((a, b, c, d, e, f, g), h) => (laws_szIntS (e, h)).bind fun i => bif decide (i < 0) then some (-1) else (laws_szIntS (f, i)).bind fun j => bif decide (j < 0) then some (-1) else (laws_szIntSS (g, j)).bind fun k => bif decide (k < 0) then some (-1) else some k
def laws_szSketch_e : FEnt := ⟨24, [.tmp 4], [], [(.agg, cc13), (.one, [.dat kI])], ⟨28, [⟨4, .one, [.dat kI]⟩]⟩, laws_szSketch⟩
theorem laws_szSketch_ok : FnOk Tryz.prog 163 laws_szSketch_e := fnOk_mk (tb := []) (c := (Tryz.f163.body).getD .skip) mixed Tryz.func163 (bC laws_szIntS_ok (bC laws_szIntSS_ok bN)) (by kernel_rfl) (by kernel_rfl) (by kernel_rfl) trivial (by intro d; kernel_rfl)


/-! laws.szEntry -/
def laws_szEntry : t50 × Int → Option Int
  | ((a, b, c, d, e, f, g, h, i, j), k) => (laws_szSpanS (c, k)).bind fun l => bif decide (l < 0) then some (-1) else (laws_szSketch ((d, e, f, g, h, i, j), l)).bind fun m => bif decide (m < 0) then some (-1) else some m
def laws_szEntry_e : FEnt := ⟨18, [.tmp 4], [], [(.agg, cc11), (.one, [.dat kI])], ⟨22, [⟨4, .one, [.dat kI]⟩]⟩, laws_szEntry⟩
theorem laws_szEntry_ok : FnOk Tryz.prog 100 laws_szEntry_e := fnOk_mk (tb := []) (c := (Tryz.f100.body).getD .skip) mixed Tryz.func100 (bC laws_szSpanS_ok (bC laws_szSketch_ok bN)) (by kernel_rfl) (by kernel_rfl) (by kernel_rfl) trivial (by intro d; kernel_rfl)


/-! laws.szEntryS -/
def laws_szEntryS_s122 : t60 → Option (t60 ⊕ Int ⊕ Int)
  | (a, b, c) => (some (decide (c < (ln a)))).bind fun d => bif d then ix c a.length ((some (gx a c (0, 0, [], 0, 0, 0, 0, [], [], []))).bind fun (e, f, g, h, i, j, k, l, m, n) => (laws_szEntry ((e, f, g, h, i, j, k, l, m, n), b)).bind fun o => bif decide (o < 0) then some (.inr (.inl (-1))) else some (.inl (a, o, w64 (c + 1)))) else some (.inr (.inr b))
def laws_szEntryS_n122 : NEnt := ⟨⟨31, [⟨0, .one, [.dat kk4]⟩, ⟨1, .one, [.dat kI]⟩, ⟨5, .one, [.dat kI]⟩]⟩, [(.ret, ⟨31, [⟨4, .one, [.dat kI]⟩]⟩), (.exit 0, ⟨31, [⟨1, .one, [.dat kI]⟩]⟩)], lp laws_szEntryS_s122⟩
def laws_szEntryS : t56 → Option Int
  | (a, b) => (some (decide ((w64 (b - (ln a))) < 0))).bind fun c => bif c then some (-1) else bx (lp laws_szEntryS_s122 (a, w64 (b - (ln a)), 0)) (fun d => some d) fun d => some d
def laws_szEntryS_e : FEnt := ⟨27, [.tmp 4], [], [(.one, [.dat kk4]), (.one, [.dat kI])], ⟨31, [⟨4, .one, [.dat kI]⟩]⟩, laws_szEntryS⟩
theorem laws_szEntryS_ok : FnOk Tryz.prog 43 laws_szEntryS_e := fnOk_mk (tb := [(122, laws_szEntryS_n122)]) (c := (Tryz.f43.body).getD .skip) mixed Tryz.func43 (bC laws_szEntry_ok bN) (by kernel_rfl) (by kernel_rfl) (by kernel_rfl) ⟨nodeLoop (by kernel_rfl) laws_szEntryS_s122 (by kernel_rfl) (by intro d; kernel_rfl), trivial⟩ (by intro d; kernel_rfl)


/-! laws.szRow -/
def laws_szRow : t56 → Option Int
  | (a, b) => (laws_szEntryS (a, b)).bind fun c => bif decide (c < 0) then some (-1) else some c
def laws_szRow_e : FEnt := ⟨12, [.tmp 4], [], [(.agg, [.dat kk4]), (.one, [.dat kI])], ⟨16, [⟨4, .one, [.dat kI]⟩]⟩, laws_szRow⟩
theorem laws_szRow_ok : FnOk Tryz.prog 11 laws_szRow_e := fnOk_mk (tb := []) (c := (Tryz.f11.body).getD .skip) mixed Tryz.func11 (bC laws_szEntryS_ok bN) (by kernel_rfl) (by kernel_rfl) (by kernel_rfl) trivial (by intro d; kernel_rfl)


/-! laws.szRowS -/
def laws_szRowS_s122 : t66 → Option (t66 ⊕ Int ⊕ Int)
  | (a, b, c) => (some (decide (c < (ln a)))).bind fun d => bif d then ix c a.length ((some (gx a c [])).bind fun e => (laws_szRow (e, b)).bind fun f => bif decide (f < 0) then some (.inr (.inl (-1))) else some (.inl (a, f, w64 (c + 1)))) else some (.inr (.inr b))
def laws_szRowS_n122 : NEnt := ⟨⟨31, [⟨0, .one, [.dat kk2]⟩, ⟨1, .one, [.dat kI]⟩, ⟨5, .one, [.dat kI]⟩]⟩, [(.ret, ⟨31, [⟨4, .one, [.dat kI]⟩]⟩), (.exit 0, ⟨31, [⟨1, .one, [.dat kI]⟩]⟩)], lp laws_szRowS_s122⟩
def laws_szRowS : t62 → Option Int
  | (a, b) => (some (decide ((w64 (b - (ln a))) < 0))).bind fun c => bif c then some (-1) else bx (lp laws_szRowS_s122 (a, w64 (b - (ln a)), 0)) (fun d => some d) fun d => some d
def laws_szRowS_e : FEnt := ⟨27, [.tmp 4], [], [(.one, [.dat kk2]), (.one, [.dat kI])], ⟨31, [⟨4, .one, [.dat kI]⟩]⟩, laws_szRowS⟩
theorem laws_szRowS_ok : FnOk Tryz.prog 117 laws_szRowS_e := fnOk_mk (tb := [(122, laws_szRowS_n122)]) (c := (Tryz.f117.body).getD .skip) mixed Tryz.func117 (bC laws_szRow_ok bN) (by kernel_rfl) (by kernel_rfl) (by kernel_rfl) ⟨nodeLoop (by kernel_rfl) laws_szRowS_s122 (by kernel_rfl) (by intro d; kernel_rfl), trivial⟩ (by intro d; kernel_rfl)


/-! laws.szRowSS -/
def laws_szRowSS_s122 : t71 → Option (t71 ⊕ Int ⊕ Int)
  | (a, b, c) => (some (decide (c < (ln a)))).bind fun d => bif d then ix c a.length ((some (gx a c [])).bind fun e => (laws_szRowS (e, b)).bind fun f => bif decide (f < 0) then some (.inr (.inl (-1))) else some (.inl (a, f, w64 (c + 1)))) else some (.inr (.inr b))
def laws_szRowSS_n122 : NEnt := ⟨⟨31, [⟨0, .one, [.dat kk0]⟩, ⟨1, .one, [.dat kI]⟩, ⟨5, .one, [.dat kI]⟩]⟩, [(.ret, ⟨31, [⟨4, .one, [.dat kI]⟩]⟩), (.exit 0, ⟨31, [⟨1, .one, [.dat kI]⟩]⟩)], lp laws_szRowSS_s122⟩
def laws_szRowSS : t67 → Option Int
  | (a, b) => (some (decide ((w64 (b - (ln a))) < 0))).bind fun c => bif c then some (-1) else bx (lp laws_szRowSS_s122 (a, w64 (b - (ln a)), 0)) (fun d => some d) fun d => some d
def laws_szRowSS_e : FEnt := ⟨27, [.tmp 4], [], [(.one, [.dat kk0]), (.one, [.dat kI])], ⟨31, [⟨4, .one, [.dat kI]⟩]⟩, laws_szRowSS⟩
theorem laws_szRowSS_ok : FnOk Tryz.prog 56 laws_szRowSS_e := fnOk_mk (tb := [(122, laws_szRowSS_n122)]) (c := (Tryz.f56.body).getD .skip) mixed Tryz.func56 (bC laws_szRowS_ok bN) (by kernel_rfl) (by kernel_rfl) (by kernel_rfl) ⟨nodeLoop (by kernel_rfl) laws_szRowSS_s122 (by kernel_rfl) (by intro d; kernel_rfl), trivial⟩ (by intro d; kernel_rfl)


/-! laws.szTurn -/
def laws_szTurn : (Int × Bool × List Int) × Int → Option Int
  | ((a, b, c), d) => (laws_szIntS (c, d)).bind fun e => bif decide (e < 0) then some (-1) else some e
def laws_szTurn_e : FEnt := ⟨12, [.tmp 4], [], [(.agg, cc21), (.one, [.dat kI])], ⟨16, [⟨4, .one, [.dat kI]⟩]⟩, laws_szTurn⟩
theorem laws_szTurn_ok : FnOk Tryz.prog 118 laws_szTurn_e := fnOk_mk (tb := []) (c := (Tryz.f118.body).getD .skip) mixed Tryz.func118 (bC laws_szIntS_ok bN) (by kernel_rfl) (by kernel_rfl) (by kernel_rfl) trivial (by intro d; kernel_rfl)


/-! laws.szTurnS -/
def laws_szTurnS_s122 : t24 → Option (t24 ⊕ Int ⊕ Int)
  | (a, b, c) => bif decide (c < (ln a)) then ix c a.length ((some (gx a c (0, false, []))).bind fun (d, e, f) => (laws_szTurn ((d, e, f), b)).bind fun g => bif decide (g < 0) then some (.inr (.inl (-1))) else some (.inl (a, g, w64 (c + 1)))) else some (.inr (.inr b))
def laws_szTurnS_n122 : NEnt := ⟨⟨31, [⟨0, .one, [.dat kk8]⟩, ⟨1, .one, [.dat kI]⟩, ⟨5, .one, [.dat kI]⟩]⟩, [(.ret, ⟨31, [⟨4, .one, [.dat kI]⟩]⟩), (.exit 0, ⟨31, [⟨1, .one, [.dat kI]⟩]⟩)], lp laws_szTurnS_s122⟩
def laws_szTurnS : t14 → Option Int
  | (a, b) => (some (decide ((w64 (b - (ln a))) < 0))).bind fun c => bif c then some (-1) else bx (lp laws_szTurnS_s122 (a, w64 (b - (ln a)), 0)) (fun d => some d) fun d => some d
def laws_szTurnS_e : FEnt := ⟨27, [.tmp 4], [], [(.one, [.dat kk8]), (.one, [.dat kI])], ⟨31, [⟨4, .one, [.dat kI]⟩]⟩, laws_szTurnS⟩
theorem laws_szTurnS_ok : FnOk Tryz.prog 57 laws_szTurnS_e := fnOk_mk (tb := [(122, laws_szTurnS_n122)]) (c := (Tryz.f57.body).getD .skip) mixed Tryz.func57 (bC laws_szTurn_ok bN) (by kernel_rfl) (by kernel_rfl) (by kernel_rfl) ⟨nodeLoop (by kernel_rfl) laws_szTurnS_s122 (by kernel_rfl) (by intro d; kernel_rfl), trivial⟩ (by intro d; kernel_rfl)


/-! laws.szOut -/
def laws_szOut : t53 × Int → Option Int
  | ((a, b, c, d, e, f, g, h, i, j, k), l) => (laws_szEntry ((b, c, d, e, f, g, h, i, j, k), l)).bind fun m => bif decide (m < 0) then some (-1) else some m
def laws_szOut_e : FEnt := ⟨12, [.tmp 4], [], [(.agg, cc10), (.one, [.dat kI])], ⟨16, [⟨4, .one, [.dat kI]⟩]⟩, laws_szOut⟩
theorem laws_szOut_ok : FnOk Tryz.prog 119 laws_szOut_e := fnOk_mk (tb := []) (c := (Tryz.f119.body).getD .skip) mixed Tryz.func119 (bC laws_szEntry_ok bN) (by kernel_rfl) (by kernel_rfl) (by kernel_rfl) trivial (by intro d; kernel_rfl)


/-! laws.szOutS -/
def laws_szOutS_s122 : t65 → Option (t65 ⊕ Int ⊕ Int)
  | (a, b, c) => (some (decide (c < (ln a)))).bind fun d => bif d then ix c a.length ((some (gx a c (0, 0, 0, [], 0, 0, 0, 0, [], [], []))).bind fun (e, f, g, h, i, j, k, l, m, n, o) => (laws_szOut ((e, f, g, h, i, j, k, l, m, n, o), b)).bind fun p => bif decide (p < 0) then some (.inr (.inl (-1))) else some (.inl (a, p, w64 (c + 1)))) else some (.inr (.inr b))
def laws_szOutS_n122 : NEnt := ⟨⟨31, [⟨0, .one, [.dat kk1]⟩, ⟨1, .one, [.dat kI]⟩, ⟨5, .one, [.dat kI]⟩]⟩, [(.ret, ⟨31, [⟨4, .one, [.dat kI]⟩]⟩), (.exit 0, ⟨31, [⟨1, .one, [.dat kI]⟩]⟩)], lp laws_szOutS_s122⟩
def laws_szOutS : t61 → Option Int
  | (a, b) => (some (decide ((w64 (b - (ln a))) < 0))).bind fun c => bif c then some (-1) else bx (lp laws_szOutS_s122 (a, w64 (b - (ln a)), 0)) (fun d => some d) fun d => some d
def laws_szOutS_e : FEnt := ⟨27, [.tmp 4], [], [(.one, [.dat kk1]), (.one, [.dat kI])], ⟨31, [⟨4, .one, [.dat kI]⟩]⟩, laws_szOutS⟩
theorem laws_szOutS_ok : FnOk Tryz.prog 58 laws_szOutS_e := fnOk_mk (tb := [(122, laws_szOutS_n122)]) (c := (Tryz.f58.body).getD .skip) mixed Tryz.func58 (bC laws_szOut_ok bN) (by kernel_rfl) (by kernel_rfl) (by kernel_rfl) ⟨nodeLoop (by kernel_rfl) laws_szOutS_s122 (by kernel_rfl) (by intro d; kernel_rfl), trivial⟩ (by intro d; kernel_rfl)


/-! laws.szHouse -/
def laws_szHouse : t121 → Option Int
  | ((a, b, c, d, e, f, g, h, i, j, k, l, m, n, o, p), q) => (laws_szConf ((a, b, c, d, e, f, g, h), q)).bind fun r => bif decide (r < 0) then some (-1) else (laws_szSeatS (k, r)).bind fun s => bif decide (s < 0) then some (-1) else (laws_szRowSS (l, s)).bind fun t => bif decide (t < 0) then some (-1) else (laws_szTurnS (m, t)).bind fun u => bif decide (u < 0) then some (-1) else (laws_szEntryS (o, u)).bind fun v => bif decide (v < 0) then some (-1) else (laws_szOutS (p, v)).bind fun w => bif decide (w < 0) then some (-1) else some w
def laws_szHouse_e : FEnt := ⟨42, [.tmp 4], [], [(.agg, cc5), (.one, [.dat kI])], ⟨46, [⟨4, .one, [.dat kI]⟩]⟩, laws_szHouse⟩
theorem laws_szHouse_ok : FnOk Tryz.prog 18 laws_szHouse_e := fnOk_mk (tb := []) (c := (Tryz.f18.body).getD .skip) mixed Tryz.func18 (bC laws_szConf_ok (bC laws_szSeatS_ok (bC laws_szRowSS_ok (bC laws_szTurnS_ok (bC laws_szEntryS_ok (bC laws_szOutS_ok bN)))))) (by kernel_rfl) (by kernel_rfl) (by kernel_rfl) trivial (by intro d; kernel_rfl)


/-! laws.toIntS -/
def laws_toIntS_s58 : t4 → Option (t4 ⊕ List Int)
  | (a, b, c) => bif decide (c < (ln a)) then ix c a.length (ix c b.length (lx c b.length (some (.inl (a, sx b c (gx a c 0), w64 (c + 1)))))) else some (.inr b)
def laws_toIntS_n58 : NEnt := ⟨⟨24, [⟨0, .one, [.dat (.list kI)]⟩, ⟨3, .one, [.own true kI]⟩, ⟨4, .one, [.dat kI]⟩]⟩, [(.exit 0, ⟨24, [⟨3, .one, [.own true kI]⟩]⟩)], lp laws_toIntS_s58⟩
def laws_toIntS : List Int → Option (List Int)
  | a => chk (decide (((ln a).toNat ≤ (ln a).toNat) ∧ (((ln a).toNat ≤ 4294967296) ∧ (((ln a).toNat * 8) ≤ 140737488355328)))) ((lp laws_toIntS_s58 (a, List.replicate (ln a).toNat 0, 0)).bind fun b => some b)
def laws_toIntS_e : FEnt := ⟨22, [.tmp 2], [], [(.one, [.dat (.list kI)])], ⟨24, [⟨2, .one, [.own true kI]⟩]⟩, laws_toIntS⟩
theorem laws_toIntS_ok : FnOk Tryz.prog 127 laws_toIntS_e := fnOk_mk (tb := [(58, laws_toIntS_n58)]) (c := (Tryz.f127.body).getD .skip) mixed Tryz.func127 bN (by kernel_rfl) (by kernel_rfl) (by kernel_rfl) ⟨nodeLoop (by kernel_rfl) laws_toIntS_s58 (by kernel_rfl) (by intro d; kernel_rfl), trivial⟩ (by intro d; kernel_rfl)


/-! laws.toConf -/
def laws_toConf : t33 → Option t33
  | (a, b, c, d, e, f, g, h) => (laws_toIntS d).bind fun i => some (a, b, c, i, e, f, g, h)
def laws_toConf_e : FEnt := ⟨30, [.cell 2 true 8], [], [(.agg, cc14)], ⟨32, [⟨2, .box, cc17⟩]⟩, laws_toConf⟩
theorem laws_toConf_ok : FnOk Tryz.prog 61 laws_toConf_e := fnOk_mk (tb := []) (c := (Tryz.f61.body).getD .skip) mixed Tryz.func61 (bC laws_toIntS_ok bN) (by kernel_rfl) (by kernel_rfl) (by kernel_rfl) trivial (by intro d; kernel_rfl)


/-! laws.toSpan -/
def laws_toSpan : Int × Int → Option (Int × Int)
  | (a, b) => some (a, b)
def laws_toSpan_e : FEnt := ⟨11, [.cell 2 true 2], [], [(.agg, cc28)], ⟨13, [⟨2, .box, cc28⟩]⟩, laws_toSpan⟩
theorem laws_toSpan_ok : FnOk Tryz.prog 198 laws_toSpan_e := fnOk_mk (tb := []) (c := (Tryz.f198.body).getD .skip) mixed Tryz.func198 bN (by kernel_rfl) (by kernel_rfl) (by kernel_rfl) trivial (by intro d; kernel_rfl)


/-! laws.toSpanS -/
def laws_toSpanS_s58 : t25 → Option (t25 ⊕ List (Int × Int))
  | (a, b, c) => bif decide (c < (ln a)) then ix c a.length ((some (gx a c (0, 0))).bind fun (d, e) => (laws_toSpan (d, e)).bind fun (f, g) => ix c b.length (lx c b.length (some (.inl (a, sx b c (f, g), w64 (c + 1)))))) else some (.inr b)
def laws_toSpanS_n58 : NEnt := ⟨⟨25, [⟨0, .one, [.dat kk10]⟩, ⟨3, .one, cc25⟩, ⟨4, .one, [.dat kI]⟩]⟩, [(.exit 0, ⟨25, [⟨3, .one, cc25⟩]⟩)], lp laws_toSpanS_s58⟩
def laws_toSpanS : List (Int × Int) → Option (List (Int × Int))
  | a => chk (decide (((ln a).toNat ≤ (ln a).toNat) ∧ (((ln a).toNat ≤ 4294967296) ∧ (((ln a).toNat * 16) ≤ 140737488355328)))) ((lp laws_toSpanS_s58 (a, List.replicate (ln a).toNat (0, 0), 0)).bind fun b => some b)
def laws_toSpanS_e : FEnt := ⟨23, [.tmp 2], [], [(.one, [.dat kk10])], ⟨25, [⟨2, .one, cc25⟩]⟩, laws_toSpanS⟩
theorem laws_toSpanS_ok : FnOk Tryz.prog 168 laws_toSpanS_e := fnOk_mk (tb := [(58, laws_toSpanS_n58)]) (c := (Tryz.f168.body).getD .skip) mixed Tryz.func168 (bC laws_toSpan_ok bN) (by kernel_rfl) (by kernel_rfl) (by kernel_rfl) ⟨nodeLoop (by kernel_rfl) laws_toSpanS_s58 (by kernel_rfl) (by intro d; kernel_rfl), trivial⟩ (by intro d; kernel_rfl)


/-! laws.toSeat -/
def laws_toSeat : t23 → Option t23
  | (a, b, c, d, e) => (laws_toSpanS c).bind fun f => some (a, b, f, d, e)
def laws_toSeat_e : FEnt := ⟨21, [.cell 2 true 5], [], [(.agg, cc20)], ⟨23, [⟨2, .box, cc18⟩]⟩, laws_toSeat⟩
theorem laws_toSeat_ok : FnOk Tryz.prog 128 laws_toSeat_e := fnOk_mk (tb := []) (c := (Tryz.f128.body).getD .skip) mixed Tryz.func128 (bC laws_toSpanS_ok bN) (by kernel_rfl) (by kernel_rfl) (by kernel_rfl) trivial (by intro d; kernel_rfl)


/-! laws.toSeatS -/
def laws_toSeatS_s58 : List t23 × t35 → Option (List t23 × t35 ⊕ List t23)
  | (a, b, c) => bif decide (c < (ln a)) then ix c a.length ((some (gx a c (0, 0, [], 0, 0))).bind fun (d, e, f, g, h) => (laws_toSeat (d, e, f, g, h)).bind fun (i, j, k, l, m) => ix c b.length (lx c b.length ((some (sx b c (i, j, k, l, m))).bind fun n => some (.inl (a, n, w64 (c + 1)))))) else some (.inr b)
def laws_toSeatS_n58 : NEnt := ⟨⟨25, [⟨0, .one, [.dat kk6]⟩, ⟨3, .one, [.own true kk7]⟩, ⟨4, .one, [.dat kI]⟩]⟩, [(.exit 0, ⟨25, [⟨3, .one, [.own true kk7]⟩]⟩)], lp laws_toSeatS_s58⟩
def laws_toSeatS : List t23 → Option (List t23)
  | a => chk (decide (((ln a).toNat ≤ (ln a).toNat) ∧ (((ln a).toNat ≤ 4294967296) ∧ (((ln a).toNat * 56) ≤ 140737488355328)))) ((some (List.replicate (ln a).toNat (0, 0, [], 0, 0))).bind fun b => (lp laws_toSeatS_s58 (a, b, 0)).bind fun c => some c)
def laws_toSeatS_e : FEnt := ⟨23, [.tmp 2], [], [(.one, [.dat kk6])], ⟨25, [⟨2, .one, [.own true kk7]⟩]⟩, laws_toSeatS⟩
theorem laws_toSeatS_ok : FnOk Tryz.prog 62 laws_toSeatS_e := fnOk_mk (tb := [(58, laws_toSeatS_n58)]) (c := (Tryz.f62.body).getD .skip) mixed Tryz.func62 (bC laws_toSeat_ok bN) (by kernel_rfl) (by kernel_rfl) (by kernel_rfl) ⟨nodeLoop (by kernel_rfl) laws_toSeatS_s58 (by kernel_rfl) (by intro d; kernel_rfl), trivial⟩ (by intro d; kernel_rfl)


/-! laws.toIntSS -/
def laws_toIntSS_s58 : t22 → Option (t22 ⊕ List (List Int))
  | (a, b, c) => bif decide (c < (ln a)) then ix c a.length ((laws_toIntS (gx a c [])).bind fun d => ix c b.length (lx c b.length (some (.inl (a, sx b c d, w64 (c + 1)))))) else some (.inr b)
def laws_toIntSS_n58 : NEnt := ⟨⟨25, [⟨0, .one, [.dat kk11]⟩, ⟨3, .one, cc27⟩, ⟨4, .one, [.dat kI]⟩]⟩, [(.exit 0, ⟨25, [⟨3, .one, cc27⟩]⟩)], lp laws_toIntSS_s58⟩
def laws_toIntSS : List (List Int) → Option (List (List Int))
  | a => chk (decide (((ln a).toNat ≤ (ln a).toNat) ∧ (((ln a).toNat ≤ 4294967296) ∧ (((ln a).toNat * 24) ≤ 140737488355328)))) ((lp laws_toIntSS_s58 (a, List.replicate (ln a).toNat [], 0)).bind fun b => some b)
def laws_toIntSS_e : FEnt := ⟨23, [.tmp 2], [], [(.one, [.dat kk11])], ⟨25, [⟨2, .one, cc27⟩]⟩, laws_toIntSS⟩
theorem laws_toIntSS_ok : FnOk Tryz.prog 199 laws_toIntSS_e := fnOk_mk (tb := [(58, laws_toIntSS_n58)]) (c := (Tryz.f199.body).getD .skip) mixed Tryz.func199 (bC laws_toIntS_ok bN) (by kernel_rfl) (by kernel_rfl) (by kernel_rfl) ⟨nodeLoop (by kernel_rfl) laws_toIntSS_s58 (by kernel_rfl) (by intro d; kernel_rfl), trivial⟩ (by intro d; kernel_rfl)


/-! laws.toSketch -/
def laws_toSketch : t39 → Option t39
  | (a, b, c, d, e, f, g) => (laws_toIntS e).bind fun h => (laws_toIntS f).bind fun i => (laws_toIntSS g).bind fun j => some (a, b, c, d, h, i, j)
def laws_toSketch_e : FEnt := ⟨29, [.cell 2 true 7], [], [(.agg, cc13)], ⟨31, [⟨2, .box, cc12⟩]⟩, laws_toSketch⟩
theorem laws_toSketch_ok : FnOk Tryz.prog 169 laws_toSketch_e := fnOk_mk (tb := []) (c := (Tryz.f169.body).getD .skip) mixed Tryz.func169 (bC laws_toIntS_ok (bC laws_toIntSS_ok bN)) (by kernel_rfl) (by kernel_rfl) (by kernel_rfl) trivial (by intro d; kernel_rfl)


/-! laws.toEntry -/
def laws_toEntry : t50 → Option t50
  | (a, b, c, d, e, f, g, h, i, j) => (laws_toSpanS c).bind fun k => (laws_toSketch (d, e, f, g, h, i, j)).bind fun (l, m, n, o, p, q, r) => some (a, b, k, l, m, n, o, p, q, r)
def laws_toEntry_e : FEnt := ⟨19, [.cell 2 true 10], [], [(.agg, cc11)], ⟨21, [⟨2, .box, cc8⟩]⟩, laws_toEntry⟩
theorem laws_toEntry_ok : FnOk Tryz.prog 106 laws_toEntry_e := fnOk_mk (tb := []) (c := (Tryz.f106.body).getD .skip) mixed Tryz.func106 (bC laws_toSpanS_ok (bC laws_toSketch_ok bN)) (by kernel_rfl) (by kernel_rfl) (by kernel_rfl) trivial (by intro d; kernel_rfl)


/-! laws.toEntryS -/
def laws_toEntryS_s58 : List t50 × t56 → Option (List t50 × t56 ⊕ List t50)
  | (a, b, c) => (some (decide (c < (ln a)))).bind fun d => bif d then ix c a.length ((some (gx a c (0, 0, [], 0, 0, 0, 0, [], [], []))).bind fun (e, f, g, h, i, j, k, l, m, n) => (laws_toEntry (e, f, g, h, i, j, k, l, m, n)).bind fun (o, p, q, r, s, t, u, v, w, x) => ix c b.length (lx c b.length ((some (sx b c (o, p, q, r, s, t, u, v, w, x))).bind fun y => some (.inl (a, y, w64 (c + 1)))))) else some (.inr b)
def laws_toEntryS_n58 : NEnt := ⟨⟨25, [⟨0, .one, [.dat kk4]⟩, ⟨3, .one, [.own true kk5]⟩, ⟨4, .one, [.dat kI]⟩]⟩, [(.exit 0, ⟨25, [⟨3, .one, [.own true kk5]⟩]⟩)], lp laws_toEntryS_s58⟩
def laws_toEntryS : List t50 → Option (List t50)
  | a => chk (decide (((ln a).toNat ≤ (ln a).toNat) ∧ (((ln a).toNat ≤ 4294967296) ∧ (((ln a).toNat * 144) ≤ 140737488355328)))) ((some (List.replicate (ln a).toNat (0, 0, [], 0, 0, 0, 0, [], [], []))).bind fun b => (lp laws_toEntryS_s58 (a, b, 0)).bind fun c => some c)
def laws_toEntryS_e : FEnt := ⟨23, [.tmp 2], [], [(.one, [.dat kk4])], ⟨25, [⟨2, .one, [.own true kk5]⟩]⟩, laws_toEntryS⟩
theorem laws_toEntryS_ok : FnOk Tryz.prog 47 laws_toEntryS_e := fnOk_mk (tb := [(58, laws_toEntryS_n58)]) (c := (Tryz.f47.body).getD .skip) mixed Tryz.func47 (bC laws_toEntry_ok bN) (by kernel_rfl) (by kernel_rfl) (by kernel_rfl) ⟨nodeLoop (by kernel_rfl) laws_toEntryS_s58 (by kernel_rfl) (by intro d; kernel_rfl), trivial⟩ (by intro d; kernel_rfl)


/-! laws.toRow -/
def laws_toRow : List t50 → Option (List t50)
  | a => (laws_toEntryS a).bind fun b => some b
def laws_toRow_e : FEnt := ⟨9, [.cell 2 true 1], [], [(.agg, [.dat kk4])], ⟨11, [⟨2, .box, [.own true kk5]⟩]⟩, laws_toRow⟩
theorem laws_toRow_ok : FnOk Tryz.prog 13 laws_toRow_e := fnOk_mk (tb := []) (c := (Tryz.f13.body).getD .skip) mixed Tryz.func13 (bC laws_toEntryS_ok bN) (by kernel_rfl) (by kernel_rfl) (by kernel_rfl) trivial (by intro d; kernel_rfl)


/-! laws.toRowS -/
def laws_toRowS_s58 : t85 → Option (t85 ⊕ List (List t50))
  | (a, b, c) => (some (decide (c < (ln a)))).bind fun d => bif d then ix c a.length ((some (gx a c [])).bind fun e => (laws_toRow e).bind fun f => ix c b.length (lx c b.length (some (.inl (a, sx b c f, w64 (c + 1)))))) else some (.inr b)
def laws_toRowS_n58 : NEnt := ⟨⟨25, [⟨0, .one, [.dat kk2]⟩, ⟨3, .one, [.own true kk4]⟩, ⟨4, .one, [.dat kI]⟩]⟩, [(.exit 0, ⟨25, [⟨3, .one, [.own true kk4]⟩]⟩)], lp laws_toRowS_s58⟩
def laws_toRowS : List (List t50) → Option (List (List t50))
  | a => chk (decide (((ln a).toNat ≤ (ln a).toNat) ∧ (((ln a).toNat ≤ 4294967296) ∧ (((ln a).toNat * 24) ≤ 140737488355328)))) ((some (List.replicate (ln a).toNat [])).bind fun b => (lp laws_toRowS_s58 (a, b, 0)).bind fun c => some c)
def laws_toRowS_e : FEnt := ⟨23, [.tmp 2], [], [(.one, [.dat kk2])], ⟨25, [⟨2, .one, [.own true kk4]⟩]⟩, laws_toRowS⟩
theorem laws_toRowS_ok : FnOk Tryz.prog 129 laws_toRowS_e := fnOk_mk (tb := [(58, laws_toRowS_n58)]) (c := (Tryz.f129.body).getD .skip) mixed Tryz.func129 (bC laws_toRow_ok bN) (by kernel_rfl) (by kernel_rfl) (by kernel_rfl) ⟨nodeLoop (by kernel_rfl) laws_toRowS_s58 (by kernel_rfl) (by intro d; kernel_rfl), trivial⟩ (by intro d; kernel_rfl)


/-! laws.toRowSS -/
def laws_toRowSS_s58 : t88 → Option (t88 ⊕ List (List (List t50)))
  | (a, b, c) => (some (decide (c < (ln a)))).bind fun d => bif d then ix c a.length ((some (gx a c [])).bind fun e => (laws_toRowS e).bind fun f => ix c b.length (lx c b.length (some (.inl (a, sx b c f, w64 (c + 1)))))) else some (.inr b)
def laws_toRowSS_n58 : NEnt := ⟨⟨25, [⟨0, .one, [.dat kk0]⟩, ⟨3, .one, [.own true kk2]⟩, ⟨4, .one, [.dat kI]⟩]⟩, [(.exit 0, ⟨25, [⟨3, .one, [.own true kk2]⟩]⟩)], lp laws_toRowSS_s58⟩
def laws_toRowSS : List (List (List t50)) → Option (List (List (List t50)))
  | a => chk (decide (((ln a).toNat ≤ (ln a).toNat) ∧ (((ln a).toNat ≤ 4294967296) ∧ (((ln a).toNat * 24) ≤ 140737488355328)))) ((some (List.replicate (ln a).toNat [])).bind fun b => (lp laws_toRowSS_s58 (a, b, 0)).bind fun c => some c)
def laws_toRowSS_e : FEnt := ⟨23, [.tmp 2], [], [(.one, [.dat kk0])], ⟨25, [⟨2, .one, [.own true kk2]⟩]⟩, laws_toRowSS⟩
theorem laws_toRowSS_ok : FnOk Tryz.prog 63 laws_toRowSS_e := fnOk_mk (tb := [(58, laws_toRowSS_n58)]) (c := (Tryz.f63.body).getD .skip) mixed Tryz.func63 (bC laws_toRowS_ok bN) (by kernel_rfl) (by kernel_rfl) (by kernel_rfl) ⟨nodeLoop (by kernel_rfl) laws_toRowSS_s58 (by kernel_rfl) (by intro d; kernel_rfl), trivial⟩ (by intro d; kernel_rfl)


/-! laws.toTurn -/
def laws_toTurn : Int × Bool × List Int → Option (Int × Bool × List Int)
  | (a, b, c) => (laws_toIntS c).bind fun d => some (a, b, d)
def laws_toTurn_e : FEnt := ⟨15, [.cell 2 true 3], [], [(.agg, cc21)], ⟨17, [⟨2, .box, cc23⟩]⟩, laws_toTurn⟩
theorem laws_toTurn_ok : FnOk Tryz.prog 130 laws_toTurn_e := fnOk_mk (tb := []) (c := (Tryz.f130.body).getD .skip) mixed Tryz.func130 (bC laws_toIntS_ok bN) (by kernel_rfl) (by kernel_rfl) (by kernel_rfl) trivial (by intro d; kernel_rfl)


/-! laws.toTurnS -/
def laws_toTurnS_s58 : t41 → Option (t41 ⊕ List (Int × Bool × List Int))
  | (a, b, c) => bif decide (c < (ln a)) then ix c a.length ((some (gx a c (0, false, []))).bind fun (d, e, f) => (laws_toTurn (d, e, f)).bind fun (g, h, i) => ix c b.length (lx c b.length (some (.inl (a, sx b c (g, h, i), w64 (c + 1)))))) else some (.inr b)
def laws_toTurnS_n58 : NEnt := ⟨⟨25, [⟨0, .one, [.dat kk8]⟩, ⟨3, .one, [.own true kk9]⟩, ⟨4, .one, [.dat kI]⟩]⟩, [(.exit 0, ⟨25, [⟨3, .one, [.own true kk9]⟩]⟩)], lp laws_toTurnS_s58⟩
def laws_toTurnS : List (Int × Bool × List Int) → Option (List (Int × Bool × List Int))
  | a => chk (decide (((ln a).toNat ≤ (ln a).toNat) ∧ (((ln a).toNat ≤ 4294967296) ∧ (((ln a).toNat * 40) ≤ 140737488355328)))) ((lp laws_toTurnS_s58 (a, List.replicate (ln a).toNat (0, false, []), 0)).bind fun b => some b)
def laws_toTurnS_e : FEnt := ⟨23, [.tmp 2], [], [(.one, [.dat kk8])], ⟨25, [⟨2, .one, [.own true kk9]⟩]⟩, laws_toTurnS⟩
theorem laws_toTurnS_ok : FnOk Tryz.prog 64 laws_toTurnS_e := fnOk_mk (tb := [(58, laws_toTurnS_n58)]) (c := (Tryz.f64.body).getD .skip) mixed Tryz.func64 (bC laws_toTurn_ok bN) (by kernel_rfl) (by kernel_rfl) (by kernel_rfl) ⟨nodeLoop (by kernel_rfl) laws_toTurnS_s58 (by kernel_rfl) (by intro d; kernel_rfl), trivial⟩ (by intro d; kernel_rfl)


/-! laws.toOut -/
def laws_toOut : t53 → Option t53
  | (a, b, c, d, e, f, g, h, i, j, k) => (laws_toEntry (b, c, d, e, f, g, h, i, j, k)).bind fun (l, m, n, o, p, q, r, s, t, u) => some (a, l, m, n, o, p, q, r, s, t, u)
def laws_toOut_e : FEnt := ⟨12, [.cell 2 true 11], [], [(.agg, cc10)], ⟨14, [⟨2, .box, [.dat kI, .dat kI, .dat kI, .own true (.pair kI kI), .dat kI, .dat kI, .dat kI, .dat kI, .own true kI, .own true kI, .own true (.list kI)]⟩]⟩, laws_toOut⟩
theorem laws_toOut_ok : FnOk Tryz.prog 131 laws_toOut_e := fnOk_mk (tb := []) (c := (Tryz.f131.body).getD .skip) mixed Tryz.func131 (bC laws_toEntry_ok bN) (by kernel_rfl) (by kernel_rfl) (by kernel_rfl) trivial (by intro d; kernel_rfl)


/-! laws.toOutS -/
def laws_toOutS_s58 : List t53 × t61 → Option (List t53 × t61 ⊕ List t53)
  | (a, b, c) => (some (decide (c < (ln a)))).bind fun d => bif d then ix c a.length ((some (gx a c (0, 0, 0, [], 0, 0, 0, 0, [], [], []))).bind fun (e, f, g, h, i, j, k, l, m, n, o) => (laws_toOut (e, f, g, h, i, j, k, l, m, n, o)).bind fun (p, q, r, s, t, u, v, w, x, y, z) => ix c b.length (lx c b.length ((some (sx b c (p, q, r, s, t, u, v, w, x, y, z))).bind fun a1 => some (.inl (a, a1, w64 (c + 1)))))) else some (.inr b)
def laws_toOutS_n58 : NEnt := ⟨⟨25, [⟨0, .one, [.dat kk1]⟩, ⟨3, .one, [.own true kk3]⟩, ⟨4, .one, [.dat kI]⟩]⟩, [(.exit 0, ⟨25, [⟨3, .one, [.own true kk3]⟩]⟩)], lp laws_toOutS_s58⟩
def laws_toOutS : List t53 → Option (List t53)
  | a => chk (decide (((ln a).toNat ≤ (ln a).toNat) ∧ (((ln a).toNat ≤ 4294967296) ∧ (((ln a).toNat * 152) ≤ 140737488355328)))) ((some (List.replicate (ln a).toNat (0, 0, 0, [], 0, 0, 0, 0, [], [], []))).bind fun b => (lp laws_toOutS_s58 (a, b, 0)).bind fun c => some c)
def laws_toOutS_e : FEnt := ⟨23, [.tmp 2], [], [(.one, [.dat kk1])], ⟨25, [⟨2, .one, [.own true kk3]⟩]⟩, laws_toOutS⟩
theorem laws_toOutS_ok : FnOk Tryz.prog 65 laws_toOutS_e := fnOk_mk (tb := [(58, laws_toOutS_n58)]) (c := (Tryz.f65.body).getD .skip) mixed Tryz.func65 (bC laws_toOut_ok bN) (by kernel_rfl) (by kernel_rfl) (by kernel_rfl) ⟨nodeLoop (by kernel_rfl) laws_toOutS_s58 (by kernel_rfl) (by intro d; kernel_rfl), trivial⟩ (by intro d; kernel_rfl)


/-! laws.toHouse -/
def laws_toHouse : t120 → Option t120
  | (a, b, c, d, e, f, g, h, i, j, k, l, m, n, o, p) => (laws_toConf (a, b, c, d, e, f, g, h)).bind fun (q, r, s, t, u, v, w, x) => (laws_toSeatS k).bind fun y => (laws_toRowSS l).bind fun z => (laws_toTurnS m).bind fun a1 => (laws_toEntryS o).bind fun b1 => (laws_toOutS p).bind fun c1 => some (q, r, s, t, u, v, w, x, i, j, y, z, a1, n, b1, c1)
def laws_toHouse_e : FEnt := ⟨38, [.cell 2 true 16], [], [(.agg, cc5)], ⟨40, [⟨2, .box, cc0⟩]⟩, laws_toHouse⟩
theorem laws_toHouse_ok : FnOk Tryz.prog 20 laws_toHouse_e := fnOk_mk (tb := []) (c := (Tryz.f20.body).getD .skip) mixed Tryz.func20 (bC laws_toConf_ok (bC laws_toSeatS_ok (bC laws_toRowSS_ok (bC laws_toTurnS_ok (bC laws_toEntryS_ok (bC laws_toOutS_ok bN)))))) (by kernel_rfl) (by kernel_rfl) (by kernel_rfl) trivial (by intro d; kernel_rfl)


/-! spec.SketchNew -/
def spec_SketchNew : Unit → Option t39
  | _ => some (0, 0, 0, 0, List.replicate 8 0, List.replicate 8 0, [List.replicate 4 0, List.replicate 4 0])
def spec_SketchNew_e : FEnt := ⟨7, [.cell 0 true 7], [], [], ⟨7, [⟨0, .box, cc12⟩]⟩, spec_SketchNew⟩
theorem spec_SketchNew_ok : FnOk Tryz.prog 85 spec_SketchNew_e := fnOk_mk (tb := []) (c := (Tryz.f85.body).getD .skip) mixed Tryz.func85 bN (by kernel_rfl) (by kernel_rfl) (by kernel_rfl) trivial (by intro d; kernel_rfl)


/-! spec.l1In -/
def spec_l1In : Int × Int × Int → Option Bool
  | (a, b, c) => bif decide (a ≥ b) then some (decide (a ≤ c)) else some false
def spec_l1In_e : FEnt := ⟨15, [.tmp 6], [], [(.one, [.dat kI]), (.one, [.dat kI]), (.one, [.dat kI])], ⟨21, [⟨6, .one, [.dat .bool]⟩]⟩, spec_l1In⟩
theorem spec_l1In_ok : FnOk Tryz.prog 86 spec_l1In_e := fnOk_mk (tb := []) (c := (Tryz.f86.body).getD .skip) mixed Tryz.func86 bN (by kernel_rfl) (by kernel_rfl) (by kernel_rfl) trivial (by intro d; kernel_rfl)


/-! spec.l11Nums -/
def spec_l11Nums_s58 : List Int × Int × Int × Int → Option (List Int × Int × Int × Int ⊕ Bool ⊕ Unit)
  | (a, b, c, d) => bif decide (d < (ln a)) then ix d a.length ((spec_l1In (gx a d 0, b, c)).bind fun e => bif !e then some (.inr (.inl false)) else some (.inl (a, b, c, w64 (d + 1)))) else some (.inr (.inr ()))
def spec_l11Nums_n58 : NEnt := ⟨⟨31, [⟨0, .one, [.dat (.list kI)]⟩, ⟨1, .one, [.dat kI]⟩, ⟨2, .one, [.dat kI]⟩, ⟨7, .one, [.dat kI]⟩]⟩, [(.ret, ⟨31, [⟨6, .one, [.dat .bool]⟩]⟩), (.exit 0, ⟨31, []⟩)], lp spec_l11Nums_s58⟩
def spec_l11Nums : List Int × Int × Int → Option Bool
  | (a, b, c) => bif (ln a) != 3 then some false else bx (lp spec_l11Nums_s58 (a, b, c, 0)) (fun d => some d) fun _ => some true
def spec_l11Nums_e : FEnt := ⟨25, [.tmp 6], [], [(.one, [.dat (.list kI)]), (.one, [.dat kI]), (.one, [.dat kI])], ⟨31, [⟨6, .one, [.dat .bool]⟩]⟩, spec_l11Nums⟩
theorem spec_l11Nums_ok : FnOk Tryz.prog 177 spec_l11Nums_e := fnOk_mk (tb := [(58, spec_l11Nums_n58)]) (c := (Tryz.f177.body).getD .skip) mixed Tryz.func177 (bC spec_l1In_ok bN) (by kernel_rfl) (by kernel_rfl) (by kernel_rfl) ⟨nodeLoop (by kernel_rfl) spec_l11Nums_s58 (by kernel_rfl) (by intro d; kernel_rfl), trivial⟩ (by intro d; kernel_rfl)


/-! spec.ConfOk -/
def spec_ConfOk : t33 → Option Bool
  | (a, b, c, d, e, f, g, h) => (spec_l1In (a, 1, 8)).bind fun i => bif i then (spec_l1In (b, 1, 60)).bind fun j => bif j then (spec_l1In (c, 1, 10)).bind fun k => bif k then (spec_l11Nums (d, 1, 4)).bind fun l => bif l then (spec_l1In (e, 1, 100)).bind fun m => bif m then (spec_l1In (f, 1, 20)).bind fun n => bif n then (spec_l1In (g, 0, 20)).bind fun o => bif o then (spec_l1In (h, 1, 50)).bind fun p => some p else some false else some false else some false else some false else some false else some false else some false
def spec_ConfOk_e : FEnt := ⟨41, [.tmp 2], [], [(.agg, cc14)], ⟨43, [⟨2, .one, [.dat .bool]⟩]⟩, spec_ConfOk⟩
theorem spec_ConfOk_ok : FnOk Tryz.prog 120 spec_ConfOk_e := fnOk_mk (tb := []) (c := (Tryz.f120.body).getD .skip) mixed Tryz.func120 (bC spec_l1In_ok (bC spec_l11Nums_ok bN)) (by kernel_rfl) (by kernel_rfl) (by kernel_rfl) trivial (by intro d; kernel_rfl)


/-! spec.SetOk -/
def spec_SetOk_s26 : t0 → Option (t0 ⊕ Bool ⊕ Unit)
  | (a, b) => bif decide (b < (ln a)) then ix b a.length ((some (gx a b (0, 0))).bind fun (c, d) => (spec_l1In (c, 0, 9999)).bind fun e => bif !e then some (.inr (.inl false)) else ix b a.length ((some (gx a b (0, 0))).bind fun (f, g) => ix b a.length ((some (gx a b (0, 0))).bind fun (h, i) => (spec_l1In (g, h, 9999)).bind fun j => bif !j then some (.inr (.inl false)) else bif decide (b > 0) then ix b a.length ((some (gx a b (0, 0))).bind fun (k, l) => ix (w64 (b - 1)) a.length ((some (gx a (w64 (b - 1)) (0, 0))).bind fun (m, n) => bif decide (k ≤ (w64 (n + 1))) then some (.inr (.inl false)) else some (.inl (a, w64 (b + 1))))) else some (.inl (a, w64 (b + 1)))))) else some (.inr (.inr ()))
def spec_SetOk_n26 : NEnt := ⟨⟨52, [⟨0, .one, [.dat kk10]⟩, ⟨3, .one, [.dat kI]⟩]⟩, [(.ret, ⟨52, [⟨2, .one, [.dat .bool]⟩]⟩), (.exit 0, ⟨52, []⟩)], lp spec_SetOk_s26⟩
def spec_SetOk : List (Int × Int) → Option Bool
  | a => bx (lp spec_SetOk_s26 (a, 0)) (fun b => some b) fun _ => some true
def spec_SetOk_e : FEnt := ⟨50, [.tmp 2], [], [(.one, [.dat kk10])], ⟨52, [⟨2, .one, [.dat .bool]⟩]⟩, spec_SetOk⟩
theorem spec_SetOk_ok : FnOk Tryz.prog 146 spec_SetOk_e := fnOk_mk (tb := [(26, spec_SetOk_n26)]) (c := (Tryz.f146.body).getD .skip) mixed Tryz.func146 (bC spec_l1In_ok bN) (by kernel_rfl) (by kernel_rfl) (by kernel_rfl) ⟨nodeLoop (by kernel_rfl) spec_SetOk_s26 (by kernel_rfl) (by intro d; kernel_rfl), trivial⟩ (by intro d; kernel_rfl)


/-! spec.l8Below -/
def spec_l8Below_s58 : t8 → Option (t8 ⊕ Bool ⊕ Unit)
  | (a, b, c) => bif decide (c < (ln a)) then ix c a.length ((some (gx a c (0, 0))).bind fun (d, e) => bif decide (d < 1) then some (.inr (.inl false)) else ix c a.length ((some (gx a c (0, 0))).bind fun (f, g) => bif decide (g > b) then some (.inr (.inl false)) else some (.inl (a, b, w64 (c + 1))))) else some (.inr (.inr ()))
def spec_l8Below_n58 : NEnt := ⟨⟨34, [⟨0, .one, [.dat kk10]⟩, ⟨1, .one, [.dat kI]⟩, ⟨5, .one, [.dat kI]⟩]⟩, [(.ret, ⟨34, [⟨4, .one, [.dat .bool]⟩]⟩), (.exit 0, ⟨34, []⟩)], lp spec_l8Below_s58⟩
def spec_l8Below : t0 → Option Bool
  | (a, b) => (spec_SetOk a).bind fun c => bif !c then some false else bx (lp spec_l8Below_s58 (a, b, 0)) (fun d => some d) fun _ => some true
def spec_l8Below_e : FEnt := ⟨30, [.tmp 4], [], [(.one, [.dat kk10]), (.one, [.dat kI])], ⟨34, [⟨4, .one, [.dat .bool]⟩]⟩, spec_l8Below⟩
theorem spec_l8Below_ok : FnOk Tryz.prog 203 spec_l8Below_e := fnOk_mk (tb := [(58, spec_l8Below_n58)]) (c := (Tryz.f203.body).getD .skip) mixed Tryz.func203 (bC spec_SetOk_ok bN) (by kernel_rfl) (by kernel_rfl) (by kernel_rfl) ⟨nodeLoop (by kernel_rfl) spec_l8Below_s58 (by kernel_rfl) (by intro d; kernel_rfl), trivial⟩ (by intro d; kernel_rfl)


/-! spec.SetSize -/
def spec_SetSize_s122 : t8 → Option (t8 ⊕ Int)
  | (a, b, c) => bif decide (c < (ln a)) then ix c a.length ((some (gx a c (0, 0))).bind fun (d, e) => ix c a.length ((some (gx a c (0, 0))).bind fun (f, g) => some (.inl (a, w64 ((w64 ((w64 (b + e)) - f)) + 1), w64 (c + 1))))) else some (.inr b)
def spec_SetSize_n122 : NEnt := ⟨⟨32, [⟨0, .one, [.dat kk10]⟩, ⟨3, .one, [.dat kI]⟩, ⟨4, .one, [.dat kI]⟩]⟩, [(.exit 0, ⟨32, [⟨3, .one, [.dat kI]⟩]⟩)], lp spec_SetSize_s122⟩
def spec_SetSize : List (Int × Int) → Option Int
  | a => (spec_SetOk a).bind fun b => bif !b then some 0 else (lp spec_SetSize_s122 (a, 0, 0)).bind fun c => some c
def spec_SetSize_e : FEnt := ⟨30, [.tmp 2], [], [(.one, [.dat kk10])], ⟨32, [⟨2, .one, [.dat kI]⟩]⟩, spec_SetSize⟩
theorem spec_SetSize_ok : FnOk Tryz.prog 82 spec_SetSize_e := fnOk_mk (tb := [(122, spec_SetSize_n122)]) (c := (Tryz.f82.body).getD .skip) mixed Tryz.func82 (bC spec_SetOk_ok bN) (by kernel_rfl) (by kernel_rfl) (by kernel_rfl) ⟨nodeLoop (by kernel_rfl) spec_SetSize_s122 (by kernel_rfl) (by intro d; kernel_rfl), trivial⟩ (by intro d; kernel_rfl)


/-! spec.SeatOk -/
def spec_SeatOk : t23 × Int → Option Bool
  | ((a, b, c, d, e), f) => (spec_l1In (f, 1, 8)).bind fun g => bif g then (spec_l1In (a, 0, 1000)).bind fun h => bif h then (spec_l1In (b, 0, 60)).bind fun i => bif i then (spec_l8Below (c, b)).bind fun j => bif j then (spec_SetSize c).bind fun k => (spec_l1In (d, 0, k)).bind fun l => bif l then bif decide (b ≤ (w64 (d + f))) then (spec_l1In (e, 0, 1000000)).bind fun m => some m else some false else some false else some false else some false else some false else some false
def spec_SeatOk_e : FEnt := ⟨46, [.tmp 4], [], [(.agg, cc20), (.one, [.dat kI])], ⟨50, [⟨4, .one, [.dat .bool]⟩]⟩, spec_SeatOk⟩
theorem spec_SeatOk_ok : FnOk Tryz.prog 178 spec_SeatOk_e := fnOk_mk (tb := []) (c := (Tryz.f178.body).getD .skip) mixed Tryz.func178 (bC spec_l1In_ok (bC spec_l8Below_ok (bC spec_SetSize_ok bN))) (by kernel_rfl) (by kernel_rfl) (by kernel_rfl) trivial (by intro d; kernel_rfl)


/-! spec.l6Place -/
def spec_l6Place : Int × Int → Option Bool
  | (a, b) => (spec_l1In (a, 0, 4)).bind fun c => bif c then (spec_l1In (b, 0, 20)).bind fun d => some d else some false
def spec_l6Place_e : FEnt := ⟨11, [.tmp 4], [], [(.one, [.dat kI]), (.one, [.dat kI])], ⟨15, [⟨4, .one, [.dat .bool]⟩]⟩, spec_l6Place⟩
theorem spec_l6Place_ok : FnOk Tryz.prog 164 spec_l6Place_e := fnOk_mk (tb := []) (c := (Tryz.f164.body).getD .skip) mixed Tryz.func164 (bC spec_l1In_ok bN) (by kernel_rfl) (by kernel_rfl) (by kernel_rfl) trivial (by intro d; kernel_rfl)


/-! spec.l3List -/
def spec_l3List_s58 : List Int × Int × Int × Bool × Int → Option (List Int × Int × Int × Bool × Int ⊕ Bool ⊕ Unit)
  | (a, b, c, d, e) => bif decide (e < b) then ix e a.length ((spec_l1In (gx a e 0, 0, c)).bind fun f => bif !f then some (.inr (.inl false)) else bif d then ix e a.length (bif (gx a e 0) != 0 then some (.inr (.inl false)) else some (.inl (a, b, c, d, w64 (e + 1)))) else some (.inl (a, b, c, d, w64 (e + 1)))) else some (.inr (.inr ()))
def spec_l3List_n58 : NEnt := ⟨⟨44, [⟨0, .one, [.dat (.list kI)]⟩, ⟨1, .one, [.dat kI]⟩, ⟨2, .one, [.dat kI]⟩, ⟨3, .one, [.dat .bool]⟩, ⟨9, .one, [.dat kI]⟩]⟩, [(.ret, ⟨44, [⟨8, .one, [.dat .bool]⟩]⟩), (.exit 0, ⟨44, []⟩)], lp spec_l3List_s58⟩
def spec_l3List : List Int × Int × Int × Bool → Option Bool
  | (a, b, c, d) => bif (ln a) != b then some false else bx (lp spec_l3List_s58 (a, b, c, d, 0)) (fun e => some e) fun _ => some true
def spec_l3List_e : FEnt := ⟨36, [.tmp 8], [], [(.one, [.dat (.list kI)]), (.one, [.dat kI]), (.one, [.dat kI]), (.one, [.dat .bool])], ⟨44, [⟨8, .one, [.dat .bool]⟩]⟩, spec_l3List⟩
theorem spec_l3List_ok : FnOk Tryz.prog 197 spec_l3List_e := fnOk_mk (tb := [(58, spec_l3List_n58)]) (c := (Tryz.f197.body).getD .skip) mixed Tryz.func197 (bC spec_l1In_ok bN) (by kernel_rfl) (by kernel_rfl) (by kernel_rfl) ⟨nodeLoop (by kernel_rfl) spec_l3List_s58 (by kernel_rfl) (by intro d; kernel_rfl), trivial⟩ (by intro d; kernel_rfl)


/-! spec.SketchOk -/
def spec_SketchOk_l31 : t39 × Bool → Option Bool
  | ((a, b, c, d, e, f, g), h) => (spec_l3List (e, 8, 1000000000, h)).bind fun i => bif i then (spec_l3List (f, 8, 17, h)).bind fun j => bif j then chk (decide (0 < g.length)) ((spec_l3List (List.getD g 0 [], 4, 1000000000, h)).bind fun k => bif k then chk (decide (1 < g.length)) ((spec_l3List (List.getD g 1 [], 4, 1000000000, h)).bind fun l => some l) else some false) else some false else some false
def spec_SketchOk_n31 : NEnt := ⟨⟨81, [⟨1, .box, cc13⟩, ⟨3, .one, [.dat .bool]⟩]⟩, [(.ret, ⟨81, [⟨2, .one, [.dat .bool]⟩]⟩)], spec_SketchOk_l31⟩
def spec_SketchOk : t39 → Option Bool
  | (a, b, c, d, e, f, g) => (spec_l1In (a, 0, 1000000000)).bind fun h => bif !h then some false else (spec_l1In (b, 0, 1000000000)).bind fun i => bif !i then some false else (spec_l1In (c, 0, 1000000)).bind fun j => bif !j then some false else (spec_l1In (d, 0, 1000000)).bind fun k => bif !k then some false else bif decide (c > d) then some false else bif (ln g) != 2 then some false else bif a == 0 then bif b != 0 then some false else bif d != 0 then some false else (spec_SketchOk_l31 ((a, b, c, d, e, f, g), a == 0)).bind fun l => some l else (spec_SketchOk_l31 ((a, b, c, d, e, f, g), a == 0)).bind fun l => some l
def spec_SketchOk_e : FEnt := ⟨79, [.tmp 2], [], [(.agg, cc13)], ⟨81, [⟨2, .one, [.dat .bool]⟩]⟩, spec_SketchOk⟩
theorem spec_SketchOk_ok : FnOk Tryz.prog 165 spec_SketchOk_e := fnOk_mk (tb := [(31, spec_SketchOk_n31)]) (c := (Tryz.f165.body).getD .skip) mixed Tryz.func165 (bC spec_l1In_ok (bC spec_l3List_ok bN)) (by kernel_rfl) (by kernel_rfl) (by kernel_rfl) ⟨nodeJoin (by kernel_rfl) (by intro d; kernel_rfl), trivial⟩ (by intro d; kernel_rfl)


/-! spec.EntryOk -/
def spec_EntryOk : t50 → Option Bool
  | (a, b, c, d, e, f, g, h, i, j) => (spec_l6Place (a, b)).bind fun k => bif k then bif decide ((ln c) > 0) then (spec_SetOk c).bind fun l => bif l then (spec_SketchOk (d, e, f, g, h, i, j)).bind fun m => some m else some false else some false else some false
def spec_EntryOk_e : FEnt := ⟨24, [.tmp 2], [], [(.agg, cc11)], ⟨26, [⟨2, .one, [.dat .bool]⟩]⟩, spec_EntryOk⟩
theorem spec_EntryOk_ok : FnOk Tryz.prog 101 spec_EntryOk_e := fnOk_mk (tb := []) (c := (Tryz.f101.body).getD .skip) mixed Tryz.func101 (bC spec_l6Place_ok (bC spec_SetOk_ok (bC spec_SketchOk_ok bN))) (by kernel_rfl) (by kernel_rfl) (by kernel_rfl) trivial (by intro d; kernel_rfl)


/-! spec.SetApart -/
def spec_SetApart_s3730 : t30 → Option (t30 ⊕ Bool ⊕ t25)
  | (a, b, c, d) => bif decide (d < (ln b)) then ix c a.length ((some (gx a c (0, 0))).bind fun (e, f) => ix d b.length ((some (gx b d (0, 0))).bind fun (g, h) => bif decide (e ≤ h) then ix d b.length ((some (gx b d (0, 0))).bind fun (i, j) => ix c a.length ((some (gx a c (0, 0))).bind fun (k, l) => bif decide (i ≤ l) then some (.inr (.inl false)) else some (.inl (a, b, c, w64 (d + 1))))) else some (.inl (a, b, c, w64 (d + 1))))) else some (.inr (.inr (a, b, c)))
def spec_SetApart_n3730 : NEnt := ⟨⟨55, [⟨0, .one, [.dat kk10]⟩, ⟨1, .one, [.dat kk10]⟩, ⟨5, .one, [.dat kI]⟩, ⟨6, .one, [.dat kI]⟩]⟩, [(.ret, ⟨55, [⟨4, .one, [.dat .bool]⟩]⟩), (.exit 2, ⟨55, [⟨0, .one, [.dat kk10]⟩, ⟨1, .one, [.dat kk10]⟩, ⟨5, .one, [.dat kI]⟩]⟩)], lp spec_SetApart_s3730⟩
def spec_SetApart_s58 : t25 → Option (t25 ⊕ Bool ⊕ Unit)
  | (a, b, c) => bif decide (c < (ln a)) then bx (lp spec_SetApart_s3730 (a, b, c, 0)) (fun d => some (.inr (.inl d))) fun (d, e, f) => some (.inl (d, e, w64 (f + 1))) else some (.inr (.inr ()))
def spec_SetApart_n58 : NEnt := ⟨⟨55, [⟨0, .one, [.dat kk10]⟩, ⟨1, .one, [.dat kk10]⟩, ⟨5, .one, [.dat kI]⟩]⟩, [(.ret, ⟨55, [⟨4, .one, [.dat .bool]⟩]⟩), (.exit 0, ⟨55, []⟩)], lp spec_SetApart_s58⟩
def spec_SetApart : t17 → Option Bool
  | (a, b) => (spec_SetOk a).bind fun c => bif !c then some false else (spec_SetOk b).bind fun d => bif !d then some false else bx (lp spec_SetApart_s58 (a, b, 0)) (fun e => some e) fun _ => some true
def spec_SetApart_e : FEnt := ⟨51, [.tmp 4], [], [(.one, [.dat kk10]), (.one, [.dat kk10])], ⟨55, [⟨4, .one, [.dat .bool]⟩]⟩, spec_SetApart⟩
theorem spec_SetApart_ok : FnOk Tryz.prog 102 spec_SetApart_e := fnOk_mk (tb := [(3730, spec_SetApart_n3730), (58, spec_SetApart_n58)]) (c := (Tryz.f102.body).getD .skip) mixed Tryz.func102 (bC spec_SetOk_ok bN) (by kernel_rfl) (by kernel_rfl) (by kernel_rfl) ⟨nodeLoop (by kernel_rfl) spec_SetApart_s3730 (by kernel_rfl) (by intro d; kernel_rfl), nodeLoop (by kernel_rfl) spec_SetApart_s58 (by kernel_rfl) (by intro d; kernel_rfl), trivial⟩ (by intro d; kernel_rfl)


/-! spec.RowOk -/
def spec_RowOk_s7462 : t60 → Option (t60 ⊕ Bool ⊕ t56)
  | (a, b, c) => bif decide (c < b) then ix b a.length ((some (gx a b (0, 0, [], 0, 0, 0, 0, [], [], []))).bind fun (d, e, f, g, h, i, j, k, l, m) => ix c a.length ((some (gx a c (0, 0, [], 0, 0, 0, 0, [], [], []))).bind fun (n, o, p, q, r, s, t, u, v, w) => (spec_SetApart (f, p)).bind fun x => bif !x then some (.inr (.inl false)) else some (.inl (a, b, w64 (c + 1))))) else some (.inr (.inr (a, b)))
def spec_RowOk_n7462 : NEnt := ⟨⟨44, [⟨1, .box, [.dat kk4]⟩, ⟨3, .one, [.dat kI]⟩, ⟨4, .one, [.dat kI]⟩]⟩, [(.ret, ⟨44, [⟨2, .one, [.dat .bool]⟩]⟩), (.exit 2, ⟨44, [⟨1, .box, [.dat kk4]⟩, ⟨3, .one, [.dat kI]⟩]⟩)], lp spec_RowOk_s7462⟩
def spec_RowOk_s58 : t56 → Option (t56 ⊕ Bool ⊕ Unit)
  | (a, b) => (some (decide (b < (ln a)))).bind fun c => bif c then ix b a.length ((some (gx a b (0, 0, [], 0, 0, 0, 0, [], [], []))).bind fun (d, e, f, g, h, i, j, k, l, m) => (spec_EntryOk (d, e, f, g, h, i, j, k, l, m)).bind fun n => bif !n then some (.inr (.inl false)) else bx (lp spec_RowOk_s7462 (a, b, 0)) (fun o => some (.inr (.inl o))) fun (o, p) => some (.inl (o, w64 (p + 1)))) else some (.inr (.inr ()))
def spec_RowOk_n58 : NEnt := ⟨⟨44, [⟨1, .box, [.dat kk4]⟩, ⟨3, .one, [.dat kI]⟩]⟩, [(.ret, ⟨44, [⟨2, .one, [.dat .bool]⟩]⟩), (.exit 0, ⟨44, []⟩)], lp spec_RowOk_s58⟩
def spec_RowOk : List t50 → Option Bool
  | a => (some (decide ((ln a) > 24))).bind fun b => bif b then some false else bx (lp spec_RowOk_s58 (a, 0)) (fun c => some c) fun _ => some true
def spec_RowOk_e : FEnt := ⟨42, [.tmp 2], [], [(.agg, [.dat kk4])], ⟨44, [⟨2, .one, [.dat .bool]⟩]⟩, spec_RowOk⟩
theorem spec_RowOk_ok : FnOk Tryz.prog 44 spec_RowOk_e := fnOk_mk (tb := [(7462, spec_RowOk_n7462), (58, spec_RowOk_n58)]) (c := (Tryz.f44.body).getD .skip) mixed Tryz.func44 (bC spec_EntryOk_ok (bC spec_SetApart_ok bN)) (by kernel_rfl) (by kernel_rfl) (by kernel_rfl) ⟨nodeLoop (by kernel_rfl) spec_RowOk_s7462 (by kernel_rfl) (by intro d; kernel_rfl), nodeLoop (by kernel_rfl) spec_RowOk_s58 (by kernel_rfl) (by intro d; kernel_rfl), trivial⟩ (by intro d; kernel_rfl)


/-! spec.l5Copy -/
def spec_l5Copy : List (Int × Int) → Option (List (Int × Int))
  | a => chk (fits (0 + a.length) 16) (some ([] ++ a))
def spec_l5Copy_e : FEnt := ⟨6, [.tmp 2], [], [(.one, [.dat kk10])], ⟨8, [⟨2, .one, cc25⟩]⟩, spec_l5Copy⟩
theorem spec_l5Copy_ok : FnOk Tryz.prog 166 spec_l5Copy_e := fnOk_mk (tb := []) (c := (Tryz.f166.body).getD .skip) mixed Tryz.func166 bN (by kernel_rfl) (by kernel_rfl) (by kernel_rfl) trivial (by intro d; kernel_rfl)


/-! spec.l1Min -/
def spec_l1Min : Int × Int → Option Int
  | (a, b) => bif decide (a < b) then some a else some b
def spec_l1Min_e : FEnt := ⟨10, [.tmp 4], [], [(.one, [.dat kI]), (.one, [.dat kI])], ⟨14, [⟨4, .one, [.dat kI]⟩]⟩, spec_l1Min⟩
theorem spec_l1Min_ok : FnOk Tryz.prog 149 spec_l1Min_e := fnOk_mk (tb := []) (c := (Tryz.f149.body).getD .skip) mixed Tryz.func149 bN (by kernel_rfl) (by kernel_rfl) (by kernel_rfl) trivial (by intro d; kernel_rfl)


/-! spec.l1Max -/
def spec_l1Max : Int × Int → Option Int
  | (a, b) => bif decide (a > b) then some a else some b
def spec_l1Max_e : FEnt := ⟨10, [.tmp 4], [], [(.one, [.dat kI]), (.one, [.dat kI])], ⟨14, [⟨4, .one, [.dat kI]⟩]⟩, spec_l1Max⟩
theorem spec_l1Max_ok : FnOk Tryz.prog 150 spec_l1Max_e := fnOk_mk (tb := []) (c := (Tryz.f150.body).getD .skip) mixed Tryz.func150 bN (by kernel_rfl) (by kernel_rfl) (by kernel_rfl) trivial (by intro d; kernel_rfl)


/-! spec.l5Put -/
def spec_l5Put_s122 : List (Int × Int) × (Int × Int) × List (Int × Int) × Bool × Int → Option (List (Int × Int) × (Int × Int) × List (Int × Int) × Bool × Int ⊕ (Int × Int) × List (Int × Int) × Bool)
  | (a, (b, c), d, e, f) => bif decide (f < (ln a)) then ix f a.length ((some (gx a f (0, 0))).bind fun (g, h) => bif decide ((w64 (h + 1)) < b) then ix f a.length ((some (gx a f (0, 0))).bind fun (i, j) => chk (fits (d.length + [(i, j)].length) 16) (some (.inl (a, (b, c), d ++ [(i, j)], e, w64 (f + 1))))) else ix f a.length ((some (gx a f (0, 0))).bind fun (i, j) => bif decide (i > (w64 (c + 1))) then bif !e then chk (fits (d.length + [(b, c)].length) 16) (ix f a.length ((some (gx a f (0, 0))).bind fun (k, l) => chk (fits ((d ++ [(b, c)]).length + [(k, l)].length) 16) ((some ((d ++ [(b, c)]) ++ [(k, l)])).bind fun m => some (.inl (a, (b, c), m, true, w64 (f + 1)))))) else ix f a.length ((some (gx a f (0, 0))).bind fun (k, l) => chk (fits (d.length + [(k, l)].length) 16) (some (.inl (a, (b, c), d ++ [(k, l)], e, w64 (f + 1))))) else ix f a.length ((some (gx a f (0, 0))).bind fun (k, l) => (spec_l1Min (b, k)).bind fun m => ix f a.length ((some (gx a f (0, 0))).bind fun (n, o) => (spec_l1Max (c, o)).bind fun p => some (.inl (a, (m, p), d, e, w64 (f + 1))))))) else some (.inr ((b, c), d, e))
def spec_l5Put_n122 : NEnt := ⟨⟨83, [⟨0, .one, [.dat kk10]⟩, ⟨3, .box, cc28⟩, ⟨5, .one, cc25⟩, ⟨6, .one, [.dat .bool]⟩, ⟨7, .one, [.dat kI]⟩]⟩, [(.exit 0, ⟨83, [⟨3, .box, cc28⟩, ⟨5, .one, cc25⟩, ⟨6, .one, [.dat .bool]⟩]⟩)], lp spec_l5Put_s122⟩
def spec_l5Put : t8 → Option (List (Int × Int))
  | (a, b, c) => (lp spec_l5Put_s122 (a, (b, c), [], false, 0)).bind fun ((d, e), f, g) => bif !g then chk (fits (f.length + [(d, e)].length) 16) (some (f ++ [(d, e)])) else some f
def spec_l5Put_e : FEnt := ⟨79, [.tmp 4], [], [(.one, [.dat kk10]), (.agg, cc28)], ⟨83, [⟨4, .one, cc25⟩]⟩, spec_l5Put⟩
theorem spec_l5Put_ok : FnOk Tryz.prog 182 spec_l5Put_e := fnOk_mk (tb := [(122, spec_l5Put_n122)]) (c := (Tryz.f182.body).getD .skip) mixed Tryz.func182 (bC spec_l1Min_ok (bC spec_l1Max_ok bN)) (by kernel_rfl) (by kernel_rfl) (by kernel_rfl) ⟨nodeLoop (by kernel_rfl) spec_l5Put_s122 (by kernel_rfl) (by intro d; kernel_rfl), trivial⟩ (by intro d; kernel_rfl)


/-! spec.l5Join -/
def spec_l5Join_s58 : t25 → Option (t25 ⊕ List (Int × Int))
  | (a, b, c) => bif decide (c < (ln a)) then ix c a.length ((some (gx a c (0, 0))).bind fun (d, e) => (spec_l5Put (b, d, e)).bind fun f => some (.inl (a, f, w64 (c + 1)))) else some (.inr b)
def spec_l5Join_n58 : NEnt := ⟨⟨26, [⟨1, .one, [.dat kk10]⟩, ⟨5, .one, cc25⟩, ⟨6, .one, [.dat kI]⟩]⟩, [(.exit 0, ⟨26, [⟨5, .one, cc25⟩]⟩)], lp spec_l5Join_s58⟩
def spec_l5Join : t17 → Option (List (Int × Int))
  | (a, b) => (spec_l5Copy a).bind fun c => (lp spec_l5Join_s58 (b, c, 0)).bind fun d => some d
def spec_l5Join_e : FEnt := ⟨22, [.tmp 4], [], [(.one, [.dat kk10]), (.one, [.dat kk10])], ⟨26, [⟨4, .one, cc25⟩]⟩, spec_l5Join⟩
theorem spec_l5Join_ok : FnOk Tryz.prog 123 spec_l5Join_e := fnOk_mk (tb := [(58, spec_l5Join_n58)]) (c := (Tryz.f123.body).getD .skip) mixed Tryz.func123 (bC spec_l5Copy_ok (bC spec_l5Put_ok bN)) (by kernel_rfl) (by kernel_rfl) (by kernel_rfl) ⟨nodeLoop (by kernel_rfl) spec_l5Join_s58 (by kernel_rfl) (by intro d; kernel_rfl), trivial⟩ (by intro d; kernel_rfl)


/-! spec.RowIds -/
def spec_RowIds_s122 : List t50 × t0 → Option (List t50 × t0 ⊕ List (Int × Int))
  | (a, b, c) => (some (decide (c < (ln a)))).bind fun d => bif d then ix c a.length ((some (gx a c (0, 0, [], 0, 0, 0, 0, [], [], []))).bind fun (e, f, g, h, i, j, k, l, m, n) => (spec_l5Join (b, g)).bind fun o => some (.inl (a, o, w64 (c + 1)))) else some (.inr b)
def spec_RowIds_n122 : NEnt := ⟨⟨28, [⟨1, .box, [.dat kk4]⟩, ⟨3, .one, cc25⟩, ⟨4, .one, [.dat kI]⟩]⟩, [(.exit 0, ⟨28, [⟨3, .one, cc25⟩]⟩)], lp spec_RowIds_s122⟩
def spec_RowIds : List t50 → Option (List (Int × Int))
  | a => (spec_RowOk a).bind fun b => bif !b then some [] else (lp spec_RowIds_s122 (a, [], 0)).bind fun c => some c
def spec_RowIds_e : FEnt := ⟨26, [.tmp 2], [], [(.agg, [.dat kk4])], ⟨28, [⟨2, .one, cc25⟩]⟩, spec_RowIds⟩
theorem spec_RowIds_ok : FnOk Tryz.prog 179 spec_RowIds_e := fnOk_mk (tb := [(122, spec_RowIds_n122)]) (c := (Tryz.f179.body).getD .skip) mixed Tryz.func179 (bC spec_RowOk_ok (bC spec_l5Join_ok bN)) (by kernel_rfl) (by kernel_rfl) (by kernel_rfl) ⟨nodeLoop (by kernel_rfl) spec_RowIds_s122 (by kernel_rfl) (by intro d; kernel_rfl), trivial⟩ (by intro d; kernel_rfl)


/-! spec.l12Of -/
def spec_l12Of_s58 : List (Int × Int) × Int × Int × Int → Option (List (Int × Int) × Int × Int × Int ⊕ Int)
  | (a, b, c, d) => bif decide (d < (ln a)) then ix d a.length ((some (gx a d (0, 0))).bind fun (e, f) => (spec_l1Max (e, w64 ((w64 (100 * b)) + 1))).bind fun g => ix d a.length ((some (gx a d (0, 0))).bind fun (h, i) => (spec_l1Min (i, w64 ((w64 (100 * b)) + 60))).bind fun j => (spec_l1Max (w64 ((w64 (j - g)) + 1), 0)).bind fun k => some (.inl (a, b, w64 (c + k), w64 (d + 1))))) else some (.inr c)
def spec_l12Of_n58 : NEnt := ⟨⟨45, [⟨0, .one, [.dat kk10]⟩, ⟨1, .one, [.dat kI]⟩, ⟨5, .one, [.dat kI]⟩, ⟨6, .one, [.dat kI]⟩]⟩, [(.exit 0, ⟨45, [⟨5, .one, [.dat kI]⟩]⟩)], lp spec_l12Of_s58⟩
def spec_l12Of : t0 → Option Int
  | (a, b) => (lp spec_l12Of_s58 (a, b, 0, 0)).bind fun c => some c
def spec_l12Of_e : FEnt := ⟨41, [.tmp 4], [], [(.one, [.dat kk10]), (.one, [.dat kI])], ⟨45, [⟨4, .one, [.dat kI]⟩]⟩, spec_l12Of⟩
theorem spec_l12Of_ok : FnOk Tryz.prog 126 spec_l12Of_e := fnOk_mk (tb := [(58, spec_l12Of_n58)]) (c := (Tryz.f126.body).getD .skip) mixed Tryz.func126 (bC spec_l1Max_ok (bC spec_l1Min_ok bN)) (by kernel_rfl) (by kernel_rfl) (by kernel_rfl) ⟨nodeLoop (by kernel_rfl) spec_l12Of_s58 (by kernel_rfl) (by intro d; kernel_rfl), trivial⟩ (by intro d; kernel_rfl)


/-! spec.l6Agent -/
def spec_l6Agent : Int → Option Bool
  | a => (spec_l1In (a, 0, 2)).bind fun b => some b
def spec_l6Agent_e : FEnt := ⟨5, [.tmp 2], [], [(.one, [.dat kI])], ⟨7, [⟨2, .one, [.dat .bool]⟩]⟩, spec_l6Agent⟩
theorem spec_l6Agent_ok : FnOk Tryz.prog 204 spec_l6Agent_e := fnOk_mk (tb := []) (c := (Tryz.f204.body).getD .skip) mixed Tryz.func204 (bC spec_l1In_ok bN) (by kernel_rfl) (by kernel_rfl) (by kernel_rfl) trivial (by intro d; kernel_rfl)


/-! spec.TurnOk -/
def spec_TurnOk : Int × Bool × List Int → Option Bool
  | (a, b, c) => (spec_l6Agent a).bind fun d => bif d then (spec_l11Nums (c, 0, 1000)).bind fun e => some e else some false
def spec_TurnOk_e : FEnt := ⟨11, [.tmp 2], [], [(.agg, cc21)], ⟨13, [⟨2, .one, [.dat .bool]⟩]⟩, spec_TurnOk⟩
theorem spec_TurnOk_ok : FnOk Tryz.prog 180 spec_TurnOk_e := fnOk_mk (tb := []) (c := (Tryz.f180.body).getD .skip) mixed Tryz.func180 (bC spec_l6Agent_ok (bC spec_l11Nums_ok bN)) (by kernel_rfl) (by kernel_rfl) (by kernel_rfl) trivial (by intro d; kernel_rfl)


/-! spec.l12Parts -/
def spec_l12Parts_s7462 : t120 × Int × t103 → Option (t120 × Int × t103 ⊕ Bool ⊕ t120 × t103)
  | ((a, b, c, d, e, f, g, h, i, j, k, l, m, n, o, p), q, r, _, s, t, (u, _), v, w, x) => bif decide (r < 2) then ix q l.length ((some (gx l q [])).bind fun y => ix r y.length ((some (gx y r [])).bind fun z => (spec_RowIds z).bind fun a1 => ix q l.length ((some (gx l q [])).bind fun b1 => ix r b1.length ((some (gx b1 r [])).bind fun c1 => (spec_RowOk c1).bind fun d1 => bif !d1 then some (.inr (.inl false)) else (spec_l12Of (a1, q)).bind fun e1 => (spec_SetSize a1).bind fun f1 => bif e1 != f1 then some (.inr (.inl false)) else some (.inl ((a, b, c, d, e, f, g, h, i, j, k, l, m, n, o, p), q, w64 (r + 1), (), s, t, (u, ()), v, w, x)))))) else some (.inr (.inr ((a, b, c, d, e, f, g, h, i, j, k, l, m, n, o, p), q, (), s, t, (u, ()), v, w, x)))
def spec_l12Parts_n7462 : NEnt := ⟨⟨102, [⟨1, .box, cc5⟩, ⟨3, .one, [.dat kI]⟩, ⟨4, .one, [.dat kI]⟩, ⟨50, .one, [.bptr 1 11]⟩, ⟨51, .one, [.dat kk0]⟩, ⟨52, .one, [.dat kI]⟩, ⟨53, .one, [.pim [kk2] 0]⟩, ⟨54, .one, [.dat kk2]⟩, ⟨55, .one, [.dat kI]⟩, ⟨56, .one, [.dat .bool]⟩]⟩, [(.ret, ⟨102, [⟨2, .one, [.dat .bool]⟩]⟩), (.exit 2, ⟨102, [⟨1, .box, cc5⟩, ⟨3, .one, [.dat kI]⟩, ⟨50, .one, [.bptr 1 11]⟩, ⟨51, .one, [.dat kk0]⟩, ⟨52, .one, [.dat kI]⟩, ⟨53, .one, [.pim [kk2] 0]⟩, ⟨54, .one, [.dat kk2]⟩, ⟨55, .one, [.dat kI]⟩, ⟨56, .one, [.dat .bool]⟩]⟩)], lp spec_l12Parts_s7462⟩
def spec_l12Parts_s58 : t121 → Option (t121 ⊕ Bool ⊕ t120)
  | ((a, b, c, d, e, f, g, h, i, j, k, l, m, n, o, p), q) => bif decide (q < 3) then ix q k.length ((some (gx k q (0, 0, [], 0, 0))).bind fun (r, s, t, u, v) => (spec_SeatOk ((r, s, t, u, v), a)).bind fun w => bif !w then some (.inr (.inl false)) else ix q l.length ((some (gx l q [])).bind fun x => bif (ln x) != 2 then some (.inr (.inl false)) else bx (lp spec_l12Parts_s7462 ((a, b, c, d, e, f, g, h, i, j, k, l, m, n, o, p), q, 0, (), l, q, (gx l q [], ()), x, ln x, (ln x) != 2)) (fun y => some (.inr (.inl y))) fun ((y, z, a1, b1, c1, d1, e1, f1, g1, h1, i1, j1, k1, l1, m1, n1), o1, _, p1, q1, (r1, _), s1, t1, u1) => some (.inl ((y, z, a1, b1, c1, d1, e1, f1, g1, h1, i1, j1, k1, l1, m1, n1), w64 (o1 + 1))))) else some (.inr (.inr (a, b, c, d, e, f, g, h, i, j, k, l, m, n, o, p)))
def spec_l12Parts_n58 : NEnt := ⟨⟨102, [⟨1, .box, cc5⟩, ⟨3, .one, [.dat kI]⟩]⟩, [(.ret, ⟨102, [⟨2, .one, [.dat .bool]⟩]⟩), (.exit 0, ⟨102, [⟨1, .box, cc5⟩]⟩)], lp spec_l12Parts_s58⟩
def spec_l12Parts_s122 : t121 → Option (t121 ⊕ Bool ⊕ Unit)
  | ((a, b, c, d, e, f, g, h, i, j, k, l, m, n, o, p), q) => bif decide (q < 2) then ix q m.length ((some (gx m q (0, false, []))).bind fun (r, s, t) => (spec_TurnOk (r, s, t)).bind fun u => bif !u then some (.inr (.inl false)) else some (.inl ((a, b, c, d, e, f, g, h, i, j, k, l, m, n, o, p), w64 (q + 1)))) else some (.inr (.inr ()))
def spec_l12Parts_n122 : NEnt := ⟨⟨102, [⟨1, .box, cc5⟩, ⟨6, .one, [.dat kI]⟩]⟩, [(.ret, ⟨102, [⟨2, .one, [.dat .bool]⟩]⟩), (.exit 4, ⟨102, []⟩)], lp spec_l12Parts_s122⟩
def spec_l12Parts : t120 → Option Bool
  | (a, b, c, d, e, f, g, h, i, j, k, l, m, n, o, p) => bif (ln k) != 3 then some false else bif (ln l) != 3 then some false else bif (ln m) != 2 then some false else (spec_l1In (n, 0, 1000)).bind fun q => bif !q then some false else (spec_l1In (i, 0, 100000)).bind fun r => bif !r then some false else bx (lp spec_l12Parts_s58 ((a, b, c, d, e, f, g, h, i, j, k, l, m, n, o, p), 0)) (fun s => some s) fun (s, t, u, v, w, x, y, z, a1, b1, c1, d1, e1, f1, g1, h1) => bx (lp spec_l12Parts_s122 ((s, t, u, v, w, x, y, z, a1, b1, c1, d1, e1, f1, g1, h1), 0)) (fun i1 => some i1) fun _ => some true
def spec_l12Parts_e : FEnt := ⟨100, [.tmp 2], [], [(.agg, cc5)], ⟨102, [⟨2, .one, [.dat .bool]⟩]⟩, spec_l12Parts⟩
theorem spec_l12Parts_ok : FnOk Tryz.prog 121 spec_l12Parts_e := fnOk_mk (tb := [(122, spec_l12Parts_n122), (7462, spec_l12Parts_n7462), (58, spec_l12Parts_n58)]) (c := (Tryz.f121.body).getD .skip) mixed Tryz.func121 (bC spec_l1In_ok (bC spec_SeatOk_ok (bC spec_RowIds_ok (bC spec_RowOk_ok (bC spec_l12Of_ok (bC spec_SetSize_ok (bC spec_TurnOk_ok bN))))))) (by kernel_rfl) (by kernel_rfl) (by kernel_rfl) ⟨nodeLoop (by kernel_rfl) spec_l12Parts_s122 (by kernel_rfl) (by intro d; kernel_rfl), nodeLoop (by kernel_rfl) spec_l12Parts_s7462 (by kernel_rfl) (by intro d; kernel_rfl), nodeLoop (by kernel_rfl) spec_l12Parts_s58 (by kernel_rfl) (by intro d; kernel_rfl), trivial⟩ (by intro d; kernel_rfl)


/-! spec.l1Bit -/
def spec_l1Bit : Bool → Option Int
  | a => bif a then some 1 else some 0
def spec_l1Bit_e : FEnt := ⟨4, [.tmp 2], [], [(.one, [.dat .bool])], ⟨6, [⟨2, .one, [.dat kI]⟩]⟩, spec_l1Bit⟩
theorem spec_l1Bit_ok : FnOk Tryz.prog 60 spec_l1Bit_e := fnOk_mk (tb := []) (c := (Tryz.f60.body).getD .skip) mixed Tryz.func60 bN (by kernel_rfl) (by kernel_rfl) (by kernel_rfl) trivial (by intro d; kernel_rfl)


/-! spec.l12Gen -/
def spec_l12Gen_s58 : List t53 × Int × Int × Int × Int → Option (List t53 × Int × Int × Int × Int ⊕ Int)
  | (a, b, c, d, e) => (some (decide (e < (ln a)))).bind fun f => bif f then ix e a.length ((some (gx a e (0, 0, 0, [], 0, 0, 0, 0, [], [], []))).bind fun (g, h, i, j, k, l, m, n, o, p, q) => bif h == b then ix e a.length ((some (gx a e (0, 0, 0, [], 0, 0, 0, 0, [], [], []))).bind fun (r, s, t, u, v, w, x, y, z, a1, b1) => (spec_l1Bit (t == c)).bind fun c1 => some (.inl (a, b, c, w64 (d + c1), w64 (e + 1)))) else (spec_l1Bit false).bind fun r => some (.inl (a, b, c, w64 (d + r), w64 (e + 1)))) else some (.inr d)
def spec_l12Gen_n58 : NEnt := ⟨⟨43, [⟨0, .one, [.dat kk1]⟩, ⟨1, .one, [.dat kI]⟩, ⟨2, .one, [.dat kI]⟩, ⟨7, .one, [.dat kI]⟩, ⟨8, .one, [.dat kI]⟩]⟩, [(.exit 0, ⟨43, [⟨7, .one, [.dat kI]⟩]⟩)], lp spec_l12Gen_s58⟩
def spec_l12Gen : t65 → Option Int
  | (a, b, c) => (lp spec_l12Gen_s58 (a, b, c, 0, 0)).bind fun d => some d
def spec_l12Gen_e : FEnt := ⟨37, [.tmp 6], [], [(.one, [.dat kk1]), (.one, [.dat kI]), (.one, [.dat kI])], ⟨43, [⟨6, .one, [.dat kI]⟩]⟩, spec_l12Gen⟩
theorem spec_l12Gen_ok : FnOk Tryz.prog 181 spec_l12Gen_e := fnOk_mk (tb := [(58, spec_l12Gen_n58)]) (c := (Tryz.f181.body).getD .skip) mixed Tryz.func181 (bC spec_l1Bit_ok bN) (by kernel_rfl) (by kernel_rfl) (by kernel_rfl) ⟨nodeLoop (by kernel_rfl) spec_l12Gen_s58 (by kernel_rfl) (by intro d; kernel_rfl), trivial⟩ (by intro d; kernel_rfl)


/-! spec.l12Root -/
def spec_l12Root_s26 : t121 → Option (t121 ⊕ Bool ⊕ t120)
  | ((a, b, c, d, e, f, g, h, i, j, k, l, m, n, o, p), q) => (some (decide (q < (ln o)))).bind fun r => bif r then ix q o.length ((some (gx o q (0, 0, [], 0, 0, 0, 0, [], [], []))).bind fun (s, t, u, v, w, x, y, z, a1, b1) => (spec_EntryOk (s, t, u, v, w, x, y, z, a1, b1)).bind fun c1 => bif !c1 then some (.inr (.inl false)) else bif decide (q > 0) then ix (w64 (q - 1)) o.length ((some (gx o (w64 (q - 1)) (0, 0, [], 0, 0, 0, 0, [], [], []))).bind fun (d1, e1, f1, g1, h1, i1, j1, k1, l1, m1) => bif decide (s < d1) then some (.inr (.inl false)) else ix (w64 (q - 1)) o.length ((some (gx o (w64 (q - 1)) (0, 0, [], 0, 0, 0, 0, [], [], []))).bind fun (n1, o1, p1, q1, r1, s1, t1, u1, v1, w1) => bif s == n1 then ix (w64 (q - 1)) o.length ((some (gx o (w64 (q - 1)) (0, 0, [], 0, 0, 0, 0, [], [], []))).bind fun (x1, y1, z1, a2, b2, c2, d2, e2, f2, g2) => bif decide (t ≤ y1) then some (.inr (.inl false)) else some (.inl ((a, b, c, d, e, f, g, h, i, j, k, l, m, n, o, p), w64 (q + 1)))) else some (.inl ((a, b, c, d, e, f, g, h, i, j, k, l, m, n, o, p), w64 (q + 1))))) else some (.inl ((a, b, c, d, e, f, g, h, i, j, k, l, m, n, o, p), w64 (q + 1)))) else some (.inr (.inr (a, b, c, d, e, f, g, h, i, j, k, l, m, n, o, p)))
def spec_l12Root_n26 : NEnt := ⟨⟨104, [⟨1, .box, cc5⟩, ⟨3, .one, [.dat kI]⟩]⟩, [(.ret, ⟨104, [⟨2, .one, [.dat .bool]⟩]⟩), (.exit 0, ⟨104, [⟨1, .box, cc5⟩]⟩)], lp spec_l12Root_s26⟩
def spec_l12Root_s58 : t121 → Option (t121 ⊕ Bool ⊕ Unit)
  | ((a, b, c, d, e, f, g, h, i, j, k, l, m, n, o, p), q) => (some (decide (q < (ln p)))).bind fun r => bif r then ix q p.length ((some (gx p q (0, 0, 0, [], 0, 0, 0, 0, [], [], []))).bind fun (s, t, u, v, w, x, y, z, a1, b1, c1) => (spec_EntryOk (t, u, v, w, x, y, z, a1, b1, c1)).bind fun d1 => bif !d1 then some (.inr (.inl false)) else ix q p.length ((some (gx p q (0, 0, 0, [], 0, 0, 0, 0, [], [], []))).bind fun (e1, f1, g1, h1, i1, j1, k1, l1, m1, n1, o1) => g0 q (chk (decide ((0 ≤ q.toNat) ∧ (q.toNat ≤ p.length))) (ix q p.length ((some (gx p q (0, 0, 0, [], 0, 0, 0, 0, [], [], []))).bind fun (p1, q1, r1, s1, t1, u1, v1, w1, x1, y1, z1) => ix q p.length ((some (gx p q (0, 0, 0, [], 0, 0, 0, 0, [], [], []))).bind fun (a2, b2, c2, d2, e2, f2, g2, h2, i2, j2, k2) => (spec_l12Gen (List.take q.toNat p, q1, c2)).bind fun l2 => bif e1 != l2 then some (.inr (.inl false)) else some (.inl ((a, b, c, d, e, f, g, h, i, j, k, l, m, n, o, p), w64 (q + 1))))))))) else some (.inr (.inr ()))
def spec_l12Root_n58 : NEnt := ⟨⟨104, [⟨1, .box, cc5⟩, ⟨5, .one, [.dat kI]⟩]⟩, [(.ret, ⟨104, [⟨2, .one, [.dat .bool]⟩]⟩), (.exit 2, ⟨104, []⟩)], lp spec_l12Root_s58⟩
def spec_l12Root : t120 → Option Bool
  | (a, b, c, d, e, f, g, h, i, j, k, l, m, n, o, p) => bx (lp spec_l12Root_s26 ((a, b, c, d, e, f, g, h, i, j, k, l, m, n, o, p), 0)) (fun q => some q) fun (q, r, s, t, u, v, w, x, y, z, a1, b1, c1, d1, e1, f1) => bx (lp spec_l12Root_s58 ((q, r, s, t, u, v, w, x, y, z, a1, b1, c1, d1, e1, f1), 0)) (fun g1 => some g1) fun _ => some true
def spec_l12Root_e : FEnt := ⟨102, [.tmp 2], [], [(.agg, cc5)], ⟨104, [⟨2, .one, [.dat .bool]⟩]⟩, spec_l12Root⟩
theorem spec_l12Root_ok : FnOk Tryz.prog 122 spec_l12Root_e := fnOk_mk (tb := [(58, spec_l12Root_n58), (26, spec_l12Root_n26)]) (c := (Tryz.f122.body).getD .skip) mixed Tryz.func122 (bC spec_EntryOk_ok (bC spec_l12Gen_ok bN)) (by kernel_rfl) (by kernel_rfl) (by kernel_rfl) ⟨nodeLoop (by kernel_rfl) spec_l12Root_s58 (by kernel_rfl) (by intro d; kernel_rfl), nodeLoop (by kernel_rfl) spec_l12Root_s26 (by kernel_rfl) (by intro d; kernel_rfl), trivial⟩ (by intro d; kernel_rfl)


/-! spec.l12All -/
def spec_l12All_s3730 : t120 × t60 → Option (t120 × t60 ⊕ t120 × t56)
  | ((a, b, c, d, e, f, g, h, i, j, k, l, m, n, o, p), q, r, s) => ix r l.length ((some (gx l r [])).bind fun t => (some (decide (s < (ln t)))).bind fun u => bif u then ix r l.length ((some (gx l r [])).bind fun v => ix s v.length ((some (gx v s [])).bind fun w => chk (fits (q.length + w.length) 144) ((some (q ++ w)).bind fun x => some (.inl ((a, b, c, d, e, f, g, h, i, j, k, l, m, n, o, p), x, r, w64 (s + 1)))))) else some (.inr ((a, b, c, d, e, f, g, h, i, j, k, l, m, n, o, p), q, r)))
def spec_l12All_n3730 : NEnt := ⟨⟨59, [⟨1, .box, cc5⟩, ⟨3, .one, [.own false kk5]⟩, ⟨4, .one, [.dat kI]⟩, ⟨5, .one, [.dat kI]⟩]⟩, [(.exit 2, ⟨59, [⟨1, .box, cc5⟩, ⟨3, .one, [.own false kk5]⟩, ⟨4, .one, [.dat kI]⟩]⟩)], lp spec_l12All_s3730⟩
def spec_l12All_s58 : t120 × t56 → Option (t120 × t56 ⊕ t120 × List t50)
  | ((a, b, c, d, e, f, g, h, i, j, k, l, m, n, o, p), q, r) => (some (decide (r < (ln l)))).bind fun s => bif s then (lp spec_l12All_s3730 ((a, b, c, d, e, f, g, h, i, j, k, l, m, n, o, p), q, r, 0)).bind fun ((t, u, v, w, x, y, z, a1, b1, c1, d1, e1, f1, g1, h1, i1), j1, k1) => some (.inl ((t, u, v, w, x, y, z, a1, b1, c1, d1, e1, f1, g1, h1, i1), j1, w64 (k1 + 1))) else some (.inr ((a, b, c, d, e, f, g, h, i, j, k, l, m, n, o, p), q))
def spec_l12All_n58 : NEnt := ⟨⟨59, [⟨1, .box, cc5⟩, ⟨3, .one, [.own false kk5]⟩, ⟨4, .one, [.dat kI]⟩]⟩, [(.exit 0, ⟨59, [⟨1, .box, cc5⟩, ⟨3, .one, [.own false kk5]⟩]⟩)], lp spec_l12All_s58⟩
def spec_l12All_s250 : t120 × t56 → Option (t120 × t56 ⊕ List t50)
  | ((a, b, c, d, e, f, g, h, i, j, k, l, m, n, o, p), q, r) => (some (decide (r < (ln p)))).bind fun s => bif s then ix r p.length ((some (gx p r (0, 0, 0, [], 0, 0, 0, 0, [], [], []))).bind fun (t, u, v, w, x, y, z, a1, b1, c1, d1) => (some [(u, v, w, x, y, z, a1, b1, c1, d1)]).bind fun e1 => chk (fits (q.length + e1.length) 144) ((some (q ++ e1)).bind fun f1 => some (.inl ((a, b, c, d, e, f, g, h, i, j, k, l, m, n, o, p), f1, w64 (r + 1))))) else some (.inr q)
def spec_l12All_n250 : NEnt := ⟨⟨59, [⟨1, .box, cc5⟩, ⟨3, .one, [.own false kk5]⟩, ⟨6, .one, [.dat kI]⟩]⟩, [(.exit 4, ⟨59, [⟨3, .one, [.own false kk5]⟩]⟩)], lp spec_l12All_s250⟩
def spec_l12All : t120 → Option (List t50)
  | (a, b, c, d, e, f, g, h, i, j, k, l, m, n, o, p) => (lp spec_l12All_s58 ((a, b, c, d, e, f, g, h, i, j, k, l, m, n, o, p), [], 0)).bind fun ((q, r, s, t, u, v, w, x, y, z, a1, b1, c1, d1, e1, f1), g1) => chk (fits (g1.length + e1.length) 144) ((some (g1 ++ e1)).bind fun h1 => (lp spec_l12All_s250 ((q, r, s, t, u, v, w, x, y, z, a1, b1, c1, d1, e1, f1), h1, 0)).bind fun i1 => some i1)
def spec_l12All_e : FEnt := ⟨57, [.tmp 2], [], [(.agg, cc5)], ⟨59, [⟨2, .one, [.own false kk5]⟩]⟩, spec_l12All⟩
theorem spec_l12All_ok : FnOk Tryz.prog 72 spec_l12All_e := fnOk_mk (tb := [(250, spec_l12All_n250), (3730, spec_l12All_n3730), (58, spec_l12All_n58)]) (c := (Tryz.f72.body).getD .skip) mixed Tryz.func72 bN (by kernel_rfl) (by kernel_rfl) (by kernel_rfl) ⟨nodeLoop (by kernel_rfl) spec_l12All_s250 (by kernel_rfl) (by intro d; kernel_rfl), nodeLoop (by kernel_rfl) spec_l12All_s3730 (by kernel_rfl) (by intro d; kernel_rfl), nodeLoop (by kernel_rfl) spec_l12All_s58 (by kernel_rfl) (by intro d; kernel_rfl), trivial⟩ (by intro d; kernel_rfl)


/-! spec.l12Taken -/
def spec_l12Taken_s3730 : t120 × t8 → Option (t120 × t8 ⊕ t120 × t0)
  | ((a, b, c, d, e, f, g, h, i, j, k, l, m, n, o, p), q, r, s) => ix r k.length ((some (gx k r (0, 0, [], 0, 0))).bind fun (t, u, v, w, x) => bif decide (s < (ln v)) then ix r k.length ((some (gx k r (0, 0, [], 0, 0))).bind fun (y, z, a1, b1, c1) => ix s a1.length ((some (gx a1 s (0, 0))).bind fun (d1, e1) => (spec_l5Put (q, w64 ((w64 (100 * r)) + d1), w64 ((w64 (100 * r)) + e1))).bind fun f1 => some (.inl ((a, b, c, d, e, f, g, h, i, j, k, l, m, n, o, p), f1, r, w64 (s + 1))))) else some (.inr ((a, b, c, d, e, f, g, h, i, j, k, l, m, n, o, p), q, r)))
def spec_l12Taken_n3730 : NEnt := ⟨⟨51, [⟨1, .box, cc5⟩, ⟨3, .one, cc25⟩, ⟨4, .one, [.dat kI]⟩, ⟨5, .one, [.dat kI]⟩]⟩, [(.exit 2, ⟨51, [⟨1, .box, cc5⟩, ⟨3, .one, cc25⟩, ⟨4, .one, [.dat kI]⟩]⟩)], lp spec_l12Taken_s3730⟩
def spec_l12Taken_s58 : t120 × t0 → Option (t120 × t0 ⊕ List (Int × Int))
  | ((a, b, c, d, e, f, g, h, i, j, k, l, m, n, o, p), q, r) => bif decide (r < (ln k)) then (lp spec_l12Taken_s3730 ((a, b, c, d, e, f, g, h, i, j, k, l, m, n, o, p), q, r, 0)).bind fun ((s, t, u, v, w, x, y, z, a1, b1, c1, d1, e1, f1, g1, h1), i1, j1) => some (.inl ((s, t, u, v, w, x, y, z, a1, b1, c1, d1, e1, f1, g1, h1), i1, w64 (j1 + 1))) else some (.inr q)
def spec_l12Taken_n58 : NEnt := ⟨⟨51, [⟨1, .box, cc5⟩, ⟨3, .one, cc25⟩, ⟨4, .one, [.dat kI]⟩]⟩, [(.exit 0, ⟨51, [⟨3, .one, cc25⟩]⟩)], lp spec_l12Taken_s58⟩
def spec_l12Taken : t120 → Option (List (Int × Int))
  | (a, b, c, d, e, f, g, h, i, j, k, l, m, n, o, p) => (lp spec_l12Taken_s58 ((a, b, c, d, e, f, g, h, i, j, k, l, m, n, o, p), [], 0)).bind fun q => some q
def spec_l12Taken_e : FEnt := ⟨49, [.tmp 2], [], [(.agg, cc5)], ⟨51, [⟨2, .one, cc25⟩]⟩, spec_l12Taken⟩
theorem spec_l12Taken_ok : FnOk Tryz.prog 125 spec_l12Taken_e := fnOk_mk (tb := [(3730, spec_l12Taken_n3730), (58, spec_l12Taken_n58)]) (c := (Tryz.f125.body).getD .skip) mixed Tryz.func125 (bC spec_l5Put_ok bN) (by kernel_rfl) (by kernel_rfl) (by kernel_rfl) ⟨nodeLoop (by kernel_rfl) spec_l12Taken_s3730 (by kernel_rfl) (by intro d; kernel_rfl), nodeLoop (by kernel_rfl) spec_l12Taken_s58 (by kernel_rfl) (by intro d; kernel_rfl), trivial⟩ (by intro d; kernel_rfl)


/-! spec.l5Same -/
def spec_l5Same_s58 : t25 → Option (t25 ⊕ Bool ⊕ Unit)
  | (a, b, c) => bif decide (c < (ln a)) then ix c a.length ((some (gx a c (0, 0))).bind fun (d, e) => ix c b.length ((some (gx b c (0, 0))).bind fun (f, g) => bif !((d == f) && ((e == g) && true)) then some (.inr (.inl false)) else some (.inl (a, b, w64 (c + 1))))) else some (.inr (.inr ()))
def spec_l5Same_n58 : NEnt := ⟨⟨30, [⟨0, .one, [.dat kk10]⟩, ⟨1, .one, [.dat kk10]⟩, ⟨5, .one, [.dat kI]⟩]⟩, [(.ret, ⟨30, [⟨4, .one, [.dat .bool]⟩]⟩), (.exit 0, ⟨30, []⟩)], lp spec_l5Same_s58⟩
def spec_l5Same : t17 → Option Bool
  | (a, b) => bif (ln a) != (ln b) then some false else bx (lp spec_l5Same_s58 (a, b, 0)) (fun c => some c) fun _ => some true
def spec_l5Same_e : FEnt := ⟨26, [.tmp 4], [], [(.one, [.dat kk10]), (.one, [.dat kk10])], ⟨30, [⟨4, .one, [.dat .bool]⟩]⟩, spec_l5Same⟩
theorem spec_l5Same_ok : FnOk Tryz.prog 124 spec_l5Same_e := fnOk_mk (tb := [(58, spec_l5Same_n58)]) (c := (Tryz.f124.body).getD .skip) mixed Tryz.func124 bN (by kernel_rfl) (by kernel_rfl) (by kernel_rfl) ⟨nodeLoop (by kernel_rfl) spec_l5Same_s58 (by kernel_rfl) (by intro d; kernel_rfl), trivial⟩ (by intro d; kernel_rfl)


/-! spec.HouseOk -/
def spec_HouseOk_s250 : t120 × t70 → Option (t120 × t70 ⊕ Bool ⊕ t120 × List (Int × Int))
  | ((a, b, c, d, e, f, g, h, i, j, k, l, m, n, o, p), q, r, s) => (some (decide (s < (ln r)))).bind fun t => bif t then ix s r.length (lx s r.length ((some (gx r s (0, 0, [], 0, 0, 0, 0, [], [], []))).bind fun (u, v, w, x, y, z, a1, b1, c1, d1) => (spec_SetApart (q, w)).bind fun e1 => bif !e1 then some (.inr (.inl false)) else ix s r.length (lx s r.length ((some (gx r s (0, 0, [], 0, 0, 0, 0, [], [], []))).bind fun (f1, g1, h1, i1, j1, k1, l1, m1, n1, o1) => (spec_l5Join (q, h1)).bind fun p1 => some (.inl ((a, b, c, d, e, f, g, h, i, j, k, l, m, n, o, p), p1, r, w64 (s + 1))))))) else some (.inr (.inr ((a, b, c, d, e, f, g, h, i, j, k, l, m, n, o, p), q)))
def spec_HouseOk_n250 : NEnt := ⟨⟨102, [⟨1, .box, cc5⟩, ⟨3, .one, cc25⟩, ⟨4, .one, [.own false kk5]⟩, ⟨5, .one, [.dat kI]⟩]⟩, [(.ret, ⟨102, [⟨2, .one, [.dat .bool]⟩]⟩), (.exit 0, ⟨102, [⟨1, .box, cc5⟩, ⟨3, .one, cc25⟩]⟩)], lp spec_HouseOk_s250⟩
def spec_HouseOk_s260682 : t123 → Option (t123 ⊕ t122)
  | ((a, b, c, d, e, f, g, h, i, j, k, l, m, n, o, p), q, r, s) => (some (decide (s < (ln o)))).bind fun t => bif t then ix s o.length ((some (gx o s (0, 0, [], 0, 0, 0, 0, [], [], []))).bind fun (u, v, w, x, y, z, a1, b1, c1, d1) => (spec_l12Of (w, q)).bind fun e1 => some (.inl ((a, b, c, d, e, f, g, h, i, j, k, l, m, n, o, p), q, w64 (r + e1), w64 (s + 1)))) else some (.inr ((a, b, c, d, e, f, g, h, i, j, k, l, m, n, o, p), q, r))
def spec_HouseOk_n260682 : NEnt := ⟨⟨102, [⟨1, .box, cc5⟩, ⟨6, .one, [.dat kI]⟩, ⟨7, .one, [.dat kI]⟩, ⟨8, .one, [.dat kI]⟩]⟩, [(.exit 4, ⟨102, [⟨1, .box, cc5⟩, ⟨6, .one, [.dat kI]⟩, ⟨7, .one, [.dat kI]⟩]⟩)], lp spec_HouseOk_s260682⟩
def spec_HouseOk_s521370 : t123 → Option (t123 ⊕ t122)
  | ((a, b, c, d, e, f, g, h, i, j, k, l, m, n, o, p), q, r, s) => (some (decide (s < (ln p)))).bind fun t => bif t then ix s p.length ((some (gx p s (0, 0, 0, [], 0, 0, 0, 0, [], [], []))).bind fun (u, v, w, x, y, z, a1, b1, c1, d1, e1) => (spec_l12Of (x, q)).bind fun f1 => some (.inl ((a, b, c, d, e, f, g, h, i, j, k, l, m, n, o, p), q, w64 (r + f1), w64 (s + 1)))) else some (.inr ((a, b, c, d, e, f, g, h, i, j, k, l, m, n, o, p), q, r))
def spec_HouseOk_n521370 : NEnt := ⟨⟨102, [⟨1, .box, cc5⟩, ⟨6, .one, [.dat kI]⟩, ⟨7, .one, [.dat kI]⟩, ⟨9, .one, [.dat kI]⟩]⟩, [(.exit 6, ⟨102, [⟨1, .box, cc5⟩, ⟨6, .one, [.dat kI]⟩, ⟨7, .one, [.dat kI]⟩]⟩)], lp spec_HouseOk_s521370⟩
def spec_HouseOk_s1018 : t121 → Option (t121 ⊕ Bool ⊕ Unit)
  | ((a, b, c, d, e, f, g, h, i, j, k, l, m, n, o, p), q) => bif decide (q < 3) then (lp spec_HouseOk_s260682 ((a, b, c, d, e, f, g, h, i, j, k, l, m, n, o, p), q, 0, 0)).bind fun ((r, s, t, u, v, w, x, y, z, a1, b1, c1, d1, e1, f1, g1), h1, i1) => (lp spec_HouseOk_s521370 ((r, s, t, u, v, w, x, y, z, a1, b1, c1, d1, e1, f1, g1), h1, i1, 0)).bind fun ((j1, k1, l1, m1, n1, o1, p1, q1, r1, s1, t1, u1, v1, w1, x1, y1), z1, a2) => ix z1 t1.length ((some (gx t1 z1 (0, 0, [], 0, 0))).bind fun (b2, c2, d2, e2, f2) => bif a2 != e2 then some (.inr (.inl false)) else some (.inl ((j1, k1, l1, m1, n1, o1, p1, q1, r1, s1, t1, u1, v1, w1, x1, y1), w64 (z1 + 1)))) else some (.inr (.inr ()))
def spec_HouseOk_n1018 : NEnt := ⟨⟨102, [⟨1, .box, cc5⟩, ⟨6, .one, [.dat kI]⟩]⟩, [(.ret, ⟨102, [⟨2, .one, [.dat .bool]⟩]⟩), (.exit 2, ⟨102, []⟩)], lp spec_HouseOk_s1018⟩
def spec_HouseOk : t120 → Option Bool
  | (a, b, c, d, e, f, g, h, i, j, k, l, m, n, o, p) => (spec_ConfOk (a, b, c, d, e, f, g, h)).bind fun q => bif !q then some false else (spec_l12Parts (a, b, c, d, e, f, g, h, i, j, k, l, m, n, o, p)).bind fun r => bif !r then some false else (spec_l12Root (a, b, c, d, e, f, g, h, i, j, k, l, m, n, o, p)).bind fun s => bif !s then some false else (spec_l12All (a, b, c, d, e, f, g, h, i, j, k, l, m, n, o, p)).bind fun t => bx (lp spec_HouseOk_s250 ((a, b, c, d, e, f, g, h, i, j, k, l, m, n, o, p), [], t, 0)) (fun u => some u) fun ((u, v, w, x, y, z, a1, b1, c1, d1, e1, f1, g1, h1, i1, j1), k1) => (spec_l12Taken (u, v, w, x, y, z, a1, b1, c1, d1, e1, f1, g1, h1, i1, j1)).bind fun l1 => (spec_l5Same (k1, l1)).bind fun m1 => bif !m1 then some false else bx (lp spec_HouseOk_s1018 ((u, v, w, x, y, z, a1, b1, c1, d1, e1, f1, g1, h1, i1, j1), 0)) (fun n1 => some n1) fun _ => some true
def spec_HouseOk_e : FEnt := ⟨100, [.tmp 2], [], [(.agg, cc5)], ⟨102, [⟨2, .one, [.dat .bool]⟩]⟩, spec_HouseOk⟩
theorem spec_HouseOk_ok : FnOk Tryz.prog 59 spec_HouseOk_e := fnOk_mk (tb := [(521370, spec_HouseOk_n521370), (260682, spec_HouseOk_n260682), (1018, spec_HouseOk_n1018), (250, spec_HouseOk_n250)]) (c := (Tryz.f59.body).getD .skip) mixed Tryz.func59 (bC spec_ConfOk_ok (bC spec_l12Parts_ok (bC spec_l12Root_ok (bC spec_l12All_ok (bC spec_SetApart_ok (bC spec_l5Join_ok (bC spec_l12Taken_ok (bC spec_l5Same_ok (bC spec_l12Of_ok bN))))))))) (by kernel_rfl) (by kernel_rfl) (by kernel_rfl) ⟨nodeLoop (by kernel_rfl) spec_HouseOk_s521370 (by kernel_rfl) (by intro d; kernel_rfl), nodeLoop (by kernel_rfl) spec_HouseOk_s260682 (by kernel_rfl) (by intro d; kernel_rfl), nodeLoop (by kernel_rfl) spec_HouseOk_s1018 (by kernel_rfl) (by intro d; kernel_rfl), nodeLoop (by kernel_rfl) spec_HouseOk_s250 (by kernel_rfl) (by intro d; kernel_rfl), trivial⟩ (by intro d; kernel_rfl)


/-! spec.l2Clip -/
def spec_l2Clip : Int × Int → Option Int
  | (a, b) => (spec_l1Min (a, b)).bind fun c => (spec_l1Max (0, c)).bind fun d => some d
def spec_l2Clip_e : FEnt := ⟨9, [.tmp 4], [], [(.one, [.dat kI]), (.one, [.dat kI])], ⟨13, [⟨4, .one, [.dat kI]⟩]⟩, spec_l2Clip⟩
theorem spec_l2Clip_ok : FnOk Tryz.prog 194 spec_l2Clip_e := fnOk_mk (tb := []) (c := (Tryz.f194.body).getD .skip) mixed Tryz.func194 (bC spec_l1Min_ok (bC spec_l1Max_ok bN)) (by kernel_rfl) (by kernel_rfl) (by kernel_rfl) trivial (by intro d; kernel_rfl)


/-! spec.Add -/
def spec_Add : Int × Int → Option Int
  | (a, b) => (spec_l2Clip (a, 1000000000)).bind fun c => (spec_l2Clip (b, 1000000000)).bind fun d => (spec_l1Min (w64 (c + d), 1000000000)).bind fun e => some e
def spec_Add_e : FEnt := ⟨11, [.tmp 4], [], [(.one, [.dat kI]), (.one, [.dat kI])], ⟨15, [⟨4, .one, [.dat kI]⟩]⟩, spec_Add⟩
theorem spec_Add_ok : FnOk Tryz.prog 148 spec_Add_e := fnOk_mk (tb := []) (c := (Tryz.f148.body).getD .skip) mixed Tryz.func148 (bC spec_l2Clip_ok (bC spec_l1Min_ok bN)) (by kernel_rfl) (by kernel_rfl) (by kernel_rfl) trivial (by intro d; kernel_rfl)


/-! spec.l3Sum -/
def spec_l3Sum_s58 : List Int × t4 → Option (List Int × t4 ⊕ List Int)
  | (a, b, c, d) => bif decide (d < (ln a)) then ix d a.length (ix d b.length ((spec_Add (gx a d 0, gx b d 0)).bind fun e => chk (fits (c.length + [e].length) 8) (some (.inl (a, b, c ++ [e], w64 (d + 1)))))) else some (.inr c)
def spec_l3Sum_n58 : NEnt := ⟨⟨31, [⟨0, .one, [.dat (.list kI)]⟩, ⟨1, .one, [.dat (.list kI)]⟩, ⟨5, .one, [.own true kI]⟩, ⟨6, .one, [.dat kI]⟩]⟩, [(.exit 0, ⟨31, [⟨5, .one, [.own true kI]⟩]⟩)], lp spec_l3Sum_s58⟩
def spec_l3Sum : List Int × List Int → Option (List Int)
  | (a, b) => (lp spec_l3Sum_s58 (a, b, [], 0)).bind fun c => some c
def spec_l3Sum_e : FEnt := ⟨27, [.tmp 4], [], [(.one, [.dat (.list kI)]), (.one, [.dat (.list kI)])], ⟨31, [⟨4, .one, [.own true kI]⟩]⟩, spec_l3Sum⟩
theorem spec_l3Sum_ok : FnOk Tryz.prog 151 spec_l3Sum_e := fnOk_mk (tb := [(58, spec_l3Sum_n58)]) (c := (Tryz.f151.body).getD .skip) mixed Tryz.func151 (bC spec_Add_ok bN) (by kernel_rfl) (by kernel_rfl) (by kernel_rfl) ⟨nodeLoop (by kernel_rfl) spec_l3Sum_s58 (by kernel_rfl) (by intro d; kernel_rfl), trivial⟩ (by intro d; kernel_rfl)


/-! spec.l3Merge -/
def spec_l3Merge_s250 : t39 × t39 × t26 × t42 → Option (t39 × t39 × t26 × t42 ⊕ t59)
  | ((a, b, c, d, e, f, g), (h, i, j, k, l, m, n), (o, p, q, r, _, _, _), (s, t, u, v, w, x, y), z) => bif decide (z < 8) then ix z f.length (ix z m.length ((spec_l1Max (gx f z 0, gx m z 0)).bind fun a1 => chk (fits (x.length + [a1].length) 8) (some (.inl ((a, b, c, d, e, f, g), (h, i, j, k, l, m, n), (o, p, q, r, (), (), ()), (s, t, u, v, w, x ++ [a1], y), w64 (z + 1)))))) else some (.inr ((o, p, q, r, (), (), ()), s, t, u, v, w, x, y))
def spec_l3Merge_n250 : NEnt := ⟨⟨89, [⟨2, .box, cc13⟩, ⟨3, .box, cc13⟩, ⟨4, .box, cc19⟩, ⟨5, .box, cc12⟩, ⟨6, .one, [.dat kI]⟩]⟩, [(.exit 0, ⟨89, [⟨4, .box, cc19⟩, ⟨5, .box, cc12⟩]⟩)], lp spec_l3Merge_s250⟩
def spec_l3Merge_l31 : t39 × t39 × t26 × Int × Int × Int × Int × List Int × Unit × List (List Int) → Option t39
  | ((a, b, c, d, e, f, g), (h, i, j, k, l, m, n), (o, p, q, r, _, _, _), s, t, u, v, w, _, x) => (lp spec_l3Merge_s250 ((a, b, c, d, e, f, g), (h, i, j, k, l, m, n), (o, p, q, r, (), (), ()), (s, t, u, v, w, [], x), 0)).bind fun ((y, z, a1, b1, _, _, _), c1, d1, e1, f1, g1, h1, i1) => some (c1, d1, e1, f1, g1, h1, i1)
def spec_l3Merge_n31 : NEnt := ⟨⟨89, [⟨2, .box, cc13⟩, ⟨3, .box, cc13⟩, ⟨4, .box, cc19⟩, ⟨5, .box, cc15⟩]⟩, [(.ret, ⟨89, [⟨4, .box, cc12⟩]⟩)], spec_l3Merge_l31⟩
def spec_l3Merge_l15 : t39 × t39 × t26 × Int × Int × Int × Int × List Int × Unit × List (List Int) → Option t39
  | ((a, b, c, d, e, f, g), (h, i, j, k, l, m, n), (o, p, q, r, _, _, _), s, t, u, v, w, _, x) => bif h == 0 then (spec_l3Merge_l31 ((a, b, c, d, e, f, g), (h, i, j, k, l, m, n), (o, p, q, r, (), (), ()), s, t, c, v, w, (), x)).bind fun (y, z, a1, b1, c1, d1, e1) => some (y, z, a1, b1, c1, d1, e1) else (spec_l3Merge_l31 ((a, b, c, d, e, f, g), (h, i, j, k, l, m, n), (o, p, q, r, (), (), ()), s, t, u, v, w, (), x)).bind fun (y, z, a1, b1, c1, d1, e1) => some (y, z, a1, b1, c1, d1, e1)
def spec_l3Merge_n15 : NEnt := ⟨⟨89, [⟨2, .box, cc13⟩, ⟨3, .box, cc13⟩, ⟨4, .box, cc19⟩, ⟨5, .box, cc15⟩]⟩, [(.ret, ⟨89, [⟨4, .box, cc12⟩]⟩)], spec_l3Merge_l15⟩
def spec_l3Merge : t39 × t39 → Option t39
  | ((a, b, c, d, e, f, g), h, i, j, k, l, m, n) => (spec_Add (a, h)).bind fun o => (spec_Add (b, i)).bind fun p => (spec_l1Min (c, j)).bind fun q => (spec_l1Max (d, k)).bind fun r => (spec_l3Sum (e, l)).bind fun s => chk (decide (0 < g.length)) (chk (decide (0 < n.length)) ((spec_l3Sum (List.getD g 0 [], List.getD n 0 [])).bind fun t => chk (decide (1 < g.length)) (chk (decide (1 < n.length)) ((spec_l3Sum (List.getD g 1 [], List.getD n 1 [])).bind fun u => bif a == 0 then (spec_l3Merge_l15 ((a, b, c, d, e, f, g), (h, i, j, k, l, m, n), (0, 0, 0, 0, (), (), ()), o, p, j, r, s, (), [t, u])).bind fun (v, w, x, y, z, a1, b1) => some (v, w, x, y, z, a1, b1) else (spec_l3Merge_l15 ((a, b, c, d, e, f, g), (h, i, j, k, l, m, n), (0, 0, 0, 0, (), (), ()), o, p, q, r, s, (), [t, u])).bind fun (v, w, x, y, z, a1, b1) => some (v, w, x, y, z, a1, b1)))))
def spec_l3Merge_e : FEnt := ⟨85, [.cell 4 true 7], [], [(.agg, cc13), (.agg, cc13)], ⟨89, [⟨4, .box, cc12⟩]⟩, spec_l3Merge⟩
theorem spec_l3Merge_ok : FnOk Tryz.prog 87 spec_l3Merge_e := fnOk_mk (tb := [(250, spec_l3Merge_n250), (31, spec_l3Merge_n31), (15, spec_l3Merge_n15)]) (c := (Tryz.f87.body).getD .skip) mixed Tryz.func87 (bC spec_Add_ok (bC spec_l1Min_ok (bC spec_l1Max_ok (bC spec_l3Sum_ok bN)))) (by kernel_rfl) (by kernel_rfl) (by kernel_rfl) ⟨nodeLoop (by kernel_rfl) spec_l3Merge_s250 (by kernel_rfl) (by intro d; kernel_rfl), nodeJoin (by kernel_rfl) (by intro d; kernel_rfl), nodeJoin (by kernel_rfl) (by intro d; kernel_rfl), trivial⟩ (by intro d; kernel_rfl)


/-! spec.KeyTotal -/
def spec_KeyTotal_s506 : Int × Int × Int × t120 × t86 → Option (Int × Int × Int × t120 × t86 ⊕ Int × Int × Int × t26 × t39 × t57)
  | (a, b, c, (d, e, f, g, h, i, j, k, l, m, n, o, p, q, r, s), (t, u, v, w, _, _, _), (x, y, z, a1, b1, c1, d1), e1, f1, g1) => (some (decide (g1 < (ln s)))).bind fun h1 => bif h1 then ix g1 s.length ((some (gx s g1 (0, 0, 0, [], 0, 0, 0, 0, [], [], []))).bind fun (i1, j1, k1, l1, m1, n1, o1, p1, q1, r1, s1) => (some [(j1, k1, l1, m1, n1, o1, p1, q1, r1, s1)]).bind fun t1 => chk (fits (f1.length + t1.length) 144) ((some (f1 ++ t1)).bind fun u1 => some (.inl (a, b, c, (d, e, f, g, h, i, j, k, l, m, n, o, p, q, r, s), (t, u, v, w, (), (), ()), (x, y, z, a1, b1, c1, d1), e1, u1, w64 (g1 + 1))))) else some (.inr (a, b, c, (t, u, v, w, (), (), ()), (x, y, z, a1, b1, c1, d1), e1, f1))
def spec_KeyTotal_n506 : NEnt := ⟨⟨89, [⟨1, .one, [.dat kI]⟩, ⟨2, .one, [.dat kI]⟩, ⟨3, .one, [.dat kI]⟩, ⟨4, .box, cc5⟩, ⟨8, .box, cc19⟩, ⟨10, .box, cc12⟩, ⟨11, .one, [.dat kI]⟩, ⟨12, .one, [.own false kk5]⟩, ⟨13, .one, [.dat kI]⟩]⟩, [(.exit 0, ⟨89, [⟨1, .one, [.dat kI]⟩, ⟨2, .one, [.dat kI]⟩, ⟨3, .one, [.dat kI]⟩, ⟨8, .box, cc19⟩, ⟨10, .box, cc12⟩, ⟨11, .one, [.dat kI]⟩, ⟨12, .one, [.own false kk5]⟩]⟩)], lp spec_KeyTotal_s506⟩
def spec_KeyTotal_s1018 : Int × Int × Int × t86 → Option (Int × Int × Int × t86 ⊕ t26 × t42)
  | (a, b, c, (d, e, f, g, _, _, _), (h, i, j, k, l, m, n), o, p, q) => (some (decide (q < (ln p)))).bind fun r => bif r then ix q p.length (lx q p.length ((some (gx p q (0, 0, [], 0, 0, 0, 0, [], [], []))).bind fun (s, t, u, v, w, x, y, z, a1, b1) => bif s == a then ix q p.length (lx q p.length ((some (gx p q (0, 0, [], 0, 0, 0, 0, [], [], []))).bind fun (c1, d1, e1, f1, g1, h1, i1, j1, k1, l1) => (spec_l1In (d1, b, c)).bind fun m1 => bif m1 then ix q p.length (lx q p.length ((some (gx p q (0, 0, [], 0, 0, 0, 0, [], [], []))).bind fun (n1, o1, p1, q1, r1, s1, t1, u1, v1, w1) => (spec_l3Merge ((h, i, j, k, l, m, n), q1, r1, s1, t1, u1, v1, w1)).bind fun (x1, y1, z1, a2, b2, c2, d2) => ix q p.length (lx q p.length ((some (gx p q (0, 0, [], 0, 0, 0, 0, [], [], []))).bind fun (e2, f2, g2, h2, i2, j2, k2, l2, m2, n2) => (spec_SetSize g2).bind fun o2 => some (.inl (a, b, c, (d, e, f, g, (), (), ()), (x1, y1, z1, a2, b2, c2, d2), w64 (o + o2), p, w64 (q + 1))))))) else some (.inl (a, b, c, (d, e, f, g, (), (), ()), (h, i, j, k, l, m, n), o, p, w64 (q + 1))))) else some (.inl (a, b, c, (d, e, f, g, (), (), ()), (h, i, j, k, l, m, n), o, p, w64 (q + 1))))) else some (.inr ((d, e, f, g, (), (), ()), (h, i, j, k, l, m, n), o))
def spec_KeyTotal_n1018 : NEnt := ⟨⟨89, [⟨1, .one, [.dat kI]⟩, ⟨2, .one, [.dat kI]⟩, ⟨3, .one, [.dat kI]⟩, ⟨8, .box, cc19⟩, ⟨10, .box, cc12⟩, ⟨11, .one, [.dat kI]⟩, ⟨12, .one, [.own false kk5]⟩, ⟨14, .one, [.dat kI]⟩]⟩, [(.exit 2, ⟨89, [⟨8, .box, cc19⟩, ⟨10, .box, cc12⟩, ⟨11, .one, [.dat kI]⟩]⟩)], lp spec_KeyTotal_s1018⟩
def spec_KeyTotal : t123 → Option t42
  | ((a, b, c, d, e, f, g, h, i, j, k, l, m, n, o, p), q, r, s) => (spec_SketchNew ()).bind fun (t, u, v, w, x, y, z) => (spec_HouseOk (a, b, c, d, e, f, g, h, i, j, k, l, m, n, o, p)).bind fun a1 => bif !a1 then some ((t, u, v, w, x, y, z), 0) else chk (fits (0 + o.length) 144) ((some ([] ++ o)).bind fun b1 => (lp spec_KeyTotal_s506 (q, r, s, (a, b, c, d, e, f, g, h, i, j, k, l, m, n, o, p), (0, 0, 0, 0, (), (), ()), (t, u, v, w, x, y, z), 0, b1, 0)).bind fun (c1, d1, e1, (f1, g1, h1, i1, _, _, _), (j1, k1, l1, m1, n1, o1, p1), q1, r1) => (lp spec_KeyTotal_s1018 (c1, d1, e1, (f1, g1, h1, i1, (), (), ()), (j1, k1, l1, m1, n1, o1, p1), q1, r1, 0)).bind fun ((s1, t1, u1, v1, _, _, _), (w1, x1, y1, z1, a2, b2, c2), d2) => some ((w1, x1, y1, z1, a2, b2, c2), d2))
def spec_KeyTotal_e : FEnt := ⟨81, [.cell 8 true 7, .tmp 9], [], [(.agg, cc5), (.one, [.dat kI]), (.one, [.dat kI]), (.one, [.dat kI])], ⟨89, [⟨8, .box, cc12⟩, ⟨9, .one, [.dat kI]⟩]⟩, spec_KeyTotal⟩
theorem spec_KeyTotal_ok : FnOk Tryz.prog 33 spec_KeyTotal_e := fnOk_mk (tb := [(1018, spec_KeyTotal_n1018), (506, spec_KeyTotal_n506)]) (c := (Tryz.f33.body).getD .skip) mixed Tryz.func33 (bC spec_SketchNew_ok (bC spec_HouseOk_ok (bC spec_l1In_ok (bC spec_l3Merge_ok (bC spec_SetSize_ok bN))))) (by kernel_rfl) (by kernel_rfl) (by kernel_rfl) ⟨nodeLoop (by kernel_rfl) spec_KeyTotal_s1018 (by kernel_rfl) (by intro d; kernel_rfl), nodeLoop (by kernel_rfl) spec_KeyTotal_s506 (by kernel_rfl) (by intro d; kernel_rfl), trivial⟩ (by intro d; kernel_rfl)


/-! impl.within -/
def impl_within : Int × Int × Int → Option Bool
  | (a, b, c) => bif decide (a ≥ b) then some (decide (a ≤ c)) else some false
def impl_within_e : FEnt := ⟨15, [.tmp 6], [], [(.one, [.dat kI]), (.one, [.dat kI]), (.one, [.dat kI])], ⟨21, [⟨6, .one, [.dat .bool]⟩]⟩, impl_within⟩
theorem impl_within_ok : FnOk Tryz.prog 88 impl_within_e := fnOk_mk (tb := []) (c := (Tryz.f88.body).getD .skip) mixed Tryz.func88 bN (by kernel_rfl) (by kernel_rfl) (by kernel_rfl) trivial (by intro d; kernel_rfl)


/-! impl.allWithin -/
def impl_allWithin_s26 : List Int × Int × Int × t6 → Option (List Int × Int × Int × t6 ⊕ Bool ⊕ List Int × Int)
  | (a, b, c, d, e, f, g) => bif decide (g < f) then ix g e.length ((impl_within (gx e g 0, c, d)).bind fun h => bif !h then some (.inr (.inl false)) else some (.inl (a, b, c, d, e, f, w64 (g + 1)))) else some (.inr (.inr (a, b)))
def impl_allWithin_n26 : NEnt := ⟨⟨35, [⟨0, .one, [.dat (.list kI)]⟩, ⟨1, .one, [.dat kI]⟩, ⟨2, .one, [.dat kI]⟩, ⟨3, .one, [.dat kI]⟩, ⟨11, .one, [.dat (.list kI)]⟩, ⟨12, .one, [.dat kI]⟩, ⟨13, .one, [.dat kI]⟩]⟩, [(.ret, ⟨35, [⟨8, .one, [.dat .bool]⟩]⟩), (.exit 0, ⟨35, [⟨0, .one, [.dat (.list kI)]⟩, ⟨1, .one, [.dat kI]⟩]⟩)], lp impl_allWithin_s26⟩
def impl_allWithin : List Int × Int × Int × Int → Option Bool
  | (a, b, c, d) => bx (lp impl_allWithin_s26 (a, b, c, d, a, ln a, 0)) (fun e => some e) fun (e, f) => some ((ln e) == f)
def impl_allWithin_e : FEnt := ⟨27, [.tmp 8], [], [(.one, [.dat (.list kI)]), (.one, [.dat kI]), (.one, [.dat kI]), (.one, [.dat kI])], ⟨35, [⟨8, .one, [.dat .bool]⟩]⟩, impl_allWithin⟩
theorem impl_allWithin_ok : FnOk Tryz.prog 205 impl_allWithin_e := fnOk_mk (tb := [(26, impl_allWithin_n26)]) (c := (Tryz.f205.body).getD .skip) mixed Tryz.func205 (bC impl_within_ok bN) (by kernel_rfl) (by kernel_rfl) (by kernel_rfl) ⟨nodeLoop (by kernel_rfl) impl_allWithin_s26 (by kernel_rfl) (by intro d; kernel_rfl), trivial⟩ (by intro d; kernel_rfl)


/-! impl.ConfOk -/
def impl_ConfOk : t33 → Option Bool
  | (a, b, c, d, e, f, g, h) => (impl_within (a, 1, 8)).bind fun i => bif i then (impl_within (b, 1, 60)).bind fun j => bif j then (impl_within (c, 1, 10)).bind fun k => bif k then (impl_allWithin (d, 3, 1, 4)).bind fun l => bif l then (impl_within (e, 1, 100)).bind fun m => bif m then (impl_within (f, 1, 20)).bind fun n => bif n then (impl_within (g, 0, 20)).bind fun o => bif o then (impl_within (h, 1, 50)).bind fun p => some p else some false else some false else some false else some false else some false else some false else some false
def impl_ConfOk_e : FEnt := ⟨41, [.tmp 2], [], [(.agg, cc14)], ⟨43, [⟨2, .one, [.dat .bool]⟩]⟩, impl_ConfOk⟩
theorem impl_ConfOk_ok : FnOk Tryz.prog 183 impl_ConfOk_e := fnOk_mk (tb := []) (c := (Tryz.f183.body).getD .skip) mixed Tryz.func183 (bC impl_within_ok (bC impl_allWithin_ok bN)) (by kernel_rfl) (by kernel_rfl) (by kernel_rfl) trivial (by intro d; kernel_rfl)


/-! impl.SetOk -/
def impl_SetOk_s26 : t30 → Option (t30 ⊕ Bool ⊕ Unit)
  | (a, b, c, d) => bif decide (d < c) then ix d b.length ((some (gx b d (0, 0))).bind fun (e, f) => (impl_within (e, 0, 9999)).bind fun g => bif !g then some (.inr (.inl false)) else (impl_within (f, e, 9999)).bind fun h => bif !h then some (.inr (.inl false)) else bif decide (d > 0) then ix (w64 (d - 1)) a.length ((some (gx a (w64 (d - 1)) (0, 0))).bind fun (i, j) => bif decide (e ≤ (w64 (j + 1))) then some (.inr (.inl false)) else some (.inl (a, b, c, w64 (d + 1)))) else some (.inl (a, b, c, w64 (d + 1)))) else some (.inr (.inr ()))
def impl_SetOk_n26 : NEnt := ⟨⟨43, [⟨0, .one, [.dat kk10]⟩, ⟨5, .one, [.dat kk10]⟩, ⟨6, .one, [.dat kI]⟩, ⟨7, .one, [.dat kI]⟩]⟩, [(.ret, ⟨43, [⟨2, .one, [.dat .bool]⟩]⟩), (.exit 0, ⟨43, []⟩)], lp impl_SetOk_s26⟩
def impl_SetOk : List (Int × Int) → Option Bool
  | a => bx (lp impl_SetOk_s26 (a, a, ln a, 0)) (fun b => some b) fun _ => some true
def impl_SetOk_e : FEnt := ⟨41, [.tmp 2], [], [(.one, [.dat kk10])], ⟨43, [⟨2, .one, [.dat .bool]⟩]⟩, impl_SetOk⟩
theorem impl_SetOk_ok : FnOk Tryz.prog 147 impl_SetOk_e := fnOk_mk (tb := [(26, impl_SetOk_n26)]) (c := (Tryz.f147.body).getD .skip) mixed Tryz.func147 (bC impl_within_ok bN) (by kernel_rfl) (by kernel_rfl) (by kernel_rfl) ⟨nodeLoop (by kernel_rfl) impl_SetOk_s26 (by kernel_rfl) (by intro d; kernel_rfl), trivial⟩ (by intro d; kernel_rfl)


/-! impl.allIn -/
def impl_allIn : t8 → Option Bool
  | (a, b, c) => (impl_SetOk a).bind fun d => bif d then bif (ln a) == 0 then some true else chk (decide (0 < a.length)) ((some (List.getD a 0 (0, 0))).bind fun (e, f) => bif decide (e ≥ b) then ix (w64 ((ln a) - 1)) a.length ((some (gx a (w64 ((ln a) - 1)) (0, 0))).bind fun (g, h) => some (decide (h ≤ c))) else some false) else some false
def impl_allIn_e : FEnt := ⟨33, [.tmp 6], [], [(.one, [.dat kk10]), (.one, [.dat kI]), (.one, [.dat kI])], ⟨39, [⟨6, .one, [.dat .bool]⟩]⟩, impl_allIn⟩
theorem impl_allIn_ok : FnOk Tryz.prog 185 impl_allIn_e := fnOk_mk (tb := []) (c := (Tryz.f185.body).getD .skip) mixed Tryz.func185 (bC impl_SetOk_ok bN) (by kernel_rfl) (by kernel_rfl) (by kernel_rfl) trivial (by intro d; kernel_rfl)


/-! impl.SetSize -/
def impl_SetSize_s122 : t13 → Option (t13 ⊕ Int)
  | (a, b, c, d) => bif decide (d < c) then ix d b.length ((some (gx b d (0, 0))).bind fun (e, f) => some (.inl (w64 (a + (w64 ((w64 (f - e)) + 1))), b, c, w64 (d + 1)))) else some (.inr a)
def impl_SetSize_n122 : NEnt := ⟨⟨27, [⟨3, .one, [.dat kI]⟩, ⟨9, .one, [.dat kk10]⟩, ⟨10, .one, [.dat kI]⟩, ⟨11, .one, [.dat kI]⟩]⟩, [(.exit 0, ⟨27, [⟨3, .one, [.dat kI]⟩]⟩)], lp impl_SetSize_s122⟩
def impl_SetSize : List (Int × Int) → Option Int
  | a => (impl_SetOk a).bind fun b => bif !b then some 0 else (lp impl_SetSize_s122 (0, a, ln a, 0)).bind fun c => some c
def impl_SetSize_e : FEnt := ⟨25, [.tmp 2], [], [(.one, [.dat kk10])], ⟨27, [⟨2, .one, [.dat kI]⟩]⟩, impl_SetSize⟩
theorem impl_SetSize_ok : FnOk Tryz.prog 84 impl_SetSize_e := fnOk_mk (tb := [(122, impl_SetSize_n122)]) (c := (Tryz.f84.body).getD .skip) mixed Tryz.func84 (bC impl_SetOk_ok bN) (by kernel_rfl) (by kernel_rfl) (by kernel_rfl) ⟨nodeLoop (by kernel_rfl) impl_SetSize_s122 (by kernel_rfl) (by intro d; kernel_rfl), trivial⟩ (by intro d; kernel_rfl)


/-! impl.SeatOk -/
def impl_SeatOk : t23 × Int → Option Bool
  | ((a, b, c, d, e), f) => (impl_within (f, 1, 8)).bind fun g => bif g then (impl_within (a, 0, 1000)).bind fun h => bif h then (impl_within (b, 0, 60)).bind fun i => bif i then (impl_allIn (c, 1, b)).bind fun j => bif j then (impl_SetSize c).bind fun k => (impl_within (d, 0, k)).bind fun l => bif l then bif decide (b ≤ (w64 (d + f))) then (impl_within (e, 0, 1000000)).bind fun m => some m else some false else some false else some false else some false else some false else some false
def impl_SeatOk_e : FEnt := ⟨46, [.tmp 4], [], [(.agg, cc20), (.one, [.dat kI])], ⟨50, [⟨4, .one, [.dat .bool]⟩]⟩, impl_SeatOk⟩
theorem impl_SeatOk_ok : FnOk Tryz.prog 184 impl_SeatOk_e := fnOk_mk (tb := []) (c := (Tryz.f184.body).getD .skip) mixed Tryz.func184 (bC impl_within_ok (bC impl_allIn_ok (bC impl_SetSize_ok bN))) (by kernel_rfl) (by kernel_rfl) (by kernel_rfl) trivial (by intro d; kernel_rfl)


/-! impl.copyInts -/
def impl_copyInts : List Int → Option (List Int)
  | a => chk (fits a.length 8) (some a)
def impl_copyInts_e : FEnt := ⟨5, [.tmp 2], [], [(.one, [.dat (.list kI)])], ⟨7, [⟨2, .one, [.own true kI]⟩]⟩, impl_copyInts⟩
theorem impl_copyInts_ok : FnOk Tryz.prog 195 impl_copyInts_e := fnOk_mk (tb := []) (c := (Tryz.f195.body).getD .skip) mixed Tryz.func195 bN (by kernel_rfl) (by kernel_rfl) (by kernel_rfl) trivial (by intro d; kernel_rfl)


/-! impl.counts -/
def impl_counts_s58 : List Int × t7 → Option (List Int × t7 ⊕ List Int)
  | (a, b, c, d) => bif decide (d < c) then ix d b.length (chk (fits (a.length + (gx b d []).length) 8) (some (.inl (a ++ (gx b d []), b, c, w64 (d + 1))))) else some (.inr a)
def impl_counts_n58 : NEnt := ⟨⟨26, [⟨3, .one, [.own true kI]⟩, ⟨13, .one, [.dat kk11]⟩, ⟨14, .one, [.dat kI]⟩, ⟨15, .one, [.dat kI]⟩]⟩, [(.exit 0, ⟨26, [⟨3, .one, [.own true kI]⟩]⟩)], lp impl_counts_s58⟩
def impl_counts : t39 → Option (List Int)
  | (a, b, c, d, e, f, g) => (impl_copyInts e).bind fun h => chk (fits (h.length + f.length) 8) ((lp impl_counts_s58 (h ++ f, g, ln g, 0)).bind fun i => some i)
def impl_counts_e : FEnt := ⟨24, [.tmp 2], [], [(.agg, cc13)], ⟨26, [⟨2, .one, [.own true kI]⟩]⟩, impl_counts⟩
theorem impl_counts_ok : FnOk Tryz.prog 200 impl_counts_e := fnOk_mk (tb := [(58, impl_counts_n58)]) (c := (Tryz.f200.body).getD .skip) mixed Tryz.func200 (bC impl_copyInts_ok bN) (by kernel_rfl) (by kernel_rfl) (by kernel_rfl) ⟨nodeLoop (by kernel_rfl) impl_counts_s58 (by kernel_rfl) (by intro d; kernel_rfl), trivial⟩ (by intro d; kernel_rfl)


/-! impl.SketchOk -/
def impl_SketchOk_s122 : t39 × t6 → Option (t39 × t6 ⊕ Bool ⊕ t42)
  | ((a, b, c, d, e, f, g), h, i, j, k) => bif decide (k < j) then ix k i.length (lx k i.length ((impl_within (gx i k 0, 0, 1000000000)).bind fun l => bif !l then some (.inr (.inl false)) else some (.inl ((a, b, c, d, e, f, g), w64 (h + (gx i k 0)), i, j, w64 (k + 1))))) else some (.inr (.inr ((a, b, c, d, e, f, g), h)))
def impl_SketchOk_n122 : NEnt := ⟨⟨91, [⟨1, .box, cc13⟩, ⟨3, .one, [.dat kI]⟩, ⟨51, .one, [.own true kI]⟩, ⟨52, .one, [.dat kI]⟩, ⟨53, .one, [.dat kI]⟩]⟩, [(.ret, ⟨91, [⟨2, .one, [.dat .bool]⟩]⟩), (.exit 0, ⟨91, [⟨1, .box, cc13⟩, ⟨3, .one, [.dat kI]⟩]⟩)], lp impl_SketchOk_s122⟩
def impl_SketchOk_s250 : t39 × t6 → Option (t39 × t6 ⊕ Bool ⊕ t42)
  | ((a, b, c, d, e, f, g), h, i, j, k) => bif decide (k < j) then ix k i.length (bif decide ((gx i k 0) > 17) then some (.inr (.inl false)) else some (.inl ((a, b, c, d, e, f, g), h, i, j, w64 (k + 1)))) else some (.inr (.inr ((a, b, c, d, e, f, g), h)))
def impl_SketchOk_n250 : NEnt := ⟨⟨91, [⟨1, .box, cc13⟩, ⟨3, .one, [.dat kI]⟩, ⟨65, .one, [.dat (.list kI)]⟩, ⟨66, .one, [.dat kI]⟩, ⟨67, .one, [.dat kI]⟩]⟩, [(.ret, ⟨91, [⟨2, .one, [.dat .bool]⟩]⟩), (.exit 2, ⟨91, [⟨1, .box, cc13⟩, ⟨3, .one, [.dat kI]⟩]⟩)], lp impl_SketchOk_s250⟩
def impl_SketchOk : t39 → Option Bool
  | (a, b, c, d, e, f, g) => bif (ln e) != 8 then some false else bif (ln f) != 8 then some false else bif (ln g) != 2 then some false else chk (decide (0 < g.length)) (bif (ln (List.getD g 0 [])) != 4 then some false else chk (decide (1 < g.length)) (bif (ln (List.getD g 1 [])) != 4 then some false else (impl_counts (a, b, c, d, e, f, g)).bind fun h => chk (fits (h.length + [a, b, c, d].length) 8) (bx (lp impl_SketchOk_s122 ((a, b, c, d, e, f, g), 0, h ++ [a, b, c, d], ln (h ++ [a, b, c, d]), 0)) (fun i => some i) fun ((i, j, k, l, m, n, o), p) => bx (lp impl_SketchOk_s250 ((i, j, k, l, m, n, o), p, n, ln n, 0)) (fun q => some q) fun ((q, r, s, t, u, v, w), x) => bif q == 0 then some (x == 0) else bif decide (s ≤ t) then some (decide (t ≤ 1000000)) else some false)))
def impl_SketchOk_e : FEnt := ⟨89, [.tmp 2], [], [(.agg, cc13)], ⟨91, [⟨2, .one, [.dat .bool]⟩]⟩, impl_SketchOk⟩
theorem impl_SketchOk_ok : FnOk Tryz.prog 171 impl_SketchOk_e := fnOk_mk (tb := [(250, impl_SketchOk_n250), (122, impl_SketchOk_n122)]) (c := (Tryz.f171.body).getD .skip) mixed Tryz.func171 (bC impl_counts_ok (bC impl_within_ok bN)) (by kernel_rfl) (by kernel_rfl) (by kernel_rfl) ⟨nodeLoop (by kernel_rfl) impl_SketchOk_s250 (by kernel_rfl) (by intro d; kernel_rfl), nodeLoop (by kernel_rfl) impl_SketchOk_s122 (by kernel_rfl) (by intro d; kernel_rfl), trivial⟩ (by intro d; kernel_rfl)


/-! impl.EntryOk -/
def impl_EntryOk : t50 → Option Bool
  | (a, b, c, d, e, f, g, h, i, j) => (impl_within (a, 0, 4)).bind fun k => bif k then (impl_within (b, 0, 20)).bind fun l => bif l then (impl_SetOk c).bind fun m => bif m then bif decide ((ln c) > 0) then (impl_SketchOk (d, e, f, g, h, i, j)).bind fun n => some n else some false else some false else some false else some false
def impl_EntryOk_e : FEnt := ⟨27, [.tmp 2], [], [(.agg, cc11)], ⟨29, [⟨2, .one, [.dat .bool]⟩]⟩, impl_EntryOk⟩
theorem impl_EntryOk_ok : FnOk Tryz.prog 109 impl_EntryOk_e := fnOk_mk (tb := []) (c := (Tryz.f109.body).getD .skip) mixed Tryz.func109 (bC impl_within_ok (bC impl_SetOk_ok (bC impl_SketchOk_ok bN))) (by kernel_rfl) (by kernel_rfl) (by kernel_rfl) trivial (by intro d; kernel_rfl)


/-! impl.SetApart -/
def impl_SetApart_s14950 : List (Int × Int) × (Int × Int) × List (Int × Int) × t23 → Option (List (Int × Int) × (Int × Int) × List (Int × Int) × t23 ⊕ Bool ⊕ t30)
  | (a, (b, c), d, e, f, g, h, i) => bif decide (i < h) then ix i g.length ((some (gx g i (0, 0))).bind fun (j, k) => bif decide (b ≤ k) then bif decide (j ≤ c) then some (.inr (.inl false)) else some (.inl (a, (b, c), d, e, f, g, h, w64 (i + 1))) else some (.inl (a, (b, c), d, e, f, g, h, w64 (i + 1)))) else some (.inr (.inr (a, d, e, f)))
def impl_SetApart_n14950 : NEnt := ⟨⟨47, [⟨1, .one, [.dat kk10]⟩, ⟨6, .box, cc28⟩, ⟨17, .one, [.dat kk10]⟩, ⟨18, .one, [.dat kI]⟩, ⟨19, .one, [.dat kI]⟩, ⟨23, .one, [.dat kk10]⟩, ⟨24, .one, [.dat kI]⟩, ⟨25, .one, [.dat kI]⟩]⟩, [(.ret, ⟨47, [⟨4, .one, [.dat .bool]⟩]⟩), (.exit 2, ⟨47, [⟨1, .one, [.dat kk10]⟩, ⟨17, .one, [.dat kk10]⟩, ⟨18, .one, [.dat kI]⟩, ⟨19, .one, [.dat kI]⟩]⟩)], lp impl_SetApart_s14950⟩
def impl_SetApart_s58 : t30 → Option (t30 ⊕ Bool ⊕ Unit)
  | (a, b, c, d) => bif decide (d < c) then ix d b.length ((some (gx b d (0, 0))).bind fun (e, f) => bx (lp impl_SetApart_s14950 (a, (e, f), b, c, d, a, ln a, 0)) (fun g => some (.inr (.inl g))) fun (g, h, i, j) => some (.inl (g, h, i, w64 (j + 1)))) else some (.inr (.inr ()))
def impl_SetApart_n58 : NEnt := ⟨⟨47, [⟨1, .one, [.dat kk10]⟩, ⟨17, .one, [.dat kk10]⟩, ⟨18, .one, [.dat kI]⟩, ⟨19, .one, [.dat kI]⟩]⟩, [(.ret, ⟨47, [⟨4, .one, [.dat .bool]⟩]⟩), (.exit 0, ⟨47, []⟩)], lp impl_SetApart_s58⟩
def impl_SetApart : t17 → Option Bool
  | (a, b) => (impl_SetOk a).bind fun c => bif !c then some false else (impl_SetOk b).bind fun d => bif !d then some false else bx (lp impl_SetApart_s58 (b, a, ln a, 0)) (fun e => some e) fun _ => some true
def impl_SetApart_e : FEnt := ⟨43, [.tmp 4], [], [(.one, [.dat kk10]), (.one, [.dat kk10])], ⟨47, [⟨4, .one, [.dat .bool]⟩]⟩, impl_SetApart⟩
theorem impl_SetApart_ok : FnOk Tryz.prog 170 impl_SetApart_e := fnOk_mk (tb := [(14950, impl_SetApart_n14950), (58, impl_SetApart_n58)]) (c := (Tryz.f170.body).getD .skip) mixed Tryz.func170 (bC impl_SetOk_ok bN) (by kernel_rfl) (by kernel_rfl) (by kernel_rfl) ⟨nodeLoop (by kernel_rfl) impl_SetApart_s14950 (by kernel_rfl) (by intro d; kernel_rfl), nodeLoop (by kernel_rfl) impl_SetApart_s58 (by kernel_rfl) (by intro d; kernel_rfl), trivial⟩ (by intro d; kernel_rfl)


/-! impl.apart -/
def impl_apart_s13518 : List t50 × t50 × List t50 × Int × Int × t60 → Option (List t50 × t50 × List t50 × Int × Int × t60 ⊕ Bool ⊕ t80)
  | (a, (b, c, d, e, f, g, h, i, j, k), l, m, n, o, p, q) => bif decide (q < p) then ix q o.length ((some (gx o q (0, 0, [], 0, 0, 0, 0, [], [], []))).bind fun (r, s, t, u, v, w, x, y, z, a1) => (impl_SetApart (d, t)).bind fun b1 => bif !b1 then some (.inr (.inl false)) else some (.inl (a, (b, c, d, e, f, g, h, i, j, k), l, m, n, o, p, w64 (q + 1)))) else some (.inr (.inr (a, l, m, n)))
def impl_apart_n13518 : NEnt := ⟨⟨35, [⟨0, .one, [.dat kk4]⟩, ⟨4, .box, cc11⟩, ⟨7, .one, [.dat kk4]⟩, ⟨8, .one, [.dat kI]⟩, ⟨9, .one, [.dat kI]⟩, ⟨19, .one, [.dat kk4]⟩, ⟨20, .one, [.dat kI]⟩, ⟨21, .one, [.dat kI]⟩]⟩, [(.ret, ⟨35, [⟨2, .one, [.dat .bool]⟩]⟩), (.exit 2, ⟨35, [⟨0, .one, [.dat kk4]⟩, ⟨7, .one, [.dat kk4]⟩, ⟨8, .one, [.dat kI]⟩, ⟨9, .one, [.dat kI]⟩]⟩)], lp impl_apart_s13518⟩
def impl_apart_s26 : t80 → Option (t80 ⊕ Bool ⊕ Unit)
  | (a, b, c, d) => bif decide (d < c) then ix d b.length ((some (gx b d (0, 0, [], 0, 0, 0, 0, [], [], []))).bind fun (e, f, g, h, i, j, k, l, m, n) => (impl_EntryOk (e, f, g, h, i, j, k, l, m, n)).bind fun o => bif !o then some (.inr (.inl false)) else g0 d (chk (decide ((0 ≤ d.toNat) ∧ (d.toNat ≤ a.length))) ((some (ln (List.take d.toNat a))).bind fun p => bx (lp impl_apart_s13518 (a, (e, f, g, h, i, j, k, l, m, n), b, c, d, List.take d.toNat a, p, 0)) (fun q => some (.inr (.inl q))) fun (q, r, s, t) => some (.inl (q, r, s, w64 (t + 1)))))) else some (.inr (.inr ()))
def impl_apart_n26 : NEnt := ⟨⟨35, [⟨0, .one, [.dat kk4]⟩, ⟨7, .one, [.dat kk4]⟩, ⟨8, .one, [.dat kI]⟩, ⟨9, .one, [.dat kI]⟩]⟩, [(.ret, ⟨35, [⟨2, .one, [.dat .bool]⟩]⟩), (.exit 0, ⟨35, []⟩)], lp impl_apart_s26⟩
def impl_apart : List t50 → Option Bool
  | a => bx (lp impl_apart_s26 (a, a, ln a, 0)) (fun b => some b) fun _ => some true
def impl_apart_e : FEnt := ⟨33, [.tmp 2], [], [(.one, [.dat kk4])], ⟨35, [⟨2, .one, [.dat .bool]⟩]⟩, impl_apart⟩
theorem impl_apart_ok : FnOk Tryz.prog 107 impl_apart_e := fnOk_mk (tb := [(13518, impl_apart_n13518), (26, impl_apart_n26)]) (c := (Tryz.f107.body).getD .skip) mixed Tryz.func107 (bC impl_EntryOk_ok (bC impl_SetApart_ok bN)) (by kernel_rfl) (by kernel_rfl) (by kernel_rfl) ⟨nodeLoop (by kernel_rfl) impl_apart_s13518 (by kernel_rfl) (by intro d; kernel_rfl), nodeLoop (by kernel_rfl) impl_apart_s26 (by kernel_rfl) (by intro d; kernel_rfl), trivial⟩ (by intro d; kernel_rfl)


/-! impl.RowOk -/
def impl_RowOk : List t50 → Option Bool
  | a => (some (decide ((ln a) ≤ 24))).bind fun b => bif b then (impl_apart a).bind fun c => some c else some false
def impl_RowOk_e : FEnt := ⟨12, [.tmp 2], [], [(.agg, [.dat kk4])], ⟨14, [⟨2, .one, [.dat .bool]⟩]⟩, impl_RowOk⟩
theorem impl_RowOk_ok : FnOk Tryz.prog 48 impl_RowOk_e := fnOk_mk (tb := []) (c := (Tryz.f48.body).getD .skip) mixed Tryz.func48 (bC impl_apart_ok bN) (by kernel_rfl) (by kernel_rfl) (by kernel_rfl) trivial (by intro d; kernel_rfl)


/-! impl.copySet -/
def impl_copySet : List (Int × Int) → Option (List (Int × Int))
  | a => chk (fits a.length 16) (some a)
def impl_copySet_e : FEnt := ⟨5, [.tmp 2], [], [(.one, [.dat kk10])], ⟨7, [⟨2, .one, cc25⟩]⟩, impl_copySet⟩
theorem impl_copySet_ok : FnOk Tryz.prog 174 impl_copySet_e := fnOk_mk (tb := []) (c := (Tryz.f174.body).getD .skip) mixed Tryz.func174 bN (by kernel_rfl) (by kernel_rfl) (by kernel_rfl) trivial (by intro d; kernel_rfl)


/-! impl.union -/
def impl_union_s250 : List (Int × Int) × List (Int × Int) × t12 → Option (List (Int × Int) × List (Int × Int) × t12 ⊕ List (Int × Int))
  | (a, b, (_, _, _), c, d) => bif decide (d < c) then ix d a.length (lx d a.length ((some (gx a d (0, 0))).bind fun (e, f) => bif decide ((ln b) > 0) then ix (w64 ((ln b) - 1)) b.length (lx (w64 ((ln b) - 1)) b.length ((some (gx b (w64 ((ln b) - 1)) (0, 0))).bind fun (g, h) => bif decide (e ≤ (w64 (h + 1))) then ix (w64 ((ln b) - 1)) b.length (lx (w64 ((ln b) - 1)) b.length ((some (gx b (w64 ((ln b) - 1)) (0, 0))).bind fun (i, j) => ix (w64 ((ln b) - 1)) b.length (lx (w64 ((ln b) - 1)) b.length ((some (sx b (w64 ((ln b) - 1)) ((gx b (w64 ((ln b) - 1)) (0, 0)).1, if f > j then f else j))).bind fun k => some (.inl (a, k, ((), (), ()), c, w64 (d + 1))))))) else chk (fits (b.length + [(e, f)].length) 16) (some (.inl (a, b ++ [(e, f)], ((), (), ()), c, w64 (d + 1)))))) else chk (fits (b.length + [(e, f)].length) 16) (some (.inl (a, b ++ [(e, f)], ((), (), ()), c, w64 (d + 1)))))) else some (.inr b)
def impl_union_n250 : NEnt := ⟨⟨56, [⟨3, .one, cc25⟩, ⟨4, .one, cc25⟩, ⟨12, .one, [.ref 3 0 [] false false (.pair kI kI)]⟩, ⟨13, .one, [.dat kI]⟩, ⟨14, .one, [.dat kI]⟩]⟩, [(.exit 0, ⟨56, [⟨4, .one, cc25⟩]⟩)], lp impl_union_s250⟩
def impl_union : List (Int × Int) → Option (List (Int × Int))
  | a => (impl_copySet a).bind fun b => (slices_SortFunc (b, ())).bind fun c => (lp impl_union_s250 (c, [], ((), (), ()), ln c, 0)).bind fun d => some d
def impl_union_e : FEnt := ⟨54, [.tmp 2], [], [(.one, [.dat kk10])], ⟨56, [⟨2, .one, cc25⟩]⟩, impl_union⟩
theorem impl_union_ok : FnOk Tryz.prog 137 impl_union_e := fnOk_mk (tb := [(250, impl_union_n250)]) (c := (Tryz.f137.body).getD .skip) mixed Tryz.func137 (bC impl_copySet_ok (bC slices_SortFunc_ok bN)) (by kernel_rfl) (by kernel_rfl) (by kernel_rfl) ⟨nodeLoop (by kernel_rfl) impl_union_s250 (by kernel_rfl) (by intro d; kernel_rfl), trivial⟩ (by intro d; kernel_rfl)


/-! impl.idsOf -/
def impl_idsOf_s58 : List (Int × Int) × t60 → Option (List (Int × Int) × t60 ⊕ List (Int × Int))
  | (a, b, c, d) => bif decide (d < c) then ix d b.length ((some (gx b d (0, 0, [], 0, 0, 0, 0, [], [], []))).bind fun (e, f, g, h, i, j, k, l, m, n) => chk (fits (a.length + g.length) 16) (some (.inl (a ++ g, b, c, w64 (d + 1))))) else some (.inr a)
def impl_idsOf_n58 : NEnt := ⟨⟨21, [⟨3, .one, cc25⟩, ⟨6, .one, [.dat kk4]⟩, ⟨7, .one, [.dat kI]⟩, ⟨8, .one, [.dat kI]⟩]⟩, [(.exit 0, ⟨21, [⟨3, .one, cc25⟩]⟩)], lp impl_idsOf_s58⟩
def impl_idsOf : List t50 → Option (List (Int × Int))
  | a => (lp impl_idsOf_s58 ([], a, ln a, 0)).bind fun b => (impl_union b).bind fun c => some c
def impl_idsOf_e : FEnt := ⟨19, [.tmp 2], [], [(.one, [.dat kk4])], ⟨21, [⟨2, .one, cc25⟩]⟩, impl_idsOf⟩
theorem impl_idsOf_ok : FnOk Tryz.prog 133 impl_idsOf_e := fnOk_mk (tb := [(58, impl_idsOf_n58)]) (c := (Tryz.f133.body).getD .skip) mixed Tryz.func133 (bC impl_union_ok bN) (by kernel_rfl) (by kernel_rfl) (by kernel_rfl) ⟨nodeLoop (by kernel_rfl) impl_idsOf_s58 (by kernel_rfl) (by intro d; kernel_rfl), trivial⟩ (by intro d; kernel_rfl)


/-! impl.RowIds -/
def impl_RowIds : List t50 → Option (List (Int × Int))
  | a => (impl_RowOk a).bind fun b => bif !b then some [] else (impl_idsOf a).bind fun c => some c
def impl_RowIds_e : FEnt := ⟨9, [.tmp 2], [], [(.agg, [.dat kk4])], ⟨11, [⟨2, .one, cc25⟩]⟩, impl_RowIds⟩
theorem impl_RowIds_ok : FnOk Tryz.prog 186 impl_RowIds_e := fnOk_mk (tb := []) (c := (Tryz.f186.body).getD .skip) mixed Tryz.func186 (bC impl_RowOk_ok (bC impl_idsOf_ok bN)) (by kernel_rfl) (by kernel_rfl) (by kernel_rfl) trivial (by intro d; kernel_rfl)


/-! impl.IdOf -/
def impl_IdOf : Int × Int → Option Int
  | (a, b) => (impl_within (a, 0, 2)).bind fun c => bif !c then some (-1) else (impl_within (b, 1, 60)).bind fun d => bif !d then some (-1) else some (w64 ((w64 (100 * a)) + b))
def impl_IdOf_e : FEnt := ⟨17, [.tmp 4], [], [(.one, [.dat kI]), (.one, [.dat kI])], ⟨21, [⟨4, .one, [.dat kI]⟩]⟩, impl_IdOf⟩
theorem impl_IdOf_ok : FnOk Tryz.prog 135 impl_IdOf_e := fnOk_mk (tb := []) (c := (Tryz.f135.body).getD .skip) mixed Tryz.func135 (bC impl_within_ok bN) (by kernel_rfl) (by kernel_rfl) (by kernel_rfl) trivial (by intro d; kernel_rfl)


/-! impl.TurnOk -/
def impl_TurnOk : Int × Bool × List Int → Option Bool
  | (a, b, c) => (impl_within (a, 0, 2)).bind fun d => bif d then (impl_allWithin (c, 3, 0, 1000)).bind fun e => some e else some false
def impl_TurnOk_e : FEnt := ⟨11, [.tmp 2], [], [(.agg, cc21)], ⟨13, [⟨2, .one, [.dat .bool]⟩]⟩, impl_TurnOk⟩
theorem impl_TurnOk_ok : FnOk Tryz.prog 187 impl_TurnOk_e := fnOk_mk (tb := []) (c := (Tryz.f187.body).getD .skip) mixed Tryz.func187 (bC impl_within_ok (bC impl_allWithin_ok bN)) (by kernel_rfl) (by kernel_rfl) (by kernel_rfl) trivial (by intro d; kernel_rfl)


/-! impl.ahead -/
def impl_ahead : t50 × t50 → Option Bool
  | ((a, b, c, d, e, f, g, h, i, j), k, l, m, n, o, p, q, r, s, t) => bif decide (a < k) then some true else bif a == k then some (decide (b < l)) else some false
def impl_ahead_e : FEnt := ⟨24, [.tmp 4], [], [(.agg, cc11), (.agg, cc11)], ⟨28, [⟨4, .one, [.dat .bool]⟩]⟩, impl_ahead⟩
theorem impl_ahead_ok : FnOk Tryz.prog 188 impl_ahead_e := fnOk_mk (tb := []) (c := (Tryz.f188.body).getD .skip) mixed Tryz.func188 bN (by kernel_rfl) (by kernel_rfl) (by kernel_rfl) trivial (by intro d; kernel_rfl)


/-! impl.partsOk -/
def impl_partsOk_s29902 : t120 × Int × List t23 × Int × Int × Unit × List (List (List t50)) × Int × t64 × List (List t50) × Int × Bool × t66 → Option (t120 × Int × List t23 × Int × Int × Unit × List (List (List t50)) × Int × t64 × List (List t50) × Int × Bool × t66 ⊕ Bool ⊕ t120 × List t23 × Int × t103)
  | ((a, b, c, d, e, f, g, h, i, j, k, l, m, n, o, p), q, r, s, t, _, u, v, (w, _), x, y, z, a1, b1, c1) => bif decide (c1 < b1) then ix c1 a1.length ((some (gx a1 c1 [])).bind fun d1 => (impl_RowOk d1).bind fun e1 => bif !e1 then some (.inr (.inl false)) else (impl_RowIds d1).bind fun f1 => (impl_IdOf (q, 1)).bind fun g1 => (impl_IdOf (q, 60)).bind fun h1 => (impl_allIn (f1, g1, h1)).bind fun i1 => bif !i1 then some (.inr (.inl false)) else some (.inl ((a, b, c, d, e, f, g, h, i, j, k, l, m, n, o, p), q, r, s, t, (), u, v, (w, ()), x, y, z, a1, b1, w64 (c1 + 1)))) else some (.inr (.inr ((a, b, c, d, e, f, g, h, i, j, k, l, m, n, o, p), r, s, t, (), u, v, (w, ()), x, y, z)))
def impl_partsOk_n29902 : NEnt := ⟨⟨128, [⟨1, .box, cc5⟩, ⟨3, .one, [.dat kI]⟩, ⟨46, .one, [.dat kk6]⟩, ⟨47, .one, [.dat kI]⟩, ⟨48, .one, [.dat kI]⟩, ⟨60, .one, [.bptr 1 11]⟩, ⟨61, .one, [.dat kk0]⟩, ⟨62, .one, [.dat kI]⟩, ⟨63, .one, [.pim [kk2] 0]⟩, ⟨64, .one, [.dat kk2]⟩, ⟨65, .one, [.dat kI]⟩, ⟨66, .one, [.dat .bool]⟩, ⟨72, .one, [.dat kk2]⟩, ⟨73, .one, [.dat kI]⟩, ⟨74, .one, [.dat kI]⟩]⟩, [(.ret, ⟨128, [⟨2, .one, [.dat .bool]⟩]⟩), (.exit 2, ⟨128, [⟨1, .box, cc5⟩, ⟨46, .one, [.dat kk6]⟩, ⟨47, .one, [.dat kI]⟩, ⟨48, .one, [.dat kI]⟩, ⟨60, .one, [.bptr 1 11]⟩, ⟨61, .one, [.dat kk0]⟩, ⟨62, .one, [.dat kI]⟩, ⟨63, .one, [.pim [kk2] 0]⟩, ⟨64, .one, [.dat kk2]⟩, ⟨65, .one, [.dat kI]⟩, ⟨66, .one, [.dat .bool]⟩]⟩)], lp impl_partsOk_s29902⟩
def impl_partsOk_s58 : t120 × t38 → Option (t120 × t38 ⊕ Bool ⊕ t120)
  | ((a, b, c, d, e, f, g, h, i, j, k, l, m, n, o, p), q, r, s) => bif decide (s < r) then ix s q.length ((some (gx q s (0, 0, [], 0, 0))).bind fun (t, u, v, w, x) => (impl_SeatOk ((t, u, v, w, x), a)).bind fun y => bif !y then some (.inr (.inl false)) else ix s l.length ((some (gx l s [])).bind fun z => bif (ln z) != 2 then some (.inr (.inl false)) else ix s l.length ((some (gx l s [])).bind fun a1 => bx (lp impl_partsOk_s29902 ((a, b, c, d, e, f, g, h, i, j, k, l, m, n, o, p), s, q, r, s, (), l, s, (gx l s [], ()), z, ln z, (ln z) != 2, a1, ln a1, 0)) (fun b1 => some (.inr (.inl b1))) fun ((b1, c1, d1, e1, f1, g1, h1, i1, j1, k1, l1, m1, n1, o1, p1, q1), r1, s1, t1, _, u1, v1, (w1, _), x1, y1, z1) => some (.inl ((b1, c1, d1, e1, f1, g1, h1, i1, j1, k1, l1, m1, n1, o1, p1, q1), r1, s1, w64 (t1 + 1)))))) else some (.inr (.inr (a, b, c, d, e, f, g, h, i, j, k, l, m, n, o, p)))
def impl_partsOk_n58 : NEnt := ⟨⟨128, [⟨1, .box, cc5⟩, ⟨46, .one, [.dat kk6]⟩, ⟨47, .one, [.dat kI]⟩, ⟨48, .one, [.dat kI]⟩]⟩, [(.ret, ⟨128, [⟨2, .one, [.dat .bool]⟩]⟩), (.exit 0, ⟨128, [⟨1, .box, cc5⟩]⟩)], lp impl_partsOk_s58⟩
def impl_partsOk_s122 : t120 × t24 → Option (t120 × t24 ⊕ Bool ⊕ t120)
  | ((a, b, c, d, e, f, g, h, i, j, k, l, m, n, o, p), q, r, s) => bif decide (s < r) then ix s q.length ((some (gx q s (0, false, []))).bind fun (t, u, v) => (impl_TurnOk (t, u, v)).bind fun w => bif !w then some (.inr (.inl false)) else some (.inl ((a, b, c, d, e, f, g, h, i, j, k, l, m, n, o, p), q, r, w64 (s + 1)))) else some (.inr (.inr (a, b, c, d, e, f, g, h, i, j, k, l, m, n, o, p)))
def impl_partsOk_n122 : NEnt := ⟨⟨128, [⟨1, .box, cc5⟩, ⟨94, .one, [.dat kk8]⟩, ⟨95, .one, [.dat kI]⟩, ⟨96, .one, [.dat kI]⟩]⟩, [(.ret, ⟨128, [⟨2, .one, [.dat .bool]⟩]⟩), (.exit 4, ⟨128, [⟨1, .box, cc5⟩]⟩)], lp impl_partsOk_s122⟩
def impl_partsOk_s250 : t120 × t60 → Option (t120 × t60 ⊕ Bool ⊕ Unit)
  | ((a, b, c, d, e, f, g, h, i, j, k, l, m, n, o, p), q, r, s) => bif decide (s < r) then ix s q.length ((some (gx q s (0, 0, [], 0, 0, 0, 0, [], [], []))).bind fun (t, u, v, w, x, y, z, a1, b1, c1) => bif decide (s > 0) then ix (w64 (s - 1)) o.length ((some (gx o (w64 (s - 1)) (0, 0, [], 0, 0, 0, 0, [], [], []))).bind fun (d1, e1, f1, g1, h1, i1, j1, k1, l1, m1) => (impl_ahead ((d1, e1, f1, g1, h1, i1, j1, k1, l1, m1), t, u, v, w, x, y, z, a1, b1, c1)).bind fun n1 => bif !n1 then some (.inr (.inl false)) else some (.inl ((a, b, c, d, e, f, g, h, i, j, k, l, m, n, o, p), q, r, w64 (s + 1)))) else some (.inl ((a, b, c, d, e, f, g, h, i, j, k, l, m, n, o, p), q, r, w64 (s + 1)))) else some (.inr (.inr ()))
def impl_partsOk_n250 : NEnt := ⟨⟨128, [⟨1, .box, cc5⟩, ⟨105, .one, [.dat kk4]⟩, ⟨106, .one, [.dat kI]⟩, ⟨107, .one, [.dat kI]⟩]⟩, [(.ret, ⟨128, [⟨2, .one, [.dat .bool]⟩]⟩), (.exit 6, ⟨128, []⟩)], lp impl_partsOk_s250⟩
def impl_partsOk : t120 → Option Bool
  | (a, b, c, d, e, f, g, h, i, j, k, l, m, n, o, p) => (impl_ConfOk (a, b, c, d, e, f, g, h)).bind fun q => bif !q then some false else (impl_within (i, 0, 100000)).bind fun r => bif !r then some false else bif (ln k) != 3 then some false else bif (ln l) != 3 then some false else bif (ln m) != 2 then some false else (impl_within (n, 0, 1000)).bind fun s => bif !s then some false else bx (lp impl_partsOk_s58 ((a, b, c, d, e, f, g, h, i, j, k, l, m, n, o, p), k, ln k, 0)) (fun t => some t) fun (t, u, v, w, x, y, z, a1, b1, c1, d1, e1, f1, g1, h1, i1) => bx (lp impl_partsOk_s122 ((t, u, v, w, x, y, z, a1, b1, c1, d1, e1, f1, g1, h1, i1), f1, ln f1, 0)) (fun j1 => some j1) fun (j1, k1, l1, m1, n1, o1, p1, q1, r1, s1, t1, u1, v1, w1, x1, y1) => bx (lp impl_partsOk_s250 ((j1, k1, l1, m1, n1, o1, p1, q1, r1, s1, t1, u1, v1, w1, x1, y1), x1, ln x1, 0)) (fun z1 => some z1) fun _ => some true
def impl_partsOk_e : FEnt := ⟨126, [.tmp 2], [], [(.agg, cc5)], ⟨128, [⟨2, .one, [.dat .bool]⟩]⟩, impl_partsOk⟩
theorem impl_partsOk_ok : FnOk Tryz.prog 132 impl_partsOk_e := fnOk_mk (tb := [(250, impl_partsOk_n250), (122, impl_partsOk_n122), (29902, impl_partsOk_n29902), (58, impl_partsOk_n58)]) (c := (Tryz.f132.body).getD .skip) mixed Tryz.func132 (bC impl_ConfOk_ok (bC impl_within_ok (bC impl_SeatOk_ok (bC impl_RowOk_ok (bC impl_RowIds_ok (bC impl_IdOf_ok (bC impl_allIn_ok (bC impl_TurnOk_ok (bC impl_ahead_ok bN))))))))) (by kernel_rfl) (by kernel_rfl) (by kernel_rfl) ⟨nodeLoop (by kernel_rfl) impl_partsOk_s250 (by kernel_rfl) (by intro d; kernel_rfl), nodeLoop (by kernel_rfl) impl_partsOk_s122 (by kernel_rfl) (by intro d; kernel_rfl), nodeLoop (by kernel_rfl) impl_partsOk_s29902 (by kernel_rfl) (by intro d; kernel_rfl), nodeLoop (by kernel_rfl) impl_partsOk_s58 (by kernel_rfl) (by intro d; kernel_rfl), trivial⟩ (by intro d; kernel_rfl)


/-! impl.rowEntries -/
def impl_rowEntries_s14950 : List t50 × t92 → Option (List t50 × t92 ⊕ List t50 × t71)
  | (a, b, c, d, e, f, g) => bif decide (g < f) then ix g e.length ((some (gx e g [])).bind fun h => chk (fits (a.length + h.length) 144) ((some (a ++ h)).bind fun i => some (.inl (i, b, c, d, e, f, w64 (g + 1))))) else some (.inr (a, b, c, d))
def impl_rowEntries_n14950 : NEnt := ⟨⟨30, [⟨3, .one, [.own false kk5]⟩, ⟨9, .one, [.dat kk0]⟩, ⟨10, .one, [.dat kI]⟩, ⟨11, .one, [.dat kI]⟩, ⟨15, .one, [.dat kk2]⟩, ⟨16, .one, [.dat kI]⟩, ⟨17, .one, [.dat kI]⟩]⟩, [(.exit 2, ⟨30, [⟨3, .one, [.own false kk5]⟩, ⟨9, .one, [.dat kk0]⟩, ⟨10, .one, [.dat kI]⟩, ⟨11, .one, [.dat kI]⟩]⟩)], lp impl_rowEntries_s14950⟩
def impl_rowEntries_s58 : List t50 × t71 → Option (List t50 × t71 ⊕ List t50)
  | (a, b, c, d) => bif decide (d < c) then ix d b.length ((some (gx b d [])).bind fun e => (lp impl_rowEntries_s14950 (a, b, c, d, e, ln e, 0)).bind fun (f, g, h, i) => some (.inl (f, g, h, w64 (i + 1)))) else some (.inr a)
def impl_rowEntries_n58 : NEnt := ⟨⟨30, [⟨3, .one, [.own false kk5]⟩, ⟨9, .one, [.dat kk0]⟩, ⟨10, .one, [.dat kI]⟩, ⟨11, .one, [.dat kI]⟩]⟩, [(.exit 0, ⟨30, [⟨3, .one, [.own false kk5]⟩]⟩)], lp impl_rowEntries_s58⟩
def impl_rowEntries : t120 → Option (List t50)
  | (a, b, c, d, e, f, g, h, i, j, k, l, m, n, o, p) => (lp impl_rowEntries_s58 ([], l, ln l, 0)).bind fun q => some q
def impl_rowEntries_e : FEnt := ⟨28, [.tmp 2], [], [(.agg, cc5)], ⟨30, [⟨2, .one, [.own false kk5]⟩]⟩, impl_rowEntries⟩
theorem impl_rowEntries_ok : FnOk Tryz.prog 73 impl_rowEntries_e := fnOk_mk (tb := [(14950, impl_rowEntries_n14950), (58, impl_rowEntries_n58)]) (c := (Tryz.f73.body).getD .skip) mixed Tryz.func73 bN (by kernel_rfl) (by kernel_rfl) (by kernel_rfl) ⟨nodeLoop (by kernel_rfl) impl_rowEntries_s14950 (by kernel_rfl) (by intro d; kernel_rfl), nodeLoop (by kernel_rfl) impl_rowEntries_s58 (by kernel_rfl) (by intro d; kernel_rfl), trivial⟩ (by intro d; kernel_rfl)


/-! impl.added -/
def impl_added_s58 : List t50 × t65 → Option (List t50 × t65 ⊕ List t50)
  | (a, b, c, d) => bif decide (d < c) then ix d b.length ((some (gx b d (0, 0, 0, [], 0, 0, 0, 0, [], [], []))).bind fun (e, f, g, h, i, j, k, l, m, n, o) => (some [(f, g, h, i, j, k, l, m, n, o)]).bind fun p => chk (fits (a.length + p.length) 144) ((some (a ++ p)).bind fun q => some (.inl (q, b, c, w64 (d + 1))))) else some (.inr a)
def impl_added_n58 : NEnt := ⟨⟨25, [⟨3, .one, [.own false kk5]⟩, ⟨10, .one, [.dat kk1]⟩, ⟨11, .one, [.dat kI]⟩, ⟨12, .one, [.dat kI]⟩]⟩, [(.exit 0, ⟨25, [⟨3, .one, [.own false kk5]⟩]⟩)], lp impl_added_s58⟩
def impl_added : t120 → Option (List t50)
  | (a, b, c, d, e, f, g, h, i, j, k, l, m, n, o, p) => chk (fits o.length 144) ((lp impl_added_s58 (o, p, ln p, 0)).bind fun q => some q)
def impl_added_e : FEnt := ⟨23, [.tmp 2], [], [(.agg, cc5)], ⟨25, [⟨2, .one, [.own false kk5]⟩]⟩, impl_added⟩
theorem impl_added_ok : FnOk Tryz.prog 74 impl_added_e := fnOk_mk (tb := [(58, impl_added_n58)]) (c := (Tryz.f74.body).getD .skip) mixed Tryz.func74 bN (by kernel_rfl) (by kernel_rfl) (by kernel_rfl) ⟨nodeLoop (by kernel_rfl) impl_added_s58 (by kernel_rfl) (by intro d; kernel_rfl), trivial⟩ (by intro d; kernel_rfl)


/-! impl.SetHas$1 -/
def impl_SetHas_1 : (Int × Int) × Int × Unit → Option Bool
  | ((a, b), c, _) => (impl_within (c, a, b)).bind fun d => some d
def impl_SetHas_1_e : FEnt := ⟨10, [.tmp 3], [], [(.agg, cc28), (.one, [.pim [kI] 0])], ⟨14, [⟨3, .one, [.dat .bool]⟩]⟩, impl_SetHas_1⟩
theorem impl_SetHas_1_ok : FnOk Tryz.prog 190 impl_SetHas_1_e := fnOk_mk (tb := []) (c := (Tryz.f190.body).getD .skip) mixed Tryz.func190 (bC impl_within_ok bN) (by kernel_rfl) (by kernel_rfl) (by kernel_rfl) trivial (by intro d; kernel_rfl)


/-! impl.Span] -/
def impl_Span__s26 : List (Int × Int) × ((Int × Unit) × Unit) × Int × Int → Option (List (Int × Int) × ((Int × Unit) × Unit) × Int × Int ⊕ Int ⊕ Unit)
  | (a, ((b, _), _), c, d) => bif decide (d < c) then ix d a.length ((some (gx a d (0, 0))).bind fun (e, f) => (impl_SetHas_1 ((e, f), b, ())).bind fun g => bif g then some (.inr (.inl d)) else some (.inl (a, ((b, ()), ()), c, w64 (d + 1)))) else some (.inr (.inr ()))
def impl_Span__n26 : NEnt := ⟨⟨23, [⟨0, .one, [.dat kk10]⟩, ⟨1, .one, cc26⟩, ⟨7, .one, [.dat kI]⟩, ⟨8, .one, [.dat kI]⟩]⟩, [(.ret, ⟨23, [⟨4, .one, [.dat kI]⟩]⟩), (.exit 0, ⟨23, []⟩)], lp impl_Span__s26⟩
def impl_Span_ : List (Int × Int) × (Int × Unit) × Unit → Option Int
  | (a, (b, _), _) => bx (lp impl_Span__s26 (a, ((b, ()), ()), ln a, 0)) (fun c => some c) fun _ => some (-1)
def impl_Span__e : FEnt := ⟨19, [.tmp 4], [], [(.one, [.dat kk10]), (.one, cc26)], ⟨23, [⟨4, .one, [.dat kI]⟩]⟩, impl_Span_⟩
theorem impl_Span__ok : FnOk Tryz.prog 206 impl_Span__e := fnOk_mk (tb := [(26, impl_Span__n26)]) (c := (Tryz.f206.body).getD .skip) mixed Tryz.func206 (bC impl_SetHas_1_ok bN) (by kernel_rfl) (by kernel_rfl) (by kernel_rfl) ⟨nodeLoop (by kernel_rfl) impl_Span__s26 (by kernel_rfl) (by intro d; kernel_rfl), trivial⟩ (by intro d; kernel_rfl)


/-! impl.Span] -/
def impl_Span__189 : List (Int × Int) × (Int × Unit) × Unit → Option Bool
  | (a, (b, _), _) => (impl_Span_ (a, (b, ()), ())).bind fun c => some (decide (c ≥ 0))
def impl_Span__189_e : FEnt := ⟨9, [.tmp 4], [], [(.one, [.dat kk10]), (.one, cc26)], ⟨13, [⟨4, .one, [.dat .bool]⟩]⟩, impl_Span__189⟩
theorem impl_Span__189_ok : FnOk Tryz.prog 189 impl_Span__189_e := fnOk_mk (tb := []) (c := (Tryz.f189.body).getD .skip) mixed Tryz.func189 (bC impl_Span__ok bN) (by kernel_rfl) (by kernel_rfl) (by kernel_rfl) trivial (by intro d; kernel_rfl)


/-! impl.SetHas -/
def impl_SetHas : t0 → Option Bool
  | (a, b) => (impl_Span__189 (a, (b, ()), ())).bind fun c => some c
def impl_SetHas_e : FEnt := ⟨8, [.tmp 4], [], [(.one, [.dat kk10]), (.one, [.dat kI])], ⟨12, [⟨4, .one, [.dat .bool]⟩]⟩, impl_SetHas⟩
theorem impl_SetHas_ok : FnOk Tryz.prog 134 impl_SetHas_e := fnOk_mk (tb := []) (c := (Tryz.f134.body).getD .skip) mixed Tryz.func134 (bC impl_Span__189_ok bN) (by kernel_rfl) (by kernel_rfl) (by kernel_rfl) trivial (by intro d; kernel_rfl)


/-! impl.Span] -/
def impl_Span__136_s58 : t30 → Option (t30 ⊕ Bool ⊕ Unit)
  | (a, b, c, d) => bif decide (d < c) then ix d a.length ((some (gx a d (0, 0))).bind fun (e, f) => ix d b.length ((some (gx b d (0, 0))).bind fun (g, h) => bif !((e == g) && ((f == h) && true)) then some (.inr (.inl false)) else some (.inl (a, b, c, w64 (d + 1))))) else some (.inr (.inr ()))
def impl_Span__136_n58 : NEnt := ⟨⟨30, [⟨0, .one, [.dat kk10]⟩, ⟨1, .one, [.dat kk10]⟩, ⟨12, .one, [.dat kI]⟩, ⟨13, .one, [.dat kI]⟩]⟩, [(.ret, ⟨30, [⟨4, .one, [.dat .bool]⟩]⟩), (.exit 0, ⟨30, []⟩)], lp impl_Span__136_s58⟩
def impl_Span__136 : t17 → Option Bool
  | (a, b) => bif (ln a) != (ln b) then some false else bx (lp impl_Span__136_s58 (a, b, ln a, 0)) (fun c => some c) fun _ => some true
def impl_Span__136_e : FEnt := ⟨26, [.tmp 4], [], [(.one, [.dat kk10]), (.one, [.dat kk10])], ⟨30, [⟨4, .one, [.dat .bool]⟩]⟩, impl_Span__136⟩
theorem impl_Span__136_ok : FnOk Tryz.prog 136 impl_Span__136_e := fnOk_mk (tb := [(58, impl_Span__136_n58)]) (c := (Tryz.f136.body).getD .skip) mixed Tryz.func136 bN (by kernel_rfl) (by kernel_rfl) (by kernel_rfl) ⟨nodeLoop (by kernel_rfl) impl_Span__136_s58 (by kernel_rfl) (by intro d; kernel_rfl), trivial⟩ (by intro d; kernel_rfl)


/-! impl.told -/
def impl_told_s58 : Int × Int × Int × t65 → Option (Int × Int × Int × t65 ⊕ Int)
  | (a, b, c, d, e, f) => bif decide (f < e) then ix f d.length ((some (gx d f (0, 0, 0, [], 0, 0, 0, 0, [], [], []))).bind fun (g, h, i, j, k, l, m, n, o, p, q) => bif h == a then bif i == b then some (.inl (a, b, w64 (c + 1), d, e, w64 (f + 1))) else some (.inl (a, b, c, d, e, w64 (f + 1))) else some (.inl (a, b, c, d, e, w64 (f + 1)))) else some (.inr c)
def impl_told_n58 : NEnt := ⟨⟨38, [⟨1, .one, [.dat kI]⟩, ⟨2, .one, [.dat kI]⟩, ⟨7, .one, [.dat kI]⟩, ⟨10, .one, [.dat kk1]⟩, ⟨11, .one, [.dat kI]⟩, ⟨12, .one, [.dat kI]⟩]⟩, [(.exit 0, ⟨38, [⟨7, .one, [.dat kI]⟩]⟩)], lp impl_told_s58⟩
def impl_told : t65 → Option Int
  | (a, b, c) => (lp impl_told_s58 (b, c, 0, a, ln a, 0)).bind fun d => some d
def impl_told_e : FEnt := ⟨32, [.tmp 6], [], [(.one, [.dat kk1]), (.one, [.dat kI]), (.one, [.dat kI])], ⟨38, [⟨6, .one, [.dat kI]⟩]⟩, impl_told⟩
theorem impl_told_ok : FnOk Tryz.prog 138 impl_told_e := fnOk_mk (tb := [(58, impl_told_n58)]) (c := (Tryz.f138.body).getD .skip) mixed Tryz.func138 bN (by kernel_rfl) (by kernel_rfl) (by kernel_rfl) ⟨nodeLoop (by kernel_rfl) impl_told_s58 (by kernel_rfl) (by intro d; kernel_rfl), trivial⟩ (by intro d; kernel_rfl)


/-! impl.HouseOk -/
def impl_HouseOk_s256410 : t120 × List (Int × Int) × List (Int × Int) × Int × t23 × Int × Int × t38 → Option (t120 × List (Int × Int) × List (Int × Int) × Int × t23 × Int × Int × t38 ⊕ t120 × List (Int × Int) × List (Int × Int) × Int × t23 × Int × t38)
  | ((a, b, c, d, e, f, g, h, i, j, k, l, m, n, o, p), q, r, s, (t, u, v, w, x), y, z, a1, b1, c1) => bif decide (z ≤ 60) then (impl_IdOf (s, z)).bind fun d1 => (impl_SetHas (r, d1)).bind fun e1 => bif e1 then some (.inl ((a, b, c, d, e, f, g, h, i, j, k, l, m, n, o, p), q, r, s, (t, u, v, w, x), w64 (y + 1), w64 (z + 1), a1, b1, c1)) else some (.inl ((a, b, c, d, e, f, g, h, i, j, k, l, m, n, o, p), q, r, s, (t, u, v, w, x), y, w64 (z + 1), a1, b1, c1)) else some (.inr ((a, b, c, d, e, f, g, h, i, j, k, l, m, n, o, p), q, r, s, (t, u, v, w, x), y, a1, b1, c1))
def impl_HouseOk_n256410 : NEnt := ⟨⟨107, [⟨1, .box, cc5⟩, ⟨3, .one, cc25⟩, ⟨4, .one, cc25⟩, ⟨5, .one, [.dat kI]⟩, ⟨6, .box, cc20⟩, ⟨7, .one, [.dat kI]⟩, ⟨8, .one, [.dat kI]⟩, ⟨29, .one, [.dat kk6]⟩, ⟨30, .one, [.dat kI]⟩, ⟨31, .one, [.dat kI]⟩]⟩, [(.exit 2, ⟨107, [⟨1, .box, cc5⟩, ⟨3, .one, cc25⟩, ⟨4, .one, cc25⟩, ⟨5, .one, [.dat kI]⟩, ⟨6, .box, cc20⟩, ⟨7, .one, [.dat kI]⟩, ⟨29, .one, [.dat kk6]⟩, ⟨30, .one, [.dat kI]⟩, ⟨31, .one, [.dat kI]⟩]⟩)], lp impl_HouseOk_s256410⟩
def impl_HouseOk_s512830 : t120 × List (Int × Int) × List (Int × Int) × Int × List t23 × t23 → Option (t120 × List (Int × Int) × List (Int × Int) × Int × List t23 × t23 ⊕ t120 × t52)
  | ((a, b, c, d, e, f, g, h, i, j, k, l, m, n, o, p), q, r, s, t, u, v, w, x, y) => bif decide (y < x) then ix y w.length ((some (gx w y (0, 0))).bind fun (z, a1) => (impl_IdOf (s, z)).bind fun b1 => (impl_IdOf (s, a1)).bind fun c1 => chk (fits (q.length + [(b1, c1)].length) 16) (some (.inl ((a, b, c, d, e, f, g, h, i, j, k, l, m, n, o, p), q ++ [(b1, c1)], r, s, t, u, v, w, x, w64 (y + 1))))) else some (.inr ((a, b, c, d, e, f, g, h, i, j, k, l, m, n, o, p), q, r, t, u, v))
def impl_HouseOk_n512830 : NEnt := ⟨⟨107, [⟨1, .box, cc5⟩, ⟨3, .one, cc25⟩, ⟨4, .one, cc25⟩, ⟨5, .one, [.dat kI]⟩, ⟨29, .one, [.dat kk6]⟩, ⟨30, .one, [.dat kI]⟩, ⟨31, .one, [.dat kI]⟩, ⟨52, .one, [.dat kk10]⟩, ⟨53, .one, [.dat kI]⟩, ⟨54, .one, [.dat kI]⟩]⟩, [(.exit 4, ⟨107, [⟨1, .box, cc5⟩, ⟨3, .one, cc25⟩, ⟨4, .one, cc25⟩, ⟨29, .one, [.dat kk6]⟩, ⟨30, .one, [.dat kI]⟩, ⟨31, .one, [.dat kI]⟩]⟩)], lp impl_HouseOk_s512830⟩
def impl_HouseOk_s250 : t120 × t52 → Option (t120 × t52 ⊕ Bool ⊕ t120 × List (Int × Int))
  | ((a, b, c, d, e, f, g, h, i, j, k, l, m, n, o, p), q, r, s, t, u) => bif decide (u < t) then ix u s.length ((some (gx s u (0, 0, [], 0, 0))).bind fun (v, w, x, y, z) => (lp impl_HouseOk_s256410 ((a, b, c, d, e, f, g, h, i, j, k, l, m, n, o, p), q, r, u, (v, w, x, y, z), 0, 1, s, t, u)).bind fun ((a1, b1, c1, d1, e1, f1, g1, h1, i1, j1, k1, l1, m1, n1, o1, p1), q1, r1, s1, (t1, u1, v1, w1, x1), y1, z1, a2, b2) => bif y1 != w1 then some (.inr (.inl false)) else (lp impl_HouseOk_s512830 ((a1, b1, c1, d1, e1, f1, g1, h1, i1, j1, k1, l1, m1, n1, o1, p1), q1, r1, s1, z1, a2, b2, v1, ln v1, 0)).bind fun ((c2, d2, e2, f2, g2, h2, i2, j2, k2, l2, m2, n2, o2, p2, q2, r2), s2, t2, u2, v2, w2) => some (.inl ((c2, d2, e2, f2, g2, h2, i2, j2, k2, l2, m2, n2, o2, p2, q2, r2), s2, t2, u2, v2, w64 (w2 + 1)))) else some (.inr (.inr ((a, b, c, d, e, f, g, h, i, j, k, l, m, n, o, p), q)))
def impl_HouseOk_n250 : NEnt := ⟨⟨107, [⟨1, .box, cc5⟩, ⟨3, .one, cc25⟩, ⟨4, .one, cc25⟩, ⟨29, .one, [.dat kk6]⟩, ⟨30, .one, [.dat kI]⟩, ⟨31, .one, [.dat kI]⟩]⟩, [(.ret, ⟨107, [⟨2, .one, [.dat .bool]⟩]⟩), (.exit 0, ⟨107, [⟨1, .box, cc5⟩, ⟨3, .one, cc25⟩]⟩)], lp impl_HouseOk_s250⟩
def impl_HouseOk_s1018 : t120 × t65 → Option (t120 × t65 ⊕ Bool ⊕ Unit)
  | ((a, b, c, d, e, f, g, h, i, j, k, l, m, n, o, p), q, r, s) => bif decide (s < r) then ix s q.length ((some (gx q s (0, 0, 0, [], 0, 0, 0, 0, [], [], []))).bind fun (t, u, v, w, x, y, z, a1, b1, c1, d1) => g0 s (chk (decide ((0 ≤ s.toNat) ∧ (s.toNat ≤ p.length))) ((impl_told (List.take s.toNat p, u, v)).bind fun e1 => bif t != e1 then some (.inr (.inl false)) else some (.inl ((a, b, c, d, e, f, g, h, i, j, k, l, m, n, o, p), q, r, w64 (s + 1)))))) else some (.inr (.inr ()))
def impl_HouseOk_n1018 : NEnt := ⟨⟨107, [⟨1, .box, cc5⟩, ⟨83, .one, [.dat kk1]⟩, ⟨84, .one, [.dat kI]⟩, ⟨85, .one, [.dat kI]⟩]⟩, [(.ret, ⟨107, [⟨2, .one, [.dat .bool]⟩]⟩), (.exit 6, ⟨107, []⟩)], lp impl_HouseOk_s1018⟩
def impl_HouseOk : t120 → Option Bool
  | (a, b, c, d, e, f, g, h, i, j, k, l, m, n, o, p) => (impl_partsOk (a, b, c, d, e, f, g, h, i, j, k, l, m, n, o, p)).bind fun q => bif !q then some false else (impl_rowEntries (a, b, c, d, e, f, g, h, i, j, k, l, m, n, o, p)).bind fun r => (impl_added (a, b, c, d, e, f, g, h, i, j, k, l, m, n, o, p)).bind fun s => chk (fits (r.length + s.length) 144) ((some (r ++ s)).bind fun t => (impl_apart t).bind fun u => bif !u then some false else (impl_added (a, b, c, d, e, f, g, h, i, j, k, l, m, n, o, p)).bind fun v => (impl_idsOf v).bind fun w => bx (lp impl_HouseOk_s250 ((a, b, c, d, e, f, g, h, i, j, k, l, m, n, o, p), [], w, k, ln k, 0)) (fun x => some x) fun ((x, y, z, a1, b1, c1, d1, e1, f1, g1, h1, i1, j1, k1, l1, m1), n1) => (impl_union n1).bind fun o1 => (impl_rowEntries (x, y, z, a1, b1, c1, d1, e1, f1, g1, h1, i1, j1, k1, l1, m1)).bind fun p1 => (impl_added (x, y, z, a1, b1, c1, d1, e1, f1, g1, h1, i1, j1, k1, l1, m1)).bind fun q1 => chk (fits (p1.length + q1.length) 144) ((some (p1 ++ q1)).bind fun r1 => (impl_idsOf r1).bind fun s1 => (impl_Span__136 (o1, s1)).bind fun t1 => bif !t1 then some false else bx (lp impl_HouseOk_s1018 ((x, y, z, a1, b1, c1, d1, e1, f1, g1, h1, i1, j1, k1, l1, m1), m1, ln m1, 0)) (fun u1 => some u1) fun _ => some true))
def impl_HouseOk_e : FEnt := ⟨105, [.tmp 2], [], [(.agg, cc5)], ⟨107, [⟨2, .one, [.dat .bool]⟩]⟩, impl_HouseOk⟩
theorem impl_HouseOk_ok : FnOk Tryz.prog 66 impl_HouseOk_e := fnOk_mk (tb := [(1018, impl_HouseOk_n1018), (512830, impl_HouseOk_n512830), (256410, impl_HouseOk_n256410), (250, impl_HouseOk_n250)]) (c := (Tryz.f66.body).getD .skip) mixed Tryz.func66 (bC impl_partsOk_ok (bC impl_rowEntries_ok (bC impl_added_ok (bC impl_apart_ok (bC impl_idsOf_ok (bC impl_IdOf_ok (bC impl_SetHas_ok (bC impl_union_ok (bC impl_Span__136_ok (bC impl_told_ok bN)))))))))) (by kernel_rfl) (by kernel_rfl) (by kernel_rfl) ⟨nodeLoop (by kernel_rfl) impl_HouseOk_s1018 (by kernel_rfl) (by intro d; kernel_rfl), nodeLoop (by kernel_rfl) impl_HouseOk_s512830 (by kernel_rfl) (by intro d; kernel_rfl), nodeLoop (by kernel_rfl) impl_HouseOk_s256410 (by kernel_rfl) (by intro d; kernel_rfl), nodeLoop (by kernel_rfl) impl_HouseOk_s250 (by kernel_rfl) (by intro d; kernel_rfl), trivial⟩ (by intro d; kernel_rfl)


/-! impl.SketchNew -/
def impl_SketchNew : Unit → Option t39
  | _ => some (0, 0, 0, 0, List.replicate 8 0, List.replicate 8 0, [List.replicate 4 0, List.replicate 4 0])
def impl_SketchNew_e : FEnt := ⟨7, [.cell 0 true 7], [], [], ⟨7, [⟨0, .box, cc12⟩]⟩, impl_SketchNew⟩
theorem impl_SketchNew_ok : FnOk Tryz.prog 152 impl_SketchNew_e := fnOk_mk (tb := []) (c := (Tryz.f152.body).getD .skip) mixed Tryz.func152 bN (by kernel_rfl) (by kernel_rfl) (by kernel_rfl) trivial (by intro d; kernel_rfl)


/-! impl.copySketch -/
def impl_copySketch_s506 : t73 → Option (t73 ⊕ t59)
  | ((a, b, c, d, _, _, _), (e, f, g, h, i, j, k), l, m, n) => bif decide (n < m) then ix n l.length ((impl_copyInts (gx l n [])).bind fun o => chk (fits (k.length + [o].length) 24) (some (.inl ((a, b, c, d, (), (), ()), (e, f, g, h, i, j, k ++ [o]), l, m, w64 (n + 1))))) else some (.inr ((a, b, c, d, (), (), ()), e, f, g, h, i, j, k))
def impl_copySketch_n506 : NEnt := ⟨⟨34, [⟨2, .box, cc19⟩, ⟨3, .box, cc12⟩, ⟨17, .one, [.dat kk11]⟩, ⟨18, .one, [.dat kI]⟩, ⟨19, .one, [.dat kI]⟩]⟩, [(.exit 0, ⟨34, [⟨2, .box, cc19⟩, ⟨3, .box, cc12⟩]⟩)], lp impl_copySketch_s506⟩
def impl_copySketch : t39 → Option t39
  | (a, b, c, d, e, f, g) => (impl_copyInts e).bind fun h => (impl_copyInts f).bind fun i => (lp impl_copySketch_s506 ((0, 0, 0, 0, (), (), ()), (a, b, c, d, h, i, []), g, ln g, 0)).bind fun ((j, k, l, m, _, _, _), n, o, p, q, r, s, t) => some (n, o, p, q, r, s, t)
def impl_copySketch_e : FEnt := ⟨32, [.cell 2 true 7], [], [(.agg, cc13)], ⟨34, [⟨2, .box, cc12⟩]⟩, impl_copySketch⟩
theorem impl_copySketch_ok : FnOk Tryz.prog 175 impl_copySketch_e := fnOk_mk (tb := [(506, impl_copySketch_n506)]) (c := (Tryz.f175.body).getD .skip) mixed Tryz.func175 (bC impl_copyInts_ok bN) (by kernel_rfl) (by kernel_rfl) (by kernel_rfl) ⟨nodeLoop (by kernel_rfl) impl_copySketch_s506 (by kernel_rfl) (by intro d; kernel_rfl), trivial⟩ (by intro d; kernel_rfl)


/-! impl.copyEntry -/
def impl_copyEntry : t50 → Option t50
  | (a, b, c, d, e, f, g, h, i, j) => (impl_copySet c).bind fun k => (impl_copySketch (d, e, f, g, h, i, j)).bind fun (l, m, n, o, p, q, r) => some (a, b, k, l, m, n, o, p, q, r)
def impl_copyEntry_e : FEnt := ⟨12, [.cell 2 true 10], [], [(.agg, cc11)], ⟨14, [⟨2, .box, cc8⟩]⟩, impl_copyEntry⟩
theorem impl_copyEntry_ok : FnOk Tryz.prog 111 impl_copyEntry_e := fnOk_mk (tb := []) (c := (Tryz.f111.body).getD .skip) mixed Tryz.func111 (bC impl_copySet_ok (bC impl_copySketch_ok bN)) (by kernel_rfl) (by kernel_rfl) (by kernel_rfl) trivial (by intro d; kernel_rfl)


/-! impl.limited -/
def impl_limited : Int × Int × Int → Option Int
  | (a, b, c) => some (if c < if b > a then b else a then c else if b > a then b else a)
def impl_limited_e : FEnt := ⟨12, [.tmp 6], [], [(.one, [.dat kI]), (.one, [.dat kI]), (.one, [.dat kI])], ⟨18, [⟨6, .one, [.dat kI]⟩]⟩, impl_limited⟩
theorem impl_limited_ok : FnOk Tryz.prog 210 impl_limited_e := fnOk_mk (tb := []) (c := (Tryz.f210.body).getD .skip) mixed Tryz.func210 bN (by kernel_rfl) (by kernel_rfl) (by kernel_rfl) trivial (by intro d; kernel_rfl)


/-! impl.Add -/
def impl_Add : Int × Int → Option Int
  | (a, b) => (impl_limited (a, 0, 1000000000)).bind fun c => (impl_limited (b, 0, 1000000000)).bind fun d => (some (if (1000000000 : Int) < IntKind.wrap IntKind.i64 (c + d) then (1000000000 : Int) else IntKind.wrap IntKind.i64 (c + d))).bind fun e => some e
def impl_Add_e : FEnt := ⟨11, [.tmp 4], [], [(.one, [.dat kI]), (.one, [.dat kI])], ⟨15, [⟨4, .one, [.dat kI]⟩]⟩, impl_Add⟩
theorem impl_Add_ok : FnOk Tryz.prog 201 impl_Add_e := fnOk_mk (tb := []) (c := (Tryz.f201.body).getD .skip) mixed Tryz.func201 (bC impl_limited_ok bN) (by kernel_rfl) (by kernel_rfl) (by kernel_rfl) trivial (by intro d; kernel_rfl)


/-! impl.Merge -/
def impl_Merge_s2042 : t39 × t26 × t48 → Option (t39 × t26 × t48 ⊕ t39 × t59)
  | ((a, b, c, d, e, f, g), (h, i, j, k, _, _, _), (l, m, n, o, p, q, r), s, t, u) => bif decide (u < t) then ix u s.length (ix u p.length (lx u p.length ((impl_Add (gx p u 0, gx s u 0)).bind fun v => ix u p.length (lx u p.length (some (.inl ((a, b, c, d, e, f, g), (h, i, j, k, (), (), ()), (l, m, n, o, sx p u v, q, r), s, t, w64 (u + 1)))))))) else some (.inr ((a, b, c, d, e, f, g), (h, i, j, k, (), (), ()), l, m, n, o, p, q, r))
def impl_Merge_n2042 : NEnt := ⟨⟨141, [⟨3, .box, cc13⟩, ⟨4, .box, cc19⟩, ⟨6, .box, cc12⟩, ⟨63, .one, [.dat (.list kI)]⟩, ⟨64, .one, [.dat kI]⟩, ⟨65, .one, [.dat kI]⟩]⟩, [(.exit 0, ⟨141, [⟨3, .box, cc13⟩, ⟨4, .box, cc19⟩, ⟨6, .box, cc12⟩]⟩)], lp impl_Merge_s2042⟩
def impl_Merge_s4090 : t39 × t26 × t48 → Option (t39 × t26 × t48 ⊕ t39 × t59)
  | ((a, b, c, d, e, f, g), (h, i, j, k, _, _, _), (l, m, n, o, p, q, r), s, t, u) => bif decide (u < t) then ix u s.length (ix u q.length (lx u q.length ((some (if List.getD s (Int.toNat u) (0 : Int) > List.getD q (Int.toNat u) (0 : Int) then List.getD s (Int.toNat u) (0 : Int) else List.getD q (Int.toNat u) (0 : Int))).bind fun v => ix u q.length (lx u q.length (some (.inl ((a, b, c, d, e, f, g), (h, i, j, k, (), (), ()), (l, m, n, o, p, sx q u v, r), s, t, w64 (u + 1)))))))) else some (.inr ((a, b, c, d, e, f, g), (h, i, j, k, (), (), ()), l, m, n, o, p, q, r))
def impl_Merge_n4090 : NEnt := ⟨⟨141, [⟨3, .box, cc13⟩, ⟨4, .box, cc19⟩, ⟨6, .box, cc12⟩, ⟨83, .one, [.dat (.list kI)]⟩, ⟨84, .one, [.dat kI]⟩, ⟨85, .one, [.dat kI]⟩]⟩, [(.exit 2, ⟨141, [⟨3, .box, cc13⟩, ⟨4, .box, cc19⟩, ⟨6, .box, cc12⟩]⟩)], lp impl_Merge_s4090⟩
def impl_Merge_s2095718 : t26 × t39 × Int × List (List Int) × Int × t6 → Option (t26 × t39 × Int × List (List Int) × Int × t6 ⊕ t73)
  | ((a, b, c, d, _, _, _), (e, f, g, h, i, j, k), l, m, n, o, p, q, r) => bif decide (r < q) then ix r p.length (ix l k.length (lx l k.length (ix l k.length (lx l k.length (ix r (gx k l []).length (lx r (gx k l []).length ((impl_Add (gx (gx k l []) r 0, gx p r 0)).bind fun s => ix r (gx k l []).length (lx r (gx k l []).length (some (.inl ((a, b, c, d, (), (), ()), (e, f, g, h, i, j, sx k l (sx (gx k l []) r s)), l, m, n, o, p, q, w64 (r + 1)))))))))))) else some (.inr ((a, b, c, d, (), (), ()), (e, f, g, h, i, j, k), m, n, o))
def impl_Merge_n2095718 : NEnt := ⟨⟨141, [⟨4, .box, cc19⟩, ⟨6, .box, cc12⟩, ⟨11, .one, [.dat kI]⟩, ⟨103, .one, [.dat kk11]⟩, ⟨104, .one, [.dat kI]⟩, ⟨105, .one, [.dat kI]⟩, ⟨110, .one, [.dat (.list kI)]⟩, ⟨111, .one, [.dat kI]⟩, ⟨112, .one, [.dat kI]⟩]⟩, [(.exit 6, ⟨141, [⟨4, .box, cc19⟩, ⟨6, .box, cc12⟩, ⟨103, .one, [.dat kk11]⟩, ⟨104, .one, [.dat kI]⟩, ⟨105, .one, [.dat kI]⟩]⟩)], lp impl_Merge_s2095718⟩
def impl_Merge_s8186 : t73 → Option (t73 ⊕ t59)
  | ((a, b, c, d, _, _, _), (e, f, g, h, i, j, k), l, m, n) => bif decide (n < m) then ix n l.length ((lp impl_Merge_s2095718 ((a, b, c, d, (), (), ()), (e, f, g, h, i, j, k), n, l, m, n, gx l n [], ln (gx l n []), 0)).bind fun ((o, p, q, r, _, _, _), (s, t, u, v, w, x, y), z, a1, b1) => some (.inl ((o, p, q, r, (), (), ()), (s, t, u, v, w, x, y), z, a1, w64 (b1 + 1)))) else some (.inr ((a, b, c, d, (), (), ()), e, f, g, h, i, j, k))
def impl_Merge_n8186 : NEnt := ⟨⟨141, [⟨4, .box, cc19⟩, ⟨6, .box, cc12⟩, ⟨103, .one, [.dat kk11]⟩, ⟨104, .one, [.dat kI]⟩, ⟨105, .one, [.dat kI]⟩]⟩, [(.exit 4, ⟨141, [⟨4, .box, cc19⟩, ⟨6, .box, cc12⟩]⟩)], lp impl_Merge_s8186⟩
def impl_Merge_l31 : t39 × t39 × t59 → Option (t39 × Bool)
  | ((a, b, c, d, e, f, g), (h, i, j, k, l, m, n), (o, p, q, r, _, _, _), s, t, u, v, w, x, y) => (impl_Add (a, h)).bind fun z => (impl_Add (b, i)).bind fun a1 => (lp impl_Merge_s2042 ((h, i, j, k, l, m, n), (o, p, q, r, (), (), ()), (z, a1, u, if k > d then k else d, w, x, y), l, ln l, 0)).bind fun ((b1, c1, d1, e1, f1, g1, h1), (i1, j1, k1, l1, _, _, _), m1, n1, o1, p1, q1, r1, s1) => (lp impl_Merge_s4090 ((b1, c1, d1, e1, f1, g1, h1), (i1, j1, k1, l1, (), (), ()), (m1, n1, o1, p1, q1, r1, s1), g1, ln g1, 0)).bind fun ((t1, u1, v1, w1, x1, y1, z1), (a2, b2, c2, d2, _, _, _), e2, f2, g2, h2, i2, j2, k2) => (lp impl_Merge_s8186 ((a2, b2, c2, d2, (), (), ()), (e2, f2, g2, h2, i2, j2, k2), z1, ln z1, 0)).bind fun ((l2, m2, n2, o2, _, _, _), p2, q2, r2, s2, t2, u2, v2) => some ((p2, q2, r2, s2, t2, u2, v2), true)
def impl_Merge_n31 : NEnt := ⟨⟨141, [⟨2, .box, cc13⟩, ⟨3, .box, cc13⟩, ⟨4, .box, cc19⟩, ⟨6, .box, cc12⟩]⟩, [(.ret, ⟨141, [⟨4, .box, cc12⟩, ⟨5, .one, [.dat .bool]⟩]⟩)], impl_Merge_l31⟩
def impl_Merge : t39 × t39 → Option (t39 × Bool)
  | ((a, b, c, d, e, f, g), h, i, j, k, l, m, n) => (impl_SketchOk (a, b, c, d, e, f, g)).bind fun o => bif !o then some ((0, 0, 0, 0, [], [], []), false) else (impl_SketchOk (h, i, j, k, l, m, n)).bind fun p => bif !p then some ((0, 0, 0, 0, [], [], []), false) else (impl_copySketch (a, b, c, d, e, f, g)).bind fun (q, r, s, t, u, v, w) => bif a == 0 then (impl_Merge_l31 ((a, b, c, d, e, f, g), (h, i, j, k, l, m, n), (0, 0, 0, 0, (), (), ()), q, r, j, t, u, v, w)).bind fun ((x, y, z, a1, b1, c1, d1), e1) => some ((x, y, z, a1, b1, c1, d1), e1) else bif decide (h > 0) then bif decide (j < c) then (impl_Merge_l31 ((a, b, c, d, e, f, g), (h, i, j, k, l, m, n), (0, 0, 0, 0, (), (), ()), q, r, j, t, u, v, w)).bind fun ((x, y, z, a1, b1, c1, d1), e1) => some ((x, y, z, a1, b1, c1, d1), e1) else (impl_Merge_l31 ((a, b, c, d, e, f, g), (h, i, j, k, l, m, n), (0, 0, 0, 0, (), (), ()), q, r, s, t, u, v, w)).bind fun ((x, y, z, a1, b1, c1, d1), e1) => some ((x, y, z, a1, b1, c1, d1), e1) else (impl_Merge_l31 ((a, b, c, d, e, f, g), (h, i, j, k, l, m, n), (0, 0, 0, 0, (), (), ()), q, r, s, t, u, v, w)).bind fun ((x, y, z, a1, b1, c1, d1), e1) => some ((x, y, z, a1, b1, c1, d1), e1)
def impl_Merge_e : FEnt := ⟨137, [.cell 4 true 7, .tmp 5], [], [(.agg, cc13), (.agg, cc13)], ⟨141, [⟨4, .box, cc12⟩, ⟨5, .one, [.dat .bool]⟩]⟩, impl_Merge⟩
theorem impl_Merge_ok : FnOk Tryz.prog 173 impl_Merge_e := fnOk_mk (tb := [(2095718, impl_Merge_n2095718), (8186, impl_Merge_n8186), (4090, impl_Merge_n4090), (2042, impl_Merge_n2042), (31, impl_Merge_n31)]) (c := (Tryz.f173.body).getD .skip) mixed Tryz.func173 (bC impl_SketchOk_ok (bC impl_copySketch_ok (bC impl_Add_ok bN))) (by kernel_rfl) (by kernel_rfl) (by kernel_rfl) ⟨nodeLoop (by kernel_rfl) impl_Merge_s2095718 (by kernel_rfl) (by intro d; kernel_rfl), nodeLoop (by kernel_rfl) impl_Merge_s8186 (by kernel_rfl) (by intro d; kernel_rfl), nodeLoop (by kernel_rfl) impl_Merge_s4090 (by kernel_rfl) (by intro d; kernel_rfl), nodeLoop (by kernel_rfl) impl_Merge_s2042 (by kernel_rfl) (by intro d; kernel_rfl), nodeJoin (by kernel_rfl) (by intro d; kernel_rfl), trivial⟩ (by intro d; kernel_rfl)


/-! impl.total -/
def impl_total_s58 : List t50 × (Int × Int × Unit × t26) × t50 × t60 → Option (List t50 × (Int × Int × Unit × t26) × t50 × t60 ⊕ List t50 × (Int × Int × Unit × t26) × t50)
  | (a, (b, c, _, d, e, f, g, _, _, _), (h, i, j, k, l, m, n, o, p, q), r, s, t) => bif decide (t < s) then ix t r.length ((some (gx r t (0, 0, [], 0, 0, 0, 0, [], [], []))).bind fun (u, v, w, x, y, z, a1, b1, c1, d1) => (impl_Merge ((k, l, m, n, o, p, q), x, y, z, a1, b1, c1, d1)).bind fun ((e1, f1, g1, h1, i1, j1, k1), l1) => some (.inl (a, (b, c, (), d, e, f, g, (), (), ()), (h, i, j, e1, f1, g1, h1, i1, j1, k1), r, s, w64 (t + 1)))) else some (.inr (a, (b, c, (), d, e, f, g, (), (), ()), h, i, j, k, l, m, n, o, p, q))
def impl_total_n58 : NEnt := ⟨⟨33, [⟨0, .one, [.dat kk4]⟩, ⟨2, .box, cc16⟩, ⟨3, .box, cc8⟩, ⟨11, .one, [.dat kk4]⟩, ⟨12, .one, [.dat kI]⟩, ⟨13, .one, [.dat kI]⟩]⟩, [(.exit 0, ⟨33, [⟨0, .one, [.dat kk4]⟩, ⟨2, .box, cc16⟩, ⟨3, .box, cc8⟩]⟩)], lp impl_total_s58⟩
def impl_total : List t50 → Option t50
  | a => chk (decide (0 < a.length)) ((some (List.getD a 0 (0, 0, [], 0, 0, 0, 0, [], [], []))).bind fun (b, c, d, e, f, g, h, i, j, k) => (impl_copyEntry (b, c, d, e, f, g, h, i, j, k)).bind fun (l, m, n, o, p, q, r, s, t, u) => chk (decide ((1 ≤ a.length) ∧ (a.length ≤ a.length))) ((some (ln (List.drop 1 a))).bind fun v => (lp impl_total_s58 (a, (0, 0, (), 0, 0, 0, 0, (), (), ()), (l, m, n, o, p, q, r, s, t, u), List.drop 1 a, v, 0)).bind fun (w, (x, y, _, z, a1, b1, c1, _, _, _), d1, e1, f1, g1, h1, i1, j1, k1, l1, m1) => (impl_idsOf w).bind fun n1 => some (d1, e1, n1, g1, h1, i1, j1, k1, l1, m1)))
def impl_total_e : FEnt := ⟨31, [.cell 2 true 10], [], [(.one, [.dat kk4])], ⟨33, [⟨2, .box, cc8⟩]⟩, impl_total⟩
theorem impl_total_ok : FnOk Tryz.prog 153 impl_total_e := fnOk_mk (tb := [(58, impl_total_n58)]) (c := (Tryz.f153.body).getD .skip) mixed Tryz.func153 (bC impl_copyEntry_ok (bC impl_Merge_ok (bC impl_idsOf_ok bN))) (by kernel_rfl) (by kernel_rfl) (by kernel_rfl) ⟨nodeLoop (by kernel_rfl) impl_total_s58 (by kernel_rfl) (by intro d; kernel_rfl), trivial⟩ (by intro d; kernel_rfl)


/-! impl.merged -/
def impl_merged : List t50 → Option (t39 × List (Int × Int))
  | a => bif (ln a) == 0 then (impl_SketchNew ()).bind fun (b, c, d, e, f, g, h) => some ((b, c, d, e, f, g, h), []) else (impl_total a).bind fun (b, c, d, e, f, g, h, i, j, k) => some ((e, f, g, h, i, j, k), d)
def impl_merged_e : FEnt := ⟨15, [.cell 2 true 7, .tmp 3], [], [(.one, [.dat kk4])], ⟨17, [⟨2, .box, cc12⟩, ⟨3, .one, cc25⟩]⟩, impl_merged⟩
theorem impl_merged_ok : FnOk Tryz.prog 89 impl_merged_e := fnOk_mk (tb := []) (c := (Tryz.f89.body).getD .skip) mixed Tryz.func89 (bC impl_SketchNew_ok (bC impl_total_ok bN)) (by kernel_rfl) (by kernel_rfl) (by kernel_rfl) trivial (by intro d; kernel_rfl)


/-! impl.KeyTotal -/
def impl_KeyTotal_s234 : Int × Int × Int × t26 × t80 → Option (Int × Int × Int × t26 × t80 ⊕ t26 × List t50)
  | (a, b, c, (d, e, f, g, _, _, _), h, i, j, k) => bif decide (k < j) then ix k i.length (lx k i.length ((some (gx i k (0, 0, [], 0, 0, 0, 0, [], [], []))).bind fun (l, m, n, o, p, q, r, s, t, u) => bif l == a then (impl_within (m, b, c)).bind fun v => bif v then (some [(l, m, n, o, p, q, r, s, t, u)]).bind fun w => chk (fits (h.length + w.length) 144) ((some (h ++ w)).bind fun x => some (.inl (a, b, c, (d, e, f, g, (), (), ()), x, i, j, w64 (k + 1)))) else some (.inl (a, b, c, (d, e, f, g, (), (), ()), h, i, j, w64 (k + 1))) else some (.inl (a, b, c, (d, e, f, g, (), (), ()), h, i, j, w64 (k + 1))))) else some (.inr ((d, e, f, g, (), (), ()), h))
def impl_KeyTotal_n234 : NEnt := ⟨⟨56, [⟨1, .one, [.dat kI]⟩, ⟨2, .one, [.dat kI]⟩, ⟨3, .one, [.dat kI]⟩, ⟨8, .box, cc19⟩, ⟨10, .one, [.own false kk5]⟩, ⟨18, .one, [.own false kk5]⟩, ⟨19, .one, [.dat kI]⟩, ⟨20, .one, [.dat kI]⟩]⟩, [(.exit 0, ⟨56, [⟨8, .box, cc19⟩, ⟨10, .one, [.own false kk5]⟩]⟩)], lp impl_KeyTotal_s234⟩
def impl_KeyTotal : t123 → Option t42
  | ((a, b, c, d, e, f, g, h, i, j, k, l, m, n, o, p), q, r, s) => (impl_HouseOk (a, b, c, d, e, f, g, h, i, j, k, l, m, n, o, p)).bind fun t => bif t then (impl_added (a, b, c, d, e, f, g, h, i, j, k, l, m, n, o, p)).bind fun u => (lp impl_KeyTotal_s234 (q, r, s, (0, 0, 0, 0, (), (), ()), [], u, ln u, 0)).bind fun ((v, w, x, y, _, _, _), z) => (impl_merged z).bind fun ((a1, b1, c1, d1, e1, f1, g1), h1) => (impl_SetSize h1).bind fun i1 => some ((a1, b1, c1, d1, e1, f1, g1), i1) else (impl_merged []).bind fun ((u, v, w, x, y, z, a1), b1) => (impl_SetSize b1).bind fun c1 => some ((u, v, w, x, y, z, a1), c1)
def impl_KeyTotal_e : FEnt := ⟨48, [.cell 8 true 7, .tmp 9], [], [(.agg, cc5), (.one, [.dat kI]), (.one, [.dat kI]), (.one, [.dat kI])], ⟨56, [⟨8, .box, cc12⟩, ⟨9, .one, [.dat kI]⟩]⟩, impl_KeyTotal⟩
theorem impl_KeyTotal_ok : FnOk Tryz.prog 34 impl_KeyTotal_e := fnOk_mk (tb := [(234, impl_KeyTotal_n234)]) (c := (Tryz.f34.body).getD .skip) mixed Tryz.func34 (bC impl_HouseOk_ok (bC impl_added_ok (bC impl_within_ok (bC impl_merged_ok (bC impl_SetSize_ok bN))))) (by kernel_rfl) (by kernel_rfl) (by kernel_rfl) ⟨nodeLoop (by kernel_rfl) impl_KeyTotal_s234 (by kernel_rfl) (by intro d; kernel_rfl), trivial⟩ (by intro d; kernel_rfl)


/-! laws.eqIntS -/
def laws_eqIntS_s58 : t4 → Option (t4 ⊕ Bool ⊕ Unit)
  | (a, b, c) => bif decide (c < (ln a)) then ix c a.length (ix c b.length (bif (gx a c 0) != (gx b c 0) then some (.inr (.inl false)) else some (.inl (a, b, w64 (c + 1))))) else some (.inr (.inr ()))
def laws_eqIntS_n58 : NEnt := ⟨⟨30, [⟨0, .one, [.dat (.list kI)]⟩, ⟨1, .one, [.dat (.list kI)]⟩, ⟨5, .one, [.dat kI]⟩]⟩, [(.ret, ⟨30, [⟨4, .one, [.dat .bool]⟩]⟩), (.exit 0, ⟨30, []⟩)], lp laws_eqIntS_s58⟩
def laws_eqIntS : List Int × List Int → Option Bool
  | (a, b) => bif (ln a) != (ln b) then some false else bx (lp laws_eqIntS_s58 (a, b, 0)) (fun c => some c) fun _ => some true
def laws_eqIntS_e : FEnt := ⟨26, [.tmp 4], [], [(.one, [.dat (.list kI)]), (.one, [.dat (.list kI)])], ⟨30, [⟨4, .one, [.dat .bool]⟩]⟩, laws_eqIntS⟩
theorem laws_eqIntS_ok : FnOk Tryz.prog 27 laws_eqIntS_e := fnOk_mk (tb := [(58, laws_eqIntS_n58)]) (c := (Tryz.f27.body).getD .skip) mixed Tryz.func27 bN (by kernel_rfl) (by kernel_rfl) (by kernel_rfl) ⟨nodeLoop (by kernel_rfl) laws_eqIntS_s58 (by kernel_rfl) (by intro d; kernel_rfl), trivial⟩ (by intro d; kernel_rfl)


/-! laws.eqIntSS -/
def laws_eqIntSS_s58 : t22 → Option (t22 ⊕ Bool ⊕ Unit)
  | (a, b, c) => bif decide (c < (ln a)) then ix c a.length (ix c b.length ((laws_eqIntS (gx a c [], gx b c [])).bind fun d => bif !d then some (.inr (.inl false)) else some (.inl (a, b, w64 (c + 1))))) else some (.inr (.inr ()))
def laws_eqIntSS_n58 : NEnt := ⟨⟨31, [⟨0, .one, [.dat kk11]⟩, ⟨1, .one, [.dat kk11]⟩, ⟨5, .one, [.dat kI]⟩]⟩, [(.ret, ⟨31, [⟨4, .one, [.dat .bool]⟩]⟩), (.exit 0, ⟨31, []⟩)], lp laws_eqIntSS_s58⟩
def laws_eqIntSS : List (List Int) × List (List Int) → Option Bool
  | (a, b) => bif (ln a) != (ln b) then some false else bx (lp laws_eqIntSS_s58 (a, b, 0)) (fun c => some c) fun _ => some true
def laws_eqIntSS_e : FEnt := ⟨27, [.tmp 4], [], [(.one, [.dat kk11]), (.one, [.dat kk11])], ⟨31, [⟨4, .one, [.dat .bool]⟩]⟩, laws_eqIntSS⟩
theorem laws_eqIntSS_ok : FnOk Tryz.prog 90 laws_eqIntSS_e := fnOk_mk (tb := [(58, laws_eqIntSS_n58)]) (c := (Tryz.f90.body).getD .skip) mixed Tryz.func90 (bC laws_eqIntS_ok bN) (by kernel_rfl) (by kernel_rfl) (by kernel_rfl) ⟨nodeLoop (by kernel_rfl) laws_eqIntSS_s58 (by kernel_rfl) (by intro d; kernel_rfl), trivial⟩ (by intro d; kernel_rfl)


/-! laws.eqSketch -/
def laws_eqSketch : t39 × t39 → Option Bool
  | ((a, b, c, d, e, f, g), h, i, j, k, l, m, n) => bif a != h then some false else bif b != i then some false else bif c != j then some false else bif d != k then some false else (laws_eqIntS (e, l)).bind fun o => bif !o then some false else (laws_eqIntS (f, m)).bind fun p => bif !p then some false else (laws_eqIntSS (g, n)).bind fun q => bif !q then some false else some true
def laws_eqSketch_e : FEnt := ⟨43, [.tmp 4], [], [(.agg, cc13), (.agg, cc13)], ⟨47, [⟨4, .one, [.dat .bool]⟩]⟩, laws_eqSketch⟩
theorem laws_eqSketch_ok : FnOk Tryz.prog 35 laws_eqSketch_e := fnOk_mk (tb := []) (c := (Tryz.f35.body).getD .skip) mixed Tryz.func35 (bC laws_eqIntS_ok (bC laws_eqIntSS_ok bN)) (by kernel_rfl) (by kernel_rfl) (by kernel_rfl) trivial (by intro d; kernel_rfl)


/-! laws.eqConf -/
def laws_eqConf : t33 × t33 → Option Bool
  | ((a, b, c, d, e, f, g, h), i, j, k, l, m, n, o, p) => bif a != i then some false else bif b != j then some false else bif c != k then some false else (laws_eqIntS (d, l)).bind fun q => bif !q then some false else bif e != m then some false else bif f != n then some false else bif g != o then some false else bif h != p then some false else some true
def laws_eqConf_e : FEnt := ⟨46, [.tmp 4], [], [(.agg, cc14), (.agg, cc14)], ⟨50, [⟨4, .one, [.dat .bool]⟩]⟩, laws_eqConf⟩
theorem laws_eqConf_ok : FnOk Tryz.prog 67 laws_eqConf_e := fnOk_mk (tb := []) (c := (Tryz.f67.body).getD .skip) mixed Tryz.func67 (bC laws_eqIntS_ok bN) (by kernel_rfl) (by kernel_rfl) (by kernel_rfl) trivial (by intro d; kernel_rfl)


/-! laws.eqSpan -/
def laws_eqSpan : (Int × Int) × Int × Int → Option Bool
  | ((a, b), c, d) => bif a != c then some false else bif b != d then some false else some true
def laws_eqSpan_e : FEnt := ⟨15, [.tmp 4], [], [(.agg, cc28), (.agg, cc28)], ⟨19, [⟨4, .one, [.dat .bool]⟩]⟩, laws_eqSpan⟩
theorem laws_eqSpan_ok : FnOk Tryz.prog 202 laws_eqSpan_e := fnOk_mk (tb := []) (c := (Tryz.f202.body).getD .skip) mixed Tryz.func202 bN (by kernel_rfl) (by kernel_rfl) (by kernel_rfl) trivial (by intro d; kernel_rfl)


/-! laws.eqSpanS -/
def laws_eqSpanS_s58 : t25 → Option (t25 ⊕ Bool ⊕ Unit)
  | (a, b, c) => bif decide (c < (ln a)) then ix c a.length ((some (gx a c (0, 0))).bind fun (d, e) => ix c b.length ((some (gx b c (0, 0))).bind fun (f, g) => (laws_eqSpan ((d, e), f, g)).bind fun h => bif !h then some (.inr (.inl false)) else some (.inl (a, b, w64 (c + 1))))) else some (.inr (.inr ()))
def laws_eqSpanS_n58 : NEnt := ⟨⟨31, [⟨0, .one, [.dat kk10]⟩, ⟨1, .one, [.dat kk10]⟩, ⟨5, .one, [.dat kI]⟩]⟩, [(.ret, ⟨31, [⟨4, .one, [.dat .bool]⟩]⟩), (.exit 0, ⟨31, []⟩)], lp laws_eqSpanS_s58⟩
def laws_eqSpanS : t17 → Option Bool
  | (a, b) => bif (ln a) != (ln b) then some false else bx (lp laws_eqSpanS_s58 (a, b, 0)) (fun c => some c) fun _ => some true
def laws_eqSpanS_e : FEnt := ⟨27, [.tmp 4], [], [(.one, [.dat kk10]), (.one, [.dat kk10])], ⟨31, [⟨4, .one, [.dat .bool]⟩]⟩, laws_eqSpanS⟩
theorem laws_eqSpanS_ok : FnOk Tryz.prog 176 laws_eqSpanS_e := fnOk_mk (tb := [(58, laws_eqSpanS_n58)]) (c := (Tryz.f176.body).getD .skip) mixed Tryz.func176 (bC laws_eqSpan_ok bN) (by kernel_rfl) (by kernel_rfl) (by kernel_rfl) ⟨nodeLoop (by kernel_rfl) laws_eqSpanS_s58 (by kernel_rfl) (by intro d; kernel_rfl), trivial⟩ (by intro d; kernel_rfl)


/-! laws.eqSeat -/
def laws_eqSeat : t23 × t23 → Option Bool
  | ((a, b, c, d, e), f, g, h, i, j) => bif a != f then some false else bif b != g then some false else (laws_eqSpanS (c, h)).bind fun k => bif !k then some false else bif d != i then some false else bif e != j then some false else some true
def laws_eqSeat_e : FEnt := ⟨31, [.tmp 4], [], [(.agg, cc20), (.agg, cc20)], ⟨35, [⟨4, .one, [.dat .bool]⟩]⟩, laws_eqSeat⟩
theorem laws_eqSeat_ok : FnOk Tryz.prog 139 laws_eqSeat_e := fnOk_mk (tb := []) (c := (Tryz.f139.body).getD .skip) mixed Tryz.func139 (bC laws_eqSpanS_ok bN) (by kernel_rfl) (by kernel_rfl) (by kernel_rfl) trivial (by intro d; kernel_rfl)


/-! laws.eqSeatS -/
def laws_eqSeatS_s58 : List t23 × t35 → Option (List t23 × t35 ⊕ Bool ⊕ Unit)
  | (a, b, c) => bif decide (c < (ln a)) then ix c a.length ((some (gx a c (0, 0, [], 0, 0))).bind fun (d, e, f, g, h) => ix c b.length ((some (gx b c (0, 0, [], 0, 0))).bind fun (i, j, k, l, m) => (laws_eqSeat ((d, e, f, g, h), i, j, k, l, m)).bind fun n => bif !n then some (.inr (.inl false)) else some (.inl (a, b, w64 (c + 1))))) else some (.inr (.inr ()))
def laws_eqSeatS_n58 : NEnt := ⟨⟨31, [⟨0, .one, [.dat kk6]⟩, ⟨1, .one, [.dat kk6]⟩, ⟨5, .one, [.dat kI]⟩]⟩, [(.ret, ⟨31, [⟨4, .one, [.dat .bool]⟩]⟩), (.exit 0, ⟨31, []⟩)], lp laws_eqSeatS_s58⟩
def laws_eqSeatS : List t23 × List t23 → Option Bool
  | (a, b) => bif (ln a) != (ln b) then some false else bx (lp laws_eqSeatS_s58 (a, b, 0)) (fun c => some c) fun _ => some true
def laws_eqSeatS_e : FEnt := ⟨27, [.tmp 4], [], [(.one, [.dat kk6]), (.one, [.dat kk6])], ⟨31, [⟨4, .one, [.dat .bool]⟩]⟩, laws_eqSeatS⟩
theorem laws_eqSeatS_ok : FnOk Tryz.prog 68 laws_eqSeatS_e := fnOk_mk (tb := [(58, laws_eqSeatS_n58)]) (c := (Tryz.f68.body).getD .skip) mixed Tryz.func68 (bC laws_eqSeat_ok bN) (by kernel_rfl) (by kernel_rfl) (by kernel_rfl) ⟨nodeLoop (by kernel_rfl) laws_eqSeatS_s58 (by kernel_rfl) (by intro d; kernel_rfl), trivial⟩ (by intro d; kernel_rfl)


/-! laws.eqEntry -/
def laws_eqEntry : t50 × t50 → Option Bool
  | ((a, b, c, d, e, f, g, h, i, j), k, l, m, n, o, p, q, r, s, t) => bif a != k then some false else bif b != l then some false else (laws_eqSpanS (c, m)).bind fun u => bif !u then some false else (laws_eqSketch ((d, e, f, g, h, i, j), n, o, p, q, r, s, t)).bind fun v => bif !v then some false else some true
def laws_eqEntry_e : FEnt := ⟨27, [.tmp 4], [], [(.agg, cc11), (.agg, cc11)], ⟨31, [⟨4, .one, [.dat .bool]⟩]⟩, laws_eqEntry⟩
theorem laws_eqEntry_ok : FnOk Tryz.prog 112 laws_eqEntry_e := fnOk_mk (tb := []) (c := (Tryz.f112.body).getD .skip) mixed Tryz.func112 (bC laws_eqSpanS_ok (bC laws_eqSketch_ok bN)) (by kernel_rfl) (by kernel_rfl) (by kernel_rfl) trivial (by intro d; kernel_rfl)


/-! laws.eqEntryS -/
def laws_eqEntryS_s58 : List t50 × t56 → Option (List t50 × t56 ⊕ Bool ⊕ Unit)
  | (a, b, c) => (some (decide (c < (ln a)))).bind fun d => bif d then ix c a.length ((some (gx a c (0, 0, [], 0, 0, 0, 0, [], [], []))).bind fun (e, f, g, h, i, j, k, l, m, n) => ix c b.length ((some (gx b c (0, 0, [], 0, 0, 0, 0, [], [], []))).bind fun (o, p, q, r, s, t, u, v, w, x) => (laws_eqEntry ((e, f, g, h, i, j, k, l, m, n), o, p, q, r, s, t, u, v, w, x)).bind fun y => bif !y then some (.inr (.inl false)) else some (.inl (a, b, w64 (c + 1))))) else some (.inr (.inr ()))
def laws_eqEntryS_n58 : NEnt := ⟨⟨31, [⟨0, .one, [.dat kk4]⟩, ⟨1, .one, [.dat kk4]⟩, ⟨5, .one, [.dat kI]⟩]⟩, [(.ret, ⟨31, [⟨4, .one, [.dat .bool]⟩]⟩), (.exit 0, ⟨31, []⟩)], lp laws_eqEntryS_s58⟩
def laws_eqEntryS : List t50 × List t50 → Option Bool
  | (a, b) => (some ((ln a) != (ln b))).bind fun c => bif c then some false else bx (lp laws_eqEntryS_s58 (a, b, 0)) (fun d => some d) fun _ => some true
def laws_eqEntryS_e : FEnt := ⟨27, [.tmp 4], [], [(.one, [.dat kk4]), (.one, [.dat kk4])], ⟨31, [⟨4, .one, [.dat .bool]⟩]⟩, laws_eqEntryS⟩
theorem laws_eqEntryS_ok : FnOk Tryz.prog 51 laws_eqEntryS_e := fnOk_mk (tb := [(58, laws_eqEntryS_n58)]) (c := (Tryz.f51.body).getD .skip) mixed Tryz.func51 (bC laws_eqEntry_ok bN) (by kernel_rfl) (by kernel_rfl) (by kernel_rfl) ⟨nodeLoop (by kernel_rfl) laws_eqEntryS_s58 (by kernel_rfl) (by intro d; kernel_rfl), trivial⟩ (by intro d; kernel_rfl)


/-! laws.eqRow -/
def laws_eqRow : List t50 × List t50 → Option Bool
  | (a, b) => (laws_eqEntryS (a, b)).bind fun c => bif !c then some false else some true
def laws_eqRow_e : FEnt := ⟨11, [.tmp 4], [], [(.agg, [.dat kk4]), (.agg, [.dat kk4])], ⟨15, [⟨4, .one, [.dat .bool]⟩]⟩, laws_eqRow⟩
theorem laws_eqRow_ok : FnOk Tryz.prog 15 laws_eqRow_e := fnOk_mk (tb := []) (c := (Tryz.f15.body).getD .skip) mixed Tryz.func15 (bC laws_eqEntryS_ok bN) (by kernel_rfl) (by kernel_rfl) (by kernel_rfl) trivial (by intro d; kernel_rfl)


/-! laws.eqRowS -/
def laws_eqRowS_s58 : t85 → Option (t85 ⊕ Bool ⊕ Unit)
  | (a, b, c) => (some (decide (c < (ln a)))).bind fun d => bif d then ix c a.length ((some (gx a c [])).bind fun e => ix c b.length ((some (gx b c [])).bind fun f => (laws_eqRow (e, f)).bind fun g => bif !g then some (.inr (.inl false)) else some (.inl (a, b, w64 (c + 1))))) else some (.inr (.inr ()))
def laws_eqRowS_n58 : NEnt := ⟨⟨31, [⟨0, .one, [.dat kk2]⟩, ⟨1, .one, [.dat kk2]⟩, ⟨5, .one, [.dat kI]⟩]⟩, [(.ret, ⟨31, [⟨4, .one, [.dat .bool]⟩]⟩), (.exit 0, ⟨31, []⟩)], lp laws_eqRowS_s58⟩
def laws_eqRowS : List (List t50) × List (List t50) → Option Bool
  | (a, b) => (some ((ln a) != (ln b))).bind fun c => bif c then some false else bx (lp laws_eqRowS_s58 (a, b, 0)) (fun d => some d) fun _ => some true
def laws_eqRowS_e : FEnt := ⟨27, [.tmp 4], [], [(.one, [.dat kk2]), (.one, [.dat kk2])], ⟨31, [⟨4, .one, [.dat .bool]⟩]⟩, laws_eqRowS⟩
theorem laws_eqRowS_ok : FnOk Tryz.prog 140 laws_eqRowS_e := fnOk_mk (tb := [(58, laws_eqRowS_n58)]) (c := (Tryz.f140.body).getD .skip) mixed Tryz.func140 (bC laws_eqRow_ok bN) (by kernel_rfl) (by kernel_rfl) (by kernel_rfl) ⟨nodeLoop (by kernel_rfl) laws_eqRowS_s58 (by kernel_rfl) (by intro d; kernel_rfl), trivial⟩ (by intro d; kernel_rfl)


/-! laws.eqRowSS -/
def laws_eqRowSS_s58 : t88 → Option (t88 ⊕ Bool ⊕ Unit)
  | (a, b, c) => (some (decide (c < (ln a)))).bind fun d => bif d then ix c a.length ((some (gx a c [])).bind fun e => ix c b.length ((some (gx b c [])).bind fun f => (laws_eqRowS (e, f)).bind fun g => bif !g then some (.inr (.inl false)) else some (.inl (a, b, w64 (c + 1))))) else some (.inr (.inr ()))
def laws_eqRowSS_n58 : NEnt := ⟨⟨31, [⟨0, .one, [.dat kk0]⟩, ⟨1, .one, [.dat kk0]⟩, ⟨5, .one, [.dat kI]⟩]⟩, [(.ret, ⟨31, [⟨4, .one, [.dat .bool]⟩]⟩), (.exit 0, ⟨31, []⟩)], lp laws_eqRowSS_s58⟩
def laws_eqRowSS : List (List (List t50)) × List (List (List t50)) → Option Bool
  | (a, b) => (some ((ln a) != (ln b))).bind fun c => bif c then some false else bx (lp laws_eqRowSS_s58 (a, b, 0)) (fun d => some d) fun _ => some true
def laws_eqRowSS_e : FEnt := ⟨27, [.tmp 4], [], [(.one, [.dat kk0]), (.one, [.dat kk0])], ⟨31, [⟨4, .one, [.dat .bool]⟩]⟩, laws_eqRowSS⟩
theorem laws_eqRowSS_ok : FnOk Tryz.prog 69 laws_eqRowSS_e := fnOk_mk (tb := [(58, laws_eqRowSS_n58)]) (c := (Tryz.f69.body).getD .skip) mixed Tryz.func69 (bC laws_eqRowS_ok bN) (by kernel_rfl) (by kernel_rfl) (by kernel_rfl) ⟨nodeLoop (by kernel_rfl) laws_eqRowSS_s58 (by kernel_rfl) (by intro d; kernel_rfl), trivial⟩ (by intro d; kernel_rfl)


/-! laws.eqTurn -/
def laws_eqTurn : (Int × Bool × List Int) × Int × Bool × List Int → Option Bool
  | ((a, b, c), d, e, f) => bif a != d then some false else bif !(b == e) then some false else (laws_eqIntS (c, f)).bind fun g => bif !g then some false else some true
def laws_eqTurn_e : FEnt := ⟨21, [.tmp 4], [], [(.agg, cc21), (.agg, cc21)], ⟨25, [⟨4, .one, [.dat .bool]⟩]⟩, laws_eqTurn⟩
theorem laws_eqTurn_ok : FnOk Tryz.prog 141 laws_eqTurn_e := fnOk_mk (tb := []) (c := (Tryz.f141.body).getD .skip) mixed Tryz.func141 (bC laws_eqIntS_ok bN) (by kernel_rfl) (by kernel_rfl) (by kernel_rfl) trivial (by intro d; kernel_rfl)


/-! laws.eqTurnS -/
def laws_eqTurnS_s58 : t41 → Option (t41 ⊕ Bool ⊕ Unit)
  | (a, b, c) => bif decide (c < (ln a)) then ix c a.length ((some (gx a c (0, false, []))).bind fun (d, e, f) => ix c b.length ((some (gx b c (0, false, []))).bind fun (g, h, i) => (laws_eqTurn ((d, e, f), g, h, i)).bind fun j => bif !j then some (.inr (.inl false)) else some (.inl (a, b, w64 (c + 1))))) else some (.inr (.inr ()))
def laws_eqTurnS_n58 : NEnt := ⟨⟨31, [⟨0, .one, [.dat kk8]⟩, ⟨1, .one, [.dat kk8]⟩, ⟨5, .one, [.dat kI]⟩]⟩, [(.ret, ⟨31, [⟨4, .one, [.dat .bool]⟩]⟩), (.exit 0, ⟨31, []⟩)], lp laws_eqTurnS_s58⟩
def laws_eqTurnS : List (Int × Bool × List Int) × List (Int × Bool × List Int) → Option Bool
  | (a, b) => bif (ln a) != (ln b) then some false else bx (lp laws_eqTurnS_s58 (a, b, 0)) (fun c => some c) fun _ => some true
def laws_eqTurnS_e : FEnt := ⟨27, [.tmp 4], [], [(.one, [.dat kk8]), (.one, [.dat kk8])], ⟨31, [⟨4, .one, [.dat .bool]⟩]⟩, laws_eqTurnS⟩
theorem laws_eqTurnS_ok : FnOk Tryz.prog 70 laws_eqTurnS_e := fnOk_mk (tb := [(58, laws_eqTurnS_n58)]) (c := (Tryz.f70.body).getD .skip) mixed Tryz.func70 (bC laws_eqTurn_ok bN) (by kernel_rfl) (by kernel_rfl) (by kernel_rfl) ⟨nodeLoop (by kernel_rfl) laws_eqTurnS_s58 (by kernel_rfl) (by intro d; kernel_rfl), trivial⟩ (by intro d; kernel_rfl)


/-! laws.eqOut -/
def laws_eqOut : t53 × t53 → Option Bool
  | ((a, b, c, d, e, f, g, h, i, j, k), l, m, n, o, p, q, r, s, t, u, v) => bif a != l then some false else (laws_eqEntry ((b, c, d, e, f, g, h, i, j, k), m, n, o, p, q, r, s, t, u, v)).bind fun w => bif !w then some false else some true
def laws_eqOut_e : FEnt := ⟨16, [.tmp 4], [], [(.agg, cc10), (.agg, cc10)], ⟨20, [⟨4, .one, [.dat .bool]⟩]⟩, laws_eqOut⟩
theorem laws_eqOut_ok : FnOk Tryz.prog 142 laws_eqOut_e := fnOk_mk (tb := []) (c := (Tryz.f142.body).getD .skip) mixed Tryz.func142 (bC laws_eqEntry_ok bN) (by kernel_rfl) (by kernel_rfl) (by kernel_rfl) trivial (by intro d; kernel_rfl)


/-! laws.eqOutS -/
def laws_eqOutS_s58 : List t53 × t61 → Option (List t53 × t61 ⊕ Bool ⊕ Unit)
  | (a, b, c) => (some (decide (c < (ln a)))).bind fun d => bif d then ix c a.length ((some (gx a c (0, 0, 0, [], 0, 0, 0, 0, [], [], []))).bind fun (e, f, g, h, i, j, k, l, m, n, o) => ix c b.length ((some (gx b c (0, 0, 0, [], 0, 0, 0, 0, [], [], []))).bind fun (p, q, r, s, t, u, v, w, x, y, z) => (laws_eqOut ((e, f, g, h, i, j, k, l, m, n, o), p, q, r, s, t, u, v, w, x, y, z)).bind fun a1 => bif !a1 then some (.inr (.inl false)) else some (.inl (a, b, w64 (c + 1))))) else some (.inr (.inr ()))
def laws_eqOutS_n58 : NEnt := ⟨⟨31, [⟨0, .one, [.dat kk1]⟩, ⟨1, .one, [.dat kk1]⟩, ⟨5, .one, [.dat kI]⟩]⟩, [(.ret, ⟨31, [⟨4, .one, [.dat .bool]⟩]⟩), (.exit 0, ⟨31, []⟩)], lp laws_eqOutS_s58⟩
def laws_eqOutS : List t53 × List t53 → Option Bool
  | (a, b) => (some ((ln a) != (ln b))).bind fun c => bif c then some false else bx (lp laws_eqOutS_s58 (a, b, 0)) (fun d => some d) fun _ => some true
def laws_eqOutS_e : FEnt := ⟨27, [.tmp 4], [], [(.one, [.dat kk1]), (.one, [.dat kk1])], ⟨31, [⟨4, .one, [.dat .bool]⟩]⟩, laws_eqOutS⟩
theorem laws_eqOutS_ok : FnOk Tryz.prog 71 laws_eqOutS_e := fnOk_mk (tb := [(58, laws_eqOutS_n58)]) (c := (Tryz.f71.body).getD .skip) mixed Tryz.func71 (bC laws_eqOut_ok bN) (by kernel_rfl) (by kernel_rfl) (by kernel_rfl) ⟨nodeLoop (by kernel_rfl) laws_eqOutS_s58 (by kernel_rfl) (by intro d; kernel_rfl), trivial⟩ (by intro d; kernel_rfl)


/-! laws.eqHouse -/
def laws_eqHouse : t120 × t120 → Option Bool
  | ((a, b, c, d, e, f, g, h, i, j, k, l, m, n, o, p), q, r, s, t, u, v, w, x, y, z, a1, b1, c1, d1, e1, f1) => (laws_eqConf ((a, b, c, d, e, f, g, h), q, r, s, t, u, v, w, x)).bind fun g1 => bif !g1 then some false else bif i != y then some false else bif !(j == z) then some false else (laws_eqSeatS (k, a1)).bind fun h1 => bif !h1 then some false else (laws_eqRowSS (l, b1)).bind fun i1 => bif !i1 then some false else (laws_eqTurnS (m, c1)).bind fun j1 => bif !j1 then some false else bif n != d1 then some false else (laws_eqEntryS (o, e1)).bind fun k1 => bif !k1 then some false else (laws_eqOutS (p, f1)).bind fun l1 => bif !l1 then some false else some true
def laws_eqHouse_e : FEnt := ⟨56, [.tmp 4], [], [(.agg, cc5), (.agg, cc5)], ⟨60, [⟨4, .one, [.dat .bool]⟩]⟩, laws_eqHouse⟩
theorem laws_eqHouse_ok : FnOk Tryz.prog 22 laws_eqHouse_e := fnOk_mk (tb := []) (c := (Tryz.f22.body).getD .skip) mixed Tryz.func22 (bC laws_eqConf_ok (bC laws_eqSeatS_ok (bC laws_eqRowSS_ok (bC laws_eqTurnS_ok (bC laws_eqEntryS_ok (bC laws_eqOutS_ok bN)))))) (by kernel_rfl) (by kernel_rfl) (by kernel_rfl) trivial (by intro d; kernel_rfl)


/-! laws.markIntS -/
def laws_markIntS_s26 : (Unit × Unit × Unit) × Int × Int × List Int → Option ((Unit × Unit × Unit) × Int × Int × List Int ⊕ Int × List Int)
  | ((_, _, _), a, b, c) => bif decide (b < (ln c)) then ix b c.length (lx b c.length (some (.inl (((), (), ()), w64 (a + 1), w64 (b + 1), sx c b a)))) else some (.inr (a, c))
def laws_markIntS_n26 : NEnt := ⟨⟨23, [⟨0, .one, [.ref 19 0 [] false false kI]⟩, ⟨1, .one, [.dat kI]⟩, ⟨5, .one, [.dat kI]⟩, ⟨19, .agg, [.own true kI]⟩]⟩, [(.exit 0, ⟨23, [⟨1, .one, [.dat kI]⟩, ⟨19, .agg, [.own true kI]⟩]⟩)], lp laws_markIntS_s26⟩
def laws_markIntS : List Int × Int → Option (Int × List Int)
  | (a, b) => (lp laws_markIntS_s26 (((), (), ()), b, 0, a)).bind fun (c, d) => some (c, d)
def laws_markIntS_e : FEnt := ⟨19, [.tmp 4], [true, false], [(.one, [.own true kI]), (.one, [.dat kI])], ⟨23, [⟨4, .one, [.dat kI]⟩, ⟨19, .agg, [.own true kI]⟩]⟩, laws_markIntS⟩
theorem laws_markIntS_ok : FnOk Tryz.prog 29 laws_markIntS_e := fnOk_mk (tb := [(26, laws_markIntS_n26)]) (c := (Tryz.f29.body).getD .skip) mixed Tryz.func29 bN (by kernel_rfl) (by kernel_rfl) (by kernel_rfl) ⟨nodeLoop (by kernel_rfl) laws_markIntS_s26 (by kernel_rfl) (by intro d; kernel_rfl), trivial⟩ (by intro d; kernel_rfl)


/-! laws.markConf -/
def laws_markConf : t33 × Int → Option (Int × t33)
  | ((a, b, c, d, e, f, g, h), i) => (laws_markIntS (d, i)).bind fun (j, k) => some (j, a, b, c, k, e, f, g, h)
def laws_markConf_e : FEnt := ⟨10, [.tmp 4], [true, false], [(.agg, cc17), (.one, [.dat kI])], ⟨14, [⟨4, .one, [.dat kI]⟩, ⟨10, .agg, cc17⟩]⟩, laws_markConf⟩
theorem laws_markConf_ok : FnOk Tryz.prog 76 laws_markConf_e := fnOk_mk (tb := []) (c := (Tryz.f76.body).getD .skip) mixed Tryz.func76 (bC laws_markIntS_ok bN) (by kernel_rfl) (by kernel_rfl) (by kernel_rfl) trivial (by intro d; kernel_rfl)


/-! laws.markSpanS -/
def laws_markSpanS_s26 : (Unit × Unit × Unit) × Int × t1 → Option ((Unit × Unit × Unit) × Int × t1 ⊕ t1)
  | ((_, _, _), a, b, c) => bif decide (b < (ln c)) then ix b c.length (lx b c.length (ix b (sx c b (a, (gx c b (0, 0)).2)).length (lx b (sx c b (a, (gx c b (0, 0)).2)).length ((some (sx (sx c b (a, (gx c b (0, 0)).2)) b ((gx (sx c b (a, (gx c b (0, 0)).2)) b (0, 0)).1, w64 (a + 1)))).bind fun d => some (.inl (((), (), ()), w64 ((w64 (a + 1)) + 1), w64 (b + 1), d)))))) else some (.inr (a, c))
def laws_markSpanS_n26 : NEnt := ⟨⟨31, [⟨0, .one, [.ref 27 0 [] false false (.pair kI kI)]⟩, ⟨1, .one, [.dat kI]⟩, ⟨5, .one, [.dat kI]⟩, ⟨27, .agg, cc25⟩]⟩, [(.exit 0, ⟨31, [⟨1, .one, [.dat kI]⟩, ⟨27, .agg, cc25⟩]⟩)], lp laws_markSpanS_s26⟩
def laws_markSpanS : t0 → Option t1
  | (a, b) => (lp laws_markSpanS_s26 (((), (), ()), b, 0, a)).bind fun (c, d) => some (c, d)
def laws_markSpanS_e : FEnt := ⟨27, [.tmp 4], [true, false], [(.one, cc25), (.one, [.dat kI])], ⟨31, [⟨4, .one, [.dat kI]⟩, ⟨27, .agg, cc25⟩]⟩, laws_markSpanS⟩
theorem laws_markSpanS_ok : FnOk Tryz.prog 113 laws_markSpanS_e := fnOk_mk (tb := [(26, laws_markSpanS_n26)]) (c := (Tryz.f113.body).getD .skip) mixed Tryz.func113 bN (by kernel_rfl) (by kernel_rfl) (by kernel_rfl) ⟨nodeLoop (by kernel_rfl) laws_markSpanS_s26 (by kernel_rfl) (by intro d; kernel_rfl), trivial⟩ (by intro d; kernel_rfl)


/-! laws.markSeatS -/
def laws_markSeatS_s26 : (Unit × Unit × Unit) × Int × Int × List t23 → Option ((Unit × Unit × Unit) × Int × Int × List t23 ⊕ Int × List t23)
  | ((_, _, _), a, b, c) => bif decide (b < (ln c)) then ix b c.length (lx b c.length ((some (sx c b (a, (gx c b (0, 0, [], 0, 0)).2))).bind fun d => ix b d.length (lx b d.length ((some (sx d b ((gx d b (0, 0, [], 0, 0)).1, w64 (a + 1), (gx d b (0, 0, [], 0, 0)).2.2))).bind fun e => ix b e.length (lx b e.length ((laws_markSpanS ((gx e b (0, 0, [], 0, 0)).2.2.1, w64 ((w64 (a + 1)) + 1))).bind fun (f, g) => (some (sx e b ((gx e b (0, 0, [], 0, 0)).1, (gx e b (0, 0, [], 0, 0)).2.1, g, (gx e b (0, 0, [], 0, 0)).2.2.2))).bind fun h => ix b h.length (lx b h.length ((some (sx h b ((gx h b (0, 0, [], 0, 0)).1, (gx h b (0, 0, [], 0, 0)).2.1, (gx h b (0, 0, [], 0, 0)).2.2.1, f, (gx h b (0, 0, [], 0, 0)).2.2.2.2))).bind fun i => ix b i.length (lx b i.length ((some (sx i b ((gx i b (0, 0, [], 0, 0)).1, (gx i b (0, 0, [], 0, 0)).2.1, (gx i b (0, 0, [], 0, 0)).2.2.1, (gx i b (0, 0, [], 0, 0)).2.2.2.1, w64 (f + 1)))).bind fun j => some (.inl (((), (), ()), w64 ((w64 (f + 1)) + 1), w64 (b + 1), j)))))))))))) else some (.inr (a, c))
def laws_markSeatS_n26 : NEnt := ⟨⟨52, [⟨0, .one, [.ref 48 0 [] false false kk7]⟩, ⟨1, .one, [.dat kI]⟩, ⟨5, .one, [.dat kI]⟩, ⟨48, .agg, [.own true kk7]⟩]⟩, [(.exit 0, ⟨52, [⟨1, .one, [.dat kI]⟩, ⟨48, .agg, [.own true kk7]⟩]⟩)], lp laws_markSeatS_s26⟩
def laws_markSeatS : t35 → Option (Int × List t23)
  | (a, b) => (lp laws_markSeatS_s26 (((), (), ()), b, 0, a)).bind fun (c, d) => some (c, d)
def laws_markSeatS_e : FEnt := ⟨48, [.tmp 4], [true, false], [(.one, [.own true kk7]), (.one, [.dat kI])], ⟨52, [⟨4, .one, [.dat kI]⟩, ⟨48, .agg, [.own true kk7]⟩]⟩, laws_markSeatS⟩
theorem laws_markSeatS_ok : FnOk Tryz.prog 77 laws_markSeatS_e := fnOk_mk (tb := [(26, laws_markSeatS_n26)]) (c := (Tryz.f77.body).getD .skip) mixed Tryz.func77 (bC laws_markSpanS_ok bN) (by kernel_rfl) (by kernel_rfl) (by kernel_rfl) ⟨nodeLoop (by kernel_rfl) laws_markSeatS_s26 (by kernel_rfl) (by intro d; kernel_rfl), trivial⟩ (by intro d; kernel_rfl)


/-! laws.markIntSS -/
def laws_markIntSS_s26 : (Unit × Unit × Unit) × Int × Int × List (List Int) → Option ((Unit × Unit × Unit) × Int × Int × List (List Int) ⊕ Int × List (List Int))
  | ((_, _, _), a, b, c) => bif decide (b < (ln c)) then ix b c.length (lx b c.length ((laws_markIntS (gx c b [], a)).bind fun (d, e) => some (.inl (((), (), ()), d, w64 (b + 1), sx c b e)))) else some (.inr (a, c))
def laws_markIntSS_n26 : NEnt := ⟨⟨23, [⟨0, .one, [.ref 19 0 [] false false (.list kI)]⟩, ⟨1, .one, [.dat kI]⟩, ⟨5, .one, [.dat kI]⟩, ⟨19, .agg, cc27⟩]⟩, [(.exit 0, ⟨23, [⟨1, .one, [.dat kI]⟩, ⟨19, .agg, cc27⟩]⟩)], lp laws_markIntSS_s26⟩
def laws_markIntSS : List (List Int) × Int → Option (Int × List (List Int))
  | (a, b) => (lp laws_markIntSS_s26 (((), (), ()), b, 0, a)).bind fun (c, d) => some (c, d)
def laws_markIntSS_e : FEnt := ⟨19, [.tmp 4], [true, false], [(.one, cc27), (.one, [.dat kI])], ⟨23, [⟨4, .one, [.dat kI]⟩, ⟨19, .agg, cc27⟩]⟩, laws_markIntSS⟩
theorem laws_markIntSS_ok : FnOk Tryz.prog 91 laws_markIntSS_e := fnOk_mk (tb := [(26, laws_markIntSS_n26)]) (c := (Tryz.f91.body).getD .skip) mixed Tryz.func91 (bC laws_markIntS_ok bN) (by kernel_rfl) (by kernel_rfl) (by kernel_rfl) ⟨nodeLoop (by kernel_rfl) laws_markIntSS_s26 (by kernel_rfl) (by intro d; kernel_rfl), trivial⟩ (by intro d; kernel_rfl)


/-! laws.markEntryS -/
def laws_markEntryS_s26 : (Unit × Unit × Unit) × Int × t57 → Option ((Unit × Unit × Unit) × Int × t57 ⊕ t57)
  | ((_, _, _), a, b, c) => (some (decide (b < (ln c)))).bind fun d => bif d then ix b c.length (lx b c.length ((some (sx c b (a, (gx c b (0, 0, [], 0, 0, 0, 0, [], [], [])).2))).bind fun e => ix b e.length (lx b e.length ((some (sx e b ((gx e b (0, 0, [], 0, 0, 0, 0, [], [], [])).1, w64 (a + 1), (gx e b (0, 0, [], 0, 0, 0, 0, [], [], [])).2.2))).bind fun f => ix b f.length (lx b f.length ((laws_markSpanS ((gx f b (0, 0, [], 0, 0, 0, 0, [], [], [])).2.2.1, w64 ((w64 (a + 1)) + 1))).bind fun (g, h) => (some (sx f b ((gx f b (0, 0, [], 0, 0, 0, 0, [], [], [])).1, (gx f b (0, 0, [], 0, 0, 0, 0, [], [], [])).2.1, h, (gx f b (0, 0, [], 0, 0, 0, 0, [], [], [])).2.2.2))).bind fun i => ix b i.length (lx b i.length ((some (sx i b ((gx i b (0, 0, [], 0, 0, 0, 0, [], [], [])).1, (gx i b (0, 0, [], 0, 0, 0, 0, [], [], [])).2.1, (gx i b (0, 0, [], 0, 0, 0, 0, [], [], [])).2.2.1, g, (gx i b (0, 0, [], 0, 0, 0, 0, [], [], [])).2.2.2.2))).bind fun j => ix b j.length (lx b j.length ((some (sx j b ((gx j b (0, 0, [], 0, 0, 0, 0, [], [], [])).1, (gx j b (0, 0, [], 0, 0, 0, 0, [], [], [])).2.1, (gx j b (0, 0, [], 0, 0, 0, 0, [], [], [])).2.2.1, (gx j b (0, 0, [], 0, 0, 0, 0, [], [], [])).2.2.2.1, w64 (g + 1), (gx j b (0, 0, [], 0, 0, 0, 0, [], [], [])).2.2.2.2.2))).bind fun k => ix b k.length (lx b k.length ((some (sx k b ((gx k b (0, 0, [], 0, 0, 0, 0, [], [], [])).1, (gx k b (0, 0, [], 0, 0, 0, 0, [], [], [])).2.1, (gx k b (0, 0, [], 0, 0, 0, 0, [], [], [])).2.2.1, (gx k b (0, 0, [], 0, 0, 0, 0, [], [], [])).2.2.2.1, (gx k b (0, 0, [], 0, 0, 0, 0, [], [], [])).2.2.2.2.1, w64 ((w64 (g + 1)) + 1), (gx k b (0, 0, [], 0, 0, 0, 0, [], [], [])).2.2.2.2.2.2))).bind fun l => ix b l.length (lx b l.length ((some (sx l b ((gx l b (0, 0, [], 0, 0, 0, 0, [], [], [])).1, (gx l b (0, 0, [], 0, 0, 0, 0, [], [], [])).2.1, (gx l b (0, 0, [], 0, 0, 0, 0, [], [], [])).2.2.1, (gx l b (0, 0, [], 0, 0, 0, 0, [], [], [])).2.2.2.1, (gx l b (0, 0, [], 0, 0, 0, 0, [], [], [])).2.2.2.2.1, (gx l b (0, 0, [], 0, 0, 0, 0, [], [], [])).2.2.2.2.2.1, w64 ((w64 ((w64 (g + 1)) + 1)) + 1), (gx l b (0, 0, [], 0, 0, 0, 0, [], [], [])).2.2.2.2.2.2.2))).bind fun m => (some (w64 ((w64 ((w64 ((w64 (g + 1)) + 1)) + 1)) + 1))).bind fun n => ix b m.length (lx b m.length ((laws_markIntS ((gx m b (0, 0, [], 0, 0, 0, 0, [], [], [])).2.2.2.2.2.2.2.1, n)).bind fun (o, p) => (some (sx m b ((gx m b (0, 0, [], 0, 0, 0, 0, [], [], [])).1, (gx m b (0, 0, [], 0, 0, 0, 0, [], [], [])).2.1, (gx m b (0, 0, [], 0, 0, 0, 0, [], [], [])).2.2.1, (gx m b (0, 0, [], 0, 0, 0, 0, [], [], [])).2.2.2.1, (gx m b (0, 0, [], 0, 0, 0, 0, [], [], [])).2.2.2.2.1, (gx m b (0, 0, [], 0, 0, 0, 0, [], [], [])).2.2.2.2.2.1, (gx m b (0, 0, [], 0, 0, 0, 0, [], [], [])).2.2.2.2.2.2.1, p, (gx m b (0, 0, [], 0, 0, 0, 0, [], [], [])).2.2.2.2.2.2.2.2))).bind fun q => ix b q.length (lx b q.length ((laws_markIntS ((gx q b (0, 0, [], 0, 0, 0, 0, [], [], [])).2.2.2.2.2.2.2.2.1, o)).bind fun (r, s) => (some (sx q b ((gx q b (0, 0, [], 0, 0, 0, 0, [], [], [])).1, (gx q b (0, 0, [], 0, 0, 0, 0, [], [], [])).2.1, (gx q b (0, 0, [], 0, 0, 0, 0, [], [], [])).2.2.1, (gx q b (0, 0, [], 0, 0, 0, 0, [], [], [])).2.2.2.1, (gx q b (0, 0, [], 0, 0, 0, 0, [], [], [])).2.2.2.2.1, (gx q b (0, 0, [], 0, 0, 0, 0, [], [], [])).2.2.2.2.2.1, (gx q b (0, 0, [], 0, 0, 0, 0, [], [], [])).2.2.2.2.2.2.1, (gx q b (0, 0, [], 0, 0, 0, 0, [], [], [])).2.2.2.2.2.2.2.1, s, (gx q b (0, 0, [], 0, 0, 0, 0, [], [], [])).2.2.2.2.2.2.2.2.2))).bind fun t => ix b t.length (lx b t.length ((laws_markIntSS ((gx t b (0, 0, [], 0, 0, 0, 0, [], [], [])).2.2.2.2.2.2.2.2.2, r)).bind fun (u, v) => (some (sx t b ((gx t b (0, 0, [], 0, 0, 0, 0, [], [], [])).1, (gx t b (0, 0, [], 0, 0, 0, 0, [], [], [])).2.1, (gx t b (0, 0, [], 0, 0, 0, 0, [], [], [])).2.2.1, (gx t b (0, 0, [], 0, 0, 0, 0, [], [], [])).2.2.2.1, (gx t b (0, 0, [], 0, 0, 0, 0, [], [], [])).2.2.2.2.1, (gx t b (0, 0, [], 0, 0, 0, 0, [], [], [])).2.2.2.2.2.1, (gx t b (0, 0, [], 0, 0, 0, 0, [], [], [])).2.2.2.2.2.2.1, (gx t b (0, 0, [], 0, 0, 0, 0, [], [], [])).2.2.2.2.2.2.2.1, (gx t b (0, 0, [], 0, 0, 0, 0, [], [], [])).2.2.2.2.2.2.2.2.1, v))).bind fun w => some (.inl (((), (), ()), u, w64 (b + 1), w)))))))))))))))))))))) else some (.inr (a, c))
def laws_markEntryS_n26 : NEnt := ⟨⟨94, [⟨0, .one, [.ref 90 0 [] false false kk5]⟩, ⟨1, .one, [.dat kI]⟩, ⟨5, .one, [.dat kI]⟩, ⟨90, .agg, [.own true kk5]⟩]⟩, [(.exit 0, ⟨94, [⟨1, .one, [.dat kI]⟩, ⟨90, .agg, [.own true kk5]⟩]⟩)], lp laws_markEntryS_s26⟩
def laws_markEntryS : t56 → Option t57
  | (a, b) => (lp laws_markEntryS_s26 (((), (), ()), b, 0, a)).bind fun (c, d) => some (c, d)
def laws_markEntryS_e : FEnt := ⟨90, [.tmp 4], [true, false], [(.one, [.own true kk5]), (.one, [.dat kI])], ⟨94, [⟨4, .one, [.dat kI]⟩, ⟨90, .agg, [.own true kk5]⟩]⟩, laws_markEntryS⟩
theorem laws_markEntryS_ok : FnOk Tryz.prog 52 laws_markEntryS_e := fnOk_mk (tb := [(26, laws_markEntryS_n26)]) (c := (Tryz.f52.body).getD .skip) mixed Tryz.func52 (bC laws_markSpanS_ok (bC laws_markIntS_ok (bC laws_markIntSS_ok bN))) (by kernel_rfl) (by kernel_rfl) (by kernel_rfl) ⟨nodeLoop (by kernel_rfl) laws_markEntryS_s26 (by kernel_rfl) (by intro d; kernel_rfl), trivial⟩ (by intro d; kernel_rfl)


/-! laws.markRowS -/
def laws_markRowS_s26 : (Unit × Unit × Unit) × Int × t63 → Option ((Unit × Unit × Unit) × Int × t63 ⊕ t63)
  | ((_, _, _), a, b, c) => (some (decide (b < (ln c)))).bind fun d => bif d then ix b c.length (lx b c.length ((laws_markEntryS (gx c b [], a)).bind fun (e, f) => some (.inl (((), (), ()), e, w64 (b + 1), sx c b f)))) else some (.inr (a, c))
def laws_markRowS_n26 : NEnt := ⟨⟨24, [⟨0, .one, [.ref 20 0 [] false false kk4]⟩, ⟨1, .one, [.dat kI]⟩, ⟨5, .one, [.dat kI]⟩, ⟨20, .agg, [.own true kk4]⟩]⟩, [(.exit 0, ⟨24, [⟨1, .one, [.dat kI]⟩, ⟨20, .agg, [.own true kk4]⟩]⟩)], lp laws_markRowS_s26⟩
def laws_markRowS : t62 → Option t63
  | (a, b) => (lp laws_markRowS_s26 (((), (), ()), b, 0, a)).bind fun (c, d) => some (c, d)
def laws_markRowS_e : FEnt := ⟨20, [.tmp 4], [true, false], [(.one, [.own true kk4]), (.one, [.dat kI])], ⟨24, [⟨4, .one, [.dat kI]⟩, ⟨20, .agg, [.own true kk4]⟩]⟩, laws_markRowS⟩
theorem laws_markRowS_ok : FnOk Tryz.prog 145 laws_markRowS_e := fnOk_mk (tb := [(26, laws_markRowS_n26)]) (c := (Tryz.f145.body).getD .skip) mixed Tryz.func145 (bC laws_markEntryS_ok bN) (by kernel_rfl) (by kernel_rfl) (by kernel_rfl) ⟨nodeLoop (by kernel_rfl) laws_markRowS_s26 (by kernel_rfl) (by intro d; kernel_rfl), trivial⟩ (by intro d; kernel_rfl)


/-! laws.markRowSS -/
def laws_markRowSS_s26 : (Unit × Unit × Unit) × Int × t69 → Option ((Unit × Unit × Unit) × Int × t69 ⊕ t69)
  | ((_, _, _), a, b, c) => (some (decide (b < (ln c)))).bind fun d => bif d then ix b c.length (lx b c.length ((laws_markRowS (gx c b [], a)).bind fun (e, f) => some (.inl (((), (), ()), e, w64 (b + 1), sx c b f)))) else some (.inr (a, c))
def laws_markRowSS_n26 : NEnt := ⟨⟨23, [⟨0, .one, [.ref 19 0 [] false false kk2]⟩, ⟨1, .one, [.dat kI]⟩, ⟨5, .one, [.dat kI]⟩, ⟨19, .agg, [.own true kk2]⟩]⟩, [(.exit 0, ⟨23, [⟨1, .one, [.dat kI]⟩, ⟨19, .agg, [.own true kk2]⟩]⟩)], lp laws_markRowSS_s26⟩
def laws_markRowSS : t67 → Option t69
  | (a, b) => (lp laws_markRowSS_s26 (((), (), ()), b, 0, a)).bind fun (c, d) => some (c, d)
def laws_markRowSS_e : FEnt := ⟨19, [.tmp 4], [true, false], [(.one, [.own true kk2]), (.one, [.dat kI])], ⟨23, [⟨4, .one, [.dat kI]⟩, ⟨19, .agg, [.own true kk2]⟩]⟩, laws_markRowSS⟩
theorem laws_markRowSS_ok : FnOk Tryz.prog 78 laws_markRowSS_e := fnOk_mk (tb := [(26, laws_markRowSS_n26)]) (c := (Tryz.f78.body).getD .skip) mixed Tryz.func78 (bC laws_markRowS_ok bN) (by kernel_rfl) (by kernel_rfl) (by kernel_rfl) ⟨nodeLoop (by kernel_rfl) laws_markRowSS_s26 (by kernel_rfl) (by intro d; kernel_rfl), trivial⟩ (by intro d; kernel_rfl)


/-! laws.markTurnS -/
def laws_markTurnS_s26 : (Unit × Unit × Unit) × Int × t15 → Option ((Unit × Unit × Unit) × Int × t15 ⊕ t15)
  | ((_, _, _), a, b, c) => bif decide (b < (ln c)) then ix b c.length (lx b c.length ((some (sx c b (a, (gx c b (0, false, [])).2))).bind fun d => ix b d.length (lx b d.length ((some (sx d b ((gx d b (0, false, [])).1, (Int.tmod (w64 (a + 1)) 3) == 0, (gx d b (0, false, [])).2.2))).bind fun e => ix b e.length (lx b e.length ((laws_markIntS ((gx e b (0, false, [])).2.2, w64 ((w64 (a + 1)) + 1))).bind fun (f, g) => (some (sx e b ((gx e b (0, false, [])).1, (gx e b (0, false, [])).2.1, g))).bind fun h => some (.inl (((), (), ()), f, w64 (b + 1), h)))))))) else some (.inr (a, c))
def laws_markTurnS_n26 : NEnt := ⟨⟨40, [⟨0, .one, [.ref 36 0 [] false false kk9]⟩, ⟨1, .one, [.dat kI]⟩, ⟨5, .one, [.dat kI]⟩, ⟨36, .agg, [.own true kk9]⟩]⟩, [(.exit 0, ⟨40, [⟨1, .one, [.dat kI]⟩, ⟨36, .agg, [.own true kk9]⟩]⟩)], lp laws_markTurnS_s26⟩
def laws_markTurnS : t14 → Option t15
  | (a, b) => (lp laws_markTurnS_s26 (((), (), ()), b, 0, a)).bind fun (c, d) => some (c, d)
def laws_markTurnS_e : FEnt := ⟨36, [.tmp 4], [true, false], [(.one, [.own true kk9]), (.one, [.dat kI])], ⟨40, [⟨4, .one, [.dat kI]⟩, ⟨36, .agg, [.own true kk9]⟩]⟩, laws_markTurnS⟩
theorem laws_markTurnS_ok : FnOk Tryz.prog 79 laws_markTurnS_e := fnOk_mk (tb := [(26, laws_markTurnS_n26)]) (c := (Tryz.f79.body).getD .skip) mixed Tryz.func79 (bC laws_markIntS_ok bN) (by kernel_rfl) (by kernel_rfl) (by kernel_rfl) ⟨nodeLoop (by kernel_rfl) laws_markTurnS_s26 (by kernel_rfl) (by intro d; kernel_rfl), trivial⟩ (by intro d; kernel_rfl)


/-! laws.markOutS -/
def laws_markOutS_s26 : (Unit × Unit × Unit) × Int × Int × List t53 → Option ((Unit × Unit × Unit) × Int × Int × List t53 ⊕ Int × List t53)
  | ((_, _, _), a, b, c) => (some (decide (b < (ln c)))).bind fun d => bif d then ix b c.length (lx b c.length ((some (sx c b (a, (gx c b (0, 0, 0, [], 0, 0, 0, 0, [], [], [])).2))).bind fun e => ix b e.length (lx b e.length ((some (sx e b ((gx e b (0, 0, 0, [], 0, 0, 0, 0, [], [], [])).1, w64 (a + 1), (gx e b (0, 0, 0, [], 0, 0, 0, 0, [], [], [])).2.2))).bind fun f => ix b f.length (lx b f.length ((some (sx f b ((gx f b (0, 0, 0, [], 0, 0, 0, 0, [], [], [])).1, (gx f b (0, 0, 0, [], 0, 0, 0, 0, [], [], [])).2.1, w64 ((w64 (a + 1)) + 1), (gx f b (0, 0, 0, [], 0, 0, 0, 0, [], [], [])).2.2.2))).bind fun g => ix b g.length (lx b g.length ((laws_markSpanS ((gx g b (0, 0, 0, [], 0, 0, 0, 0, [], [], [])).2.2.2.1, w64 ((w64 ((w64 (a + 1)) + 1)) + 1))).bind fun (h, i) => (some (sx g b ((gx g b (0, 0, 0, [], 0, 0, 0, 0, [], [], [])).1, (gx g b (0, 0, 0, [], 0, 0, 0, 0, [], [], [])).2.1, (gx g b (0, 0, 0, [], 0, 0, 0, 0, [], [], [])).2.2.1, i, (gx g b (0, 0, 0, [], 0, 0, 0, 0, [], [], [])).2.2.2.2))).bind fun j => ix b j.length (lx b j.length ((some (sx j b ((gx j b (0, 0, 0, [], 0, 0, 0, 0, [], [], [])).1, (gx j b (0, 0, 0, [], 0, 0, 0, 0, [], [], [])).2.1, (gx j b (0, 0, 0, [], 0, 0, 0, 0, [], [], [])).2.2.1, (gx j b (0, 0, 0, [], 0, 0, 0, 0, [], [], [])).2.2.2.1, h, (gx j b (0, 0, 0, [], 0, 0, 0, 0, [], [], [])).2.2.2.2.2))).bind fun k => ix b k.length (lx b k.length ((some (sx k b ((gx k b (0, 0, 0, [], 0, 0, 0, 0, [], [], [])).1, (gx k b (0, 0, 0, [], 0, 0, 0, 0, [], [], [])).2.1, (gx k b (0, 0, 0, [], 0, 0, 0, 0, [], [], [])).2.2.1, (gx k b (0, 0, 0, [], 0, 0, 0, 0, [], [], [])).2.2.2.1, (gx k b (0, 0, 0, [], 0, 0, 0, 0, [], [], [])).2.2.2.2.1, w64 (h + 1), (gx k b (0, 0, 0, [], 0, 0, 0, 0, [], [], [])).2.2.2.2.2.2))).bind fun l => ix b l.length (lx b l.length ((some (sx l b ((gx l b (0, 0, 0, [], 0, 0, 0, 0, [], [], [])).1, (gx l b (0, 0, 0, [], 0, 0, 0, 0, [], [], [])).2.1, (gx l b (0, 0, 0, [], 0, 0, 0, 0, [], [], [])).2.2.1, (gx l b (0, 0, 0, [], 0, 0, 0, 0, [], [], [])).2.2.2.1, (gx l b (0, 0, 0, [], 0, 0, 0, 0, [], [], [])).2.2.2.2.1, (gx l b (0, 0, 0, [], 0, 0, 0, 0, [], [], [])).2.2.2.2.2.1, w64 ((w64 (h + 1)) + 1), (gx l b (0, 0, 0, [], 0, 0, 0, 0, [], [], [])).2.2.2.2.2.2.2))).bind fun m => ix b m.length (lx b m.length ((some (sx m b ((gx m b (0, 0, 0, [], 0, 0, 0, 0, [], [], [])).1, (gx m b (0, 0, 0, [], 0, 0, 0, 0, [], [], [])).2.1, (gx m b (0, 0, 0, [], 0, 0, 0, 0, [], [], [])).2.2.1, (gx m b (0, 0, 0, [], 0, 0, 0, 0, [], [], [])).2.2.2.1, (gx m b (0, 0, 0, [], 0, 0, 0, 0, [], [], [])).2.2.2.2.1, (gx m b (0, 0, 0, [], 0, 0, 0, 0, [], [], [])).2.2.2.2.2.1, (gx m b (0, 0, 0, [], 0, 0, 0, 0, [], [], [])).2.2.2.2.2.2.1, w64 ((w64 ((w64 (h + 1)) + 1)) + 1), (gx m b (0, 0, 0, [], 0, 0, 0, 0, [], [], [])).2.2.2.2.2.2.2.2))).bind fun n => (some (w64 ((w64 ((w64 ((w64 (h + 1)) + 1)) + 1)) + 1))).bind fun o => ix b n.length (lx b n.length ((laws_markIntS ((gx n b (0, 0, 0, [], 0, 0, 0, 0, [], [], [])).2.2.2.2.2.2.2.2.1, o)).bind fun (p, q) => (some (sx n b ((gx n b (0, 0, 0, [], 0, 0, 0, 0, [], [], [])).1, (gx n b (0, 0, 0, [], 0, 0, 0, 0, [], [], [])).2.1, (gx n b (0, 0, 0, [], 0, 0, 0, 0, [], [], [])).2.2.1, (gx n b (0, 0, 0, [], 0, 0, 0, 0, [], [], [])).2.2.2.1, (gx n b (0, 0, 0, [], 0, 0, 0, 0, [], [], [])).2.2.2.2.1, (gx n b (0, 0, 0, [], 0, 0, 0, 0, [], [], [])).2.2.2.2.2.1, (gx n b (0, 0, 0, [], 0, 0, 0, 0, [], [], [])).2.2.2.2.2.2.1, (gx n b (0, 0, 0, [], 0, 0, 0, 0, [], [], [])).2.2.2.2.2.2.2.1, q, (gx n b (0, 0, 0, [], 0, 0, 0, 0, [], [], [])).2.2.2.2.2.2.2.2.2))).bind fun r => ix b r.length (lx b r.length ((laws_markIntS ((gx r b (0, 0, 0, [], 0, 0, 0, 0, [], [], [])).2.2.2.2.2.2.2.2.2.1, p)).bind fun (s, t) => (some (sx r b ((gx r b (0, 0, 0, [], 0, 0, 0, 0, [], [], [])).1, (gx r b (0, 0, 0, [], 0, 0, 0, 0, [], [], [])).2.1, (gx r b (0, 0, 0, [], 0, 0, 0, 0, [], [], [])).2.2.1, (gx r b (0, 0, 0, [], 0, 0, 0, 0, [], [], [])).2.2.2.1, (gx r b (0, 0, 0, [], 0, 0, 0, 0, [], [], [])).2.2.2.2.1, (gx r b (0, 0, 0, [], 0, 0, 0, 0, [], [], [])).2.2.2.2.2.1, (gx r b (0, 0, 0, [], 0, 0, 0, 0, [], [], [])).2.2.2.2.2.2.1, (gx r b (0, 0, 0, [], 0, 0, 0, 0, [], [], [])).2.2.2.2.2.2.2.1, (gx r b (0, 0, 0, [], 0, 0, 0, 0, [], [], [])).2.2.2.2.2.2.2.2.1, t, (gx r b (0, 0, 0, [], 0, 0, 0, 0, [], [], [])).2.2.2.2.2.2.2.2.2.2))).bind fun u => ix b u.length (lx b u.length ((laws_markIntSS ((gx u b (0, 0, 0, [], 0, 0, 0, 0, [], [], [])).2.2.2.2.2.2.2.2.2.2, s)).bind fun (v, w) => (some (sx u b ((gx u b (0, 0, 0, [], 0, 0, 0, 0, [], [], [])).1, (gx u b (0, 0, 0, [], 0, 0, 0, 0, [], [], [])).2.1, (gx u b (0, 0, 0, [], 0, 0, 0, 0, [], [], [])).2.2.1, (gx u b (0, 0, 0, [], 0, 0, 0, 0, [], [], [])).2.2.2.1, (gx u b (0, 0, 0, [], 0, 0, 0, 0, [], [], [])).2.2.2.2.1, (gx u b (0, 0, 0, [], 0, 0, 0, 0, [], [], [])).2.2.2.2.2.1, (gx u b (0, 0, 0, [], 0, 0, 0, 0, [], [], [])).2.2.2.2.2.2.1, (gx u b (0, 0, 0, [], 0, 0, 0, 0, [], [], [])).2.2.2.2.2.2.2.1, (gx u b (0, 0, 0, [], 0, 0, 0, 0, [], [], [])).2.2.2.2.2.2.2.2.1, (gx u b (0, 0, 0, [], 0, 0, 0, 0, [], [], [])).2.2.2.2.2.2.2.2.2.1, w))).bind fun x => some (.inl (((), (), ()), v, w64 (b + 1), x)))))))))))))))))))))))) else some (.inr (a, c))
def laws_markOutS_n26 : NEnt := ⟨⟨111, [⟨0, .one, [.ref 107 0 [] false false kk3]⟩, ⟨1, .one, [.dat kI]⟩, ⟨5, .one, [.dat kI]⟩, ⟨107, .agg, [.own true kk3]⟩]⟩, [(.exit 0, ⟨111, [⟨1, .one, [.dat kI]⟩, ⟨107, .agg, [.own true kk3]⟩]⟩)], lp laws_markOutS_s26⟩
def laws_markOutS : t61 → Option (Int × List t53)
  | (a, b) => (lp laws_markOutS_s26 (((), (), ()), b, 0, a)).bind fun (c, d) => some (c, d)
def laws_markOutS_e : FEnt := ⟨107, [.tmp 4], [true, false], [(.one, [.own true kk3]), (.one, [.dat kI])], ⟨111, [⟨4, .one, [.dat kI]⟩, ⟨107, .agg, [.own true kk3]⟩]⟩, laws_markOutS⟩
theorem laws_markOutS_ok : FnOk Tryz.prog 80 laws_markOutS_e := fnOk_mk (tb := [(26, laws_markOutS_n26)]) (c := (Tryz.f80.body).getD .skip) mixed Tryz.func80 (bC laws_markSpanS_ok (bC laws_markIntS_ok (bC laws_markIntSS_ok bN))) (by kernel_rfl) (by kernel_rfl) (by kernel_rfl) ⟨nodeLoop (by kernel_rfl) laws_markOutS_s26 (by kernel_rfl) (by intro d; kernel_rfl), trivial⟩ (by intro d; kernel_rfl)


/-! laws.markHouse -/
def laws_markHouse : t121 → Option (Int × t120)
  | ((a, b, c, d, e, f, g, h, i, j, k, l, m, n, o, p), q) => (laws_markConf ((a, b, c, d, e, f, g, h), q)).bind fun (r, s, t, u, v, w, x, y, z) => (laws_markSeatS (k, r)).bind fun (a1, b1) => (laws_markRowSS (l, a1)).bind fun (c1, d1) => (laws_markTurnS (m, c1)).bind fun (e1, f1) => (laws_markEntryS (o, e1)).bind fun (g1, h1) => (laws_markOutS (p, g1)).bind fun (i1, j1) => some (i1, a, b, c, v, e, f, g, h, i, j, b1, d1, f1, n, h1, j1)
def laws_markHouse_e : FEnt := ⟨30, [.tmp 4], [true, false], [(.agg, cc0), (.one, [.dat kI])], ⟨34, [⟨4, .one, [.dat kI]⟩, ⟨30, .agg, cc0⟩]⟩, laws_markHouse⟩
theorem laws_markHouse_ok : FnOk Tryz.prog 28 laws_markHouse_e := fnOk_mk (tb := []) (c := (Tryz.f28.body).getD .skip) mixed Tryz.func28 (bC laws_markConf_ok (bC laws_markSeatS_ok (bC laws_markRowSS_ok (bC laws_markTurnS_ok (bC laws_markEntryS_ok (bC laws_markOutS_ok bN)))))) (by kernel_rfl) (by kernel_rfl) (by kernel_rfl) trivial (by intro d; kernel_rfl)


/-! laws.markSketch -/
def laws_markSketch : t42 → Option (Int × t39)
  | ((a, b, c, d, e, f, g), h) => (laws_markIntS (e, h)).bind fun (i, j) => (laws_markIntS (f, i)).bind fun (k, l) => (laws_markIntSS (g, k)).bind fun (m, n) => some (m, a, b, c, d, j, l, n)
def laws_markSketch_e : FEnt := ⟨18, [.tmp 4], [true, false], [(.agg, cc12), (.one, [.dat kI])], ⟨22, [⟨4, .one, [.dat kI]⟩, ⟨18, .agg, cc12⟩]⟩, laws_markSketch⟩
theorem laws_markSketch_ok : FnOk Tryz.prog 36 laws_markSketch_e := fnOk_mk (tb := []) (c := (Tryz.f36.body).getD .skip) mixed Tryz.func36 (bC laws_markIntS_ok (bC laws_markIntSS_ok bN)) (by kernel_rfl) (by kernel_rfl) (by kernel_rfl) trivial (by intro d; kernel_rfl)


/-! laws.heldIntS -/
def laws_heldIntS_s26 : List Int × Int × Int → Option (List Int × Int × Int ⊕ Int ⊕ Int)
  | (a, b, c) => bif decide (c < (ln a)) then ix c a.length (bif (gx a c 0) != b then some (.inr (.inl (-1))) else some (.inl (a, w64 (b + 1), w64 (c + 1)))) else some (.inr (.inr b))
def laws_heldIntS_n26 : NEnt := ⟨⟨25, [⟨0, .one, [.dat (.list kI)]⟩, ⟨1, .one, [.dat kI]⟩, ⟨5, .one, [.dat kI]⟩]⟩, [(.ret, ⟨25, [⟨4, .one, [.dat kI]⟩]⟩), (.exit 0, ⟨25, [⟨1, .one, [.dat kI]⟩]⟩)], lp laws_heldIntS_s26⟩
def laws_heldIntS : List Int × Int → Option Int
  | (a, b) => bx (lp laws_heldIntS_s26 (a, b, 0)) (fun c => some c) fun c => some c
def laws_heldIntS_e : FEnt := ⟨21, [.tmp 4], [], [(.one, [.dat (.list kI)]), (.one, [.dat kI])], ⟨25, [⟨4, .one, [.dat kI]⟩]⟩, laws_heldIntS⟩
theorem laws_heldIntS_ok : FnOk Tryz.prog 30 laws_heldIntS_e := fnOk_mk (tb := [(26, laws_heldIntS_n26)]) (c := (Tryz.f30.body).getD .skip) mixed Tryz.func30 bN (by kernel_rfl) (by kernel_rfl) (by kernel_rfl) ⟨nodeLoop (by kernel_rfl) laws_heldIntS_s26 (by kernel_rfl) (by intro d; kernel_rfl), trivial⟩ (by intro d; kernel_rfl)


/-! laws.heldIntSS -/
def laws_heldIntSS_s26 : t7 → Option (t7 ⊕ Int ⊕ Int)
  | (a, b, c) => bif decide (c < (ln a)) then ix c a.length ((laws_heldIntS (gx a c [], b)).bind fun d => bif decide (d < 0) then some (.inr (.inl (-1))) else some (.inl (a, d, w64 (c + 1)))) else some (.inr (.inr b))
def laws_heldIntSS_n26 : NEnt := ⟨⟨25, [⟨0, .one, [.dat kk11]⟩, ⟨1, .one, [.dat kI]⟩, ⟨5, .one, [.dat kI]⟩]⟩, [(.ret, ⟨25, [⟨4, .one, [.dat kI]⟩]⟩), (.exit 0, ⟨25, [⟨1, .one, [.dat kI]⟩]⟩)], lp laws_heldIntSS_s26⟩
def laws_heldIntSS : List (List Int) × Int → Option Int
  | (a, b) => bx (lp laws_heldIntSS_s26 (a, b, 0)) (fun c => some c) fun c => some c
def laws_heldIntSS_e : FEnt := ⟨21, [.tmp 4], [], [(.one, [.dat kk11]), (.one, [.dat kI])], ⟨25, [⟨4, .one, [.dat kI]⟩]⟩, laws_heldIntSS⟩
theorem laws_heldIntSS_ok : FnOk Tryz.prog 92 laws_heldIntSS_e := fnOk_mk (tb := [(26, laws_heldIntSS_n26)]) (c := (Tryz.f92.body).getD .skip) mixed Tryz.func92 (bC laws_heldIntS_ok bN) (by kernel_rfl) (by kernel_rfl) (by kernel_rfl) ⟨nodeLoop (by kernel_rfl) laws_heldIntSS_s26 (by kernel_rfl) (by intro d; kernel_rfl), trivial⟩ (by intro d; kernel_rfl)


/-! laws.heldSketch -/
def laws_heldSketch : t42 → Option Int
  | ((a, b, c, d, e, f, g), h) => (laws_heldIntS (e, h)).bind fun i => bif decide (i < 0) then some (-1) else (laws_heldIntS (f, i)).bind fun j => bif decide (j < 0) then some (-1) else (laws_heldIntSS (g, j)).bind fun k => bif decide (k < 0) then some (-1) else some k
def laws_heldSketch_e : FEnt := ⟨24, [.tmp 4], [], [(.agg, cc13), (.one, [.dat kI])], ⟨28, [⟨4, .one, [.dat kI]⟩]⟩, laws_heldSketch⟩
theorem laws_heldSketch_ok : FnOk Tryz.prog 37 laws_heldSketch_e := fnOk_mk (tb := []) (c := (Tryz.f37.body).getD .skip) mixed Tryz.func37 (bC laws_heldIntS_ok (bC laws_heldIntSS_ok bN)) (by kernel_rfl) (by kernel_rfl) (by kernel_rfl) trivial (by intro d; kernel_rfl)


/-! laws.FnExactKeyTotal -/
def laws_FnExactKeyTotal : t123 → Option Bool
  | ((a, b, c, d, e, f, g, h, i, j, k, l, m, n, o, p), q, r, s) => (laws_szHouse ((a, b, c, d, e, f, g, h, i, j, k, l, m, n, o, p), 1048576)).bind fun t => bif decide (t < 0) then some true else (laws_toHouse (a, b, c, d, e, f, g, h, i, j, k, l, m, n, o, p)).bind fun (u, v, w, x, y, z, a1, b1, c1, d1, e1, f1, g1, h1, i1, j1) => (spec_KeyTotal ((u, v, w, x, y, z, a1, b1, c1, d1, e1, f1, g1, h1, i1, j1), q, r, s)).bind fun ((k1, l1, m1, n1, o1, p1, q1), r1) => (laws_toHouse (a, b, c, d, e, f, g, h, i, j, k, l, m, n, o, p)).bind fun (s1, t1, u1, v1, w1, x1, y1, z1, a2, b2, c2, d2, e2, f2, g2, h2) => (impl_KeyTotal ((s1, t1, u1, v1, w1, x1, y1, z1, a2, b2, c2, d2, e2, f2, g2, h2), q, r, s)).bind fun ((i2, j2, k2, l2, m2, n2, o2), p2) => (laws_eqSketch ((i2, j2, k2, l2, m2, n2, o2), k1, l1, m1, n1, o1, p1, q1)).bind fun q2 => bif !q2 then some false else bif p2 != r1 then some false else (laws_toHouse (a, b, c, d, e, f, g, h, i, j, k, l, m, n, o, p)).bind fun (r2, s2, t2, u2, v2, w2, x2, y2, z2, a3, b3, c3, d3, e3, f3, g3) => (laws_eqHouse ((s1, t1, u1, v1, w1, x1, y1, z1, a2, b2, c2, d2, e2, f2, g2, h2), r2, s2, t2, u2, v2, w2, x2, y2, z2, a3, b3, c3, d3, e3, f3, g3)).bind fun h3 => bif !h3 then some false else (laws_markHouse ((s1, t1, u1, v1, w1, x1, y1, z1, a2, b2, c2, d2, e2, f2, g2, h2), 1)).bind fun (i3, j3, k3, l3, m3, n3, o3, p3, q3, r3, s3, t3, u3, v3, w3, x3, y3) => bif decide (i3 < 0) then some false else (laws_eqSketch ((i2, j2, k2, l2, m2, n2, o2), k1, l1, m1, n1, o1, p1, q1)).bind fun z3 => bif !z3 then some false else bif p2 != r1 then some false else (laws_markSketch ((i2, j2, k2, l2, m2, n2, o2), 1)).bind fun (a4, b4, c4, d4, e4, f4, g4, h4) => (laws_heldSketch ((i2, j2, k2, l2, f4, g4, h4), 1)).bind fun i4 => bif decide (i4 < 0) then some false else bif i4 != a4 then some false else (laws_toHouse (a, b, c, d, e, f, g, h, i, j, k, l, m, n, o, p)).bind fun (j4, k4, l4, m4, n4, o4, p4, q4, r4, s4, t4, u4, v4, w4, x4, y4) => (impl_KeyTotal ((j4, k4, l4, m4, n4, o4, p4, q4, r4, s4, t4, u4, v4, w4, x4, y4), q, r, s)).bind fun ((z4, a5, b5, c5, d5, e5, f5), g5) => (laws_eqSketch ((z4, a5, b5, c5, d5, e5, f5), k1, l1, m1, n1, o1, p1, q1)).bind fun h5 => bif !h5 then some false else bif g5 != r1 then some false else (laws_heldSketch ((i2, j2, k2, l2, f4, g4, h4), 1)).bind fun i5 => bif decide (i5 < 0) then some false else bif i5 != a4 then some false else some true
def laws_FnExactKeyTotal_e : FEnt := ⟨111, [.tmp 8], [], [(.agg, cc5), (.one, [.dat kI]), (.one, [.dat kI]), (.one, [.dat kI])], ⟨119, [⟨8, .one, [.dat .bool]⟩]⟩, laws_FnExactKeyTotal⟩
theorem laws_FnExactKeyTotal_ok : FnOk Tryz.prog 8 laws_FnExactKeyTotal_e := fnOk_mk (tb := []) (c := (Tryz.f8.body).getD .skip) mixed Tryz.func8 (bC laws_szHouse_ok (bC laws_toHouse_ok (bC spec_KeyTotal_ok (bC impl_KeyTotal_ok (bC laws_eqSketch_ok (bC laws_eqHouse_ok (bC laws_markHouse_ok (bC laws_markSketch_ok (bC laws_heldSketch_ok bN))))))))) (by kernel_rfl) (by kernel_rfl) (by kernel_rfl) trivial (by intro d; kernel_rfl)


/-! spec.Busiest -/
def spec_Busiest_s250 : t123 → Option (t123 ⊕ Int)
  | ((a, b, c, d, e, f, g, h, i, j, k, l, m, n, o, p), q, r, s) => bif decide (s ≤ 4) then (spec_KeyTotal ((a, b, c, d, e, f, g, h, i, j, k, l, m, n, o, p), s, 0, 20)).bind fun ((t, u, v, w, x, y, z), a1) => bif decide (t > r) then some (.inl ((a, b, c, d, e, f, g, h, i, j, k, l, m, n, o, p), s, t, w64 (s + 1))) else some (.inl ((a, b, c, d, e, f, g, h, i, j, k, l, m, n, o, p), q, r, w64 (s + 1))) else some (.inr q)
def spec_Busiest_n250 : NEnt := ⟨⟨32, [⟨1, .box, cc5⟩, ⟨3, .one, [.dat kI]⟩, ⟨4, .one, [.dat kI]⟩, ⟨5, .one, [.dat kI]⟩]⟩, [(.exit 0, ⟨32, [⟨3, .one, [.dat kI]⟩]⟩)], lp spec_Busiest_s250⟩
def spec_Busiest : t120 → Option Int
  | (a, b, c, d, e, f, g, h, i, j, k, l, m, n, o, p) => (spec_HouseOk (a, b, c, d, e, f, g, h, i, j, k, l, m, n, o, p)).bind fun q => bif !q then some (-1) else (lp spec_Busiest_s250 ((a, b, c, d, e, f, g, h, i, j, k, l, m, n, o, p), (-1), 0, 0)).bind fun r => some r
def spec_Busiest_e : FEnt := ⟨30, [.tmp 2], [], [(.agg, cc5)], ⟨32, [⟨2, .one, [.dat kI]⟩]⟩, spec_Busiest⟩
theorem spec_Busiest_ok : FnOk Tryz.prog 23 spec_Busiest_e := fnOk_mk (tb := [(250, spec_Busiest_n250)]) (c := (Tryz.f23.body).getD .skip) mixed Tryz.func23 (bC spec_HouseOk_ok (bC spec_KeyTotal_ok bN)) (by kernel_rfl) (by kernel_rfl) (by kernel_rfl) ⟨nodeLoop (by kernel_rfl) spec_Busiest_s250 (by kernel_rfl) (by intro d; kernel_rfl), trivial⟩ (by intro d; kernel_rfl)


/-! impl.Busiest -/
def impl_Busiest_s58 : t123 → Option (t123 ⊕ Int)
  | ((a, b, c, d, e, f, g, h, i, j, k, l, m, n, o, p), q, r, s) => bif decide (s ≤ 4) then (impl_KeyTotal ((a, b, c, d, e, f, g, h, i, j, k, l, m, n, o, p), s, 0, 20)).bind fun ((t, u, v, w, x, y, z), a1) => bif decide (t > r) then some (.inl ((a, b, c, d, e, f, g, h, i, j, k, l, m, n, o, p), s, t, w64 (s + 1))) else some (.inl ((a, b, c, d, e, f, g, h, i, j, k, l, m, n, o, p), q, r, w64 (s + 1))) else some (.inr q)
def impl_Busiest_n58 : NEnt := ⟨⟨28, [⟨1, .box, cc5⟩, ⟨3, .one, [.dat kI]⟩, ⟨4, .one, [.dat kI]⟩, ⟨5, .one, [.dat kI]⟩]⟩, [(.exit 0, ⟨28, [⟨3, .one, [.dat kI]⟩]⟩)], lp impl_Busiest_s58⟩
def impl_Busiest : t120 → Option Int
  | (a, b, c, d, e, f, g, h, i, j, k, l, m, n, o, p) => (lp impl_Busiest_s58 ((a, b, c, d, e, f, g, h, i, j, k, l, m, n, o, p), (-1), 0, 0)).bind fun q => some q
def impl_Busiest_e : FEnt := ⟨26, [.tmp 2], [], [(.agg, cc5)], ⟨28, [⟨2, .one, [.dat kI]⟩]⟩, impl_Busiest⟩
theorem impl_Busiest_ok : FnOk Tryz.prog 24 impl_Busiest_e := fnOk_mk (tb := [(58, impl_Busiest_n58)]) (c := (Tryz.f24.body).getD .skip) mixed Tryz.func24 (bC impl_KeyTotal_ok bN) (by kernel_rfl) (by kernel_rfl) (by kernel_rfl) ⟨nodeLoop (by kernel_rfl) impl_Busiest_s58 (by kernel_rfl) (by intro d; kernel_rfl), trivial⟩ (by intro d; kernel_rfl)


/-! laws.FnExactBusiest -/
def laws_FnExactBusiest : t120 → Option Bool
  | (a, b, c, d, e, f, g, h, i, j, k, l, m, n, o, p) => (laws_szHouse ((a, b, c, d, e, f, g, h, i, j, k, l, m, n, o, p), 1048576)).bind fun q => bif decide (q < 0) then some true else (laws_toHouse (a, b, c, d, e, f, g, h, i, j, k, l, m, n, o, p)).bind fun (r, s, t, u, v, w, x, y, z, a1, b1, c1, d1, e1, f1, g1) => (spec_Busiest (r, s, t, u, v, w, x, y, z, a1, b1, c1, d1, e1, f1, g1)).bind fun h1 => (laws_toHouse (a, b, c, d, e, f, g, h, i, j, k, l, m, n, o, p)).bind fun (i1, j1, k1, l1, m1, n1, o1, p1, q1, r1, s1, t1, u1, v1, w1, x1) => (impl_Busiest (i1, j1, k1, l1, m1, n1, o1, p1, q1, r1, s1, t1, u1, v1, w1, x1)).bind fun y1 => bif y1 != h1 then some false else (laws_toHouse (a, b, c, d, e, f, g, h, i, j, k, l, m, n, o, p)).bind fun (z1, a2, b2, c2, d2, e2, f2, g2, h2, i2, j2, k2, l2, m2, n2, o2) => (laws_eqHouse ((i1, j1, k1, l1, m1, n1, o1, p1, q1, r1, s1, t1, u1, v1, w1, x1), z1, a2, b2, c2, d2, e2, f2, g2, h2, i2, j2, k2, l2, m2, n2, o2)).bind fun p2 => bif !p2 then some false else some true
def laws_FnExactBusiest_e : FEnt := ⟨27, [.tmp 2], [], [(.agg, cc5)], ⟨29, [⟨2, .one, [.dat .bool]⟩]⟩, laws_FnExactBusiest⟩
theorem laws_FnExactBusiest_ok : FnOk Tryz.prog 5 laws_FnExactBusiest_e := fnOk_mk (tb := []) (c := (Tryz.f5.body).getD .skip) mixed Tryz.func5 (bC laws_szHouse_ok (bC laws_toHouse_ok (bC spec_Busiest_ok (bC impl_Busiest_ok (bC laws_eqHouse_ok bN))))) (by kernel_rfl) (by kernel_rfl) (by kernel_rfl) trivial (by intro d; kernel_rfl)



end Go.Proofs.YtkegollaleklaaaGreat.Tw
