/- Printed by print.lean: typed twins of functions and their proofs. No condition. -/
import Derived.Test.YtkegollaleklaaaGreatV
import Derived.Test.YtkegollaleklaaaGreatExt
import Derived.Test.YtkegollaleklaaaGreatProg
import Derived.KernelRfl
namespace Go.Proofs.YtkegollaleklaaaGreat.Tw
open Go.Mach
set_option linter.unusedVariables false
set_option maxRecDepth 100000
abbrev kI : K := .int .i64
abbrev kB : K := .int .u8
abbrev t0 : Type := List (Int × Int) × Int
abbrev t1 : Type := Int × List (Int × Int)
abbrev t2 : Type := Int × Unit × Unit × Unit
abbrev t3 : Type := List Int × List Int × Int
abbrev t4 : Type := List Int × List (List Int)
abbrev t5 : Type := Int × List Int × Int × Int
abbrev t6 : Type := List (List Int) × Int × Int
abbrev t7 : Type := List (Int × Int) × Int × Int
abbrev t8 : Type := Int × t2
abbrev t9 : Type := List Int × Int × Int × Int × Int
abbrev t10 : Type := Int × t7
abbrev t11 : Type := (Int × Unit) × (Int × Unit) × Unit
abbrev t12 : Type := List (Int × Bool × List Int) × Int
abbrev t13 : Type := Int × List (Int × Bool × List Int)
abbrev t14 : Type := List (Int × Int) × List (Int × Int)
abbrev t15 : Type := Int × t8
abbrev t16 : Type := List Int × t4
abbrev t17 : Type := Int × t9
abbrev t18 : Type := List (List Int) × List (List Int) × Int
abbrev t19 : Type := Int × t10
abbrev t20 : Type := List (Int × Bool × List Int) × Int × Int
abbrev t21 : Type := List (Int × Int) × t0
abbrev t22 : Type := Int × t15
abbrev t23 : Type := Int × t16
abbrev t24 : Type := Int × t17
abbrev t25 : Type := List (Int × Int) × t7
abbrev t26 : Type := Int × t23
abbrev t27 : Type := Int × t24
abbrev t28 : Type := List t19 × Int
abbrev t29 : Type := Int × t26
abbrev t30 : Type := List t19 × Int × Int
abbrev t31 : Type := Int × t29
abbrev t32 : Type := List (Int × Bool × List Int) × t12
abbrev t33 : Type := t31 × Int
abbrev t34 : Type := List (Int × Int) × t31
abbrev t35 : Type := Int × t34
abbrev t36 : Type := t31 × List Int × Int × Int
abbrev t37 : Type := Int × t35
abbrev t38 : Type := List (Int × Int) × List (Int × Int) × t30
abbrev t39 : Type := Int × t37
abbrev t40 : Type := List t37 × Int
abbrev t41 : Type := Int × List t37
abbrev t42 : Type := Unit × List t37
abbrev t43 : Type := t22 × t31
abbrev t44 : Type := List t37 × Int × Int
abbrev t45 : Type := List t39 × Int
abbrev t46 : Type := List (List t37) × Int
abbrev t47 : Type := Int × List (List t37)
abbrev t48 : Type := List (List t37) × Unit
abbrev t49 : Type := List t39 × Int × Int
abbrev t50 : Type := List (List t37) × Int × Int
abbrev t51 : Type := List (List (List t37)) × Int
abbrev t52 : Type := List (List t37) × Int × Bool
abbrev t53 : Type := Int × List (List (List t37))
abbrev t54 : Type := Int × List Int × t40
abbrev t55 : Type := List (Int × Int) × t40
abbrev t56 : Type := List (List (List t37)) × Int × Int
abbrev t57 : Type := t22 × t31 × t6
abbrev t58 : Type := List t37 × List t39
abbrev t59 : Type := List t37 × t44
abbrev t60 : Type := Int × t58
abbrev t61 : Type := List t37 × Unit × t40
abbrev t62 : Type := List (List t37) × t46
abbrev t63 : Type := List (List (List t37)) × t51
abbrev t64 : Type := List (Int × Bool × List Int) × t60
abbrev t65 : Type := List (List (List t37)) × Int × t48 × t52
abbrev t66 : Type := List (List (List t37)) × t64
abbrev t67 : Type := List t19 × t66
abbrev t68 : Type := Bool × t67
abbrev t69 : Type := Int × t68
abbrev t70 : Type := Int × t69
abbrev t71 : Type := Int × t70
abbrev t72 : Type := Int × t71
abbrev t73 : Type := Int × t72
abbrev t74 : Type := List Int × t73
abbrev t75 : Type := Int × t74
abbrev t76 : Type := Int × t75
abbrev t77 : Type := Int × t76
abbrev t78 : Type := t77 × Int
abbrev t79 : Type := t77 × Int × Int
abbrev t80 : Type := t77 × Int × Int × Int
abbrev kk11 : K := (.list (.list kI))
abbrev kk10 : K := (.list (.pair kI kI))
abbrev kk9 : K := (.pair kI (.pair .bool (.list kI)))
abbrev kk8 : K := (.list kk9)
abbrev kk7 : K := (.pair kI (.pair kI (.pair kk10 (.pair kI kI))))
abbrev kk6 : K := (.list kk7)
abbrev kk5 : K := (.pair kI (.pair kI (.pair kk10 (.pair kI (.pair kI (.pair kI (.pair kI (.pair (.list kI) (.pair (.list kI) kk11)))))))))
abbrev kk4 : K := (.list kk5)
abbrev kk3 : K := (.pair kI kk5)
abbrev kk2 : K := (.list kk4)
abbrev kk1 : K := (.list kk3)
abbrev kk0 : K := (.list kk2)
abbrev cc0 : List PC := [.dat kI, .dat kI, .dat kI, .own true kI, .dat kI, .dat kI, .dat kI, .dat kI, .dat kI, .dat .bool, .own true kk7, .own true kk2, .own true kk9, .dat kI, .own true kk5, .own true kk3]
abbrev cc1 : List PC := [.dat kI, .dat kI, .dat kI, .dat (.list kI), .dat kI, .dat kI, .dat kI, .dat kI, .dat kI, .dat .bool, .dat kk6, .dat kk0, .dat kk8, .dat kI, .dat kk4, .dat kk1]
abbrev cc2 : List PC := [.dat kI, .dat kI, .own true (.pair kI kI), .dat kI, .dat kI, .dat kI, .dat kI, .own true kI, .own true kI, .own true (.list kI)]
abbrev cc3 : List PC := [.dat kI, .dat kI, .dat kI, .dat kk10, .dat kI, .dat kI, .dat kI, .dat kI, .dat (.list kI), .dat (.list kI), .dat kk11]
abbrev cc4 : List PC := [.dat kI, .dat kI, .dat kk10, .dat kI, .dat kI, .dat kI, .dat kI, .dat (.list kI), .dat (.list kI), .dat kk11]
abbrev cc5 : List PC := [.dat kI, .dat kI, .dat kI, .dat kI, .own true kI, .own true kI, .own true (.list kI)]
abbrev cc6 : List PC := [.dat kI, .dat kI, .dat kI, .dat kI, .dat (.list kI), .dat (.list kI), .dat kk11]
abbrev cc7 : List PC := [.dat kI, .dat kI, .dat kI, .dat (.list kI), .dat kI, .dat kI, .dat kI, .dat kI]
abbrev cc8 : List PC := [.dat kI, .dat kI, .dat kI, .dat kI, .own true kI, .nil, .own true (.list kI)]
abbrev cc9 : List PC := [.dat kI, .dat kI, .dat kI, .own true kI, .dat kI, .dat kI, .dat kI, .dat kI]
abbrev cc10 : List PC := [.dat kI, .dat kI, .dat kI, .dat kI, .nil, .nil, .nil]
abbrev cc11 : List PC := [.dat kI, .dat kI, .dat kk10, .dat kI, .dat kI]
abbrev cc12 : List PC := [.dat kI, .dat .bool, .dat (.list kI)]
abbrev cc13 : List PC := [.fn 144 [.pim [kI] 0, .pim [kI] 0]]
abbrev cc14 : List PC := [.own true (.pair kI kI)]
abbrev cc15 : List PC := [.fn 190 [.pim [kI] 0]]
abbrev cc16 : List PC := [.own true (.list kI)]
abbrev cc17 : List PC := [.dat kI, .dat kI]
theorem mixed : Tryz.prog.follows .mixedOrders = true := by kernel_rfl

/-! laws.szSpanS -/
def laws_szSpanS : t0 → Option Int
  | (a, b) => (some (decide ((w64 (b - (ln a))) < 0))).bind fun c => bif c then some (-1) else some (w64 (b - (ln a)))
def laws_szSpanS_e : FEnt := ⟨12, [.tmp 4], [], [(.one, [.dat kk10]), (.one, [.dat kI])], ⟨16, [⟨4, .one, [.dat kI]⟩]⟩, laws_szSpanS⟩
theorem laws_szSpanS_ok : FnOk Tryz.prog 162 laws_szSpanS_e := fnOk_mk (tb := []) (c := (Tryz.f162.body).getD .skip) mixed Tryz.func162 bN (by kernel_rfl) (by kernel_rfl) (by kernel_rfl) trivial (by intro d; kernel_rfl)


/-! laws.szIntS -/
def laws_szIntS : List Int × Int → Option Int
  | (a, b) => (some (decide ((w64 (b - (ln a))) < 0))).bind fun c => bif c then some (-1) else some (w64 (b - (ln a)))
def laws_szIntS_e : FEnt := ⟨12, [.tmp 4], [], [(.one, [.dat (.list kI)]), (.one, [.dat kI])], ⟨16, [⟨4, .one, [.dat kI]⟩]⟩, laws_szIntS⟩
theorem laws_szIntS_ok : FnOk Tryz.prog 115 laws_szIntS_e := fnOk_mk (tb := []) (c := (Tryz.f115.body).getD .skip) mixed Tryz.func115 bN (by kernel_rfl) (by kernel_rfl) (by kernel_rfl) trivial (by intro d; kernel_rfl)


/-! laws.szIntSS -/
def laws_szIntSS_s122 : t6 → Option (t6 ⊕ Int ⊕ Int)
  | (a, b, c) => bif decide (c < (ln a)) then ix c a.length ((laws_szIntS (gx a c [], b)).bind fun d => bif decide (d < 0) then some (.inr (.inl (-1))) else some (.inl (a, d, w64 (c + 1)))) else some (.inr (.inr b))
def laws_szIntSS_n122 : NEnt := ⟨⟨31, [⟨0, .one, [.dat kk11]⟩, ⟨1, .one, [.dat kI]⟩, ⟨5, .one, [.dat kI]⟩]⟩, [(.ret, ⟨31, [⟨4, .one, [.dat kI]⟩]⟩), (.exit 0, ⟨31, [⟨1, .one, [.dat kI]⟩]⟩)], lp laws_szIntSS_s122⟩
def laws_szIntSS : List (List Int) × Int → Option Int
  | (a, b) => (some (decide ((w64 (b - (ln a))) < 0))).bind fun c => bif c then some (-1) else bx (lp laws_szIntSS_s122 (a, w64 (b - (ln a)), 0)) (fun d => some d) fun d => some d
def laws_szIntSS_e : FEnt := ⟨27, [.tmp 4], [], [(.one, [.dat kk11]), (.one, [.dat kI])], ⟨31, [⟨4, .one, [.dat kI]⟩]⟩, laws_szIntSS⟩
theorem laws_szIntSS_ok : FnOk Tryz.prog 196 laws_szIntSS_e := fnOk_mk (tb := [(122, laws_szIntSS_n122)]) (c := (Tryz.f196.body).getD .skip) mixed Tryz.func196 (bC laws_szIntS_ok bN) (by kernel_rfl) (by kernel_rfl) (by kernel_rfl) ⟨nodeLoop (by kernel_rfl) laws_szIntSS_s122 (by kernel_rfl) (by intro d; kernel_rfl), trivial⟩ (by intro d; kernel_rfl)


/-! laws.szSketch -/
def laws_szSketch : t33 → Option Int
  | ((a, b, c, d, e, f, g), h) => (laws_szIntS (e, h)).bind fun i => bif decide (i < 0) then some (-1) else (laws_szIntS (f, i)).bind fun j => bif decide (j < 0) then some (-1) else (laws_szIntSS (g, j)).bind fun k => bif decide (k < 0) then some (-1) else some k
def laws_szSketch_e : FEnt := ⟨24, [.tmp 4], [], [(.agg, cc6), (.one, [.dat kI])], ⟨28, [⟨4, .one, [.dat kI]⟩]⟩, laws_szSketch⟩
theorem laws_szSketch_ok : FnOk Tryz.prog 163 laws_szSketch_e := fnOk_mk (tb := []) (c := (Tryz.f163.body).getD .skip) mixed Tryz.func163 (bC laws_szIntS_ok (bC laws_szIntSS_ok bN)) (by kernel_rfl) (by kernel_rfl) (by kernel_rfl) trivial (by intro d; kernel_rfl)


/-! laws.szEntry -/
def laws_szEntry : t37 × Int → Option Int
  | ((a, b, c, d, e, f, g, h, i, j), k) => (laws_szSpanS (c, k)).bind fun l => bif decide (l < 0) then some (-1) else (laws_szSketch ((d, e, f, g, h, i, j), l)).bind fun m => bif decide (m < 0) then some (-1) else some m
def laws_szEntry_e : FEnt := ⟨18, [.tmp 4], [], [(.agg, cc4), (.one, [.dat kI])], ⟨22, [⟨4, .one, [.dat kI]⟩]⟩, laws_szEntry⟩
theorem laws_szEntry_ok : FnOk Tryz.prog 100 laws_szEntry_e := fnOk_mk (tb := []) (c := (Tryz.f100.body).getD .skip) mixed Tryz.func100 (bC laws_szSpanS_ok (bC laws_szSketch_ok bN)) (by kernel_rfl) (by kernel_rfl) (by kernel_rfl) trivial (by intro d; kernel_rfl)


/-! laws.szEntryS -/
def laws_szEntryS_s122 : t44 → Option (t44 ⊕ Int ⊕ Int)
  | (a, b, c) => (some (decide (c < (ln a)))).bind fun d => bif d then ix c a.length ((some (gx a c (0, 0, [], 0, 0, 0, 0, [], [], []))).bind fun (e, f, g, h, i, j, k, l, m, n) => (laws_szEntry ((e, f, g, h, i, j, k, l, m, n), b)).bind fun o => bif decide (o < 0) then some (.inr (.inl (-1))) else some (.inl (a, o, w64 (c + 1)))) else some (.inr (.inr b))
def laws_szEntryS_n122 : NEnt := ⟨⟨31, [⟨0, .one, [.dat kk4]⟩, ⟨1, .one, [.dat kI]⟩, ⟨5, .one, [.dat kI]⟩]⟩, [(.ret, ⟨31, [⟨4, .one, [.dat kI]⟩]⟩), (.exit 0, ⟨31, [⟨1, .one, [.dat kI]⟩]⟩)], lp laws_szEntryS_s122⟩
def laws_szEntryS : t40 → Option Int
  | (a, b) => (some (decide ((w64 (b - (ln a))) < 0))).bind fun c => bif c then some (-1) else bx (lp laws_szEntryS_s122 (a, w64 (b - (ln a)), 0)) (fun d => some d) fun d => some d
def laws_szEntryS_e : FEnt := ⟨27, [.tmp 4], [], [(.one, [.dat kk4]), (.one, [.dat kI])], ⟨31, [⟨4, .one, [.dat kI]⟩]⟩, laws_szEntryS⟩
theorem laws_szEntryS_ok : FnOk Tryz.prog 43 laws_szEntryS_e := fnOk_mk (tb := [(122, laws_szEntryS_n122)]) (c := (Tryz.f43.body).getD .skip) mixed Tryz.func43 (bC laws_szEntry_ok bN) (by kernel_rfl) (by kernel_rfl) (by kernel_rfl) ⟨nodeLoop (by kernel_rfl) laws_szEntryS_s122 (by kernel_rfl) (by intro d; kernel_rfl), trivial⟩ (by intro d; kernel_rfl)


/-! laws.szRow -/
def laws_szRow : t40 → Option Int
  | (a, b) => (laws_szEntryS (a, b)).bind fun c => bif decide (c < 0) then some (-1) else some c
def laws_szRow_e : FEnt := ⟨12, [.tmp 4], [], [(.agg, [.dat kk4]), (.one, [.dat kI])], ⟨16, [⟨4, .one, [.dat kI]⟩]⟩, laws_szRow⟩
theorem laws_szRow_ok : FnOk Tryz.prog 11 laws_szRow_e := fnOk_mk (tb := []) (c := (Tryz.f11.body).getD .skip) mixed Tryz.func11 (bC laws_szEntryS_ok bN) (by kernel_rfl) (by kernel_rfl) (by kernel_rfl) trivial (by intro d; kernel_rfl)


/-! laws.toSpan -/
def laws_toSpan : Int × Int → Option (Int × Int)
  | (a, b) => some (a, b)
def laws_toSpan_e : FEnt := ⟨11, [.cell 2 true 2], [], [(.agg, cc17)], ⟨13, [⟨2, .box, cc17⟩]⟩, laws_toSpan⟩
theorem laws_toSpan_ok : FnOk Tryz.prog 198 laws_toSpan_e := fnOk_mk (tb := []) (c := (Tryz.f198.body).getD .skip) mixed Tryz.func198 bN (by kernel_rfl) (by kernel_rfl) (by kernel_rfl) trivial (by intro d; kernel_rfl)


/-! laws.toSpanS -/
def laws_toSpanS_s58 : t21 → Option (t21 ⊕ List (Int × Int))
  | (a, b, c) => bif decide (c < (ln a)) then ix c a.length ((some (gx a c (0, 0))).bind fun (d, e) => (laws_toSpan (d, e)).bind fun (f, g) => ix c b.length (lx c b.length (some (.inl (a, sx b c (f, g), w64 (c + 1)))))) else some (.inr b)
def laws_toSpanS_n58 : NEnt := ⟨⟨25, [⟨0, .one, [.dat kk10]⟩, ⟨3, .one, cc14⟩, ⟨4, .one, [.dat kI]⟩]⟩, [(.exit 0, ⟨25, [⟨3, .one, cc14⟩]⟩)], lp laws_toSpanS_s58⟩
def laws_toSpanS : List (Int × Int) → Option (List (Int × Int))
  | a => chk (decide (((ln a).toNat ≤ (ln a).toNat) ∧ (((ln a).toNat ≤ 4294967296) ∧ (((ln a).toNat * 16) ≤ 140737488355328)))) ((lp laws_toSpanS_s58 (a, List.replicate (ln a).toNat (0, 0), 0)).bind fun b => some b)
def laws_toSpanS_e : FEnt := ⟨23, [.tmp 2], [], [(.one, [.dat kk10])], ⟨25, [⟨2, .one, cc14⟩]⟩, laws_toSpanS⟩
theorem laws_toSpanS_ok : FnOk Tryz.prog 168 laws_toSpanS_e := fnOk_mk (tb := [(58, laws_toSpanS_n58)]) (c := (Tryz.f168.body).getD .skip) mixed Tryz.func168 (bC laws_toSpan_ok bN) (by kernel_rfl) (by kernel_rfl) (by kernel_rfl) ⟨nodeLoop (by kernel_rfl) laws_toSpanS_s58 (by kernel_rfl) (by intro d; kernel_rfl), trivial⟩ (by intro d; kernel_rfl)


/-! laws.toIntS -/
def laws_toIntS_s58 : t3 → Option (t3 ⊕ List Int)
  | (a, b, c) => bif decide (c < (ln a)) then ix c a.length (ix c b.length (lx c b.length (some (.inl (a, sx b c (gx a c 0), w64 (c + 1)))))) else some (.inr b)
def laws_toIntS_n58 : NEnt := ⟨⟨24, [⟨0, .one, [.dat (.list kI)]⟩, ⟨3, .one, [.own true kI]⟩, ⟨4, .one, [.dat kI]⟩]⟩, [(.exit 0, ⟨24, [⟨3, .one, [.own true kI]⟩]⟩)], lp laws_toIntS_s58⟩
def laws_toIntS : List Int → Option (List Int)
  | a => chk (decide (((ln a).toNat ≤ (ln a).toNat) ∧ (((ln a).toNat ≤ 4294967296) ∧ (((ln a).toNat * 8) ≤ 140737488355328)))) ((lp laws_toIntS_s58 (a, List.replicate (ln a).toNat 0, 0)).bind fun b => some b)
def laws_toIntS_e : FEnt := ⟨22, [.tmp 2], [], [(.one, [.dat (.list kI)])], ⟨24, [⟨2, .one, [.own true kI]⟩]⟩, laws_toIntS⟩
theorem laws_toIntS_ok : FnOk Tryz.prog 127 laws_toIntS_e := fnOk_mk (tb := [(58, laws_toIntS_n58)]) (c := (Tryz.f127.body).getD .skip) mixed Tryz.func127 bN (by kernel_rfl) (by kernel_rfl) (by kernel_rfl) ⟨nodeLoop (by kernel_rfl) laws_toIntS_s58 (by kernel_rfl) (by intro d; kernel_rfl), trivial⟩ (by intro d; kernel_rfl)


/-! laws.toIntSS -/
def laws_toIntSS_s58 : t18 → Option (t18 ⊕ List (List Int))
  | (a, b, c) => bif decide (c < (ln a)) then ix c a.length ((laws_toIntS (gx a c [])).bind fun d => ix c b.length (lx c b.length (some (.inl (a, sx b c d, w64 (c + 1)))))) else some (.inr b)
def laws_toIntSS_n58 : NEnt := ⟨⟨25, [⟨0, .one, [.dat kk11]⟩, ⟨3, .one, cc16⟩, ⟨4, .one, [.dat kI]⟩]⟩, [(.exit 0, ⟨25, [⟨3, .one, cc16⟩]⟩)], lp laws_toIntSS_s58⟩
def laws_toIntSS : List (List Int) → Option (List (List Int))
  | a => chk (decide (((ln a).toNat ≤ (ln a).toNat) ∧ (((ln a).toNat ≤ 4294967296) ∧ (((ln a).toNat * 24) ≤ 140737488355328)))) ((lp laws_toIntSS_s58 (a, List.replicate (ln a).toNat [], 0)).bind fun b => some b)
def laws_toIntSS_e : FEnt := ⟨23, [.tmp 2], [], [(.one, [.dat kk11])], ⟨25, [⟨2, .one, cc16⟩]⟩, laws_toIntSS⟩
theorem laws_toIntSS_ok : FnOk Tryz.prog 199 laws_toIntSS_e := fnOk_mk (tb := [(58, laws_toIntSS_n58)]) (c := (Tryz.f199.body).getD .skip) mixed Tryz.func199 (bC laws_toIntS_ok bN) (by kernel_rfl) (by kernel_rfl) (by kernel_rfl) ⟨nodeLoop (by kernel_rfl) laws_toIntSS_s58 (by kernel_rfl) (by intro d; kernel_rfl), trivial⟩ (by intro d; kernel_rfl)


/-! laws.toSketch -/
def laws_toSketch : t31 → Option t31
  | (a, b, c, d, e, f, g) => (laws_toIntS e).bind fun h => (laws_toIntS f).bind fun i => (laws_toIntSS g).bind fun j => some (a, b, c, d, h, i, j)
def laws_toSketch_e : FEnt := ⟨29, [.cell 2 true 7], [], [(.agg, cc6)], ⟨31, [⟨2, .box, cc5⟩]⟩, laws_toSketch⟩
theorem laws_toSketch_ok : FnOk Tryz.prog 169 laws_toSketch_e := fnOk_mk (tb := []) (c := (Tryz.f169.body).getD .skip) mixed Tryz.func169 (bC laws_toIntS_ok (bC laws_toIntSS_ok bN)) (by kernel_rfl) (by kernel_rfl) (by kernel_rfl) trivial (by intro d; kernel_rfl)


/-! laws.toEntry -/
def laws_toEntry : t37 → Option t37
  | (a, b, c, d, e, f, g, h, i, j) => (laws_toSpanS c).bind fun k => (laws_toSketch (d, e, f, g, h, i, j)).bind fun (l, m, n, o, p, q, r) => some (a, b, k, l, m, n, o, p, q, r)
def laws_toEntry_e : FEnt := ⟨19, [.cell 2 true 10], [], [(.agg, cc4)], ⟨21, [⟨2, .box, cc2⟩]⟩, laws_toEntry⟩
theorem laws_toEntry_ok : FnOk Tryz.prog 106 laws_toEntry_e := fnOk_mk (tb := []) (c := (Tryz.f106.body).getD .skip) mixed Tryz.func106 (bC laws_toSpanS_ok (bC laws_toSketch_ok bN)) (by kernel_rfl) (by kernel_rfl) (by kernel_rfl) trivial (by intro d; kernel_rfl)


/-! laws.toEntryS -/
def laws_toEntryS_s58 : List t37 × t40 → Option (List t37 × t40 ⊕ List t37)
  | (a, b, c) => (some (decide (c < (ln a)))).bind fun d => bif d then ix c a.length ((some (gx a c (0, 0, [], 0, 0, 0, 0, [], [], []))).bind fun (e, f, g, h, i, j, k, l, m, n) => (laws_toEntry (e, f, g, h, i, j, k, l, m, n)).bind fun (o, p, q, r, s, t, u, v, w, x) => ix c b.length (lx c b.length ((some (sx b c (o, p, q, r, s, t, u, v, w, x))).bind fun y => some (.inl (a, y, w64 (c + 1)))))) else some (.inr b)
def laws_toEntryS_n58 : NEnt := ⟨⟨25, [⟨0, .one, [.dat kk4]⟩, ⟨3, .one, [.own true kk5]⟩, ⟨4, .one, [.dat kI]⟩]⟩, [(.exit 0, ⟨25, [⟨3, .one, [.own true kk5]⟩]⟩)], lp laws_toEntryS_s58⟩
def laws_toEntryS : List t37 → Option (List t37)
  | a => chk (decide (((ln a).toNat ≤ (ln a).toNat) ∧ (((ln a).toNat ≤ 4294967296) ∧ (((ln a).toNat * 144) ≤ 140737488355328)))) ((some (List.replicate (ln a).toNat (0, 0, [], 0, 0, 0, 0, [], [], []))).bind fun b => (lp laws_toEntryS_s58 (a, b, 0)).bind fun c => some c)
def laws_toEntryS_e : FEnt := ⟨23, [.tmp 2], [], [(.one, [.dat kk4])], ⟨25, [⟨2, .one, [.own true kk5]⟩]⟩, laws_toEntryS⟩
theorem laws_toEntryS_ok : FnOk Tryz.prog 47 laws_toEntryS_e := fnOk_mk (tb := [(58, laws_toEntryS_n58)]) (c := (Tryz.f47.body).getD .skip) mixed Tryz.func47 (bC laws_toEntry_ok bN) (by kernel_rfl) (by kernel_rfl) (by kernel_rfl) ⟨nodeLoop (by kernel_rfl) laws_toEntryS_s58 (by kernel_rfl) (by intro d; kernel_rfl), trivial⟩ (by intro d; kernel_rfl)


/-! laws.toRow -/
def laws_toRow : List t37 → Option (List t37)
  | a => (laws_toEntryS a).bind fun b => some b
def laws_toRow_e : FEnt := ⟨9, [.cell 2 true 1], [], [(.agg, [.dat kk4])], ⟨11, [⟨2, .box, [.own true kk5]⟩]⟩, laws_toRow⟩
theorem laws_toRow_ok : FnOk Tryz.prog 13 laws_toRow_e := fnOk_mk (tb := []) (c := (Tryz.f13.body).getD .skip) mixed Tryz.func13 (bC laws_toEntryS_ok bN) (by kernel_rfl) (by kernel_rfl) (by kernel_rfl) trivial (by intro d; kernel_rfl)


/-! spec.l1In -/
def spec_l1In : Int × Int × Int → Option Bool
  | (a, b, c) => bif decide (a ≥ b) then some (decide (a ≤ c)) else some false
def spec_l1In_e : FEnt := ⟨15, [.tmp 6], [], [(.one, [.dat kI]), (.one, [.dat kI]), (.one, [.dat kI])], ⟨21, [⟨6, .one, [.dat .bool]⟩]⟩, spec_l1In⟩
theorem spec_l1In_ok : FnOk Tryz.prog 86 spec_l1In_e := fnOk_mk (tb := []) (c := (Tryz.f86.body).getD .skip) mixed Tryz.func86 bN (by kernel_rfl) (by kernel_rfl) (by kernel_rfl) trivial (by intro d; kernel_rfl)


/-! spec.l6Place -/
def spec_l6Place : Int × Int → Option Bool
  | (a, b) => (spec_l1In (a, 0, 4)).bind fun c => bif c then (spec_l1In (b, 0, 20)).bind fun d => some d else some false
def spec_l6Place_e : FEnt := ⟨11, [.tmp 4], [], [(.one, [.dat kI]), (.one, [.dat kI])], ⟨15, [⟨4, .one, [.dat .bool]⟩]⟩, spec_l6Place⟩
theorem spec_l6Place_ok : FnOk Tryz.prog 164 spec_l6Place_e := fnOk_mk (tb := []) (c := (Tryz.f164.body).getD .skip) mixed Tryz.func164 (bC spec_l1In_ok bN) (by kernel_rfl) (by kernel_rfl) (by kernel_rfl) trivial (by intro d; kernel_rfl)


/-! spec.SetOk -/
def spec_SetOk_s26 : t0 → Option (t0 ⊕ Bool ⊕ Unit)
  | (a, b) => bif decide (b < (ln a)) then ix b a.length ((some (gx a b (0, 0))).bind fun (c, d) => (spec_l1In (c, 0, 9999)).bind fun e => bif !e then some (.inr (.inl false)) else ix b a.length ((some (gx a b (0, 0))).bind fun (f, g) => ix b a.length ((some (gx a b (0, 0))).bind fun (h, i) => (spec_l1In (g, h, 9999)).bind fun j => bif !j then some (.inr (.inl false)) else bif decide (b > 0) then ix b a.length ((some (gx a b (0, 0))).bind fun (k, l) => ix (w64 (b - 1)) a.length ((some (gx a (w64 (b - 1)) (0, 0))).bind fun (m, n) => bif decide (k ≤ (w64 (n + 1))) then some (.inr (.inl false)) else some (.inl (a, w64 (b + 1))))) else some (.inl (a, w64 (b + 1)))))) else some (.inr (.inr ()))
def spec_SetOk_n26 : NEnt := ⟨⟨52, [⟨0, .one, [.dat kk10]⟩, ⟨3, .one, [.dat kI]⟩]⟩, [(.ret, ⟨52, [⟨2, .one, [.dat .bool]⟩]⟩), (.exit 0, ⟨52, []⟩)], lp spec_SetOk_s26⟩
def spec_SetOk : List (Int × Int) → Option Bool
  | a => bx (lp spec_SetOk_s26 (a, 0)) (fun b => some b) fun _ => some true
def spec_SetOk_e : FEnt := ⟨50, [.tmp 2], [], [(.one, [.dat kk10])], ⟨52, [⟨2, .one, [.dat .bool]⟩]⟩, spec_SetOk⟩
theorem spec_SetOk_ok : FnOk Tryz.prog 146 spec_SetOk_e := fnOk_mk (tb := [(26, spec_SetOk_n26)]) (c := (Tryz.f146.body).getD .skip) mixed Tryz.func146 (bC spec_l1In_ok bN) (by kernel_rfl) (by kernel_rfl) (by kernel_rfl) ⟨nodeLoop (by kernel_rfl) spec_SetOk_s26 (by kernel_rfl) (by intro d; kernel_rfl), trivial⟩ (by intro d; kernel_rfl)


/-! spec.l3List -/
def spec_l3List_s58 : List Int × Int × Int × Bool × Int → Option (List Int × Int × Int × Bool × Int ⊕ Bool ⊕ Unit)
  | (a, b, c, d, e) => bif decide (e < b) then ix e a.length ((spec_l1In (gx a e 0, 0, c)).bind fun f => bif !f then some (.inr (.inl false)) else bif d then ix e a.length (bif (gx a e 0) != 0 then some (.inr (.inl false)) else some (.inl (a, b, c, d, w64 (e + 1)))) else some (.inl (a, b, c, d, w64 (e + 1)))) else some (.inr (.inr ()))
def spec_l3List_n58 : NEnt := ⟨⟨44, [⟨0, .one, [.dat (.list kI)]⟩, ⟨1, .one, [.dat kI]⟩, ⟨2, .one, [.dat kI]⟩, ⟨3, .one, [.dat .bool]⟩, ⟨9, .one, [.dat kI]⟩]⟩, [(.ret, ⟨44, [⟨8, .one, [.dat .bool]⟩]⟩), (.exit 0, ⟨44, []⟩)], lp spec_l3List_s58⟩
def spec_l3List : List Int × Int × Int × Bool → Option Bool
  | (a, b, c, d) => bif (ln a) != b then some false else bx (lp spec_l3List_s58 (a, b, c, d, 0)) (fun e => some e) fun _ => some true
def spec_l3List_e : FEnt := ⟨36, [.tmp 8], [], [(.one, [.dat (.list kI)]), (.one, [.dat kI]), (.one, [.dat kI]), (.one, [.dat .bool])], ⟨44, [⟨8, .one, [.dat .bool]⟩]⟩, spec_l3List⟩
theorem spec_l3List_ok : FnOk Tryz.prog 197 spec_l3List_e := fnOk_mk (tb := [(58, spec_l3List_n58)]) (c := (Tryz.f197.body).getD .skip) mixed Tryz.func197 (bC spec_l1In_ok bN) (by kernel_rfl) (by kernel_rfl) (by kernel_rfl) ⟨nodeLoop (by kernel_rfl) spec_l3List_s58 (by kernel_rfl) (by intro d; kernel_rfl), trivial⟩ (by intro d; kernel_rfl)


/-! spec.SketchOk -/
def spec_SketchOk_l31 : t31 × Bool → Option Bool
  | ((a, b, c, d, e, f, g), h) => (spec_l3List (e, 8, 1000000000, h)).bind fun i => bif i then (spec_l3List (f, 8, 17, h)).bind fun j => bif j then chk (decide (0 < g.length)) ((spec_l3List (List.getD g 0 [], 4, 1000000000, h)).bind fun k => bif k then chk (decide (1 < g.length)) ((spec_l3List (List.getD g 1 [], 4, 1000000000, h)).bind fun l => some l) else some false) else some false else some false
def spec_SketchOk_n31 : NEnt := ⟨⟨81, [⟨1, .box, cc6⟩, ⟨3, .one, [.dat .bool]⟩]⟩, [(.ret, ⟨81, [⟨2, .one, [.dat .bool]⟩]⟩)], spec_SketchOk_l31⟩
def spec_SketchOk : t31 → Option Bool
  | (a, b, c, d, e, f, g) => (spec_l1In (a, 0, 1000000000)).bind fun h => bif !h then some false else (spec_l1In (b, 0, 1000000000)).bind fun i => bif !i then some false else (spec_l1In (c, 0, 1000000)).bind fun j => bif !j then some false else (spec_l1In (d, 0, 1000000)).bind fun k => bif !k then some false else bif decide (c > d) then some false else bif (ln g) != 2 then some false else bif a == 0 then bif b != 0 then some false else bif d != 0 then some false else (spec_SketchOk_l31 ((a, b, c, d, e, f, g), a == 0)).bind fun l => some l else (spec_SketchOk_l31 ((a, b, c, d, e, f, g), a == 0)).bind fun l => some l
def spec_SketchOk_e : FEnt := ⟨79, [.tmp 2], [], [(.agg, cc6)], ⟨81, [⟨2, .one, [.dat .bool]⟩]⟩, spec_SketchOk⟩
theorem spec_SketchOk_ok : FnOk Tryz.prog 165 spec_SketchOk_e := fnOk_mk (tb := [(31, spec_SketchOk_n31)]) (c := (Tryz.f165.body).getD .skip) mixed Tryz.func165 (bC spec_l1In_ok (bC spec_l3List_ok bN)) (by kernel_rfl) (by kernel_rfl) (by kernel_rfl) ⟨nodeJoin (by kernel_rfl) (by intro d; kernel_rfl), trivial⟩ (by intro d; kernel_rfl)


/-! spec.EntryOk -/
def spec_EntryOk : t37 → Option Bool
  | (a, b, c, d, e, f, g, h, i, j) => (spec_l6Place (a, b)).bind fun k => bif k then bif decide ((ln c) > 0) then (spec_SetOk c).bind fun l => bif l then (spec_SketchOk (d, e, f, g, h, i, j)).bind fun m => some m else some false else some false else some false
def spec_EntryOk_e : FEnt := ⟨24, [.tmp 2], [], [(.agg, cc4)], ⟨26, [⟨2, .one, [.dat .bool]⟩]⟩, spec_EntryOk⟩
theorem spec_EntryOk_ok : FnOk Tryz.prog 101 spec_EntryOk_e := fnOk_mk (tb := []) (c := (Tryz.f101.body).getD .skip) mixed Tryz.func101 (bC spec_l6Place_ok (bC spec_SetOk_ok (bC spec_SketchOk_ok bN))) (by kernel_rfl) (by kernel_rfl) (by kernel_rfl) trivial (by intro d; kernel_rfl)


/-! spec.SetApart -/
def spec_SetApart_s3730 : t25 → Option (t25 ⊕ Bool ⊕ t21)
  | (a, b, c, d) => bif decide (d < (ln b)) then ix c a.length ((some (gx a c (0, 0))).bind fun (e, f) => ix d b.length ((some (gx b d (0, 0))).bind fun (g, h) => bif decide (e ≤ h) then ix d b.length ((some (gx b d (0, 0))).bind fun (i, j) => ix c a.length ((some (gx a c (0, 0))).bind fun (k, l) => bif decide (i ≤ l) then some (.inr (.inl false)) else some (.inl (a, b, c, w64 (d + 1))))) else some (.inl (a, b, c, w64 (d + 1))))) else some (.inr (.inr (a, b, c)))
def spec_SetApart_n3730 : NEnt := ⟨⟨55, [⟨0, .one, [.dat kk10]⟩, ⟨1, .one, [.dat kk10]⟩, ⟨5, .one, [.dat kI]⟩, ⟨6, .one, [.dat kI]⟩]⟩, [(.ret, ⟨55, [⟨4, .one, [.dat .bool]⟩]⟩), (.exit 2, ⟨55, [⟨0, .one, [.dat kk10]⟩, ⟨1, .one, [.dat kk10]⟩, ⟨5, .one, [.dat kI]⟩]⟩)], lp spec_SetApart_s3730⟩
def spec_SetApart_s58 : t21 → Option (t21 ⊕ Bool ⊕ Unit)
  | (a, b, c) => bif decide (c < (ln a)) then bx (lp spec_SetApart_s3730 (a, b, c, 0)) (fun d => some (.inr (.inl d))) fun (d, e, f) => some (.inl (d, e, w64 (f + 1))) else some (.inr (.inr ()))
def spec_SetApart_n58 : NEnt := ⟨⟨55, [⟨0, .one, [.dat kk10]⟩, ⟨1, .one, [.dat kk10]⟩, ⟨5, .one, [.dat kI]⟩]⟩, [(.ret, ⟨55, [⟨4, .one, [.dat .bool]⟩]⟩), (.exit 0, ⟨55, []⟩)], lp spec_SetApart_s58⟩
def spec_SetApart : t14 → Option Bool
  | (a, b) => (spec_SetOk a).bind fun c => bif !c then some false else (spec_SetOk b).bind fun d => bif !d then some false else bx (lp spec_SetApart_s58 (a, b, 0)) (fun e => some e) fun _ => some true
def spec_SetApart_e : FEnt := ⟨51, [.tmp 4], [], [(.one, [.dat kk10]), (.one, [.dat kk10])], ⟨55, [⟨4, .one, [.dat .bool]⟩]⟩, spec_SetApart⟩
theorem spec_SetApart_ok : FnOk Tryz.prog 102 spec_SetApart_e := fnOk_mk (tb := [(3730, spec_SetApart_n3730), (58, spec_SetApart_n58)]) (c := (Tryz.f102.body).getD .skip) mixed Tryz.func102 (bC spec_SetOk_ok bN) (by kernel_rfl) (by kernel_rfl) (by kernel_rfl) ⟨nodeLoop (by kernel_rfl) spec_SetApart_s3730 (by kernel_rfl) (by intro d; kernel_rfl), nodeLoop (by kernel_rfl) spec_SetApart_s58 (by kernel_rfl) (by intro d; kernel_rfl), trivial⟩ (by intro d; kernel_rfl)


/-! spec.RowOk -/
def spec_RowOk_s7462 : t44 → Option (t44 ⊕ Bool ⊕ t40)
  | (a, b, c) => bif decide (c < b) then ix b a.length ((some (gx a b (0, 0, [], 0, 0, 0, 0, [], [], []))).bind fun (d, e, f, g, h, i, j, k, l, m) => ix c a.length ((some (gx a c (0, 0, [], 0, 0, 0, 0, [], [], []))).bind fun (n, o, p, q, r, s, t, u, v, w) => (spec_SetApart (f, p)).bind fun x => bif !x then some (.inr (.inl false)) else some (.inl (a, b, w64 (c + 1))))) else some (.inr (.inr (a, b)))
def spec_RowOk_n7462 : NEnt := ⟨⟨44, [⟨1, .box, [.dat kk4]⟩, ⟨3, .one, [.dat kI]⟩, ⟨4, .one, [.dat kI]⟩]⟩, [(.ret, ⟨44, [⟨2, .one, [.dat .bool]⟩]⟩), (.exit 2, ⟨44, [⟨1, .box, [.dat kk4]⟩, ⟨3, .one, [.dat kI]⟩]⟩)], lp spec_RowOk_s7462⟩
def spec_RowOk_s58 : t40 → Option (t40 ⊕ Bool ⊕ Unit)
  | (a, b) => (some (decide (b < (ln a)))).bind fun c => bif c then ix b a.length ((some (gx a b (0, 0, [], 0, 0, 0, 0, [], [], []))).bind fun (d, e, f, g, h, i, j, k, l, m) => (spec_EntryOk (d, e, f, g, h, i, j, k, l, m)).bind fun n => bif !n then some (.inr (.inl false)) else bx (lp spec_RowOk_s7462 (a, b, 0)) (fun o => some (.inr (.inl o))) fun (o, p) => some (.inl (o, w64 (p + 1)))) else some (.inr (.inr ()))
def spec_RowOk_n58 : NEnt := ⟨⟨44, [⟨1, .box, [.dat kk4]⟩, ⟨3, .one, [.dat kI]⟩]⟩, [(.ret, ⟨44, [⟨2, .one, [.dat .bool]⟩]⟩), (.exit 0, ⟨44, []⟩)], lp spec_RowOk_s58⟩
def spec_RowOk : List t37 → Option Bool
  | a => (some (decide ((ln a) > 24))).bind fun b => bif b then some false else bx (lp spec_RowOk_s58 (a, 0)) (fun c => some c) fun _ => some true
def spec_RowOk_e : FEnt := ⟨42, [.tmp 2], [], [(.agg, [.dat kk4])], ⟨44, [⟨2, .one, [.dat .bool]⟩]⟩, spec_RowOk⟩
theorem spec_RowOk_ok : FnOk Tryz.prog 44 spec_RowOk_e := fnOk_mk (tb := [(7462, spec_RowOk_n7462), (58, spec_RowOk_n58)]) (c := (Tryz.f44.body).getD .skip) mixed Tryz.func44 (bC spec_EntryOk_ok (bC spec_SetApart_ok bN)) (by kernel_rfl) (by kernel_rfl) (by kernel_rfl) ⟨nodeLoop (by kernel_rfl) spec_RowOk_s7462 (by kernel_rfl) (by intro d; kernel_rfl), nodeLoop (by kernel_rfl) spec_RowOk_s58 (by kernel_rfl) (by intro d; kernel_rfl), trivial⟩ (by intro d; kernel_rfl)


/-! spec.l5Copy -/
def spec_l5Copy : List (Int × Int) → Option (List (Int × Int))
  | a => chk (fits (0 + a.length) 16) (some ([] ++ a))
def spec_l5Copy_e : FEnt := ⟨6, [.tmp 2], [], [(.one, [.dat kk10])], ⟨8, [⟨2, .one, cc14⟩]⟩, spec_l5Copy⟩
theorem spec_l5Copy_ok : FnOk Tryz.prog 166 spec_l5Copy_e := fnOk_mk (tb := []) (c := (Tryz.f166.body).getD .skip) mixed Tryz.func166 bN (by kernel_rfl) (by kernel_rfl) (by kernel_rfl) trivial (by intro d; kernel_rfl)


/-! spec.l3Copy -/
def spec_l3Copy_s506 : t31 × t22 × t33 → Option (t31 × t22 × t33 ⊕ t43)
  | ((a, b, c, d, e, f, g), (h, i, j, k, _, _, _), (l, m, n, o, p, q, r), s) => bif decide (s < (ln g)) then ix s g.length (chk (fits (0 + (gx g s []).length) 8) (chk (fits (r.length + [[] ++ (gx g s [])].length) 24) ((some (r ++ [[] ++ (gx g s [])])).bind fun t => some (.inl ((a, b, c, d, e, f, g), (h, i, j, k, (), (), ()), (l, m, n, o, p, q, t), w64 (s + 1)))))) else some (.inr ((h, i, j, k, (), (), ()), l, m, n, o, p, q, r))
def spec_l3Copy_n506 : NEnt := ⟨⟨39, [⟨1, .box, cc6⟩, ⟨2, .box, cc10⟩, ⟨3, .box, cc5⟩, ⟨4, .one, [.dat kI]⟩]⟩, [(.exit 0, ⟨39, [⟨2, .box, cc10⟩, ⟨3, .box, cc5⟩]⟩)], lp spec_l3Copy_s506⟩
def spec_l3Copy : t31 → Option t31
  | (a, b, c, d, e, f, g) => chk (fits (0 + e.length) 8) (chk (fits (0 + f.length) 8) ((lp spec_l3Copy_s506 ((a, b, c, d, e, f, g), (0, 0, 0, 0, (), (), ()), (a, b, c, d, [] ++ e, [] ++ f, []), 0)).bind fun ((h, i, j, k, _, _, _), l, m, n, o, p, q, r) => some (l, m, n, o, p, q, r)))
def spec_l3Copy_e : FEnt := ⟨37, [.cell 2 true 7], [], [(.agg, cc6)], ⟨39, [⟨2, .box, cc5⟩]⟩, spec_l3Copy⟩
theorem spec_l3Copy_ok : FnOk Tryz.prog 167 spec_l3Copy_e := fnOk_mk (tb := [(506, spec_l3Copy_n506)]) (c := (Tryz.f167.body).getD .skip) mixed Tryz.func167 bN (by kernel_rfl) (by kernel_rfl) (by kernel_rfl) ⟨nodeLoop (by kernel_rfl) spec_l3Copy_s506 (by kernel_rfl) (by intro d; kernel_rfl), trivial⟩ (by intro d; kernel_rfl)


/-! spec.l6Copy -/
def spec_l6Copy : t37 → Option t37
  | (a, b, c, d, e, f, g, h, i, j) => (spec_l5Copy c).bind fun k => (spec_l3Copy (d, e, f, g, h, i, j)).bind fun (l, m, n, o, p, q, r) => some (a, b, k, l, m, n, o, p, q, r)
def spec_l6Copy_e : FEnt := ⟨14, [.cell 2 true 10], [], [(.agg, cc4)], ⟨16, [⟨2, .box, cc2⟩]⟩, spec_l6Copy⟩
theorem spec_l6Copy_ok : FnOk Tryz.prog 103 spec_l6Copy_e := fnOk_mk (tb := []) (c := (Tryz.f103.body).getD .skip) mixed Tryz.func103 (bC spec_l5Copy_ok (bC spec_l3Copy_ok bN)) (by kernel_rfl) (by kernel_rfl) (by kernel_rfl) trivial (by intro d; kernel_rfl)


/-! spec.l10Copy -/
def spec_l10Copy_s58 : t61 → Option (t61 ⊕ t42)
  | (a, _, b, c) => (some (decide (c < (ln a)))).bind fun d => bif d then ix c a.length ((some (gx a c (0, 0, [], 0, 0, 0, 0, [], [], []))).bind fun (e, f, g, h, i, j, k, l, m, n) => (spec_l6Copy (e, f, g, h, i, j, k, l, m, n)).bind fun (o, p, q, r, s, t, u, v, w, x) => (some [(o, p, q, r, s, t, u, v, w, x)]).bind fun y => chk (fits (b.length + y.length) 144) ((some (b ++ y)).bind fun z => some (.inl (a, (), z, w64 (c + 1))))) else some (.inr ((), b))
def spec_l10Copy_n58 : NEnt := ⟨⟨27, [⟨1, .box, [.dat kk4]⟩, ⟨2, .box, [.nil]⟩, ⟨3, .box, [.own true kk5]⟩, ⟨4, .one, [.dat kI]⟩]⟩, [(.exit 0, ⟨27, [⟨2, .box, [.nil]⟩, ⟨3, .box, [.own true kk5]⟩]⟩)], lp spec_l10Copy_s58⟩
def spec_l10Copy : List t37 → Option (List t37)
  | a => (lp spec_l10Copy_s58 (a, (), [], 0)).bind fun (_, b) => some b
def spec_l10Copy_e : FEnt := ⟨25, [.cell 2 true 1], [], [(.agg, [.dat kk4])], ⟨27, [⟨2, .box, [.own true kk5]⟩]⟩, spec_l10Copy⟩
theorem spec_l10Copy_ok : FnOk Tryz.prog 45 spec_l10Copy_e := fnOk_mk (tb := [(58, spec_l10Copy_n58)]) (c := (Tryz.f45.body).getD .skip) mixed Tryz.func45 (bC spec_l6Copy_ok bN) (by kernel_rfl) (by kernel_rfl) (by kernel_rfl) ⟨nodeLoop (by kernel_rfl) spec_l10Copy_s58 (by kernel_rfl) (by intro d; kernel_rfl), trivial⟩ (by intro d; kernel_rfl)


/-! spec.l10Apart -/
def spec_l10Apart_s26 : t55 → Option (t55 ⊕ Bool ⊕ Unit)
  | (a, b, c) => (some (decide (c < (ln b)))).bind fun d => bif d then ix c b.length ((some (gx b c (0, 0, [], 0, 0, 0, 0, [], [], []))).bind fun (e, f, g, h, i, j, k, l, m, n) => (spec_SetApart (g, a)).bind fun o => bif !o then some (.inr (.inl false)) else some (.inl (a, b, w64 (c + 1)))) else some (.inr (.inr ()))
def spec_l10Apart_n26 : NEnt := ⟨⟨26, [⟨1, .one, [.dat kk10]⟩, ⟨2, .box, [.dat kk4]⟩, ⟨5, .one, [.dat kI]⟩]⟩, [(.ret, ⟨26, [⟨4, .one, [.dat .bool]⟩]⟩), (.exit 0, ⟨26, []⟩)], lp spec_l10Apart_s26⟩
def spec_l10Apart : List t37 × List (Int × Int) → Option Bool
  | (a, b) => bx (lp spec_l10Apart_s26 (b, a, 0)) (fun c => some c) fun _ => some true
def spec_l10Apart_e : FEnt := ⟨22, [.tmp 4], [], [(.agg, [.dat kk4]), (.one, [.dat kk10])], ⟨26, [⟨4, .one, [.dat .bool]⟩]⟩, spec_l10Apart⟩
theorem spec_l10Apart_ok : FnOk Tryz.prog 104 spec_l10Apart_e := fnOk_mk (tb := [(26, spec_l10Apart_n26)]) (c := (Tryz.f104.body).getD .skip) mixed Tryz.func104 (bC spec_SetApart_ok bN) (by kernel_rfl) (by kernel_rfl) (by kernel_rfl) ⟨nodeLoop (by kernel_rfl) spec_l10Apart_s26 (by kernel_rfl) (by intro d; kernel_rfl), trivial⟩ (by intro d; kernel_rfl)


/-! spec.l1Min -/
def spec_l1Min : Int × Int → Option Int
  | (a, b) => bif decide (a < b) then some a else some b
def spec_l1Min_e : FEnt := ⟨10, [.tmp 4], [], [(.one, [.dat kI]), (.one, [.dat kI])], ⟨14, [⟨4, .one, [.dat kI]⟩]⟩, spec_l1Min⟩
theorem spec_l1Min_ok : FnOk Tryz.prog 149 spec_l1Min_e := fnOk_mk (tb := []) (c := (Tryz.f149.body).getD .skip) mixed Tryz.func149 bN (by kernel_rfl) (by kernel_rfl) (by kernel_rfl) trivial (by intro d; kernel_rfl)


/-! spec.l1Max -/
def spec_l1Max : Int × Int → Option Int
  | (a, b) => bif decide (a > b) then some a else some b
def spec_l1Max_e : FEnt := ⟨10, [.tmp 4], [], [(.one, [.dat kI]), (.one, [.dat kI])], ⟨14, [⟨4, .one, [.dat kI]⟩]⟩, spec_l1Max⟩
theorem spec_l1Max_ok : FnOk Tryz.prog 150 spec_l1Max_e := fnOk_mk (tb := []) (c := (Tryz.f150.body).getD .skip) mixed Tryz.func150 bN (by kernel_rfl) (by kernel_rfl) (by kernel_rfl) trivial (by intro d; kernel_rfl)


/-! spec.l5Put -/
def spec_l5Put_s122 : List (Int × Int) × (Int × Int) × List (Int × Int) × Bool × Int → Option (List (Int × Int) × (Int × Int) × List (Int × Int) × Bool × Int ⊕ (Int × Int) × List (Int × Int) × Bool)
  | (a, (b, c), d, e, f) => bif decide (f < (ln a)) then ix f a.length ((some (gx a f (0, 0))).bind fun (g, h) => bif decide ((w64 (h + 1)) < b) then ix f a.length ((some (gx a f (0, 0))).bind fun (i, j) => chk (fits (d.length + [(i, j)].length) 16) (some (.inl (a, (b, c), d ++ [(i, j)], e, w64 (f + 1))))) else ix f a.length ((some (gx a f (0, 0))).bind fun (i, j) => bif decide (i > (w64 (c + 1))) then bif !e then chk (fits (d.length + [(b, c)].length) 16) (ix f a.length ((some (gx a f (0, 0))).bind fun (k, l) => chk (fits ((d ++ [(b, c)]).length + [(k, l)].length) 16) ((some ((d ++ [(b, c)]) ++ [(k, l)])).bind fun m => some (.inl (a, (b, c), m, true, w64 (f + 1)))))) else ix f a.length ((some (gx a f (0, 0))).bind fun (k, l) => chk (fits (d.length + [(k, l)].length) 16) (some (.inl (a, (b, c), d ++ [(k, l)], e, w64 (f + 1))))) else ix f a.length ((some (gx a f (0, 0))).bind fun (k, l) => (spec_l1Min (b, k)).bind fun m => ix f a.length ((some (gx a f (0, 0))).bind fun (n, o) => (spec_l1Max (c, o)).bind fun p => some (.inl (a, (m, p), d, e, w64 (f + 1))))))) else some (.inr ((b, c), d, e))
def spec_l5Put_n122 : NEnt := ⟨⟨83, [⟨0, .one, [.dat kk10]⟩, ⟨3, .box, cc17⟩, ⟨5, .one, cc14⟩, ⟨6, .one, [.dat .bool]⟩, ⟨7, .one, [.dat kI]⟩]⟩, [(.exit 0, ⟨83, [⟨3, .box, cc17⟩, ⟨5, .one, cc14⟩, ⟨6, .one, [.dat .bool]⟩]⟩)], lp spec_l5Put_s122⟩
def spec_l5Put : t7 → Option (List (Int × Int))
  | (a, b, c) => (lp spec_l5Put_s122 (a, (b, c), [], false, 0)).bind fun ((d, e), f, g) => bif !g then chk (fits (f.length + [(d, e)].length) 16) (some (f ++ [(d, e)])) else some f
def spec_l5Put_e : FEnt := ⟨79, [.tmp 4], [], [(.one, [.dat kk10]), (.agg, cc17)], ⟨83, [⟨4, .one, cc14⟩]⟩, spec_l5Put⟩
theorem spec_l5Put_ok : FnOk Tryz.prog 182 spec_l5Put_e := fnOk_mk (tb := [(122, spec_l5Put_n122)]) (c := (Tryz.f182.body).getD .skip) mixed Tryz.func182 (bC spec_l1Min_ok (bC spec_l1Max_ok bN)) (by kernel_rfl) (by kernel_rfl) (by kernel_rfl) ⟨nodeLoop (by kernel_rfl) spec_l5Put_s122 (by kernel_rfl) (by intro d; kernel_rfl), trivial⟩ (by intro d; kernel_rfl)


/-! spec.l5Join -/
def spec_l5Join_s58 : t21 → Option (t21 ⊕ List (Int × Int))
  | (a, b, c) => bif decide (c < (ln a)) then ix c a.length ((some (gx a c (0, 0))).bind fun (d, e) => (spec_l5Put (b, d, e)).bind fun f => some (.inl (a, f, w64 (c + 1)))) else some (.inr b)
def spec_l5Join_n58 : NEnt := ⟨⟨26, [⟨1, .one, [.dat kk10]⟩, ⟨5, .one, cc14⟩, ⟨6, .one, [.dat kI]⟩]⟩, [(.exit 0, ⟨26, [⟨5, .one, cc14⟩]⟩)], lp spec_l5Join_s58⟩
def spec_l5Join : t14 → Option (List (Int × Int))
  | (a, b) => (spec_l5Copy a).bind fun c => (lp spec_l5Join_s58 (b, c, 0)).bind fun d => some d
def spec_l5Join_e : FEnt := ⟨22, [.tmp 4], [], [(.one, [.dat kk10]), (.one, [.dat kk10])], ⟨26, [⟨4, .one, cc14⟩]⟩, spec_l5Join⟩
theorem spec_l5Join_ok : FnOk Tryz.prog 123 spec_l5Join_e := fnOk_mk (tb := [(58, spec_l5Join_n58)]) (c := (Tryz.f123.body).getD .skip) mixed Tryz.func123 (bC spec_l5Copy_ok (bC spec_l5Put_ok bN)) (by kernel_rfl) (by kernel_rfl) (by kernel_rfl) ⟨nodeLoop (by kernel_rfl) spec_l5Join_s58 (by kernel_rfl) (by intro d; kernel_rfl), trivial⟩ (by intro d; kernel_rfl)


/-! spec.l2Clip -/
def spec_l2Clip : Int × Int → Option Int
  | (a, b) => (spec_l1Min (a, b)).bind fun c => (spec_l1Max (0, c)).bind fun d => some d
def spec_l2Clip_e : FEnt := ⟨9, [.tmp 4], [], [(.one, [.dat kI]), (.one, [.dat kI])], ⟨13, [⟨4, .one, [.dat kI]⟩]⟩, spec_l2Clip⟩
theorem spec_l2Clip_ok : FnOk Tryz.prog 194 spec_l2Clip_e := fnOk_mk (tb := []) (c := (Tryz.f194.body).getD .skip) mixed Tryz.func194 (bC spec_l1Min_ok (bC spec_l1Max_ok bN)) (by kernel_rfl) (by kernel_rfl) (by kernel_rfl) trivial (by intro d; kernel_rfl)


/-! spec.Add -/
def spec_Add : Int × Int → Option Int
  | (a, b) => (spec_l2Clip (a, 1000000000)).bind fun c => (spec_l2Clip (b, 1000000000)).bind fun d => (spec_l1Min (w64 (c + d), 1000000000)).bind fun e => some e
def spec_Add_e : FEnt := ⟨11, [.tmp 4], [], [(.one, [.dat kI]), (.one, [.dat kI])], ⟨15, [⟨4, .one, [.dat kI]⟩]⟩, spec_Add⟩
theorem spec_Add_ok : FnOk Tryz.prog 148 spec_Add_e := fnOk_mk (tb := []) (c := (Tryz.f148.body).getD .skip) mixed Tryz.func148 (bC spec_l2Clip_ok (bC spec_l1Min_ok bN)) (by kernel_rfl) (by kernel_rfl) (by kernel_rfl) trivial (by intro d; kernel_rfl)


/-! spec.l3Sum -/
def spec_l3Sum_s58 : List Int × t3 → Option (List Int × t3 ⊕ List Int)
  | (a, b, c, d) => bif decide (d < (ln a)) then ix d a.length (ix d b.length ((spec_Add (gx a d 0, gx b d 0)).bind fun e => chk (fits (c.length + [e].length) 8) (some (.inl (a, b, c ++ [e], w64 (d + 1)))))) else some (.inr c)
def spec_l3Sum_n58 : NEnt := ⟨⟨31, [⟨0, .one, [.dat (.list kI)]⟩, ⟨1, .one, [.dat (.list kI)]⟩, ⟨5, .one, [.own true kI]⟩, ⟨6, .one, [.dat kI]⟩]⟩, [(.exit 0, ⟨31, [⟨5, .one, [.own true kI]⟩]⟩)], lp spec_l3Sum_s58⟩
def spec_l3Sum : List Int × List Int → Option (List Int)
  | (a, b) => (lp spec_l3Sum_s58 (a, b, [], 0)).bind fun c => some c
def spec_l3Sum_e : FEnt := ⟨27, [.tmp 4], [], [(.one, [.dat (.list kI)]), (.one, [.dat (.list kI)])], ⟨31, [⟨4, .one, [.own true kI]⟩]⟩, spec_l3Sum⟩
theorem spec_l3Sum_ok : FnOk Tryz.prog 151 spec_l3Sum_e := fnOk_mk (tb := [(58, spec_l3Sum_n58)]) (c := (Tryz.f151.body).getD .skip) mixed Tryz.func151 (bC spec_Add_ok bN) (by kernel_rfl) (by kernel_rfl) (by kernel_rfl) ⟨nodeLoop (by kernel_rfl) spec_l3Sum_s58 (by kernel_rfl) (by intro d; kernel_rfl), trivial⟩ (by intro d; kernel_rfl)


/-! spec.l3Merge -/
def spec_l3Merge_s250 : t31 × t31 × t22 × t33 → Option (t31 × t31 × t22 × t33 ⊕ t43)
  | ((a, b, c, d, e, f, g), (h, i, j, k, l, m, n), (o, p, q, r, _, _, _), (s, t, u, v, w, x, y), z) => bif decide (z < 8) then ix z f.length (ix z m.length ((spec_l1Max (gx f z 0, gx m z 0)).bind fun a1 => chk (fits (x.length + [a1].length) 8) (some (.inl ((a, b, c, d, e, f, g), (h, i, j, k, l, m, n), (o, p, q, r, (), (), ()), (s, t, u, v, w, x ++ [a1], y), w64 (z + 1)))))) else some (.inr ((o, p, q, r, (), (), ()), s, t, u, v, w, x, y))
def spec_l3Merge_n250 : NEnt := ⟨⟨89, [⟨2, .box, cc6⟩, ⟨3, .box, cc6⟩, ⟨4, .box, cc10⟩, ⟨5, .box, cc5⟩, ⟨6, .one, [.dat kI]⟩]⟩, [(.exit 0, ⟨89, [⟨4, .box, cc10⟩, ⟨5, .box, cc5⟩]⟩)], lp spec_l3Merge_s250⟩
def spec_l3Merge_l31 : t31 × t31 × t22 × Int × Int × Int × Int × List Int × Unit × List (List Int) → Option t31
  | ((a, b, c, d, e, f, g), (h, i, j, k, l, m, n), (o, p, q, r, _, _, _), s, t, u, v, w, _, x) => (lp spec_l3Merge_s250 ((a, b, c, d, e, f, g), (h, i, j, k, l, m, n), (o, p, q, r, (), (), ()), (s, t, u, v, w, [], x), 0)).bind fun ((y, z, a1, b1, _, _, _), c1, d1, e1, f1, g1, h1, i1) => some (c1, d1, e1, f1, g1, h1, i1)
def spec_l3Merge_n31 : NEnt := ⟨⟨89, [⟨2, .box, cc6⟩, ⟨3, .box, cc6⟩, ⟨4, .box, cc10⟩, ⟨5, .box, cc8⟩]⟩, [(.ret, ⟨89, [⟨4, .box, cc5⟩]⟩)], spec_l3Merge_l31⟩
def spec_l3Merge_l15 : t31 × t31 × t22 × Int × Int × Int × Int × List Int × Unit × List (List Int) → Option t31
  | ((a, b, c, d, e, f, g), (h, i, j, k, l, m, n), (o, p, q, r, _, _, _), s, t, u, v, w, _, x) => bif h == 0 then (spec_l3Merge_l31 ((a, b, c, d, e, f, g), (h, i, j, k, l, m, n), (o, p, q, r, (), (), ()), s, t, c, v, w, (), x)).bind fun (y, z, a1, b1, c1, d1, e1) => some (y, z, a1, b1, c1, d1, e1) else (spec_l3Merge_l31 ((a, b, c, d, e, f, g), (h, i, j, k, l, m, n), (o, p, q, r, (), (), ()), s, t, u, v, w, (), x)).bind fun (y, z, a1, b1, c1, d1, e1) => some (y, z, a1, b1, c1, d1, e1)
def spec_l3Merge_n15 : NEnt := ⟨⟨89, [⟨2, .box, cc6⟩, ⟨3, .box, cc6⟩, ⟨4, .box, cc10⟩, ⟨5, .box, cc8⟩]⟩, [(.ret, ⟨89, [⟨4, .box, cc5⟩]⟩)], spec_l3Merge_l15⟩
def spec_l3Merge : t31 × t31 → Option t31
  | ((a, b, c, d, e, f, g), h, i, j, k, l, m, n) => (spec_Add (a, h)).bind fun o => (spec_Add (b, i)).bind fun p => (spec_l1Min (c, j)).bind fun q => (spec_l1Max (d, k)).bind fun r => (spec_l3Sum (e, l)).bind fun s => chk (decide (0 < g.length)) (chk (decide (0 < n.length)) ((spec_l3Sum (List.getD g 0 [], List.getD n 0 [])).bind fun t => chk (decide (1 < g.length)) (chk (decide (1 < n.length)) ((spec_l3Sum (List.getD g 1 [], List.getD n 1 [])).bind fun u => bif a == 0 then (spec_l3Merge_l15 ((a, b, c, d, e, f, g), (h, i, j, k, l, m, n), (0, 0, 0, 0, (), (), ()), o, p, j, r, s, (), [t, u])).bind fun (v, w, x, y, z, a1, b1) => some (v, w, x, y, z, a1, b1) else (spec_l3Merge_l15 ((a, b, c, d, e, f, g), (h, i, j, k, l, m, n), (0, 0, 0, 0, (), (), ()), o, p, q, r, s, (), [t, u])).bind fun (v, w, x, y, z, a1, b1) => some (v, w, x, y, z, a1, b1)))))
def spec_l3Merge_e : FEnt := ⟨85, [.cell 4 true 7], [], [(.agg, cc6), (.agg, cc6)], ⟨89, [⟨4, .box, cc5⟩]⟩, spec_l3Merge⟩
theorem spec_l3Merge_ok : FnOk Tryz.prog 87 spec_l3Merge_e := fnOk_mk (tb := [(250, spec_l3Merge_n250), (31, spec_l3Merge_n31), (15, spec_l3Merge_n15)]) (c := (Tryz.f87.body).getD .skip) mixed Tryz.func87 (bC spec_Add_ok (bC spec_l1Min_ok (bC spec_l1Max_ok (bC spec_l3Sum_ok bN)))) (by kernel_rfl) (by kernel_rfl) (by kernel_rfl) ⟨nodeLoop (by kernel_rfl) spec_l3Merge_s250 (by kernel_rfl) (by intro d; kernel_rfl), nodeJoin (by kernel_rfl) (by intro d; kernel_rfl), nodeJoin (by kernel_rfl) (by intro d; kernel_rfl), trivial⟩ (by intro d; kernel_rfl)


/-! spec.l6Add -/
def spec_l6Add : t37 × t37 → Option t37
  | ((a, b, c, d, e, f, g, h, i, j), k, l, m, n, o, p, q, r, s, t) => (spec_l5Join (c, m)).bind fun u => (spec_l3Merge ((d, e, f, g, h, i, j), n, o, p, q, r, s, t)).bind fun (v, w, x, y, z, a1, b1) => some (a, b, u, v, w, x, y, z, a1, b1)
def spec_l6Add_e : FEnt := ⟨20, [.cell 4 true 10], [], [(.agg, cc4), (.agg, cc4)], ⟨24, [⟨4, .box, cc2⟩]⟩, spec_l6Add⟩
theorem spec_l6Add_ok : FnOk Tryz.prog 105 spec_l6Add_e := fnOk_mk (tb := []) (c := (Tryz.f105.body).getD .skip) mixed Tryz.func105 (bC spec_l5Join_ok (bC spec_l3Merge_ok bN)) (by kernel_rfl) (by kernel_rfl) (by kernel_rfl) trivial (by intro d; kernel_rfl)


/-! spec.RowPush -/
def spec_RowPush_s122 : Bool × List t37 × t37 × Unit × t40 → Option (Bool × List t37 × t37 × Unit × t40 ⊕ List t37 × Bool ⊕ List t37 × t37 × t42)
  | (a, b, (c, d, e, f, g, h, i, j, k, l), _, m, n) => (some (decide (n < (ln m)))).bind fun o => bif o then bif a then ix n m.length (lx n m.length ((some (gx m n (0, 0, [], 0, 0, 0, 0, [], [], []))).bind fun (p, q, r, s, t, u, v, w, x, y) => bif p == c then ix n m.length (lx n m.length ((some (gx m n (0, 0, [], 0, 0, 0, 0, [], [], []))).bind fun (z, a1, b1, c1, d1, e1, f1, g1, h1, i1) => bif a1 == d then ix n m.length (lx n m.length ((some (gx m n (0, 0, [], 0, 0, 0, 0, [], [], []))).bind fun (j1, k1, l1, m1, n1, o1, p1, q1, r1, s1) => (spec_l6Add ((j1, k1, (gx m n (0, 0, [], 0, 0, 0, 0, [], [], [])).2.2.1, m1, n1, o1, p1, (gx m n (0, 0, [], 0, 0, 0, 0, [], [], [])).2.2.2.2.2.2.2.1, (gx m n (0, 0, [], 0, 0, 0, 0, [], [], [])).2.2.2.2.2.2.2.2.1, (gx m n (0, 0, [], 0, 0, 0, 0, [], [], [])).2.2.2.2.2.2.2.2.2), c, d, e, f, g, h, i, j, k, l)).bind fun (t1, u1, v1, w1, x1, y1, z1, a2, b2, c2) => ix n m.length (lx n m.length ((some (sx m n (t1, u1, v1, w1, x1, y1, z1, a2, b2, c2))).bind fun d2 => some (.inr (.inl (d2, true))))))) else some (.inl (a, b, (c, d, e, f, g, h, i, j, k, l), (), m, w64 (n + 1))))) else some (.inl (a, b, (c, d, e, f, g, h, i, j, k, l), (), m, w64 (n + 1))))) else some (.inr (.inr (b, (c, d, e, f, g, h, i, j, k, l), (), m))) else some (.inr (.inr (b, (c, d, e, f, g, h, i, j, k, l), (), m)))
def spec_RowPush_n122 : NEnt := ⟨⟨89, [⟨2, .one, [.dat .bool]⟩, ⟨3, .box, [.dat kk4]⟩, ⟨4, .box, cc4⟩, ⟨6, .box, [.nil]⟩, ⟨8, .box, [.own true kk5]⟩, ⟨9, .one, [.dat kI]⟩]⟩, [(.ret, ⟨89, [⟨6, .box, [.own true kk5]⟩, ⟨7, .one, [.dat .bool]⟩]⟩), (.exit 0, ⟨89, [⟨3, .box, [.dat kk4]⟩, ⟨4, .box, cc4⟩, ⟨6, .box, [.nil]⟩, ⟨8, .box, [.own true kk5]⟩]⟩)], lp spec_RowPush_s122⟩
def spec_RowPush : List t37 × t37 × Bool → Option (List t37 × Bool)
  | (a, (b, c, d, e, f, g, h, i, j, k), l) => (spec_l10Copy a).bind fun m => (spec_RowOk a).bind fun n => bif !n then some (m, false) else (spec_EntryOk (b, c, d, e, f, g, h, i, j, k)).bind fun o => bif !o then some (m, false) else (spec_l10Apart (a, d)).bind fun p => bif !p then some (m, false) else bx (lp spec_RowPush_s122 (l, a, (b, c, d, e, f, g, h, i, j, k), (), m, 0)) (fun (q, r) => some (q, r)) fun (q, (r, s, t, u, v, w, x, y, z, a1), _, b1) => bif (ln q) == 24 then some (b1, false) else (spec_l6Copy (r, s, t, u, v, w, x, y, z, a1)).bind fun (c1, d1, e1, f1, g1, h1, i1, j1, k1, l1) => (some [(c1, d1, e1, f1, g1, h1, i1, j1, k1, l1)]).bind fun m1 => chk (fits (b1.length + m1.length) 144) ((some (b1 ++ m1)).bind fun n1 => some (n1, true))
def spec_RowPush_e : FEnt := ⟨83, [.cell 6 true 1, .tmp 7], [], [(.agg, [.dat kk4]), (.agg, cc4), (.one, [.dat .bool])], ⟨89, [⟨6, .box, [.own true kk5]⟩, ⟨7, .one, [.dat .bool]⟩]⟩, spec_RowPush⟩
theorem spec_RowPush_ok : FnOk Tryz.prog 46 spec_RowPush_e := fnOk_mk (tb := [(122, spec_RowPush_n122)]) (c := (Tryz.f46.body).getD .skip) mixed Tryz.func46 (bC spec_l10Copy_ok (bC spec_RowOk_ok (bC spec_EntryOk_ok (bC spec_l10Apart_ok (bC spec_l6Add_ok (bC spec_l6Copy_ok bN)))))) (by kernel_rfl) (by kernel_rfl) (by kernel_rfl) ⟨nodeLoop (by kernel_rfl) spec_RowPush_s122 (by kernel_rfl) (by intro d; kernel_rfl), trivial⟩ (by intro d; kernel_rfl)


/-! spec.JoinRow -/
def spec_JoinRow_s122 : t61 → Option (t61 ⊕ t42)
  | (a, _, b, c) => (some (decide (c < (ln a)))).bind fun d => bif d then ix c a.length ((some (gx a c (0, 0, [], 0, 0, 0, 0, [], [], []))).bind fun (e, f, g, h, i, j, k, l, m, n) => (spec_RowPush (b, (e, f, g, h, i, j, k, l, m, n), true)).bind fun (o, p) => some (.inl (a, (), o, w64 (c + 1)))) else some (.inr ((), b))
def spec_JoinRow_n122 : NEnt := ⟨⟨31, [⟨1, .box, [.dat kk4]⟩, ⟨2, .box, [.nil]⟩, ⟨3, .box, [.own true kk5]⟩, ⟨4, .one, [.dat kI]⟩]⟩, [(.exit 0, ⟨31, [⟨2, .box, [.nil]⟩, ⟨3, .box, [.own true kk5]⟩]⟩)], lp spec_JoinRow_s122⟩
def spec_JoinRow : List t37 → Option (List t37)
  | a => (spec_RowOk a).bind fun b => bif !b then (spec_l10Copy a).bind fun c => some c else (lp spec_JoinRow_s122 (a, (), [], 0)).bind fun (_, c) => some c
def spec_JoinRow_e : FEnt := ⟨29, [.cell 2 true 1], [], [(.agg, [.dat kk4])], ⟨31, [⟨2, .box, [.own true kk5]⟩]⟩, spec_JoinRow⟩
theorem spec_JoinRow_ok : FnOk Tryz.prog 12 spec_JoinRow_e := fnOk_mk (tb := [(122, spec_JoinRow_n122)]) (c := (Tryz.f12.body).getD .skip) mixed Tryz.func12 (bC spec_RowOk_ok (bC spec_l10Copy_ok (bC spec_RowPush_ok bN))) (by kernel_rfl) (by kernel_rfl) (by kernel_rfl) ⟨nodeLoop (by kernel_rfl) spec_JoinRow_s122 (by kernel_rfl) (by intro d; kernel_rfl), trivial⟩ (by intro d; kernel_rfl)


/-! impl.within -/
def impl_within : Int × Int × Int → Option Bool
  | (a, b, c) => bif decide (a ≥ b) then some (decide (a ≤ c)) else some false
def impl_within_e : FEnt := ⟨15, [.tmp 6], [], [(.one, [.dat kI]), (.one, [.dat kI]), (.one, [.dat kI])], ⟨21, [⟨6, .one, [.dat .bool]⟩]⟩, impl_within⟩
theorem impl_within_ok : FnOk Tryz.prog 88 impl_within_e := fnOk_mk (tb := []) (c := (Tryz.f88.body).getD .skip) mixed Tryz.func88 bN (by kernel_rfl) (by kernel_rfl) (by kernel_rfl) trivial (by intro d; kernel_rfl)


/-! impl.SetOk -/
def impl_SetOk_s26 : t25 → Option (t25 ⊕ Bool ⊕ Unit)
  | (a, b, c, d) => bif decide (d < c) then ix d b.length ((some (gx b d (0, 0))).bind fun (e, f) => (impl_within (e, 0, 9999)).bind fun g => bif !g then some (.inr (.inl false)) else (impl_within (f, e, 9999)).bind fun h => bif !h then some (.inr (.inl false)) else bif decide (d > 0) then ix (w64 (d - 1)) a.length ((some (gx a (w64 (d - 1)) (0, 0))).bind fun (i, j) => bif decide (e ≤ (w64 (j + 1))) then some (.inr (.inl false)) else some (.inl (a, b, c, w64 (d + 1)))) else some (.inl (a, b, c, w64 (d + 1)))) else some (.inr (.inr ()))
def impl_SetOk_n26 : NEnt := ⟨⟨43, [⟨0, .one, [.dat kk10]⟩, ⟨5, .one, [.dat kk10]⟩, ⟨6, .one, [.dat kI]⟩, ⟨7, .one, [.dat kI]⟩]⟩, [(.ret, ⟨43, [⟨2, .one, [.dat .bool]⟩]⟩), (.exit 0, ⟨43, []⟩)], lp impl_SetOk_s26⟩
def impl_SetOk : List (Int × Int) → Option Bool
  | a => bx (lp impl_SetOk_s26 (a, a, ln a, 0)) (fun b => some b) fun _ => some true
def impl_SetOk_e : FEnt := ⟨41, [.tmp 2], [], [(.one, [.dat kk10])], ⟨43, [⟨2, .one, [.dat .bool]⟩]⟩, impl_SetOk⟩
theorem impl_SetOk_ok : FnOk Tryz.prog 147 impl_SetOk_e := fnOk_mk (tb := [(26, impl_SetOk_n26)]) (c := (Tryz.f147.body).getD .skip) mixed Tryz.func147 (bC impl_within_ok bN) (by kernel_rfl) (by kernel_rfl) (by kernel_rfl) ⟨nodeLoop (by kernel_rfl) impl_SetOk_s26 (by kernel_rfl) (by intro d; kernel_rfl), trivial⟩ (by intro d; kernel_rfl)


/-! impl.copyInts -/
def impl_copyInts : List Int → Option (List Int)
  | a => chk (fits a.length 8) (some a)
def impl_copyInts_e : FEnt := ⟨5, [.tmp 2], [], [(.one, [.dat (.list kI)])], ⟨7, [⟨2, .one, [.own true kI]⟩]⟩, impl_copyInts⟩
theorem impl_copyInts_ok : FnOk Tryz.prog 195 impl_copyInts_e := fnOk_mk (tb := []) (c := (Tryz.f195.body).getD .skip) mixed Tryz.func195 bN (by kernel_rfl) (by kernel_rfl) (by kernel_rfl) trivial (by intro d; kernel_rfl)


/-! impl.counts -/
def impl_counts_s58 : List Int × t6 → Option (List Int × t6 ⊕ List Int)
  | (a, b, c, d) => bif decide (d < c) then ix d b.length (chk (fits (a.length + (gx b d []).length) 8) (some (.inl (a ++ (gx b d []), b, c, w64 (d + 1))))) else some (.inr a)
def impl_counts_n58 : NEnt := ⟨⟨26, [⟨3, .one, [.own true kI]⟩, ⟨13, .one, [.dat kk11]⟩, ⟨14, .one, [.dat kI]⟩, ⟨15, .one, [.dat kI]⟩]⟩, [(.exit 0, ⟨26, [⟨3, .one, [.own true kI]⟩]⟩)], lp impl_counts_s58⟩
def impl_counts : t31 → Option (List Int)
  | (a, b, c, d, e, f, g) => (impl_copyInts e).bind fun h => chk (fits (h.length + f.length) 8) ((lp impl_counts_s58 (h ++ f, g, ln g, 0)).bind fun i => some i)
def impl_counts_e : FEnt := ⟨24, [.tmp 2], [], [(.agg, cc6)], ⟨26, [⟨2, .one, [.own true kI]⟩]⟩, impl_counts⟩
theorem impl_counts_ok : FnOk Tryz.prog 200 impl_counts_e := fnOk_mk (tb := [(58, impl_counts_n58)]) (c := (Tryz.f200.body).getD .skip) mixed Tryz.func200 (bC impl_copyInts_ok bN) (by kernel_rfl) (by kernel_rfl) (by kernel_rfl) ⟨nodeLoop (by kernel_rfl) impl_counts_s58 (by kernel_rfl) (by intro d; kernel_rfl), trivial⟩ (by intro d; kernel_rfl)


/-! impl.SketchOk -/
def impl_SketchOk_s122 : t31 × t5 → Option (t31 × t5 ⊕ Bool ⊕ t33)
  | ((a, b, c, d, e, f, g), h, i, j, k) => bif decide (k < j) then ix k i.length (lx k i.length ((impl_within (gx i k 0, 0, 1000000000)).bind fun l => bif !l then some (.inr (.inl false)) else some (.inl ((a, b, c, d, e, f, g), w64 (h + (gx i k 0)), i, j, w64 (k + 1))))) else some (.inr (.inr ((a, b, c, d, e, f, g), h)))
def impl_SketchOk_n122 : NEnt := ⟨⟨91, [⟨1, .box, cc6⟩, ⟨3, .one, [.dat kI]⟩, ⟨51, .one, [.own true kI]⟩, ⟨52, .one, [.dat kI]⟩, ⟨53, .one, [.dat kI]⟩]⟩, [(.ret, ⟨91, [⟨2, .one, [.dat .bool]⟩]⟩), (.exit 0, ⟨91, [⟨1, .box, cc6⟩, ⟨3, .one, [.dat kI]⟩]⟩)], lp impl_SketchOk_s122⟩
def impl_SketchOk_s250 : t31 × t5 → Option (t31 × t5 ⊕ Bool ⊕ t33)
  | ((a, b, c, d, e, f, g), h, i, j, k) => bif decide (k < j) then ix k i.length (bif decide ((gx i k 0) > 17) then some (.inr (.inl false)) else some (.inl ((a, b, c, d, e, f, g), h, i, j, w64 (k + 1)))) else some (.inr (.inr ((a, b, c, d, e, f, g), h)))
def impl_SketchOk_n250 : NEnt := ⟨⟨91, [⟨1, .box, cc6⟩, ⟨3, .one, [.dat kI]⟩, ⟨65, .one, [.dat (.list kI)]⟩, ⟨66, .one, [.dat kI]⟩, ⟨67, .one, [.dat kI]⟩]⟩, [(.ret, ⟨91, [⟨2, .one, [.dat .bool]⟩]⟩), (.exit 2, ⟨91, [⟨1, .box, cc6⟩, ⟨3, .one, [.dat kI]⟩]⟩)], lp impl_SketchOk_s250⟩
def impl_SketchOk : t31 → Option Bool
  | (a, b, c, d, e, f, g) => bif (ln e) != 8 then some false else bif (ln f) != 8 then some false else bif (ln g) != 2 then some false else chk (decide (0 < g.length)) (bif (ln (List.getD g 0 [])) != 4 then some false else chk (decide (1 < g.length)) (bif (ln (List.getD g 1 [])) != 4 then some false else (impl_counts (a, b, c, d, e, f, g)).bind fun h => chk (fits (h.length + [a, b, c, d].length) 8) (bx (lp impl_SketchOk_s122 ((a, b, c, d, e, f, g), 0, h ++ [a, b, c, d], ln (h ++ [a, b, c, d]), 0)) (fun i => some i) fun ((i, j, k, l, m, n, o), p) => bx (lp impl_SketchOk_s250 ((i, j, k, l, m, n, o), p, n, ln n, 0)) (fun q => some q) fun ((q, r, s, t, u, v, w), x) => bif q == 0 then some (x == 0) else bif decide (s ≤ t) then some (decide (t ≤ 1000000)) else some false)))
def impl_SketchOk_e : FEnt := ⟨89, [.tmp 2], [], [(.agg, cc6)], ⟨91, [⟨2, .one, [.dat .bool]⟩]⟩, impl_SketchOk⟩
theorem impl_SketchOk_ok : FnOk Tryz.prog 171 impl_SketchOk_e := fnOk_mk (tb := [(250, impl_SketchOk_n250), (122, impl_SketchOk_n122)]) (c := (Tryz.f171.body).getD .skip) mixed Tryz.func171 (bC impl_counts_ok (bC impl_within_ok bN)) (by kernel_rfl) (by kernel_rfl) (by kernel_rfl) ⟨nodeLoop (by kernel_rfl) impl_SketchOk_s250 (by kernel_rfl) (by intro d; kernel_rfl), nodeLoop (by kernel_rfl) impl_SketchOk_s122 (by kernel_rfl) (by intro d; kernel_rfl), trivial⟩ (by intro d; kernel_rfl)


/-! impl.EntryOk -/
def impl_EntryOk : t37 → Option Bool
  | (a, b, c, d, e, f, g, h, i, j) => (impl_within (a, 0, 4)).bind fun k => bif k then (impl_within (b, 0, 20)).bind fun l => bif l then (impl_SetOk c).bind fun m => bif m then bif decide ((ln c) > 0) then (impl_SketchOk (d, e, f, g, h, i, j)).bind fun n => some n else some false else some false else some false else some false
def impl_EntryOk_e : FEnt := ⟨27, [.tmp 2], [], [(.agg, cc4)], ⟨29, [⟨2, .one, [.dat .bool]⟩]⟩, impl_EntryOk⟩
theorem impl_EntryOk_ok : FnOk Tryz.prog 109 impl_EntryOk_e := fnOk_mk (tb := []) (c := (Tryz.f109.body).getD .skip) mixed Tryz.func109 (bC impl_within_ok (bC impl_SetOk_ok (bC impl_SketchOk_ok bN))) (by kernel_rfl) (by kernel_rfl) (by kernel_rfl) trivial (by intro d; kernel_rfl)


/-! impl.SetApart -/
def impl_SetApart_s14950 : List (Int × Int) × (Int × Int) × List (Int × Int) × t19 → Option (List (Int × Int) × (Int × Int) × List (Int × Int) × t19 ⊕ Bool ⊕ t25)
  | (a, (b, c), d, e, f, g, h, i) => bif decide (i < h) then ix i g.length ((some (gx g i (0, 0))).bind fun (j, k) => bif decide (b ≤ k) then bif decide (j ≤ c) then some (.inr (.inl false)) else some (.inl (a, (b, c), d, e, f, g, h, w64 (i + 1))) else some (.inl (a, (b, c), d, e, f, g, h, w64 (i + 1)))) else some (.inr (.inr (a, d, e, f)))
def impl_SetApart_n14950 : NEnt := ⟨⟨47, [⟨1, .one, [.dat kk10]⟩, ⟨6, .box, cc17⟩, ⟨17, .one, [.dat kk10]⟩, ⟨18, .one, [.dat kI]⟩, ⟨19, .one, [.dat kI]⟩, ⟨23, .one, [.dat kk10]⟩, ⟨24, .one, [.dat kI]⟩, ⟨25, .one, [.dat kI]⟩]⟩, [(.ret, ⟨47, [⟨4, .one, [.dat .bool]⟩]⟩), (.exit 2, ⟨47, [⟨1, .one, [.dat kk10]⟩, ⟨17, .one, [.dat kk10]⟩, ⟨18, .one, [.dat kI]⟩, ⟨19, .one, [.dat kI]⟩]⟩)], lp impl_SetApart_s14950⟩
def impl_SetApart_s58 : t25 → Option (t25 ⊕ Bool ⊕ Unit)
  | (a, b, c, d) => bif decide (d < c) then ix d b.length ((some (gx b d (0, 0))).bind fun (e, f) => bx (lp impl_SetApart_s14950 (a, (e, f), b, c, d, a, ln a, 0)) (fun g => some (.inr (.inl g))) fun (g, h, i, j) => some (.inl (g, h, i, w64 (j + 1)))) else some (.inr (.inr ()))
def impl_SetApart_n58 : NEnt := ⟨⟨47, [⟨1, .one, [.dat kk10]⟩, ⟨17, .one, [.dat kk10]⟩, ⟨18, .one, [.dat kI]⟩, ⟨19, .one, [.dat kI]⟩]⟩, [(.ret, ⟨47, [⟨4, .one, [.dat .bool]⟩]⟩), (.exit 0, ⟨47, []⟩)], lp impl_SetApart_s58⟩
def impl_SetApart : t14 → Option Bool
  | (a, b) => (impl_SetOk a).bind fun c => bif !c then some false else (impl_SetOk b).bind fun d => bif !d then some false else bx (lp impl_SetApart_s58 (b, a, ln a, 0)) (fun e => some e) fun _ => some true
def impl_SetApart_e : FEnt := ⟨43, [.tmp 4], [], [(.one, [.dat kk10]), (.one, [.dat kk10])], ⟨47, [⟨4, .one, [.dat .bool]⟩]⟩, impl_SetApart⟩
theorem impl_SetApart_ok : FnOk Tryz.prog 170 impl_SetApart_e := fnOk_mk (tb := [(14950, impl_SetApart_n14950), (58, impl_SetApart_n58)]) (c := (Tryz.f170.body).getD .skip) mixed Tryz.func170 (bC impl_SetOk_ok bN) (by kernel_rfl) (by kernel_rfl) (by kernel_rfl) ⟨nodeLoop (by kernel_rfl) impl_SetApart_s14950 (by kernel_rfl) (by intro d; kernel_rfl), nodeLoop (by kernel_rfl) impl_SetApart_s58 (by kernel_rfl) (by intro d; kernel_rfl), trivial⟩ (by intro d; kernel_rfl)


/-! impl.apart -/
def impl_apart_s13518 : List t37 × t37 × List t37 × Int × Int × t44 → Option (List t37 × t37 × List t37 × Int × Int × t44 ⊕ Bool ⊕ t59)
  | (a, (b, c, d, e, f, g, h, i, j, k), l, m, n, o, p, q) => bif decide (q < p) then ix q o.length ((some (gx o q (0, 0, [], 0, 0, 0, 0, [], [], []))).bind fun (r, s, t, u, v, w, x, y, z, a1) => (impl_SetApart (d, t)).bind fun b1 => bif !b1 then some (.inr (.inl false)) else some (.inl (a, (b, c, d, e, f, g, h, i, j, k), l, m, n, o, p, w64 (q + 1)))) else some (.inr (.inr (a, l, m, n)))
def impl_apart_n13518 : NEnt := ⟨⟨35, [⟨0, .one, [.dat kk4]⟩, ⟨4, .box, cc4⟩, ⟨7, .one, [.dat kk4]⟩, ⟨8, .one, [.dat kI]⟩, ⟨9, .one, [.dat kI]⟩, ⟨19, .one, [.dat kk4]⟩, ⟨20, .one, [.dat kI]⟩, ⟨21, .one, [.dat kI]⟩]⟩, [(.ret, ⟨35, [⟨2, .one, [.dat .bool]⟩]⟩), (.exit 2, ⟨35, [⟨0, .one, [.dat kk4]⟩, ⟨7, .one, [.dat kk4]⟩, ⟨8, .one, [.dat kI]⟩, ⟨9, .one, [.dat kI]⟩]⟩)], lp impl_apart_s13518⟩
def impl_apart_s26 : t59 → Option (t59 ⊕ Bool ⊕ Unit)
  | (a, b, c, d) => bif decide (d < c) then ix d b.length ((some (gx b d (0, 0, [], 0, 0, 0, 0, [], [], []))).bind fun (e, f, g, h, i, j, k, l, m, n) => (impl_EntryOk (e, f, g, h, i, j, k, l, m, n)).bind fun o => bif !o then some (.inr (.inl false)) else g0 d (chk (decide ((0 ≤ d.toNat) ∧ (d.toNat ≤ a.length))) ((some (ln (List.take d.toNat a))).bind fun p => bx (lp impl_apart_s13518 (a, (e, f, g, h, i, j, k, l, m, n), b, c, d, List.take d.toNat a, p, 0)) (fun q => some (.inr (.inl q))) fun (q, r, s, t) => some (.inl (q, r, s, w64 (t + 1)))))) else some (.inr (.inr ()))
def impl_apart_n26 : NEnt := ⟨⟨35, [⟨0, .one, [.dat kk4]⟩, ⟨7, .one, [.dat kk4]⟩, ⟨8, .one, [.dat kI]⟩, ⟨9, .one, [.dat kI]⟩]⟩, [(.ret, ⟨35, [⟨2, .one, [.dat .bool]⟩]⟩), (.exit 0, ⟨35, []⟩)], lp impl_apart_s26⟩
def impl_apart : List t37 → Option Bool
  | a => bx (lp impl_apart_s26 (a, a, ln a, 0)) (fun b => some b) fun _ => some true
def impl_apart_e : FEnt := ⟨33, [.tmp 2], [], [(.one, [.dat kk4])], ⟨35, [⟨2, .one, [.dat .bool]⟩]⟩, impl_apart⟩
theorem impl_apart_ok : FnOk Tryz.prog 107 impl_apart_e := fnOk_mk (tb := [(13518, impl_apart_n13518), (26, impl_apart_n26)]) (c := (Tryz.f107.body).getD .skip) mixed Tryz.func107 (bC impl_EntryOk_ok (bC impl_SetApart_ok bN)) (by kernel_rfl) (by kernel_rfl) (by kernel_rfl) ⟨nodeLoop (by kernel_rfl) impl_apart_s13518 (by kernel_rfl) (by intro d; kernel_rfl), nodeLoop (by kernel_rfl) impl_apart_s26 (by kernel_rfl) (by intro d; kernel_rfl), trivial⟩ (by intro d; kernel_rfl)


/-! impl.RowOk -/
def impl_RowOk : List t37 → Option Bool
  | a => (some (decide ((ln a) ≤ 24))).bind fun b => bif b then (impl_apart a).bind fun c => some c else some false
def impl_RowOk_e : FEnt := ⟨12, [.tmp 2], [], [(.agg, [.dat kk4])], ⟨14, [⟨2, .one, [.dat .bool]⟩]⟩, impl_RowOk⟩
theorem impl_RowOk_ok : FnOk Tryz.prog 48 impl_RowOk_e := fnOk_mk (tb := []) (c := (Tryz.f48.body).getD .skip) mixed Tryz.func48 (bC impl_apart_ok bN) (by kernel_rfl) (by kernel_rfl) (by kernel_rfl) trivial (by intro d; kernel_rfl)


/-! impl.copySet -/
def impl_copySet : List (Int × Int) → Option (List (Int × Int))
  | a => chk (fits a.length 16) (some a)
def impl_copySet_e : FEnt := ⟨5, [.tmp 2], [], [(.one, [.dat kk10])], ⟨7, [⟨2, .one, cc14⟩]⟩, impl_copySet⟩
theorem impl_copySet_ok : FnOk Tryz.prog 174 impl_copySet_e := fnOk_mk (tb := []) (c := (Tryz.f174.body).getD .skip) mixed Tryz.func174 bN (by kernel_rfl) (by kernel_rfl) (by kernel_rfl) trivial (by intro d; kernel_rfl)


/-! impl.copySketch -/
def impl_copySketch_s506 : t57 → Option (t57 ⊕ t43)
  | ((a, b, c, d, _, _, _), (e, f, g, h, i, j, k), l, m, n) => bif decide (n < m) then ix n l.length ((impl_copyInts (gx l n [])).bind fun o => chk (fits (k.length + [o].length) 24) (some (.inl ((a, b, c, d, (), (), ()), (e, f, g, h, i, j, k ++ [o]), l, m, w64 (n + 1))))) else some (.inr ((a, b, c, d, (), (), ()), e, f, g, h, i, j, k))
def impl_copySketch_n506 : NEnt := ⟨⟨34, [⟨2, .box, cc10⟩, ⟨3, .box, cc5⟩, ⟨17, .one, [.dat kk11]⟩, ⟨18, .one, [.dat kI]⟩, ⟨19, .one, [.dat kI]⟩]⟩, [(.exit 0, ⟨34, [⟨2, .box, cc10⟩, ⟨3, .box, cc5⟩]⟩)], lp impl_copySketch_s506⟩
def impl_copySketch : t31 → Option t31
  | (a, b, c, d, e, f, g) => (impl_copyInts e).bind fun h => (impl_copyInts f).bind fun i => (lp impl_copySketch_s506 ((0, 0, 0, 0, (), (), ()), (a, b, c, d, h, i, []), g, ln g, 0)).bind fun ((j, k, l, m, _, _, _), n, o, p, q, r, s, t) => some (n, o, p, q, r, s, t)
def impl_copySketch_e : FEnt := ⟨32, [.cell 2 true 7], [], [(.agg, cc6)], ⟨34, [⟨2, .box, cc5⟩]⟩, impl_copySketch⟩
theorem impl_copySketch_ok : FnOk Tryz.prog 175 impl_copySketch_e := fnOk_mk (tb := [(506, impl_copySketch_n506)]) (c := (Tryz.f175.body).getD .skip) mixed Tryz.func175 (bC impl_copyInts_ok bN) (by kernel_rfl) (by kernel_rfl) (by kernel_rfl) ⟨nodeLoop (by kernel_rfl) impl_copySketch_s506 (by kernel_rfl) (by intro d; kernel_rfl), trivial⟩ (by intro d; kernel_rfl)


/-! impl.copyEntry -/
def impl_copyEntry : t37 → Option t37
  | (a, b, c, d, e, f, g, h, i, j) => (impl_copySet c).bind fun k => (impl_copySketch (d, e, f, g, h, i, j)).bind fun (l, m, n, o, p, q, r) => some (a, b, k, l, m, n, o, p, q, r)
def impl_copyEntry_e : FEnt := ⟨12, [.cell 2 true 10], [], [(.agg, cc4)], ⟨14, [⟨2, .box, cc2⟩]⟩, impl_copyEntry⟩
theorem impl_copyEntry_ok : FnOk Tryz.prog 111 impl_copyEntry_e := fnOk_mk (tb := []) (c := (Tryz.f111.body).getD .skip) mixed Tryz.func111 (bC impl_copySet_ok (bC impl_copySketch_ok bN)) (by kernel_rfl) (by kernel_rfl) (by kernel_rfl) trivial (by intro d; kernel_rfl)


/-! impl.copyEntries -/
def impl_copyEntries_s58 : t59 → Option (t59 ⊕ List t37)
  | (a, b, c, d) => bif decide (d < c) then ix d b.length ((some (gx b d (0, 0, [], 0, 0, 0, 0, [], [], []))).bind fun (e, f, g, h, i, j, k, l, m, n) => (impl_copyEntry (e, f, g, h, i, j, k, l, m, n)).bind fun (o, p, q, r, s, t, u, v, w, x) => (some [(o, p, q, r, s, t, u, v, w, x)]).bind fun y => chk (fits (a.length + y.length) 144) ((some (a ++ y)).bind fun z => some (.inl (z, b, c, w64 (d + 1))))) else some (.inr a)
def impl_copyEntries_n58 : NEnt := ⟨⟨21, [⟨3, .one, [.own true kk5]⟩, ⟨6, .one, [.dat kk4]⟩, ⟨7, .one, [.dat kI]⟩, ⟨8, .one, [.dat kI]⟩]⟩, [(.exit 0, ⟨21, [⟨3, .one, [.own true kk5]⟩]⟩)], lp impl_copyEntries_s58⟩
def impl_copyEntries : List t37 → Option (List t37)
  | a => (lp impl_copyEntries_s58 ([], a, ln a, 0)).bind fun b => some b
def impl_copyEntries_e : FEnt := ⟨19, [.tmp 2], [], [(.one, [.dat kk4])], ⟨21, [⟨2, .one, [.own true kk5]⟩]⟩, impl_copyEntries⟩
theorem impl_copyEntries_ok : FnOk Tryz.prog 108 impl_copyEntries_e := fnOk_mk (tb := [(58, impl_copyEntries_n58)]) (c := (Tryz.f108.body).getD .skip) mixed Tryz.func108 (bC impl_copyEntry_ok bN) (by kernel_rfl) (by kernel_rfl) (by kernel_rfl) ⟨nodeLoop (by kernel_rfl) impl_copyEntries_s58 (by kernel_rfl) (by intro d; kernel_rfl), trivial⟩ (by intro d; kernel_rfl)


/-! impl.copyRow -/
def impl_copyRow : List t37 → Option (List t37)
  | a => (impl_copyEntries a).bind fun b => some b
def impl_copyRow_e : FEnt := ⟨7, [.cell 2 true 1], [], [(.agg, [.dat kk4])], ⟨9, [⟨2, .box, [.own true kk5]⟩]⟩, impl_copyRow⟩
theorem impl_copyRow_ok : FnOk Tryz.prog 49 impl_copyRow_e := fnOk_mk (tb := []) (c := (Tryz.f49.body).getD .skip) mixed Tryz.func49 (bC impl_copyEntries_ok bN) (by kernel_rfl) (by kernel_rfl) (by kernel_rfl) trivial (by intro d; kernel_rfl)


/-! impl.placeOf$1 -/
def impl_placeOf_1 : t37 × (Int × Unit) × Int × Unit → Option Bool
  | ((a, b, c, d, e, f, g, h, i, j), (k, _), l, _) => bif a == k then some (b == l) else some false
def impl_placeOf_1_e : FEnt := ⟨15, [.tmp 4], [], [(.agg, cc4), (.one, [.pim [kI] 0]), (.one, [.pim [kI] 0])], ⟨21, [⟨4, .one, [.dat .bool]⟩]⟩, impl_placeOf_1⟩
theorem impl_placeOf_1_ok : FnOk Tryz.prog 144 impl_placeOf_1_e := fnOk_mk (tb := []) (c := (Tryz.f144.body).getD .skip) mixed Tryz.func144 bN (by kernel_rfl) (by kernel_rfl) (by kernel_rfl) trivial (by intro d; kernel_rfl)


/-! impl.Entry] -/
def impl_Entry__s26 : List t37 × t11 × Int × Int → Option (List t37 × t11 × Int × Int ⊕ Int ⊕ Unit)
  | (a, ((b, _), (c, _), _), d, e) => bif decide (e < d) then ix e a.length ((some (gx a e (0, 0, [], 0, 0, 0, 0, [], [], []))).bind fun (f, g, h, i, j, k, l, m, n, o) => (impl_placeOf_1 ((f, g, h, i, j, k, l, m, n, o), (b, ()), c, ())).bind fun p => bif p then some (.inr (.inl e)) else some (.inl (a, ((b, ()), (c, ()), ()), d, w64 (e + 1)))) else some (.inr (.inr ()))
def impl_Entry__n26 : NEnt := ⟨⟨23, [⟨0, .one, [.dat kk4]⟩, ⟨1, .one, cc13⟩, ⟨7, .one, [.dat kI]⟩, ⟨8, .one, [.dat kI]⟩]⟩, [(.ret, ⟨23, [⟨4, .one, [.dat kI]⟩]⟩), (.exit 0, ⟨23, []⟩)], lp impl_Entry__s26⟩
def impl_Entry_ : List t37 × t11 → Option Int
  | (a, (b, _), (c, _), _) => bx (lp impl_Entry__s26 (a, ((b, ()), (c, ()), ()), ln a, 0)) (fun d => some d) fun _ => some (-1)
def impl_Entry__e : FEnt := ⟨19, [.tmp 4], [], [(.one, [.dat kk4]), (.one, cc13)], ⟨23, [⟨4, .one, [.dat kI]⟩]⟩, impl_Entry_⟩
theorem impl_Entry__ok : FnOk Tryz.prog 143 impl_Entry__e := fnOk_mk (tb := [(26, impl_Entry__n26)]) (c := (Tryz.f143.body).getD .skip) mixed Tryz.func143 (bC impl_placeOf_1_ok bN) (by kernel_rfl) (by kernel_rfl) (by kernel_rfl) ⟨nodeLoop (by kernel_rfl) impl_Entry__s26 (by kernel_rfl) (by intro d; kernel_rfl), trivial⟩ (by intro d; kernel_rfl)


/-! impl.placeOf -/
def impl_placeOf : t44 → Option Int
  | (a, b, c) => (impl_Entry_ (a, (b, ()), (c, ()), ())).bind fun d => some d
def impl_placeOf_e : FEnt := ⟨10, [.tmp 6], [], [(.one, [.dat kk4]), (.one, [.dat kI]), (.one, [.dat kI])], ⟨16, [⟨6, .one, [.dat kI]⟩]⟩, impl_placeOf⟩
theorem impl_placeOf_ok : FnOk Tryz.prog 75 impl_placeOf_e := fnOk_mk (tb := []) (c := (Tryz.f75.body).getD .skip) mixed Tryz.func75 (bC impl_Entry__ok bN) (by kernel_rfl) (by kernel_rfl) (by kernel_rfl) trivial (by intro d; kernel_rfl)


/-! impl.union -/
def impl_union_s250 : List (Int × Int) × List (Int × Int) × (Unit × Unit × Unit) × Int × Int → Option (List (Int × Int) × List (Int × Int) × (Unit × Unit × Unit) × Int × Int ⊕ List (Int × Int))
  | (a, b, (_, _, _), c, d) => bif decide (d < c) then ix d a.length (lx d a.length ((some (gx a d (0, 0))).bind fun (e, f) => bif decide ((ln b) > 0) then ix (w64 ((ln b) - 1)) b.length (lx (w64 ((ln b) - 1)) b.length ((some (gx b (w64 ((ln b) - 1)) (0, 0))).bind fun (g, h) => bif decide (e ≤ (w64 (h + 1))) then ix (w64 ((ln b) - 1)) b.length (lx (w64 ((ln b) - 1)) b.length ((some (gx b (w64 ((ln b) - 1)) (0, 0))).bind fun (i, j) => ix (w64 ((ln b) - 1)) b.length (lx (w64 ((ln b) - 1)) b.length ((some (sx b (w64 ((ln b) - 1)) ((gx b (w64 ((ln b) - 1)) (0, 0)).1, if f > j then f else j))).bind fun k => some (.inl (a, k, ((), (), ()), c, w64 (d + 1))))))) else chk (fits (b.length + [(e, f)].length) 16) (some (.inl (a, b ++ [(e, f)], ((), (), ()), c, w64 (d + 1)))))) else chk (fits (b.length + [(e, f)].length) 16) (some (.inl (a, b ++ [(e, f)], ((), (), ()), c, w64 (d + 1)))))) else some (.inr b)
def impl_union_n250 : NEnt := ⟨⟨56, [⟨3, .one, cc14⟩, ⟨4, .one, cc14⟩, ⟨12, .one, [.ref 3 0 [] false false (.pair kI kI)]⟩, ⟨13, .one, [.dat kI]⟩, ⟨14, .one, [.dat kI]⟩]⟩, [(.exit 0, ⟨56, [⟨4, .one, cc14⟩]⟩)], lp impl_union_s250⟩
def impl_union : List (Int × Int) → Option (List (Int × Int))
  | a => (impl_copySet a).bind fun b => (slices_SortFunc (b, ())).bind fun c => (lp impl_union_s250 (c, [], ((), (), ()), ln c, 0)).bind fun d => some d
def impl_union_e : FEnt := ⟨54, [.tmp 2], [], [(.one, [.dat kk10])], ⟨56, [⟨2, .one, cc14⟩]⟩, impl_union⟩
theorem impl_union_ok : FnOk Tryz.prog 137 impl_union_e := fnOk_mk (tb := [(250, impl_union_n250)]) (c := (Tryz.f137.body).getD .skip) mixed Tryz.func137 (bC impl_copySet_ok (bC slices_SortFunc_ok bN)) (by kernel_rfl) (by kernel_rfl) (by kernel_rfl) ⟨nodeLoop (by kernel_rfl) impl_union_s250 (by kernel_rfl) (by intro d; kernel_rfl), trivial⟩ (by intro d; kernel_rfl)


/-! impl.SetJoin -/
def impl_SetJoin : t14 → Option (List (Int × Int) × Bool)
  | (a, b) => (impl_SetOk a).bind fun c => bif !c then some ([], false) else (impl_SetOk b).bind fun d => bif !d then some ([], false) else (impl_copySet a).bind fun e => chk (fits (e.length + b.length) 16) ((impl_union (e ++ b)).bind fun f => some (f, true))
def impl_SetJoin_e : FEnt := ⟨19, [.tmp 4, .tmp 5], [], [(.one, [.dat kk10]), (.one, [.dat kk10])], ⟨23, [⟨4, .one, cc14⟩, ⟨5, .one, [.dat .bool]⟩]⟩, impl_SetJoin⟩
theorem impl_SetJoin_ok : FnOk Tryz.prog 172 impl_SetJoin_e := fnOk_mk (tb := []) (c := (Tryz.f172.body).getD .skip) mixed Tryz.func172 (bC impl_SetOk_ok (bC impl_copySet_ok (bC impl_union_ok bN))) (by kernel_rfl) (by kernel_rfl) (by kernel_rfl) trivial (by intro d; kernel_rfl)


/-! impl.limited -/
def impl_limited : Int × Int × Int → Option Int
  | (a, b, c) => some (if c < if b > a then b else a then c else if b > a then b else a)
def impl_limited_e : FEnt := ⟨12, [.tmp 6], [], [(.one, [.dat kI]), (.one, [.dat kI]), (.one, [.dat kI])], ⟨18, [⟨6, .one, [.dat kI]⟩]⟩, impl_limited⟩
theorem impl_limited_ok : FnOk Tryz.prog 210 impl_limited_e := fnOk_mk (tb := []) (c := (Tryz.f210.body).getD .skip) mixed Tryz.func210 bN (by kernel_rfl) (by kernel_rfl) (by kernel_rfl) trivial (by intro d; kernel_rfl)


/-! impl.Add -/
def impl_Add : Int × Int → Option Int
  | (a, b) => (impl_limited (a, 0, 1000000000)).bind fun c => (impl_limited (b, 0, 1000000000)).bind fun d => (some (if (1000000000 : Int) < IntKind.wrap IntKind.i64 (c + d) then (1000000000 : Int) else IntKind.wrap IntKind.i64 (c + d))).bind fun e => some e
def impl_Add_e : FEnt := ⟨11, [.tmp 4], [], [(.one, [.dat kI]), (.one, [.dat kI])], ⟨15, [⟨4, .one, [.dat kI]⟩]⟩, impl_Add⟩
theorem impl_Add_ok : FnOk Tryz.prog 201 impl_Add_e := fnOk_mk (tb := []) (c := (Tryz.f201.body).getD .skip) mixed Tryz.func201 (bC impl_limited_ok bN) (by kernel_rfl) (by kernel_rfl) (by kernel_rfl) trivial (by intro d; kernel_rfl)


/-! impl.Merge -/
def impl_Merge_s2042 : t31 × t22 × t36 → Option (t31 × t22 × t36 ⊕ t31 × t43)
  | ((a, b, c, d, e, f, g), (h, i, j, k, _, _, _), (l, m, n, o, p, q, r), s, t, u) => bif decide (u < t) then ix u s.length (ix u p.length (lx u p.length ((impl_Add (gx p u 0, gx s u 0)).bind fun v => ix u p.length (lx u p.length (some (.inl ((a, b, c, d, e, f, g), (h, i, j, k, (), (), ()), (l, m, n, o, sx p u v, q, r), s, t, w64 (u + 1)))))))) else some (.inr ((a, b, c, d, e, f, g), (h, i, j, k, (), (), ()), l, m, n, o, p, q, r))
def impl_Merge_n2042 : NEnt := ⟨⟨141, [⟨3, .box, cc6⟩, ⟨4, .box, cc10⟩, ⟨6, .box, cc5⟩, ⟨63, .one, [.dat (.list kI)]⟩, ⟨64, .one, [.dat kI]⟩, ⟨65, .one, [.dat kI]⟩]⟩, [(.exit 0, ⟨141, [⟨3, .box, cc6⟩, ⟨4, .box, cc10⟩, ⟨6, .box, cc5⟩]⟩)], lp impl_Merge_s2042⟩
def impl_Merge_s4090 : t31 × t22 × t36 → Option (t31 × t22 × t36 ⊕ t31 × t43)
  | ((a, b, c, d, e, f, g), (h, i, j, k, _, _, _), (l, m, n, o, p, q, r), s, t, u) => bif decide (u < t) then ix u s.length (ix u q.length (lx u q.length ((some (if List.getD s (Int.toNat u) (0 : Int) > List.getD q (Int.toNat u) (0 : Int) then List.getD s (Int.toNat u) (0 : Int) else List.getD q (Int.toNat u) (0 : Int))).bind fun v => ix u q.length (lx u q.length (some (.inl ((a, b, c, d, e, f, g), (h, i, j, k, (), (), ()), (l, m, n, o, p, sx q u v, r), s, t, w64 (u + 1)))))))) else some (.inr ((a, b, c, d, e, f, g), (h, i, j, k, (), (), ()), l, m, n, o, p, q, r))
def impl_Merge_n4090 : NEnt := ⟨⟨141, [⟨3, .box, cc6⟩, ⟨4, .box, cc10⟩, ⟨6, .box, cc5⟩, ⟨83, .one, [.dat (.list kI)]⟩, ⟨84, .one, [.dat kI]⟩, ⟨85, .one, [.dat kI]⟩]⟩, [(.exit 2, ⟨141, [⟨3, .box, cc6⟩, ⟨4, .box, cc10⟩, ⟨6, .box, cc5⟩]⟩)], lp impl_Merge_s4090⟩
def impl_Merge_s2095718 : t22 × t31 × Int × List (List Int) × Int × t5 → Option (t22 × t31 × Int × List (List Int) × Int × t5 ⊕ t57)
  | ((a, b, c, d, _, _, _), (e, f, g, h, i, j, k), l, m, n, o, p, q, r) => bif decide (r < q) then ix r p.length (ix l k.length (lx l k.length (ix l k.length (lx l k.length (ix r (gx k l []).length (lx r (gx k l []).length ((impl_Add (gx (gx k l []) r 0, gx p r 0)).bind fun s => ix r (gx k l []).length (lx r (gx k l []).length (some (.inl ((a, b, c, d, (), (), ()), (e, f, g, h, i, j, sx k l (sx (gx k l []) r s)), l, m, n, o, p, q, w64 (r + 1)))))))))))) else some (.inr ((a, b, c, d, (), (), ()), (e, f, g, h, i, j, k), m, n, o))
def impl_Merge_n2095718 : NEnt := ⟨⟨141, [⟨4, .box, cc10⟩, ⟨6, .box, cc5⟩, ⟨11, .one, [.dat kI]⟩, ⟨103, .one, [.dat kk11]⟩, ⟨104, .one, [.dat kI]⟩, ⟨105, .one, [.dat kI]⟩, ⟨110, .one, [.dat (.list kI)]⟩, ⟨111, .one, [.dat kI]⟩, ⟨112, .one, [.dat kI]⟩]⟩, [(.exit 6, ⟨141, [⟨4, .box, cc10⟩, ⟨6, .box, cc5⟩, ⟨103, .one, [.dat kk11]⟩, ⟨104, .one, [.dat kI]⟩, ⟨105, .one, [.dat kI]⟩]⟩)], lp impl_Merge_s2095718⟩
def impl_Merge_s8186 : t57 → Option (t57 ⊕ t43)
  | ((a, b, c, d, _, _, _), (e, f, g, h, i, j, k), l, m, n) => bif decide (n < m) then ix n l.length ((lp impl_Merge_s2095718 ((a, b, c, d, (), (), ()), (e, f, g, h, i, j, k), n, l, m, n, gx l n [], ln (gx l n []), 0)).bind fun ((o, p, q, r, _, _, _), (s, t, u, v, w, x, y), z, a1, b1) => some (.inl ((o, p, q, r, (), (), ()), (s, t, u, v, w, x, y), z, a1, w64 (b1 + 1)))) else some (.inr ((a, b, c, d, (), (), ()), e, f, g, h, i, j, k))
def impl_Merge_n8186 : NEnt := ⟨⟨141, [⟨4, .box, cc10⟩, ⟨6, .box, cc5⟩, ⟨103, .one, [.dat kk11]⟩, ⟨104, .one, [.dat kI]⟩, ⟨105, .one, [.dat kI]⟩]⟩, [(.exit 4, ⟨141, [⟨4, .box, cc10⟩, ⟨6, .box, cc5⟩]⟩)], lp impl_Merge_s8186⟩
def impl_Merge_l31 : t31 × t31 × t43 → Option (t31 × Bool)
  | ((a, b, c, d, e, f, g), (h, i, j, k, l, m, n), (o, p, q, r, _, _, _), s, t, u, v, w, x, y) => (impl_Add (a, h)).bind fun z => (impl_Add (b, i)).bind fun a1 => (lp impl_Merge_s2042 ((h, i, j, k, l, m, n), (o, p, q, r, (), (), ()), (z, a1, u, if k > d then k else d, w, x, y), l, ln l, 0)).bind fun ((b1, c1, d1, e1, f1, g1, h1), (i1, j1, k1, l1, _, _, _), m1, n1, o1, p1, q1, r1, s1) => (lp impl_Merge_s4090 ((b1, c1, d1, e1, f1, g1, h1), (i1, j1, k1, l1, (), (), ()), (m1, n1, o1, p1, q1, r1, s1), g1, ln g1, 0)).bind fun ((t1, u1, v1, w1, x1, y1, z1), (a2, b2, c2, d2, _, _, _), e2, f2, g2, h2, i2, j2, k2) => (lp impl_Merge_s8186 ((a2, b2, c2, d2, (), (), ()), (e2, f2, g2, h2, i2, j2, k2), z1, ln z1, 0)).bind fun ((l2, m2, n2, o2, _, _, _), p2, q2, r2, s2, t2, u2, v2) => some ((p2, q2, r2, s2, t2, u2, v2), true)
def impl_Merge_n31 : NEnt := ⟨⟨141, [⟨2, .box, cc6⟩, ⟨3, .box, cc6⟩, ⟨4, .box, cc10⟩, ⟨6, .box, cc5⟩]⟩, [(.ret, ⟨141, [⟨4, .box, cc5⟩, ⟨5, .one, [.dat .bool]⟩]⟩)], impl_Merge_l31⟩
def impl_Merge : t31 × t31 → Option (t31 × Bool)
  | ((a, b, c, d, e, f, g), h, i, j, k, l, m, n) => (impl_SketchOk (a, b, c, d, e, f, g)).bind fun o => bif !o then some ((0, 0, 0, 0, [], [], []), false) else (impl_SketchOk (h, i, j, k, l, m, n)).bind fun p => bif !p then some ((0, 0, 0, 0, [], [], []), false) else (impl_copySketch (a, b, c, d, e, f, g)).bind fun (q, r, s, t, u, v, w) => bif a == 0 then (impl_Merge_l31 ((a, b, c, d, e, f, g), (h, i, j, k, l, m, n), (0, 0, 0, 0, (), (), ()), q, r, j, t, u, v, w)).bind fun ((x, y, z, a1, b1, c1, d1), e1) => some ((x, y, z, a1, b1, c1, d1), e1) else bif decide (h > 0) then bif decide (j < c) then (impl_Merge_l31 ((a, b, c, d, e, f, g), (h, i, j, k, l, m, n), (0, 0, 0, 0, (), (), ()), q, r, j, t, u, v, w)).bind fun ((x, y, z, a1, b1, c1, d1), e1) => some ((x, y, z, a1, b1, c1, d1), e1) else (impl_Merge_l31 ((a, b, c, d, e, f, g), (h, i, j, k, l, m, n), (0, 0, 0, 0, (), (), ()), q, r, s, t, u, v, w)).bind fun ((x, y, z, a1, b1, c1, d1), e1) => some ((x, y, z, a1, b1, c1, d1), e1) else (impl_Merge_l31 ((a, b, c, d, e, f, g), (h, i, j, k, l, m, n), (0, 0, 0, 0, (), (), ()), q, r, s, t, u, v, w)).bind fun ((x, y, z, a1, b1, c1, d1), e1) => some ((x, y, z, a1, b1, c1, d1), e1)
def impl_Merge_e : FEnt := ⟨137, [.cell 4 true 7, .tmp 5], [], [(.agg, cc6), (.agg, cc6)], ⟨141, [⟨4, .box, cc5⟩, ⟨5, .one, [.dat .bool]⟩]⟩, impl_Merge⟩
theorem impl_Merge_ok : FnOk Tryz.prog 173 impl_Merge_e := fnOk_mk (tb := [(2095718, impl_Merge_n2095718), (8186, impl_Merge_n8186), (4090, impl_Merge_n4090), (2042, impl_Merge_n2042), (31, impl_Merge_n31)]) (c := (Tryz.f173.body).getD .skip) mixed Tryz.func173 (bC impl_SketchOk_ok (bC impl_copySketch_ok (bC impl_Add_ok bN))) (by kernel_rfl) (by kernel_rfl) (by kernel_rfl) ⟨nodeLoop (by kernel_rfl) impl_Merge_s2095718 (by kernel_rfl) (by intro d; kernel_rfl), nodeLoop (by kernel_rfl) impl_Merge_s8186 (by kernel_rfl) (by intro d; kernel_rfl), nodeLoop (by kernel_rfl) impl_Merge_s4090 (by kernel_rfl) (by intro d; kernel_rfl), nodeLoop (by kernel_rfl) impl_Merge_s2042 (by kernel_rfl) (by intro d; kernel_rfl), nodeJoin (by kernel_rfl) (by intro d; kernel_rfl), trivial⟩ (by intro d; kernel_rfl)


/-! impl.EntryAdd -/
def impl_EntryAdd : t37 × t37 → Option (t37 × Bool)
  | ((a, b, c, d, e, f, g, h, i, j), k, l, m, n, o, p, q, r, s, t) => (impl_EntryOk (a, b, c, d, e, f, g, h, i, j)).bind fun u => bif !u then some ((0, 0, [], 0, 0, 0, 0, [], [], []), false) else (impl_EntryOk (k, l, m, n, o, p, q, r, s, t)).bind fun v => bif !v then some ((0, 0, [], 0, 0, 0, 0, [], [], []), false) else bif a != k then some ((0, 0, [], 0, 0, 0, 0, [], [], []), false) else bif b != l then some ((0, 0, [], 0, 0, 0, 0, [], [], []), false) else (impl_SetApart (c, m)).bind fun w => bif !w then some ((0, 0, [], 0, 0, 0, 0, [], [], []), false) else (impl_SetJoin (c, m)).bind fun (x, y) => (impl_Merge ((d, e, f, g, h, i, j), n, o, p, q, r, s, t)).bind fun ((z, a1, b1, c1, d1, e1, f1), g1) => some ((a, b, x, z, a1, b1, c1, d1, e1, f1), true)
def impl_EntryAdd_e : FEnt := ⟨64, [.cell 4 true 10, .tmp 5], [], [(.agg, cc4), (.agg, cc4)], ⟨68, [⟨4, .box, cc2⟩, ⟨5, .one, [.dat .bool]⟩]⟩, impl_EntryAdd⟩
theorem impl_EntryAdd_ok : FnOk Tryz.prog 110 impl_EntryAdd_e := fnOk_mk (tb := []) (c := (Tryz.f110.body).getD .skip) mixed Tryz.func110 (bC impl_EntryOk_ok (bC impl_SetApart_ok (bC impl_SetJoin_ok (bC impl_Merge_ok bN)))) (by kernel_rfl) (by kernel_rfl) (by kernel_rfl) trivial (by intro d; kernel_rfl)


/-! impl.RowPush -/
def impl_RowPush_l125 : List t37 × t37 × Unit × List t37 × Int × Bool → Option (List t37 × Bool ⊕ List t37 × t42)
  | (a, (b, c, d, e, f, g, h, i, j, k), _, l, m, n) => bif n then ix m a.length ((some (gx a m (0, 0, [], 0, 0, 0, 0, [], [], []))).bind fun (o, p, q, r, s, t, u, v, w, x) => (impl_EntryAdd ((o, p, q, r, s, t, u, v, w, x), b, c, d, e, f, g, h, i, j, k)).bind fun ((y, z, a1, b1, c1, d1, e1, f1, g1, h1), i1) => bif !i1 then some (.inl (l, false)) else ix m l.length (lx m l.length ((some (sx l m (y, z, a1, b1, c1, d1, e1, f1, g1, h1))).bind fun j1 => some (.inr (a, (), j1))))) else (impl_copyEntry (b, c, d, e, f, g, h, i, j, k)).bind fun (o, p, q, r, s, t, u, v, w, x) => (some [(o, p, q, r, s, t, u, v, w, x)]).bind fun y => chk (fits (l.length + y.length) 144) ((some (l ++ y)).bind fun z => some (.inr (a, (), z)))
def impl_RowPush_n125 : NEnt := ⟨⟨73, [⟨3, .box, [.dat kk4]⟩, ⟨4, .box, cc4⟩, ⟨6, .box, [.nil]⟩, ⟨8, .box, [.own true kk5]⟩, ⟨9, .one, [.dat kI]⟩, ⟨35, .one, [.dat .bool]⟩]⟩, [(.ret, ⟨73, [⟨6, .box, [.own true kk5]⟩, ⟨7, .one, [.dat .bool]⟩]⟩), (.normal, ⟨73, [⟨3, .box, [.dat kk4]⟩, ⟨6, .box, [.nil]⟩, ⟨8, .box, [.own true kk5]⟩]⟩)], impl_RowPush_l125⟩
def impl_RowPush : List t37 × t37 × Bool → Option (List t37 × Bool)
  | (a, (b, c, d, e, f, g, h, i, j, k), l) => (impl_RowOk a).bind fun m => bif !m then (impl_copyRow a).bind fun n => some (n, false) else (impl_EntryOk (b, c, d, e, f, g, h, i, j, k)).bind fun n => bif !n then (impl_copyRow a).bind fun o => some (o, false) else (impl_copyRow a).bind fun o => (impl_placeOf (a, b, c)).bind fun p => bif l then bx (impl_RowPush_l125 (a, (b, c, d, e, f, g, h, i, j, k), (), o, p, decide (p ≥ 0))) (fun (q, r) => some (q, r)) fun (q, _, r) => (impl_RowOk r).bind fun s => bif !s then (impl_copyRow q).bind fun t => some (t, false) else some (r, true) else bx (impl_RowPush_l125 (a, (b, c, d, e, f, g, h, i, j, k), (), o, p, false)) (fun (q, r) => some (q, r)) fun (q, _, r) => (impl_RowOk r).bind fun s => bif !s then (impl_copyRow q).bind fun t => some (t, false) else some (r, true)
def impl_RowPush_e : FEnt := ⟨67, [.cell 6 true 1, .tmp 7], [], [(.agg, [.dat kk4]), (.agg, cc4), (.one, [.dat .bool])], ⟨73, [⟨6, .box, [.own true kk5]⟩, ⟨7, .one, [.dat .bool]⟩]⟩, impl_RowPush⟩
theorem impl_RowPush_ok : FnOk Tryz.prog 50 impl_RowPush_e := fnOk_mk (tb := [(125, impl_RowPush_n125)]) (c := (Tryz.f50.body).getD .skip) mixed Tryz.func50 (bC impl_RowOk_ok (bC impl_EntryOk_ok (bC impl_copyRow_ok (bC impl_placeOf_ok (bC impl_EntryAdd_ok (bC impl_copyEntry_ok bN)))))) (by kernel_rfl) (by kernel_rfl) (by kernel_rfl) ⟨nodeJoin (by kernel_rfl) (by intro d; kernel_rfl), trivial⟩ (by intro d; kernel_rfl)


/-! impl.JoinRow -/
def impl_JoinRow_s122 : Unit × t59 → Option (Unit × t59 ⊕ t42)
  | (_, a, b, c, d) => bif decide (d < c) then ix d b.length ((some (gx b d (0, 0, [], 0, 0, 0, 0, [], [], []))).bind fun (e, f, g, h, i, j, k, l, m, n) => (impl_RowPush (a, (e, f, g, h, i, j, k, l, m, n), true)).bind fun (o, p) => some (.inl ((), o, b, c, w64 (d + 1)))) else some (.inr ((), a))
def impl_JoinRow_n122 : NEnt := ⟨⟨28, [⟨2, .box, [.nil]⟩, ⟨3, .box, [.own true kk5]⟩, ⟨12, .one, [.dat kk4]⟩, ⟨13, .one, [.dat kI]⟩, ⟨14, .one, [.dat kI]⟩]⟩, [(.exit 0, ⟨28, [⟨2, .box, [.nil]⟩, ⟨3, .box, [.own true kk5]⟩]⟩)], lp impl_JoinRow_s122⟩
def impl_JoinRow : List t37 → Option (List t37)
  | a => (impl_RowOk a).bind fun b => bif !b then (impl_copyRow a).bind fun c => some c else (lp impl_JoinRow_s122 ((), [], a, ln a, 0)).bind fun (_, c) => some c
def impl_JoinRow_e : FEnt := ⟨26, [.cell 2 true 1], [], [(.agg, [.dat kk4])], ⟨28, [⟨2, .box, [.own true kk5]⟩]⟩, impl_JoinRow⟩
theorem impl_JoinRow_ok : FnOk Tryz.prog 14 impl_JoinRow_e := fnOk_mk (tb := [(122, impl_JoinRow_n122)]) (c := (Tryz.f14.body).getD .skip) mixed Tryz.func14 (bC impl_RowOk_ok (bC impl_copyRow_ok (bC impl_RowPush_ok bN))) (by kernel_rfl) (by kernel_rfl) (by kernel_rfl) ⟨nodeLoop (by kernel_rfl) impl_JoinRow_s122 (by kernel_rfl) (by intro d; kernel_rfl), trivial⟩ (by intro d; kernel_rfl)


/-! laws.eqSpan -/
def laws_eqSpan : (Int × Int) × Int × Int → Option Bool
  | ((a, b), c, d) => bif a != c then some false else bif b != d then some false else some true
def laws_eqSpan_e : FEnt := ⟨15, [.tmp 4], [], [(.agg, cc17), (.agg, cc17)], ⟨19, [⟨4, .one, [.dat .bool]⟩]⟩, laws_eqSpan⟩
theorem laws_eqSpan_ok : FnOk Tryz.prog 202 laws_eqSpan_e := fnOk_mk (tb := []) (c := (Tryz.f202.body).getD .skip) mixed Tryz.func202 bN (by kernel_rfl) (by kernel_rfl) (by kernel_rfl) trivial (by intro d; kernel_rfl)


/-! laws.eqSpanS -/
def laws_eqSpanS_s58 : t21 → Option (t21 ⊕ Bool ⊕ Unit)
  | (a, b, c) => bif decide (c < (ln a)) then ix c a.length ((some (gx a c (0, 0))).bind fun (d, e) => ix c b.length ((some (gx b c (0, 0))).bind fun (f, g) => (laws_eqSpan ((d, e), f, g)).bind fun h => bif !h then some (.inr (.inl false)) else some (.inl (a, b, w64 (c + 1))))) else some (.inr (.inr ()))
def laws_eqSpanS_n58 : NEnt := ⟨⟨31, [⟨0, .one, [.dat kk10]⟩, ⟨1, .one, [.dat kk10]⟩, ⟨5, .one, [.dat kI]⟩]⟩, [(.ret, ⟨31, [⟨4, .one, [.dat .bool]⟩]⟩), (.exit 0, ⟨31, []⟩)], lp laws_eqSpanS_s58⟩
def laws_eqSpanS : t14 → Option Bool
  | (a, b) => bif (ln a) != (ln b) then some false else bx (lp laws_eqSpanS_s58 (a, b, 0)) (fun c => some c) fun _ => some true
def laws_eqSpanS_e : FEnt := ⟨27, [.tmp 4], [], [(.one, [.dat kk10]), (.one, [.dat kk10])], ⟨31, [⟨4, .one, [.dat .bool]⟩]⟩, laws_eqSpanS⟩
theorem laws_eqSpanS_ok : FnOk Tryz.prog 176 laws_eqSpanS_e := fnOk_mk (tb := [(58, laws_eqSpanS_n58)]) (c := (Tryz.f176.body).getD .skip) mixed Tryz.func176 (bC laws_eqSpan_ok bN) (by kernel_rfl) (by kernel_rfl) (by kernel_rfl) ⟨nodeLoop (by kernel_rfl) laws_eqSpanS_s58 (by kernel_rfl) (by intro d; kernel_rfl), trivial⟩ (by intro d; kernel_rfl)


/-! laws.eqIntS -/
def laws_eqIntS_s58 : t3 → Option (t3 ⊕ Bool ⊕ Unit)
  | (a, b, c) => bif decide (c < (ln a)) then ix c a.length (ix c b.length (bif (gx a c 0) != (gx b c 0) then some (.inr (.inl false)) else some (.inl (a, b, w64 (c + 1))))) else some (.inr (.inr ()))
def laws_eqIntS_n58 : NEnt := ⟨⟨30, [⟨0, .one, [.dat (.list kI)]⟩, ⟨1, .one, [.dat (.list kI)]⟩, ⟨5, .one, [.dat kI]⟩]⟩, [(.ret, ⟨30, [⟨4, .one, [.dat .bool]⟩]⟩), (.exit 0, ⟨30, []⟩)], lp laws_eqIntS_s58⟩
def laws_eqIntS : List Int × List Int → Option Bool
  | (a, b) => bif (ln a) != (ln b) then some false else bx (lp laws_eqIntS_s58 (a, b, 0)) (fun c => some c) fun _ => some true
def laws_eqIntS_e : FEnt := ⟨26, [.tmp 4], [], [(.one, [.dat (.list kI)]), (.one, [.dat (.list kI)])], ⟨30, [⟨4, .one, [.dat .bool]⟩]⟩, laws_eqIntS⟩
theorem laws_eqIntS_ok : FnOk Tryz.prog 27 laws_eqIntS_e := fnOk_mk (tb := [(58, laws_eqIntS_n58)]) (c := (Tryz.f27.body).getD .skip) mixed Tryz.func27 bN (by kernel_rfl) (by kernel_rfl) (by kernel_rfl) ⟨nodeLoop (by kernel_rfl) laws_eqIntS_s58 (by kernel_rfl) (by intro d; kernel_rfl), trivial⟩ (by intro d; kernel_rfl)


/-! laws.eqIntSS -/
def laws_eqIntSS_s58 : t18 → Option (t18 ⊕ Bool ⊕ Unit)
  | (a, b, c) => bif decide (c < (ln a)) then ix c a.length (ix c b.length ((laws_eqIntS (gx a c [], gx b c [])).bind fun d => bif !d then some (.inr (.inl false)) else some (.inl (a, b, w64 (c + 1))))) else some (.inr (.inr ()))
def laws_eqIntSS_n58 : NEnt := ⟨⟨31, [⟨0, .one, [.dat kk11]⟩, ⟨1, .one, [.dat kk11]⟩, ⟨5, .one, [.dat kI]⟩]⟩, [(.ret, ⟨31, [⟨4, .one, [.dat .bool]⟩]⟩), (.exit 0, ⟨31, []⟩)], lp laws_eqIntSS_s58⟩
def laws_eqIntSS : List (List Int) × List (List Int) → Option Bool
  | (a, b) => bif (ln a) != (ln b) then some false else bx (lp laws_eqIntSS_s58 (a, b, 0)) (fun c => some c) fun _ => some true
def laws_eqIntSS_e : FEnt := ⟨27, [.tmp 4], [], [(.one, [.dat kk11]), (.one, [.dat kk11])], ⟨31, [⟨4, .one, [.dat .bool]⟩]⟩, laws_eqIntSS⟩
theorem laws_eqIntSS_ok : FnOk Tryz.prog 90 laws_eqIntSS_e := fnOk_mk (tb := [(58, laws_eqIntSS_n58)]) (c := (Tryz.f90.body).getD .skip) mixed Tryz.func90 (bC laws_eqIntS_ok bN) (by kernel_rfl) (by kernel_rfl) (by kernel_rfl) ⟨nodeLoop (by kernel_rfl) laws_eqIntSS_s58 (by kernel_rfl) (by intro d; kernel_rfl), trivial⟩ (by intro d; kernel_rfl)


/-! laws.eqSketch -/
def laws_eqSketch : t31 × t31 → Option Bool
  | ((a, b, c, d, e, f, g), h, i, j, k, l, m, n) => bif a != h then some false else bif b != i then some false else bif c != j then some false else bif d != k then some false else (laws_eqIntS (e, l)).bind fun o => bif !o then some false else (laws_eqIntS (f, m)).bind fun p => bif !p then some false else (laws_eqIntSS (g, n)).bind fun q => bif !q then some false else some true
def laws_eqSketch_e : FEnt := ⟨43, [.tmp 4], [], [(.agg, cc6), (.agg, cc6)], ⟨47, [⟨4, .one, [.dat .bool]⟩]⟩, laws_eqSketch⟩
theorem laws_eqSketch_ok : FnOk Tryz.prog 35 laws_eqSketch_e := fnOk_mk (tb := []) (c := (Tryz.f35.body).getD .skip) mixed Tryz.func35 (bC laws_eqIntS_ok (bC laws_eqIntSS_ok bN)) (by kernel_rfl) (by kernel_rfl) (by kernel_rfl) trivial (by intro d; kernel_rfl)


/-! laws.eqEntry -/
def laws_eqEntry : t37 × t37 → Option Bool
  | ((a, b, c, d, e, f, g, h, i, j), k, l, m, n, o, p, q, r, s, t) => bif a != k then some false else bif b != l then some false else (laws_eqSpanS (c, m)).bind fun u => bif !u then some false else (laws_eqSketch ((d, e, f, g, h, i, j), n, o, p, q, r, s, t)).bind fun v => bif !v then some false else some true
def laws_eqEntry_e : FEnt := ⟨27, [.tmp 4], [], [(.agg, cc4), (.agg, cc4)], ⟨31, [⟨4, .one, [.dat .bool]⟩]⟩, laws_eqEntry⟩
theorem laws_eqEntry_ok : FnOk Tryz.prog 112 laws_eqEntry_e := fnOk_mk (tb := []) (c := (Tryz.f112.body).getD .skip) mixed Tryz.func112 (bC laws_eqSpanS_ok (bC laws_eqSketch_ok bN)) (by kernel_rfl) (by kernel_rfl) (by kernel_rfl) trivial (by intro d; kernel_rfl)


/-! laws.eqEntryS -/
def laws_eqEntryS_s58 : List t37 × t40 → Option (List t37 × t40 ⊕ Bool ⊕ Unit)
  | (a, b, c) => (some (decide (c < (ln a)))).bind fun d => bif d then ix c a.length ((some (gx a c (0, 0, [], 0, 0, 0, 0, [], [], []))).bind fun (e, f, g, h, i, j, k, l, m, n) => ix c b.length ((some (gx b c (0, 0, [], 0, 0, 0, 0, [], [], []))).bind fun (o, p, q, r, s, t, u, v, w, x) => (laws_eqEntry ((e, f, g, h, i, j, k, l, m, n), o, p, q, r, s, t, u, v, w, x)).bind fun y => bif !y then some (.inr (.inl false)) else some (.inl (a, b, w64 (c + 1))))) else some (.inr (.inr ()))
def laws_eqEntryS_n58 : NEnt := ⟨⟨31, [⟨0, .one, [.dat kk4]⟩, ⟨1, .one, [.dat kk4]⟩, ⟨5, .one, [.dat kI]⟩]⟩, [(.ret, ⟨31, [⟨4, .one, [.dat .bool]⟩]⟩), (.exit 0, ⟨31, []⟩)], lp laws_eqEntryS_s58⟩
def laws_eqEntryS : List t37 × List t37 → Option Bool
  | (a, b) => (some ((ln a) != (ln b))).bind fun c => bif c then some false else bx (lp laws_eqEntryS_s58 (a, b, 0)) (fun d => some d) fun _ => some true
def laws_eqEntryS_e : FEnt := ⟨27, [.tmp 4], [], [(.one, [.dat kk4]), (.one, [.dat kk4])], ⟨31, [⟨4, .one, [.dat .bool]⟩]⟩, laws_eqEntryS⟩
theorem laws_eqEntryS_ok : FnOk Tryz.prog 51 laws_eqEntryS_e := fnOk_mk (tb := [(58, laws_eqEntryS_n58)]) (c := (Tryz.f51.body).getD .skip) mixed Tryz.func51 (bC laws_eqEntry_ok bN) (by kernel_rfl) (by kernel_rfl) (by kernel_rfl) ⟨nodeLoop (by kernel_rfl) laws_eqEntryS_s58 (by kernel_rfl) (by intro d; kernel_rfl), trivial⟩ (by intro d; kernel_rfl)


/-! laws.eqRow -/
def laws_eqRow : List t37 × List t37 → Option Bool
  | (a, b) => (laws_eqEntryS (a, b)).bind fun c => bif !c then some false else some true
def laws_eqRow_e : FEnt := ⟨11, [.tmp 4], [], [(.agg, [.dat kk4]), (.agg, [.dat kk4])], ⟨15, [⟨4, .one, [.dat .bool]⟩]⟩, laws_eqRow⟩
theorem laws_eqRow_ok : FnOk Tryz.prog 15 laws_eqRow_e := fnOk_mk (tb := []) (c := (Tryz.f15.body).getD .skip) mixed Tryz.func15 (bC laws_eqEntryS_ok bN) (by kernel_rfl) (by kernel_rfl) (by kernel_rfl) trivial (by intro d; kernel_rfl)


/-! laws.markSpanS -/
def laws_markSpanS_s26 : (Unit × Unit × Unit) × Int × t1 → Option ((Unit × Unit × Unit) × Int × t1 ⊕ t1)
  | ((_, _, _), a, b, c) => bif decide (b < (ln c)) then ix b c.length (lx b c.length (ix b (sx c b (a, (gx c b (0, 0)).2)).length (lx b (sx c b (a, (gx c b (0, 0)).2)).length ((some (sx (sx c b (a, (gx c b (0, 0)).2)) b ((gx (sx c b (a, (gx c b (0, 0)).2)) b (0, 0)).1, w64 (a + 1)))).bind fun d => some (.inl (((), (), ()), w64 ((w64 (a + 1)) + 1), w64 (b + 1), d)))))) else some (.inr (a, c))
def laws_markSpanS_n26 : NEnt := ⟨⟨31, [⟨0, .one, [.ref 27 0 [] false false (.pair kI kI)]⟩, ⟨1, .one, [.dat kI]⟩, ⟨5, .one, [.dat kI]⟩, ⟨27, .agg, cc14⟩]⟩, [(.exit 0, ⟨31, [⟨1, .one, [.dat kI]⟩, ⟨27, .agg, cc14⟩]⟩)], lp laws_markSpanS_s26⟩
def laws_markSpanS : t0 → Option t1
  | (a, b) => (lp laws_markSpanS_s26 (((), (), ()), b, 0, a)).bind fun (c, d) => some (c, d)
def laws_markSpanS_e : FEnt := ⟨27, [.tmp 4], [true, false], [(.one, cc14), (.one, [.dat kI])], ⟨31, [⟨4, .one, [.dat kI]⟩, ⟨27, .agg, cc14⟩]⟩, laws_markSpanS⟩
theorem laws_markSpanS_ok : FnOk Tryz.prog 113 laws_markSpanS_e := fnOk_mk (tb := [(26, laws_markSpanS_n26)]) (c := (Tryz.f113.body).getD .skip) mixed Tryz.func113 bN (by kernel_rfl) (by kernel_rfl) (by kernel_rfl) ⟨nodeLoop (by kernel_rfl) laws_markSpanS_s26 (by kernel_rfl) (by intro d; kernel_rfl), trivial⟩ (by intro d; kernel_rfl)


/-! laws.markIntS -/
def laws_markIntS_s26 : (Unit × Unit × Unit) × Int × Int × List Int → Option ((Unit × Unit × Unit) × Int × Int × List Int ⊕ Int × List Int)
  | ((_, _, _), a, b, c) => bif decide (b < (ln c)) then ix b c.length (lx b c.length (some (.inl (((), (), ()), w64 (a + 1), w64 (b + 1), sx c b a)))) else some (.inr (a, c))
def laws_markIntS_n26 : NEnt := ⟨⟨23, [⟨0, .one, [.ref 19 0 [] false false kI]⟩, ⟨1, .one, [.dat kI]⟩, ⟨5, .one, [.dat kI]⟩, ⟨19, .agg, [.own true kI]⟩]⟩, [(.exit 0, ⟨23, [⟨1, .one, [.dat kI]⟩, ⟨19, .agg, [.own true kI]⟩]⟩)], lp laws_markIntS_s26⟩
def laws_markIntS : List Int × Int → Option (Int × List Int)
  | (a, b) => (lp laws_markIntS_s26 (((), (), ()), b, 0, a)).bind fun (c, d) => some (c, d)
def laws_markIntS_e : FEnt := ⟨19, [.tmp 4], [true, false], [(.one, [.own true kI]), (.one, [.dat kI])], ⟨23, [⟨4, .one, [.dat kI]⟩, ⟨19, .agg, [.own true kI]⟩]⟩, laws_markIntS⟩
theorem laws_markIntS_ok : FnOk Tryz.prog 29 laws_markIntS_e := fnOk_mk (tb := [(26, laws_markIntS_n26)]) (c := (Tryz.f29.body).getD .skip) mixed Tryz.func29 bN (by kernel_rfl) (by kernel_rfl) (by kernel_rfl) ⟨nodeLoop (by kernel_rfl) laws_markIntS_s26 (by kernel_rfl) (by intro d; kernel_rfl), trivial⟩ (by intro d; kernel_rfl)


/-! laws.markIntSS -/
def laws_markIntSS_s26 : (Unit × Unit × Unit) × Int × Int × List (List Int) → Option ((Unit × Unit × Unit) × Int × Int × List (List Int) ⊕ Int × List (List Int))
  | ((_, _, _), a, b, c) => bif decide (b < (ln c)) then ix b c.length (lx b c.length ((laws_markIntS (gx c b [], a)).bind fun (d, e) => some (.inl (((), (), ()), d, w64 (b + 1), sx c b e)))) else some (.inr (a, c))
def laws_markIntSS_n26 : NEnt := ⟨⟨23, [⟨0, .one, [.ref 19 0 [] false false (.list kI)]⟩, ⟨1, .one, [.dat kI]⟩, ⟨5, .one, [.dat kI]⟩, ⟨19, .agg, cc16⟩]⟩, [(.exit 0, ⟨23, [⟨1, .one, [.dat kI]⟩, ⟨19, .agg, cc16⟩]⟩)], lp laws_markIntSS_s26⟩
def laws_markIntSS : List (List Int) × Int → Option (Int × List (List Int))
  | (a, b) => (lp laws_markIntSS_s26 (((), (), ()), b, 0, a)).bind fun (c, d) => some (c, d)
def laws_markIntSS_e : FEnt := ⟨19, [.tmp 4], [true, false], [(.one, cc16), (.one, [.dat kI])], ⟨23, [⟨4, .one, [.dat kI]⟩, ⟨19, .agg, cc16⟩]⟩, laws_markIntSS⟩
theorem laws_markIntSS_ok : FnOk Tryz.prog 91 laws_markIntSS_e := fnOk_mk (tb := [(26, laws_markIntSS_n26)]) (c := (Tryz.f91.body).getD .skip) mixed Tryz.func91 (bC laws_markIntS_ok bN) (by kernel_rfl) (by kernel_rfl) (by kernel_rfl) ⟨nodeLoop (by kernel_rfl) laws_markIntSS_s26 (by kernel_rfl) (by intro d; kernel_rfl), trivial⟩ (by intro d; kernel_rfl)


/-! laws.markEntryS -/
def laws_markEntryS_s26 : (Unit × Unit × Unit) × Int × t41 → Option ((Unit × Unit × Unit) × Int × t41 ⊕ t41)
  | ((_, _, _), a, b, c) => (some (decide (b < (ln c)))).bind fun d => bif d then ix b c.length (lx b c.length ((some (sx c b (a, (gx c b (0, 0, [], 0, 0, 0, 0, [], [], [])).2))).bind fun e => ix b e.length (lx b e.length ((some (sx e b ((gx e b (0, 0, [], 0, 0, 0, 0, [], [], [])).1, w64 (a + 1), (gx e b (0, 0, [], 0, 0, 0, 0, [], [], [])).2.2))).bind fun f => ix b f.length (lx b f.length ((laws_markSpanS ((gx f b (0, 0, [], 0, 0, 0, 0, [], [], [])).2.2.1, w64 ((w64 (a + 1)) + 1))).bind fun (g, h) => (some (sx f b ((gx f b (0, 0, [], 0, 0, 0, 0, [], [], [])).1, (gx f b (0, 0, [], 0, 0, 0, 0, [], [], [])).2.1, h, (gx f b (0, 0, [], 0, 0, 0, 0, [], [], [])).2.2.2))).bind fun i => ix b i.length (lx b i.length ((some (sx i b ((gx i b (0, 0, [], 0, 0, 0, 0, [], [], [])).1, (gx i b (0, 0, [], 0, 0, 0, 0, [], [], [])).2.1, (gx i b (0, 0, [], 0, 0, 0, 0, [], [], [])).2.2.1, g, (gx i b (0, 0, [], 0, 0, 0, 0, [], [], [])).2.2.2.2))).bind fun j => ix b j.length (lx b j.length ((some (sx j b ((gx j b (0, 0, [], 0, 0, 0, 0, [], [], [])).1, (gx j b (0, 0, [], 0, 0, 0, 0, [], [], [])).2.1, (gx j b (0, 0, [], 0, 0, 0, 0, [], [], [])).2.2.1, (gx j b (0, 0, [], 0, 0, 0, 0, [], [], [])).2.2.2.1, w64 (g + 1), (gx j b (0, 0, [], 0, 0, 0, 0, [], [], [])).2.2.2.2.2))).bind fun k => ix b k.length (lx b k.length ((some (sx k b ((gx k b (0, 0, [], 0, 0, 0, 0, [], [], [])).1, (gx k b (0, 0, [], 0, 0, 0, 0, [], [], [])).2.1, (gx k b (0, 0, [], 0, 0, 0, 0, [], [], [])).2.2.1, (gx k b (0, 0, [], 0, 0, 0, 0, [], [], [])).2.2.2.1, (gx k b (0, 0, [], 0, 0, 0, 0, [], [], [])).2.2.2.2.1, w64 ((w64 (g + 1)) + 1), (gx k b (0, 0, [], 0, 0, 0, 0, [], [], [])).2.2.2.2.2.2))).bind fun l => ix b l.length (lx b l.length ((some (sx l b ((gx l b (0, 0, [], 0, 0, 0, 0, [], [], [])).1, (gx l b (0, 0, [], 0, 0, 0, 0, [], [], [])).2.1, (gx l b (0, 0, [], 0, 0, 0, 0, [], [], [])).2.2.1, (gx l b (0, 0, [], 0, 0, 0, 0, [], [], [])).2.2.2.1, (gx l b (0, 0, [], 0, 0, 0, 0, [], [], [])).2.2.2.2.1, (gx l b (0, 0, [], 0, 0, 0, 0, [], [], [])).2.2.2.2.2.1, w64 ((w64 ((w64 (g + 1)) + 1)) + 1), (gx l b (0, 0, [], 0, 0, 0, 0, [], [], [])).2.2.2.2.2.2.2))).bind fun m => (some (w64 ((w64 ((w64 ((w64 (g + 1)) + 1)) + 1)) + 1))).bind fun n => ix b m.length (lx b m.length ((laws_markIntS ((gx m b (0, 0, [], 0, 0, 0, 0, [], [], [])).2.2.2.2.2.2.2.1, n)).bind fun (o, p) => (some (sx m b ((gx m b (0, 0, [], 0, 0, 0, 0, [], [], [])).1, (gx m b (0, 0, [], 0, 0, 0, 0, [], [], [])).2.1, (gx m b (0, 0, [], 0, 0, 0, 0, [], [], [])).2.2.1, (gx m b (0, 0, [], 0, 0, 0, 0, [], [], [])).2.2.2.1, (gx m b (0, 0, [], 0, 0, 0, 0, [], [], [])).2.2.2.2.1, (gx m b (0, 0, [], 0, 0, 0, 0, [], [], [])).2.2.2.2.2.1, (gx m b (0, 0, [], 0, 0, 0, 0, [], [], [])).2.2.2.2.2.2.1, p, (gx m b (0, 0, [], 0, 0, 0, 0, [], [], [])).2.2.2.2.2.2.2.2))).bind fun q => ix b q.length (lx b q.length ((laws_markIntS ((gx q b (0, 0, [], 0, 0, 0, 0, [], [], [])).2.2.2.2.2.2.2.2.1, o)).bind fun (r, s) => (some (sx q b ((gx q b (0, 0, [], 0, 0, 0, 0, [], [], [])).1, (gx q b (0, 0, [], 0, 0, 0, 0, [], [], [])).2.1, (gx q b (0, 0, [], 0, 0, 0, 0, [], [], [])).2.2.1, (gx q b (0, 0, [], 0, 0, 0, 0, [], [], [])).2.2.2.1, (gx q b (0, 0, [], 0, 0, 0, 0, [], [], [])).2.2.2.2.1, (gx q b (0, 0, [], 0, 0, 0, 0, [], [], [])).2.2.2.2.2.1, (gx q b (0, 0, [], 0, 0, 0, 0, [], [], [])).2.2.2.2.2.2.1, (gx q b (0, 0, [], 0, 0, 0, 0, [], [], [])).2.2.2.2.2.2.2.1, s, (gx q b (0, 0, [], 0, 0, 0, 0, [], [], [])).2.2.2.2.2.2.2.2.2))).bind fun t => ix b t.length (lx b t.length ((laws_markIntSS ((gx t b (0, 0, [], 0, 0, 0, 0, [], [], [])).2.2.2.2.2.2.2.2.2, r)).bind fun (u, v) => (some (sx t b ((gx t b (0, 0, [], 0, 0, 0, 0, [], [], [])).1, (gx t b (0, 0, [], 0, 0, 0, 0, [], [], [])).2.1, (gx t b (0, 0, [], 0, 0, 0, 0, [], [], [])).2.2.1, (gx t b (0, 0, [], 0, 0, 0, 0, [], [], [])).2.2.2.1, (gx t b (0, 0, [], 0, 0, 0, 0, [], [], [])).2.2.2.2.1, (gx t b (0, 0, [], 0, 0, 0, 0, [], [], [])).2.2.2.2.2.1, (gx t b (0, 0, [], 0, 0, 0, 0, [], [], [])).2.2.2.2.2.2.1, (gx t b (0, 0, [], 0, 0, 0, 0, [], [], [])).2.2.2.2.2.2.2.1, (gx t b (0, 0, [], 0, 0, 0, 0, [], [], [])).2.2.2.2.2.2.2.2.1, v))).bind fun w => some (.inl (((), (), ()), u, w64 (b + 1), w)))))))))))))))))))))) else some (.inr (a, c))
def laws_markEntryS_n26 : NEnt := ⟨⟨94, [⟨0, .one, [.ref 90 0 [] false false kk5]⟩, ⟨1, .one, [.dat kI]⟩, ⟨5, .one, [.dat kI]⟩, ⟨90, .agg, [.own true kk5]⟩]⟩, [(.exit 0, ⟨94, [⟨1, .one, [.dat kI]⟩, ⟨90, .agg, [.own true kk5]⟩]⟩)], lp laws_markEntryS_s26⟩
def laws_markEntryS : t40 → Option t41
  | (a, b) => (lp laws_markEntryS_s26 (((), (), ()), b, 0, a)).bind fun (c, d) => some (c, d)
def laws_markEntryS_e : FEnt := ⟨90, [.tmp 4], [true, false], [(.one, [.own true kk5]), (.one, [.dat kI])], ⟨94, [⟨4, .one, [.dat kI]⟩, ⟨90, .agg, [.own true kk5]⟩]⟩, laws_markEntryS⟩
theorem laws_markEntryS_ok : FnOk Tryz.prog 52 laws_markEntryS_e := fnOk_mk (tb := [(26, laws_markEntryS_n26)]) (c := (Tryz.f52.body).getD .skip) mixed Tryz.func52 (bC laws_markSpanS_ok (bC laws_markIntS_ok (bC laws_markIntSS_ok bN))) (by kernel_rfl) (by kernel_rfl) (by kernel_rfl) ⟨nodeLoop (by kernel_rfl) laws_markEntryS_s26 (by kernel_rfl) (by intro d; kernel_rfl), trivial⟩ (by intro d; kernel_rfl)


/-! laws.markRow -/
def laws_markRow : t40 → Option t41
  | (a, b) => (laws_markEntryS (a, b)).bind fun (c, d) => some (c, d)
def laws_markRow_e : FEnt := ⟨10, [.tmp 4], [true, false], [(.agg, [.own true kk5]), (.one, [.dat kI])], ⟨14, [⟨4, .one, [.dat kI]⟩, ⟨10, .agg, [.own true kk5]⟩]⟩, laws_markRow⟩
theorem laws_markRow_ok : FnOk Tryz.prog 16 laws_markRow_e := fnOk_mk (tb := []) (c := (Tryz.f16.body).getD .skip) mixed Tryz.func16 (bC laws_markEntryS_ok bN) (by kernel_rfl) (by kernel_rfl) (by kernel_rfl) trivial (by intro d; kernel_rfl)


/-! laws.heldSpanS -/
def laws_heldSpanS_s26 : t7 → Option (t7 ⊕ Int ⊕ Int)
  | (a, b, c) => bif decide (c < (ln a)) then ix c a.length ((some (gx a c (0, 0))).bind fun (d, e) => bif d != b then some (.inr (.inl (-1))) else ix c a.length ((some (gx a c (0, 0))).bind fun (f, g) => bif g != (w64 (b + 1)) then some (.inr (.inl (-1))) else some (.inl (a, w64 ((w64 (b + 1)) + 1), w64 (c + 1))))) else some (.inr (.inr b))
def laws_heldSpanS_n26 : NEnt := ⟨⟨35, [⟨0, .one, [.dat kk10]⟩, ⟨1, .one, [.dat kI]⟩, ⟨5, .one, [.dat kI]⟩]⟩, [(.ret, ⟨35, [⟨4, .one, [.dat kI]⟩]⟩), (.exit 0, ⟨35, [⟨1, .one, [.dat kI]⟩]⟩)], lp laws_heldSpanS_s26⟩
def laws_heldSpanS : t0 → Option Int
  | (a, b) => bx (lp laws_heldSpanS_s26 (a, b, 0)) (fun c => some c) fun c => some c
def laws_heldSpanS_e : FEnt := ⟨31, [.tmp 4], [], [(.one, [.dat kk10]), (.one, [.dat kI])], ⟨35, [⟨4, .one, [.dat kI]⟩]⟩, laws_heldSpanS⟩
theorem laws_heldSpanS_ok : FnOk Tryz.prog 114 laws_heldSpanS_e := fnOk_mk (tb := [(26, laws_heldSpanS_n26)]) (c := (Tryz.f114.body).getD .skip) mixed Tryz.func114 bN (by kernel_rfl) (by kernel_rfl) (by kernel_rfl) ⟨nodeLoop (by kernel_rfl) laws_heldSpanS_s26 (by kernel_rfl) (by intro d; kernel_rfl), trivial⟩ (by intro d; kernel_rfl)


/-! laws.heldIntS -/
def laws_heldIntS_s26 : List Int × Int × Int → Option (List Int × Int × Int ⊕ Int ⊕ Int)
  | (a, b, c) => bif decide (c < (ln a)) then ix c a.length (bif (gx a c 0) != b then some (.inr (.inl (-1))) else some (.inl (a, w64 (b + 1), w64 (c + 1)))) else some (.inr (.inr b))
def laws_heldIntS_n26 : NEnt := ⟨⟨25, [⟨0, .one, [.dat (.list kI)]⟩, ⟨1, .one, [.dat kI]⟩, ⟨5, .one, [.dat kI]⟩]⟩, [(.ret, ⟨25, [⟨4, .one, [.dat kI]⟩]⟩), (.exit 0, ⟨25, [⟨1, .one, [.dat kI]⟩]⟩)], lp laws_heldIntS_s26⟩
def laws_heldIntS : List Int × Int → Option Int
  | (a, b) => bx (lp laws_heldIntS_s26 (a, b, 0)) (fun c => some c) fun c => some c
def laws_heldIntS_e : FEnt := ⟨21, [.tmp 4], [], [(.one, [.dat (.list kI)]), (.one, [.dat kI])], ⟨25, [⟨4, .one, [.dat kI]⟩]⟩, laws_heldIntS⟩
theorem laws_heldIntS_ok : FnOk Tryz.prog 30 laws_heldIntS_e := fnOk_mk (tb := [(26, laws_heldIntS_n26)]) (c := (Tryz.f30.body).getD .skip) mixed Tryz.func30 bN (by kernel_rfl) (by kernel_rfl) (by kernel_rfl) ⟨nodeLoop (by kernel_rfl) laws_heldIntS_s26 (by kernel_rfl) (by intro d; kernel_rfl), trivial⟩ (by intro d; kernel_rfl)


/-! laws.heldIntSS -/
def laws_heldIntSS_s26 : t6 → Option (t6 ⊕ Int ⊕ Int)
  | (a, b, c) => bif decide (c < (ln a)) then ix c a.length ((laws_heldIntS (gx a c [], b)).bind fun d => bif decide (d < 0) then some (.inr (.inl (-1))) else some (.inl (a, d, w64 (c + 1)))) else some (.inr (.inr b))
def laws_heldIntSS_n26 : NEnt := ⟨⟨25, [⟨0, .one, [.dat kk11]⟩, ⟨1, .one, [.dat kI]⟩, ⟨5, .one, [.dat kI]⟩]⟩, [(.ret, ⟨25, [⟨4, .one, [.dat kI]⟩]⟩), (.exit 0, ⟨25, [⟨1, .one, [.dat kI]⟩]⟩)], lp laws_heldIntSS_s26⟩
def laws_heldIntSS : List (List Int) × Int → Option Int
  | (a, b) => bx (lp laws_heldIntSS_s26 (a, b, 0)) (fun c => some c) fun c => some c
def laws_heldIntSS_e : FEnt := ⟨21, [.tmp 4], [], [(.one, [.dat kk11]), (.one, [.dat kI])], ⟨25, [⟨4, .one, [.dat kI]⟩]⟩, laws_heldIntSS⟩
theorem laws_heldIntSS_ok : FnOk Tryz.prog 92 laws_heldIntSS_e := fnOk_mk (tb := [(26, laws_heldIntSS_n26)]) (c := (Tryz.f92.body).getD .skip) mixed Tryz.func92 (bC laws_heldIntS_ok bN) (by kernel_rfl) (by kernel_rfl) (by kernel_rfl) ⟨nodeLoop (by kernel_rfl) laws_heldIntSS_s26 (by kernel_rfl) (by intro d; kernel_rfl), trivial⟩ (by intro d; kernel_rfl)


/-! laws.heldEntryS -/
def laws_heldEntryS_s26 : t44 → Option (t44 ⊕ Int ⊕ Int)
  | (a, b, c) => (some (decide (c < (ln a)))).bind fun d => bif d then ix c a.length ((some (gx a c (0, 0, [], 0, 0, 0, 0, [], [], []))).bind fun (e, f, g, h, i, j, k, l, m, n) => bif e != b then some (.inr (.inl (-1))) else ix c a.length ((some (gx a c (0, 0, [], 0, 0, 0, 0, [], [], []))).bind fun (o, p, q, r, s, t, u, v, w, x) => bif p != (w64 (b + 1)) then some (.inr (.inl (-1))) else ix c a.length ((some (gx a c (0, 0, [], 0, 0, 0, 0, [], [], []))).bind fun (y, z, a1, b1, c1, d1, e1, f1, g1, h1) => (laws_heldSpanS (a1, w64 ((w64 (b + 1)) + 1))).bind fun i1 => bif decide (i1 < 0) then some (.inr (.inl (-1))) else ix c a.length ((some (gx a c (0, 0, [], 0, 0, 0, 0, [], [], []))).bind fun (j1, k1, l1, m1, n1, o1, p1, q1, r1, s1) => bif m1 != i1 then some (.inr (.inl (-1))) else ix c a.length ((some (gx a c (0, 0, [], 0, 0, 0, 0, [], [], []))).bind fun (t1, u1, v1, w1, x1, y1, z1, a2, b2, c2) => bif x1 != (w64 (i1 + 1)) then some (.inr (.inl (-1))) else ix c a.length ((some (gx a c (0, 0, [], 0, 0, 0, 0, [], [], []))).bind fun (d2, e2, f2, g2, h2, i2, j2, k2, l2, m2) => bif i2 != (w64 ((w64 (i1 + 1)) + 1)) then some (.inr (.inl (-1))) else ix c a.length ((some (gx a c (0, 0, [], 0, 0, 0, 0, [], [], []))).bind fun (n2, o2, p2, q2, r2, s2, t2, u2, v2, w2) => (some (t2 != (w64 ((w64 ((w64 (i1 + 1)) + 1)) + 1)))).bind fun x2 => bif x2 then some (.inr (.inl (-1))) else (some (w64 ((w64 ((w64 ((w64 (i1 + 1)) + 1)) + 1)) + 1))).bind fun y2 => ix c a.length ((some (gx a c (0, 0, [], 0, 0, 0, 0, [], [], []))).bind fun (z2, a3, b3, c3, d3, e3, f3, g3, h3, i3) => (laws_heldIntS (g3, y2)).bind fun j3 => bif decide (j3 < 0) then some (.inr (.inl (-1))) else ix c a.length ((some (gx a c (0, 0, [], 0, 0, 0, 0, [], [], []))).bind fun (k3, l3, m3, n3, o3, p3, q3, r3, s3, t3) => (laws_heldIntS (s3, j3)).bind fun u3 => bif decide (u3 < 0) then some (.inr (.inl (-1))) else ix c a.length ((some (gx a c (0, 0, [], 0, 0, 0, 0, [], [], []))).bind fun (v3, w3, x3, y3, z3, a4, b4, c4, d4, e4) => (laws_heldIntSS (e4, u3)).bind fun f4 => bif decide (f4 < 0) then some (.inr (.inl (-1))) else some (.inl (a, f4, w64 (c + 1))))))))))))) else some (.inr (.inr b))
def laws_heldEntryS_n26 : NEnt := ⟨⟨114, [⟨0, .one, [.dat kk4]⟩, ⟨1, .one, [.dat kI]⟩, ⟨5, .one, [.dat kI]⟩]⟩, [(.ret, ⟨114, [⟨4, .one, [.dat kI]⟩]⟩), (.exit 0, ⟨114, [⟨1, .one, [.dat kI]⟩]⟩)], lp laws_heldEntryS_s26⟩
def laws_heldEntryS : t40 → Option Int
  | (a, b) => bx (lp laws_heldEntryS_s26 (a, b, 0)) (fun c => some c) fun c => some c
def laws_heldEntryS_e : FEnt := ⟨110, [.tmp 4], [], [(.one, [.dat kk4]), (.one, [.dat kI])], ⟨114, [⟨4, .one, [.dat kI]⟩]⟩, laws_heldEntryS⟩
theorem laws_heldEntryS_ok : FnOk Tryz.prog 53 laws_heldEntryS_e := fnOk_mk (tb := [(26, laws_heldEntryS_n26)]) (c := (Tryz.f53.body).getD .skip) mixed Tryz.func53 (bC laws_heldSpanS_ok (bC laws_heldIntS_ok (bC laws_heldIntSS_ok bN))) (by kernel_rfl) (by kernel_rfl) (by kernel_rfl) ⟨nodeLoop (by kernel_rfl) laws_heldEntryS_s26 (by kernel_rfl) (by intro d; kernel_rfl), trivial⟩ (by intro d; kernel_rfl)


/-! laws.heldRow -/
def laws_heldRow : t40 → Option Int
  | (a, b) => (laws_heldEntryS (a, b)).bind fun c => bif decide (c < 0) then some (-1) else some c
def laws_heldRow_e : FEnt := ⟨12, [.tmp 4], [], [(.agg, [.dat kk4]), (.one, [.dat kI])], ⟨16, [⟨4, .one, [.dat kI]⟩]⟩, laws_heldRow⟩
theorem laws_heldRow_ok : FnOk Tryz.prog 17 laws_heldRow_e := fnOk_mk (tb := []) (c := (Tryz.f17.body).getD .skip) mixed Tryz.func17 (bC laws_heldEntryS_ok bN) (by kernel_rfl) (by kernel_rfl) (by kernel_rfl) trivial (by intro d; kernel_rfl)


/-! laws.FnExactJoinRow -/
def laws_FnExactJoinRow : List t37 → Option Bool
  | a => (laws_szRow (a, 1048576)).bind fun b => bif decide (b < 0) then some true else (laws_toRow a).bind fun c => (spec_JoinRow c).bind fun d => (laws_toRow a).bind fun e => (impl_JoinRow e).bind fun f => (laws_eqRow (f, d)).bind fun g => bif !g then some false else (laws_toRow a).bind fun h => (laws_eqRow (e, h)).bind fun i => bif !i then some false else (laws_markRow (e, 1)).bind fun (j, k) => bif decide (j < 0) then some false else (laws_eqRow (f, d)).bind fun l => bif !l then some false else (laws_markRow (f, 1)).bind fun (m, n) => (laws_heldRow (n, 1)).bind fun o => bif decide (o < 0) then some false else bif o != m then some false else (laws_toRow a).bind fun p => (impl_JoinRow p).bind fun q => (laws_eqRow (q, d)).bind fun r => bif !r then some false else (laws_heldRow (n, 1)).bind fun s => bif decide (s < 0) then some false else bif s != m then some false else some true
def laws_FnExactJoinRow_e : FEnt := ⟨69, [.tmp 2], [], [(.agg, [.dat kk4])], ⟨71, [⟨2, .one, [.dat .bool]⟩]⟩, laws_FnExactJoinRow⟩
theorem laws_FnExactJoinRow_ok : FnOk Tryz.prog 3 laws_FnExactJoinRow_e := fnOk_mk (tb := []) (c := (Tryz.f3.body).getD .skip) mixed Tryz.func3 (bC laws_szRow_ok (bC laws_toRow_ok (bC spec_JoinRow_ok (bC impl_JoinRow_ok (bC laws_eqRow_ok (bC laws_markRow_ok (bC laws_heldRow_ok bN))))))) (by kernel_rfl) (by kernel_rfl) (by kernel_rfl) trivial (by intro d; kernel_rfl)



end Go.Proofs.YtkegollaleklaaaGreat.Tw
