/- Printed by print.lean: typed twins of functions and their proofs. No condition. -/
import Derived.Test.YtkegollaleklaaaGreatDoorV
import Derived.Test.YtkegollaleklaaaGreatDoorExt
import Derived.Test.YtkegollaleklaaaGreatDoorProg
import Derived.KernelRfl
namespace Go.Proofs.YtkegollaleklaaaGreatDoor.Tw
open Go.Mach
set_option linter.unusedVariables false
set_option maxRecDepth 100000
abbrev kI : K := .int .i64
abbrev kB : K := .int .u8
abbrev t0 : Type := List (Int × Int) × Int
abbrev t1 : Type := List Int × List Int × Int
abbrev t2 : Type := List Int × List (List Int)
abbrev t3 : Type := Int × List Int × Int × Int
abbrev t4 : Type := List (List Int) × Int × Int
abbrev t5 : Type := List (Int × Int) × Int × Int
abbrev t6 : Type := List Int × Int × Int × Int × Int
abbrev t7 : Type := Int × t5
abbrev t8 : Type := List (Int × Bool × List Int) × Int
abbrev t9 : Type := List (Int × Int) × List (Int × Int)
abbrev t10 : Type := List (Int × Int) × List UInt8 × Int
abbrev t11 : Type := List Int × t2
abbrev t12 : Type := List (List Int) × List (List Int) × Int
abbrev t13 : Type := Int × t7
abbrev t14 : Type := List (Int × Bool × List Int) × Int × Int
abbrev t15 : Type := List (Int × Int) × t0
abbrev t16 : Type := Int × t11
abbrev t17 : Type := Int × Int × t6
abbrev t18 : Type := List (Int × Int) × t5
abbrev t19 : Type := Int × t16
abbrev t20 : Type := Int × t17
abbrev t21 : Type := List t13 × Int
abbrev t22 : Type := Int × t19
abbrev t23 : Type := List t13 × Int × Int
abbrev t24 : Type := Int × t22
abbrev t25 : Type := List (Int × Bool × List Int) × t8
abbrev t26 : Type := List (Int × Int) × t24
abbrev t27 : Type := Int × t26
abbrev t28 : Type := Int × t27
abbrev t29 : Type := List (Int × Int) × List (Int × Int) × t23
abbrev t30 : Type := Int × t28
abbrev t31 : Type := List t28 × Int
abbrev t32 : Type := List t28 × Int × Int
abbrev t33 : Type := List t30 × Int
abbrev t34 : Type := List (List t28) × Int
abbrev t35 : Type := List (List t28) × Unit
abbrev t36 : Type := List t30 × Int × Int
abbrev t37 : Type := List (List t28) × Int × Int
abbrev t38 : Type := List (List (List t28)) × Int
abbrev t39 : Type := List (List t28) × Int × Bool
abbrev t40 : Type := List (List (List t28)) × Int × Int
abbrev t41 : Type := List t28 × List t30
abbrev t42 : Type := Int × t41
abbrev t43 : Type := List (List t28) × t34
abbrev t44 : Type := List (List (List t28)) × t38
abbrev t45 : Type := List (Int × Bool × List Int) × t42
abbrev t46 : Type := List (List (List t28)) × Int × t35 × t39
abbrev t47 : Type := List (List (List t28)) × t45
abbrev t48 : Type := List t13 × t47
abbrev t49 : Type := Bool × t48
abbrev t50 : Type := Int × t49
abbrev t51 : Type := Int × t50
abbrev t52 : Type := Int × t51
abbrev t53 : Type := Int × t52
abbrev t54 : Type := Int × t53
abbrev t55 : Type := List Int × t54
abbrev t56 : Type := Int × t55
abbrev t57 : Type := Int × t56
abbrev t58 : Type := Int × t57
abbrev t59 : Type := t58 × Int
abbrev t60 : Type := t58 × Int × Int × Int
abbrev t61 : Type := t58 × List UInt8 × Int
abbrev kk11 : K := (.list (.list kI))
abbrev kk10 : K := (.list (.pair kI kI))
abbrev kk9 : K := (.pair kI (.pair .bool (.list kI)))
abbrev kk8 : K := (.list kk9)
abbrev kk7 : K := (.pair kI (.pair kI (.pair kk10 (.pair kI kI))))
abbrev kk6 : K := (.list kk7)
abbrev kk5 : K := (.pair kI (.pair kI (.pair kk10 (.pair kI (.pair kI (.pair kI (.pair kI (.pair (.list kI) (.pair (.list kI) kk11)))))))))
abbrev kk4 : K := (.list kk5)
abbrev kk3 : K := (.pair kI kk5)
abbrev kk2 : K := (.list kk4)
abbrev kk1 : K := (.list kk3)
abbrev kk0 : K := (.list kk2)
abbrev cc0 : List PC := [.dat kI, .dat kI, .dat kI, .dat (.list kI), .dat kI, .dat kI, .dat kI, .dat kI, .dat kI, .dat .bool, .dat kk6, .dat kk0, .dat kk8, .dat kI, .dat kk4, .dat kk1]
abbrev cc1 : List PC := [.dat kI, .dat kI, .dat kI, .dat kk10, .dat kI, .dat kI, .dat kI, .dat kI, .dat (.list kI), .dat (.list kI), .dat kk11]
abbrev cc2 : List PC := [.dat kI, .dat kI, .dat kk10, .dat kI, .dat kI, .dat kI, .dat kI, .dat (.list kI), .dat (.list kI), .dat kk11]
abbrev cc3 : List PC := [.dat kI, .dat kI, .dat kI, .dat kI, .dat (.list kI), .dat (.list kI), .dat kk11]
abbrev cc4 : List PC := [.dat kI, .dat kI, .dat kI, .dat (.list kI), .dat kI, .dat kI, .dat kI, .dat kI]
abbrev cc5 : List PC := [.dat kI, .dat kI, .dat kk10, .dat kI, .dat kI]
abbrev cc6 : List PC := [.dat kI, .dat .bool, .dat (.list kI)]
abbrev cc7 : List PC := [.own true (.pair kI kI)]
abbrev cc8 : List PC := [.fn 109 [.pim [kI] 0]]
abbrev cc9 : List PC := [.own true (.list kI)]
abbrev cc10 : List PC := [.dat kI, .dat kI]
theorem mixed : Tryz.prog.follows .mixedOrders = true := by kernel_rfl

/-! laws.szIntS -/
def laws_szIntS : List Int × Int → Option Int
  | (a, b) => (some (decide ((w64 (b - (ln a))) < 0))).bind fun c => bif c then some (-1) else some (w64 (b - (ln a)))
def laws_szIntS_e : FEnt := ⟨12, [.tmp 4], [], [(.one, [.dat (.list kI)]), (.one, [.dat kI])], ⟨16, [⟨4, .one, [.dat kI]⟩]⟩, laws_szIntS⟩
theorem laws_szIntS_ok : FnOk Tryz.prog 35 laws_szIntS_e := fnOk_mk (tb := []) (c := (Tryz.f35.body).getD .skip) mixed Tryz.func35 bN (by kernel_rfl) (by kernel_rfl) (by kernel_rfl) trivial (by intro d; kernel_rfl)


/-! laws.szConf -/
def laws_szConf : t20 × Int → Option Int
  | ((a, b, c, d, e, f, g, h), i) => (laws_szIntS (d, i)).bind fun j => bif decide (j < 0) then some (-1) else some j
def laws_szConf_e : FEnt := ⟨12, [.tmp 4], [], [(.agg, cc4), (.one, [.dat kI])], ⟨16, [⟨4, .one, [.dat kI]⟩]⟩, laws_szConf⟩
theorem laws_szConf_ok : FnOk Tryz.prog 9 laws_szConf_e := fnOk_mk (tb := []) (c := (Tryz.f9.body).getD .skip) mixed Tryz.func9 (bC laws_szIntS_ok bN) (by kernel_rfl) (by kernel_rfl) (by kernel_rfl) trivial (by intro d; kernel_rfl)


/-! laws.szSpanS -/
def laws_szSpanS : t0 → Option Int
  | (a, b) => (some (decide ((w64 (b - (ln a))) < 0))).bind fun c => bif c then some (-1) else some (w64 (b - (ln a)))
def laws_szSpanS_e : FEnt := ⟨12, [.tmp 4], [], [(.one, [.dat kk10]), (.one, [.dat kI])], ⟨16, [⟨4, .one, [.dat kI]⟩]⟩, laws_szSpanS⟩
theorem laws_szSpanS_ok : FnOk Tryz.prog 78 laws_szSpanS_e := fnOk_mk (tb := []) (c := (Tryz.f78.body).getD .skip) mixed Tryz.func78 bN (by kernel_rfl) (by kernel_rfl) (by kernel_rfl) trivial (by intro d; kernel_rfl)


/-! laws.szSeat -/
def laws_szSeat : t13 × Int → Option Int
  | ((a, b, c, d, e), f) => (laws_szSpanS (c, f)).bind fun g => bif decide (g < 0) then some (-1) else some g
def laws_szSeat_e : FEnt := ⟨12, [.tmp 4], [], [(.agg, cc5), (.one, [.dat kI])], ⟨16, [⟨4, .one, [.dat kI]⟩]⟩, laws_szSeat⟩
theorem laws_szSeat_ok : FnOk Tryz.prog 36 laws_szSeat_e := fnOk_mk (tb := []) (c := (Tryz.f36.body).getD .skip) mixed Tryz.func36 (bC laws_szSpanS_ok bN) (by kernel_rfl) (by kernel_rfl) (by kernel_rfl) trivial (by intro d; kernel_rfl)


/-! laws.szSeatS -/
def laws_szSeatS_s122 : t23 → Option (t23 ⊕ Int ⊕ Int)
  | (a, b, c) => bif decide (c < (ln a)) then ix c a.length ((some (gx a c (0, 0, [], 0, 0))).bind fun (d, e, f, g, h) => (laws_szSeat ((d, e, f, g, h), b)).bind fun i => bif decide (i < 0) then some (.inr (.inl (-1))) else some (.inl (a, i, w64 (c + 1)))) else some (.inr (.inr b))
def laws_szSeatS_n122 : NEnt := ⟨⟨31, [⟨0, .one, [.dat kk6]⟩, ⟨1, .one, [.dat kI]⟩, ⟨5, .one, [.dat kI]⟩]⟩, [(.ret, ⟨31, [⟨4, .one, [.dat kI]⟩]⟩), (.exit 0, ⟨31, [⟨1, .one, [.dat kI]⟩]⟩)], lp laws_szSeatS_s122⟩
def laws_szSeatS : t21 → Option Int
  | (a, b) => (some (decide ((w64 (b - (ln a))) < 0))).bind fun c => bif c then some (-1) else bx (lp laws_szSeatS_s122 (a, w64 (b - (ln a)), 0)) (fun d => some d) fun d => some d
def laws_szSeatS_e : FEnt := ⟨27, [.tmp 4], [], [(.one, [.dat kk6]), (.one, [.dat kI])], ⟨31, [⟨4, .one, [.dat kI]⟩]⟩, laws_szSeatS⟩
theorem laws_szSeatS_ok : FnOk Tryz.prog 10 laws_szSeatS_e := fnOk_mk (tb := [(122, laws_szSeatS_n122)]) (c := (Tryz.f10.body).getD .skip) mixed Tryz.func10 (bC laws_szSeat_ok bN) (by kernel_rfl) (by kernel_rfl) (by kernel_rfl) ⟨nodeLoop (by kernel_rfl) laws_szSeatS_s122 (by kernel_rfl) (by intro d; kernel_rfl), trivial⟩ (by intro d; kernel_rfl)


/-! laws.szIntSS -/
def laws_szIntSS_s122 : t4 → Option (t4 ⊕ Int ⊕ Int)
  | (a, b, c) => bif decide (c < (ln a)) then ix c a.length ((laws_szIntS (gx a c [], b)).bind fun d => bif decide (d < 0) then some (.inr (.inl (-1))) else some (.inl (a, d, w64 (c + 1)))) else some (.inr (.inr b))
def laws_szIntSS_n122 : NEnt := ⟨⟨31, [⟨0, .one, [.dat kk11]⟩, ⟨1, .one, [.dat kI]⟩, ⟨5, .one, [.dat kI]⟩]⟩, [(.ret, ⟨31, [⟨4, .one, [.dat kI]⟩]⟩), (.exit 0, ⟨31, [⟨1, .one, [.dat kI]⟩]⟩)], lp laws_szIntSS_s122⟩
def laws_szIntSS : List (List Int) × Int → Option Int
  | (a, b) => (some (decide ((w64 (b - (ln a))) < 0))).bind fun c => bif c then some (-1) else bx (lp laws_szIntSS_s122 (a, w64 (b - (ln a)), 0)) (fun d => some d) fun d => some d
def laws_szIntSS_e : FEnt := ⟨27, [.tmp 4], [], [(.one, [.dat kk11]), (.one, [.dat kI])], ⟨31, [⟨4, .one, [.dat kI]⟩]⟩, laws_szIntSS⟩
theorem laws_szIntSS_ok : FnOk Tryz.prog 123 laws_szIntSS_e := fnOk_mk (tb := [(122, laws_szIntSS_n122)]) (c := (Tryz.f123.body).getD .skip) mixed Tryz.func123 (bC laws_szIntS_ok bN) (by kernel_rfl) (by kernel_rfl) (by kernel_rfl) ⟨nodeLoop (by kernel_rfl) laws_szIntSS_s122 (by kernel_rfl) (by intro d; kernel_rfl), trivial⟩ (by intro d; kernel_rfl)


/-! laws.szSketch -/
def laws_szSketch : t24 × Int → Option Int
  | ((a, b, c, d, e, f, g), h) => (laws_szIntS (e, h)).bind fun i => bif decide (i < 0) then some (-1) else (laws_szIntS (f, i)).bind fun j => bif decide (j < 0) then some (-1) else (laws_szIntSS (g, j)).bind fun k => bif decide (k < 0) then some (-1) else some k
def laws_szSketch_e : FEnt := ⟨24, [.tmp 4], [], [(.agg, cc3), (.one, [.dat kI])], ⟨28, [⟨4, .one, [.dat kI]⟩]⟩, laws_szSketch⟩
theorem laws_szSketch_ok : FnOk Tryz.prog 80 laws_szSketch_e := fnOk_mk (tb := []) (c := (Tryz.f80.body).getD .skip) mixed Tryz.func80 (bC laws_szIntS_ok (bC laws_szIntSS_ok bN)) (by kernel_rfl) (by kernel_rfl) (by kernel_rfl) trivial (by intro d; kernel_rfl)


/-! laws.szEntry -/
def laws_szEntry : t28 × Int → Option Int
  | ((a, b, c, d, e, f, g, h, i, j), k) => (laws_szSpanS (c, k)).bind fun l => bif decide (l < 0) then some (-1) else (laws_szSketch ((d, e, f, g, h, i, j), l)).bind fun m => bif decide (m < 0) then some (-1) else some m
def laws_szEntry_e : FEnt := ⟨18, [.tmp 4], [], [(.agg, cc2), (.one, [.dat kI])], ⟨22, [⟨4, .one, [.dat kI]⟩]⟩, laws_szEntry⟩
theorem laws_szEntry_ok : FnOk Tryz.prog 39 laws_szEntry_e := fnOk_mk (tb := []) (c := (Tryz.f39.body).getD .skip) mixed Tryz.func39 (bC laws_szSpanS_ok (bC laws_szSketch_ok bN)) (by kernel_rfl) (by kernel_rfl) (by kernel_rfl) trivial (by intro d; kernel_rfl)


/-! laws.szEntryS -/
def laws_szEntryS_s122 : t32 → Option (t32 ⊕ Int ⊕ Int)
  | (a, b, c) => (some (decide (c < (ln a)))).bind fun d => bif d then ix c a.length ((some (gx a c (0, 0, [], 0, 0, 0, 0, [], [], []))).bind fun (e, f, g, h, i, j, k, l, m, n) => (laws_szEntry ((e, f, g, h, i, j, k, l, m, n), b)).bind fun o => bif decide (o < 0) then some (.inr (.inl (-1))) else some (.inl (a, o, w64 (c + 1)))) else some (.inr (.inr b))
def laws_szEntryS_n122 : NEnt := ⟨⟨31, [⟨0, .one, [.dat kk4]⟩, ⟨1, .one, [.dat kI]⟩, ⟨5, .one, [.dat kI]⟩]⟩, [(.ret, ⟨31, [⟨4, .one, [.dat kI]⟩]⟩), (.exit 0, ⟨31, [⟨1, .one, [.dat kI]⟩]⟩)], lp laws_szEntryS_s122⟩
def laws_szEntryS : t31 → Option Int
  | (a, b) => (some (decide ((w64 (b - (ln a))) < 0))).bind fun c => bif c then some (-1) else bx (lp laws_szEntryS_s122 (a, w64 (b - (ln a)), 0)) (fun d => some d) fun d => some d
def laws_szEntryS_e : FEnt := ⟨27, [.tmp 4], [], [(.one, [.dat kk4]), (.one, [.dat kI])], ⟨31, [⟨4, .one, [.dat kI]⟩]⟩, laws_szEntryS⟩
theorem laws_szEntryS_ok : FnOk Tryz.prog 13 laws_szEntryS_e := fnOk_mk (tb := [(122, laws_szEntryS_n122)]) (c := (Tryz.f13.body).getD .skip) mixed Tryz.func13 (bC laws_szEntry_ok bN) (by kernel_rfl) (by kernel_rfl) (by kernel_rfl) ⟨nodeLoop (by kernel_rfl) laws_szEntryS_s122 (by kernel_rfl) (by intro d; kernel_rfl), trivial⟩ (by intro d; kernel_rfl)


/-! laws.szRow -/
def laws_szRow : t31 → Option Int
  | (a, b) => (laws_szEntryS (a, b)).bind fun c => bif decide (c < 0) then some (-1) else some c
def laws_szRow_e : FEnt := ⟨12, [.tmp 4], [], [(.agg, [.dat kk4]), (.one, [.dat kI])], ⟨16, [⟨4, .one, [.dat kI]⟩]⟩, laws_szRow⟩
theorem laws_szRow_ok : FnOk Tryz.prog 79 laws_szRow_e := fnOk_mk (tb := []) (c := (Tryz.f79.body).getD .skip) mixed Tryz.func79 (bC laws_szEntryS_ok bN) (by kernel_rfl) (by kernel_rfl) (by kernel_rfl) trivial (by intro d; kernel_rfl)


/-! laws.szRowS -/
def laws_szRowS_s122 : t37 → Option (t37 ⊕ Int ⊕ Int)
  | (a, b, c) => (some (decide (c < (ln a)))).bind fun d => bif d then ix c a.length ((some (gx a c [])).bind fun e => (laws_szRow (e, b)).bind fun f => bif decide (f < 0) then some (.inr (.inl (-1))) else some (.inl (a, f, w64 (c + 1)))) else some (.inr (.inr b))
def laws_szRowS_n122 : NEnt := ⟨⟨31, [⟨0, .one, [.dat kk2]⟩, ⟨1, .one, [.dat kI]⟩, ⟨5, .one, [.dat kI]⟩]⟩, [(.ret, ⟨31, [⟨4, .one, [.dat kI]⟩]⟩), (.exit 0, ⟨31, [⟨1, .one, [.dat kI]⟩]⟩)], lp laws_szRowS_s122⟩
def laws_szRowS : t34 → Option Int
  | (a, b) => (some (decide ((w64 (b - (ln a))) < 0))).bind fun c => bif c then some (-1) else bx (lp laws_szRowS_s122 (a, w64 (b - (ln a)), 0)) (fun d => some d) fun d => some d
def laws_szRowS_e : FEnt := ⟨27, [.tmp 4], [], [(.one, [.dat kk2]), (.one, [.dat kI])], ⟨31, [⟨4, .one, [.dat kI]⟩]⟩, laws_szRowS⟩
theorem laws_szRowS_ok : FnOk Tryz.prog 37 laws_szRowS_e := fnOk_mk (tb := [(122, laws_szRowS_n122)]) (c := (Tryz.f37.body).getD .skip) mixed Tryz.func37 (bC laws_szRow_ok bN) (by kernel_rfl) (by kernel_rfl) (by kernel_rfl) ⟨nodeLoop (by kernel_rfl) laws_szRowS_s122 (by kernel_rfl) (by intro d; kernel_rfl), trivial⟩ (by intro d; kernel_rfl)


/-! laws.szRowSS -/
def laws_szRowSS_s122 : t40 → Option (t40 ⊕ Int ⊕ Int)
  | (a, b, c) => (some (decide (c < (ln a)))).bind fun d => bif d then ix c a.length ((some (gx a c [])).bind fun e => (laws_szRowS (e, b)).bind fun f => bif decide (f < 0) then some (.inr (.inl (-1))) else some (.inl (a, f, w64 (c + 1)))) else some (.inr (.inr b))
def laws_szRowSS_n122 : NEnt := ⟨⟨31, [⟨0, .one, [.dat kk0]⟩, ⟨1, .one, [.dat kI]⟩, ⟨5, .one, [.dat kI]⟩]⟩, [(.ret, ⟨31, [⟨4, .one, [.dat kI]⟩]⟩), (.exit 0, ⟨31, [⟨1, .one, [.dat kI]⟩]⟩)], lp laws_szRowSS_s122⟩
def laws_szRowSS : t38 → Option Int
  | (a, b) => (some (decide ((w64 (b - (ln a))) < 0))).bind fun c => bif c then some (-1) else bx (lp laws_szRowSS_s122 (a, w64 (b - (ln a)), 0)) (fun d => some d) fun d => some d
def laws_szRowSS_e : FEnt := ⟨27, [.tmp 4], [], [(.one, [.dat kk0]), (.one, [.dat kI])], ⟨31, [⟨4, .one, [.dat kI]⟩]⟩, laws_szRowSS⟩
theorem laws_szRowSS_ok : FnOk Tryz.prog 11 laws_szRowSS_e := fnOk_mk (tb := [(122, laws_szRowSS_n122)]) (c := (Tryz.f11.body).getD .skip) mixed Tryz.func11 (bC laws_szRowS_ok bN) (by kernel_rfl) (by kernel_rfl) (by kernel_rfl) ⟨nodeLoop (by kernel_rfl) laws_szRowSS_s122 (by kernel_rfl) (by intro d; kernel_rfl), trivial⟩ (by intro d; kernel_rfl)


/-! laws.szTurn -/
def laws_szTurn : (Int × Bool × List Int) × Int → Option Int
  | ((a, b, c), d) => (laws_szIntS (c, d)).bind fun e => bif decide (e < 0) then some (-1) else some e
def laws_szTurn_e : FEnt := ⟨12, [.tmp 4], [], [(.agg, cc6), (.one, [.dat kI])], ⟨16, [⟨4, .one, [.dat kI]⟩]⟩, laws_szTurn⟩
theorem laws_szTurn_ok : FnOk Tryz.prog 38 laws_szTurn_e := fnOk_mk (tb := []) (c := (Tryz.f38.body).getD .skip) mixed Tryz.func38 (bC laws_szIntS_ok bN) (by kernel_rfl) (by kernel_rfl) (by kernel_rfl) trivial (by intro d; kernel_rfl)


/-! laws.szTurnS -/
def laws_szTurnS_s122 : t14 → Option (t14 ⊕ Int ⊕ Int)
  | (a, b, c) => bif decide (c < (ln a)) then ix c a.length ((some (gx a c (0, false, []))).bind fun (d, e, f) => (laws_szTurn ((d, e, f), b)).bind fun g => bif decide (g < 0) then some (.inr (.inl (-1))) else some (.inl (a, g, w64 (c + 1)))) else some (.inr (.inr b))
def laws_szTurnS_n122 : NEnt := ⟨⟨31, [⟨0, .one, [.dat kk8]⟩, ⟨1, .one, [.dat kI]⟩, ⟨5, .one, [.dat kI]⟩]⟩, [(.ret, ⟨31, [⟨4, .one, [.dat kI]⟩]⟩), (.exit 0, ⟨31, [⟨1, .one, [.dat kI]⟩]⟩)], lp laws_szTurnS_s122⟩
def laws_szTurnS : t8 → Option Int
  | (a, b) => (some (decide ((w64 (b - (ln a))) < 0))).bind fun c => bif c then some (-1) else bx (lp laws_szTurnS_s122 (a, w64 (b - (ln a)), 0)) (fun d => some d) fun d => some d
def laws_szTurnS_e : FEnt := ⟨27, [.tmp 4], [], [(.one, [.dat kk8]), (.one, [.dat kI])], ⟨31, [⟨4, .one, [.dat kI]⟩]⟩, laws_szTurnS⟩
theorem laws_szTurnS_ok : FnOk Tryz.prog 12 laws_szTurnS_e := fnOk_mk (tb := [(122, laws_szTurnS_n122)]) (c := (Tryz.f12.body).getD .skip) mixed Tryz.func12 (bC laws_szTurn_ok bN) (by kernel_rfl) (by kernel_rfl) (by kernel_rfl) ⟨nodeLoop (by kernel_rfl) laws_szTurnS_s122 (by kernel_rfl) (by intro d; kernel_rfl), trivial⟩ (by intro d; kernel_rfl)


/-! laws.szOut -/
def laws_szOut : t30 × Int → Option Int
  | ((a, b, c, d, e, f, g, h, i, j, k), l) => (laws_szEntry ((b, c, d, e, f, g, h, i, j, k), l)).bind fun m => bif decide (m < 0) then some (-1) else some m
def laws_szOut_e : FEnt := ⟨12, [.tmp 4], [], [(.agg, cc1), (.one, [.dat kI])], ⟨16, [⟨4, .one, [.dat kI]⟩]⟩, laws_szOut⟩
theorem laws_szOut_ok : FnOk Tryz.prog 40 laws_szOut_e := fnOk_mk (tb := []) (c := (Tryz.f40.body).getD .skip) mixed Tryz.func40 (bC laws_szEntry_ok bN) (by kernel_rfl) (by kernel_rfl) (by kernel_rfl) trivial (by intro d; kernel_rfl)


/-! laws.szOutS -/
def laws_szOutS_s122 : t36 → Option (t36 ⊕ Int ⊕ Int)
  | (a, b, c) => (some (decide (c < (ln a)))).bind fun d => bif d then ix c a.length ((some (gx a c (0, 0, 0, [], 0, 0, 0, 0, [], [], []))).bind fun (e, f, g, h, i, j, k, l, m, n, o) => (laws_szOut ((e, f, g, h, i, j, k, l, m, n, o), b)).bind fun p => bif decide (p < 0) then some (.inr (.inl (-1))) else some (.inl (a, p, w64 (c + 1)))) else some (.inr (.inr b))
def laws_szOutS_n122 : NEnt := ⟨⟨31, [⟨0, .one, [.dat kk1]⟩, ⟨1, .one, [.dat kI]⟩, ⟨5, .one, [.dat kI]⟩]⟩, [(.ret, ⟨31, [⟨4, .one, [.dat kI]⟩]⟩), (.exit 0, ⟨31, [⟨1, .one, [.dat kI]⟩]⟩)], lp laws_szOutS_s122⟩
def laws_szOutS : t33 → Option Int
  | (a, b) => (some (decide ((w64 (b - (ln a))) < 0))).bind fun c => bif c then some (-1) else bx (lp laws_szOutS_s122 (a, w64 (b - (ln a)), 0)) (fun d => some d) fun d => some d
def laws_szOutS_e : FEnt := ⟨27, [.tmp 4], [], [(.one, [.dat kk1]), (.one, [.dat kI])], ⟨31, [⟨4, .one, [.dat kI]⟩]⟩, laws_szOutS⟩
theorem laws_szOutS_ok : FnOk Tryz.prog 14 laws_szOutS_e := fnOk_mk (tb := [(122, laws_szOutS_n122)]) (c := (Tryz.f14.body).getD .skip) mixed Tryz.func14 (bC laws_szOut_ok bN) (by kernel_rfl) (by kernel_rfl) (by kernel_rfl) ⟨nodeLoop (by kernel_rfl) laws_szOutS_s122 (by kernel_rfl) (by intro d; kernel_rfl), trivial⟩ (by intro d; kernel_rfl)


/-! laws.szHouse -/
def laws_szHouse : t59 → Option Int
  | ((a, b, c, d, e, f, g, h, i, j, k, l, m, n, o, p), q) => (laws_szConf ((a, b, c, d, e, f, g, h), q)).bind fun r => bif decide (r < 0) then some (-1) else (laws_szSeatS (k, r)).bind fun s => bif decide (s < 0) then some (-1) else (laws_szRowSS (l, s)).bind fun t => bif decide (t < 0) then some (-1) else (laws_szTurnS (m, t)).bind fun u => bif decide (u < 0) then some (-1) else (laws_szEntryS (o, u)).bind fun v => bif decide (v < 0) then some (-1) else (laws_szOutS (p, v)).bind fun w => bif decide (w < 0) then some (-1) else some w
def laws_szHouse_e : FEnt := ⟨42, [.tmp 4], [], [(.agg, cc0), (.one, [.dat kI])], ⟨46, [⟨4, .one, [.dat kI]⟩]⟩, laws_szHouse⟩
theorem laws_szHouse_ok : FnOk Tryz.prog 4 laws_szHouse_e := fnOk_mk (tb := []) (c := (Tryz.f4.body).getD .skip) mixed Tryz.func4 (bC laws_szConf_ok (bC laws_szSeatS_ok (bC laws_szRowSS_ok (bC laws_szTurnS_ok (bC laws_szEntryS_ok (bC laws_szOutS_ok bN)))))) (by kernel_rfl) (by kernel_rfl) (by kernel_rfl) trivial (by intro d; kernel_rfl)


/-! laws.toIntS -/
def laws_toIntS_s58 : t1 → Option (t1 ⊕ List Int)
  | (a, b, c) => bif decide (c < (ln a)) then ix c a.length (ix c b.length (lx c b.length (some (.inl (a, sx b c (gx a c 0), w64 (c + 1)))))) else some (.inr b)
def laws_toIntS_n58 : NEnt := ⟨⟨24, [⟨0, .one, [.dat (.list kI)]⟩, ⟨3, .one, [.own true kI]⟩, ⟨4, .one, [.dat kI]⟩]⟩, [(.exit 0, ⟨24, [⟨3, .one, [.own true kI]⟩]⟩)], lp laws_toIntS_s58⟩
def laws_toIntS : List Int → Option (List Int)
  | a => chk (decide (((ln a).toNat ≤ (ln a).toNat) ∧ (((ln a).toNat ≤ 4294967296) ∧ (((ln a).toNat * 8) ≤ 140737488355328)))) ((lp laws_toIntS_s58 (a, List.replicate (ln a).toNat 0, 0)).bind fun b => some b)
def laws_toIntS_e : FEnt := ⟨22, [.tmp 2], [], [(.one, [.dat (.list kI)])], ⟨24, [⟨2, .one, [.own true kI]⟩]⟩, laws_toIntS⟩
theorem laws_toIntS_ok : FnOk Tryz.prog 52 laws_toIntS_e := fnOk_mk (tb := [(58, laws_toIntS_n58)]) (c := (Tryz.f52.body).getD .skip) mixed Tryz.func52 bN (by kernel_rfl) (by kernel_rfl) (by kernel_rfl) ⟨nodeLoop (by kernel_rfl) laws_toIntS_s58 (by kernel_rfl) (by intro d; kernel_rfl), trivial⟩ (by intro d; kernel_rfl)


/-! laws.toConf -/
def laws_toConf : t20 → Option t20
  | (a, b, c, d, e, f, g, h) => (laws_toIntS d).bind fun i => some (a, b, c, i, e, f, g, h)
def laws_toConf_e : FEnt := ⟨30, [.cell 2 true 8], [], [(.agg, cc4)], ⟨32, [⟨2, .box, [.dat kI, .dat kI, .dat kI, .own true kI, .dat kI, .dat kI, .dat kI, .dat kI]⟩]⟩, laws_toConf⟩
theorem laws_toConf_ok : FnOk Tryz.prog 19 laws_toConf_e := fnOk_mk (tb := []) (c := (Tryz.f19.body).getD .skip) mixed Tryz.func19 (bC laws_toIntS_ok bN) (by kernel_rfl) (by kernel_rfl) (by kernel_rfl) trivial (by intro d; kernel_rfl)


/-! laws.toSpan -/
def laws_toSpan : Int × Int → Option (Int × Int)
  | (a, b) => some (a, b)
def laws_toSpan_e : FEnt := ⟨11, [.cell 2 true 2], [], [(.agg, cc10)], ⟨13, [⟨2, .box, cc10⟩]⟩, laws_toSpan⟩
theorem laws_toSpan_ok : FnOk Tryz.prog 128 laws_toSpan_e := fnOk_mk (tb := []) (c := (Tryz.f128.body).getD .skip) mixed Tryz.func128 bN (by kernel_rfl) (by kernel_rfl) (by kernel_rfl) trivial (by intro d; kernel_rfl)


/-! laws.toSpanS -/
def laws_toSpanS_s58 : t15 → Option (t15 ⊕ List (Int × Int))
  | (a, b, c) => bif decide (c < (ln a)) then ix c a.length ((some (gx a c (0, 0))).bind fun (d, e) => (laws_toSpan (d, e)).bind fun (f, g) => ix c b.length (lx c b.length (some (.inl (a, sx b c (f, g), w64 (c + 1)))))) else some (.inr b)
def laws_toSpanS_n58 : NEnt := ⟨⟨25, [⟨0, .one, [.dat kk10]⟩, ⟨3, .one, cc7⟩, ⟨4, .one, [.dat kI]⟩]⟩, [(.exit 0, ⟨25, [⟨3, .one, cc7⟩]⟩)], lp laws_toSpanS_s58⟩
def laws_toSpanS : List (Int × Int) → Option (List (Int × Int))
  | a => chk (decide (((ln a).toNat ≤ (ln a).toNat) ∧ (((ln a).toNat ≤ 4294967296) ∧ (((ln a).toNat * 16) ≤ 140737488355328)))) ((lp laws_toSpanS_s58 (a, List.replicate (ln a).toNat (0, 0), 0)).bind fun b => some b)
def laws_toSpanS_e : FEnt := ⟨23, [.tmp 2], [], [(.one, [.dat kk10])], ⟨25, [⟨2, .one, cc7⟩]⟩, laws_toSpanS⟩
theorem laws_toSpanS_ok : FnOk Tryz.prog 96 laws_toSpanS_e := fnOk_mk (tb := [(58, laws_toSpanS_n58)]) (c := (Tryz.f96.body).getD .skip) mixed Tryz.func96 (bC laws_toSpan_ok bN) (by kernel_rfl) (by kernel_rfl) (by kernel_rfl) ⟨nodeLoop (by kernel_rfl) laws_toSpanS_s58 (by kernel_rfl) (by intro d; kernel_rfl), trivial⟩ (by intro d; kernel_rfl)


/-! laws.toSeat -/
def laws_toSeat : t13 → Option t13
  | (a, b, c, d, e) => (laws_toSpanS c).bind fun f => some (a, b, f, d, e)
def laws_toSeat_e : FEnt := ⟨21, [.cell 2 true 5], [], [(.agg, cc5)], ⟨23, [⟨2, .box, [.dat kI, .dat kI, .own true (.pair kI kI), .dat kI, .dat kI]⟩]⟩, laws_toSeat⟩
theorem laws_toSeat_ok : FnOk Tryz.prog 53 laws_toSeat_e := fnOk_mk (tb := []) (c := (Tryz.f53.body).getD .skip) mixed Tryz.func53 (bC laws_toSpanS_ok bN) (by kernel_rfl) (by kernel_rfl) (by kernel_rfl) trivial (by intro d; kernel_rfl)


/-! laws.toSeatS -/
def laws_toSeatS_s58 : List t13 × t21 → Option (List t13 × t21 ⊕ List t13)
  | (a, b, c) => bif decide (c < (ln a)) then ix c a.length ((some (gx a c (0, 0, [], 0, 0))).bind fun (d, e, f, g, h) => (laws_toSeat (d, e, f, g, h)).bind fun (i, j, k, l, m) => ix c b.length (lx c b.length ((some (sx b c (i, j, k, l, m))).bind fun n => some (.inl (a, n, w64 (c + 1)))))) else some (.inr b)
def laws_toSeatS_n58 : NEnt := ⟨⟨25, [⟨0, .one, [.dat kk6]⟩, ⟨3, .one, [.own true kk7]⟩, ⟨4, .one, [.dat kI]⟩]⟩, [(.exit 0, ⟨25, [⟨3, .one, [.own true kk7]⟩]⟩)], lp laws_toSeatS_s58⟩
def laws_toSeatS : List t13 → Option (List t13)
  | a => chk (decide (((ln a).toNat ≤ (ln a).toNat) ∧ (((ln a).toNat ≤ 4294967296) ∧ (((ln a).toNat * 56) ≤ 140737488355328)))) ((some (List.replicate (ln a).toNat (0, 0, [], 0, 0))).bind fun b => (lp laws_toSeatS_s58 (a, b, 0)).bind fun c => some c)
def laws_toSeatS_e : FEnt := ⟨23, [.tmp 2], [], [(.one, [.dat kk6])], ⟨25, [⟨2, .one, [.own true kk7]⟩]⟩, laws_toSeatS⟩
theorem laws_toSeatS_ok : FnOk Tryz.prog 20 laws_toSeatS_e := fnOk_mk (tb := [(58, laws_toSeatS_n58)]) (c := (Tryz.f20.body).getD .skip) mixed Tryz.func20 (bC laws_toSeat_ok bN) (by kernel_rfl) (by kernel_rfl) (by kernel_rfl) ⟨nodeLoop (by kernel_rfl) laws_toSeatS_s58 (by kernel_rfl) (by intro d; kernel_rfl), trivial⟩ (by intro d; kernel_rfl)


/-! laws.toIntSS -/
def laws_toIntSS_s58 : t12 → Option (t12 ⊕ List (List Int))
  | (a, b, c) => bif decide (c < (ln a)) then ix c a.length ((laws_toIntS (gx a c [])).bind fun d => ix c b.length (lx c b.length (some (.inl (a, sx b c d, w64 (c + 1)))))) else some (.inr b)
def laws_toIntSS_n58 : NEnt := ⟨⟨25, [⟨0, .one, [.dat kk11]⟩, ⟨3, .one, cc9⟩, ⟨4, .one, [.dat kI]⟩]⟩, [(.exit 0, ⟨25, [⟨3, .one, cc9⟩]⟩)], lp laws_toIntSS_s58⟩
def laws_toIntSS : List (List Int) → Option (List (List Int))
  | a => chk (decide (((ln a).toNat ≤ (ln a).toNat) ∧ (((ln a).toNat ≤ 4294967296) ∧ (((ln a).toNat * 24) ≤ 140737488355328)))) ((lp laws_toIntSS_s58 (a, List.replicate (ln a).toNat [], 0)).bind fun b => some b)
def laws_toIntSS_e : FEnt := ⟨23, [.tmp 2], [], [(.one, [.dat kk11])], ⟨25, [⟨2, .one, cc9⟩]⟩, laws_toIntSS⟩
theorem laws_toIntSS_ok : FnOk Tryz.prog 129 laws_toIntSS_e := fnOk_mk (tb := [(58, laws_toIntSS_n58)]) (c := (Tryz.f129.body).getD .skip) mixed Tryz.func129 (bC laws_toIntS_ok bN) (by kernel_rfl) (by kernel_rfl) (by kernel_rfl) ⟨nodeLoop (by kernel_rfl) laws_toIntSS_s58 (by kernel_rfl) (by intro d; kernel_rfl), trivial⟩ (by intro d; kernel_rfl)


/-! laws.toSketch -/
def laws_toSketch : t24 → Option t24
  | (a, b, c, d, e, f, g) => (laws_toIntS e).bind fun h => (laws_toIntS f).bind fun i => (laws_toIntSS g).bind fun j => some (a, b, c, d, h, i, j)
def laws_toSketch_e : FEnt := ⟨29, [.cell 2 true 7], [], [(.agg, cc3)], ⟨31, [⟨2, .box, [.dat kI, .dat kI, .dat kI, .dat kI, .own true kI, .own true kI, .own true (.list kI)]⟩]⟩, laws_toSketch⟩
theorem laws_toSketch_ok : FnOk Tryz.prog 98 laws_toSketch_e := fnOk_mk (tb := []) (c := (Tryz.f98.body).getD .skip) mixed Tryz.func98 (bC laws_toIntS_ok (bC laws_toIntSS_ok bN)) (by kernel_rfl) (by kernel_rfl) (by kernel_rfl) trivial (by intro d; kernel_rfl)


/-! laws.toEntry -/
def laws_toEntry : t28 → Option t28
  | (a, b, c, d, e, f, g, h, i, j) => (laws_toSpanS c).bind fun k => (laws_toSketch (d, e, f, g, h, i, j)).bind fun (l, m, n, o, p, q, r) => some (a, b, k, l, m, n, o, p, q, r)
def laws_toEntry_e : FEnt := ⟨19, [.cell 2 true 10], [], [(.agg, cc2)], ⟨21, [⟨2, .box, [.dat kI, .dat kI, .own true (.pair kI kI), .dat kI, .dat kI, .dat kI, .dat kI, .own true kI, .own true kI, .own true (.list kI)]⟩]⟩, laws_toEntry⟩
theorem laws_toEntry_ok : FnOk Tryz.prog 56 laws_toEntry_e := fnOk_mk (tb := []) (c := (Tryz.f56.body).getD .skip) mixed Tryz.func56 (bC laws_toSpanS_ok (bC laws_toSketch_ok bN)) (by kernel_rfl) (by kernel_rfl) (by kernel_rfl) trivial (by intro d; kernel_rfl)


/-! laws.toEntryS -/
def laws_toEntryS_s58 : List t28 × t31 → Option (List t28 × t31 ⊕ List t28)
  | (a, b, c) => (some (decide (c < (ln a)))).bind fun d => bif d then ix c a.length ((some (gx a c (0, 0, [], 0, 0, 0, 0, [], [], []))).bind fun (e, f, g, h, i, j, k, l, m, n) => (laws_toEntry (e, f, g, h, i, j, k, l, m, n)).bind fun (o, p, q, r, s, t, u, v, w, x) => ix c b.length (lx c b.length ((some (sx b c (o, p, q, r, s, t, u, v, w, x))).bind fun y => some (.inl (a, y, w64 (c + 1)))))) else some (.inr b)
def laws_toEntryS_n58 : NEnt := ⟨⟨25, [⟨0, .one, [.dat kk4]⟩, ⟨3, .one, [.own true kk5]⟩, ⟨4, .one, [.dat kI]⟩]⟩, [(.exit 0, ⟨25, [⟨3, .one, [.own true kk5]⟩]⟩)], lp laws_toEntryS_s58⟩
def laws_toEntryS : List t28 → Option (List t28)
  | a => chk (decide (((ln a).toNat ≤ (ln a).toNat) ∧ (((ln a).toNat ≤ 4294967296) ∧ (((ln a).toNat * 144) ≤ 140737488355328)))) ((some (List.replicate (ln a).toNat (0, 0, [], 0, 0, 0, 0, [], [], []))).bind fun b => (lp laws_toEntryS_s58 (a, b, 0)).bind fun c => some c)
def laws_toEntryS_e : FEnt := ⟨23, [.tmp 2], [], [(.one, [.dat kk4])], ⟨25, [⟨2, .one, [.own true kk5]⟩]⟩, laws_toEntryS⟩
theorem laws_toEntryS_ok : FnOk Tryz.prog 23 laws_toEntryS_e := fnOk_mk (tb := [(58, laws_toEntryS_n58)]) (c := (Tryz.f23.body).getD .skip) mixed Tryz.func23 (bC laws_toEntry_ok bN) (by kernel_rfl) (by kernel_rfl) (by kernel_rfl) ⟨nodeLoop (by kernel_rfl) laws_toEntryS_s58 (by kernel_rfl) (by intro d; kernel_rfl), trivial⟩ (by intro d; kernel_rfl)


/-! laws.toRow -/
def laws_toRow : List t28 → Option (List t28)
  | a => (laws_toEntryS a).bind fun b => some b
def laws_toRow_e : FEnt := ⟨9, [.cell 2 true 1], [], [(.agg, [.dat kk4])], ⟨11, [⟨2, .box, [.own true kk5]⟩]⟩, laws_toRow⟩
theorem laws_toRow_ok : FnOk Tryz.prog 97 laws_toRow_e := fnOk_mk (tb := []) (c := (Tryz.f97.body).getD .skip) mixed Tryz.func97 (bC laws_toEntryS_ok bN) (by kernel_rfl) (by kernel_rfl) (by kernel_rfl) trivial (by intro d; kernel_rfl)


/-! laws.toRowS -/
def laws_toRowS_s58 : t43 → Option (t43 ⊕ List (List t28))
  | (a, b, c) => (some (decide (c < (ln a)))).bind fun d => bif d then ix c a.length ((some (gx a c [])).bind fun e => (laws_toRow e).bind fun f => ix c b.length (lx c b.length (some (.inl (a, sx b c f, w64 (c + 1)))))) else some (.inr b)
def laws_toRowS_n58 : NEnt := ⟨⟨25, [⟨0, .one, [.dat kk2]⟩, ⟨3, .one, [.own true kk4]⟩, ⟨4, .one, [.dat kI]⟩]⟩, [(.exit 0, ⟨25, [⟨3, .one, [.own true kk4]⟩]⟩)], lp laws_toRowS_s58⟩
def laws_toRowS : List (List t28) → Option (List (List t28))
  | a => chk (decide (((ln a).toNat ≤ (ln a).toNat) ∧ (((ln a).toNat ≤ 4294967296) ∧ (((ln a).toNat * 24) ≤ 140737488355328)))) ((some (List.replicate (ln a).toNat [])).bind fun b => (lp laws_toRowS_s58 (a, b, 0)).bind fun c => some c)
def laws_toRowS_e : FEnt := ⟨23, [.tmp 2], [], [(.one, [.dat kk2])], ⟨25, [⟨2, .one, [.own true kk4]⟩]⟩, laws_toRowS⟩
theorem laws_toRowS_ok : FnOk Tryz.prog 54 laws_toRowS_e := fnOk_mk (tb := [(58, laws_toRowS_n58)]) (c := (Tryz.f54.body).getD .skip) mixed Tryz.func54 (bC laws_toRow_ok bN) (by kernel_rfl) (by kernel_rfl) (by kernel_rfl) ⟨nodeLoop (by kernel_rfl) laws_toRowS_s58 (by kernel_rfl) (by intro d; kernel_rfl), trivial⟩ (by intro d; kernel_rfl)


/-! laws.toRowSS -/
def laws_toRowSS_s58 : t44 → Option (t44 ⊕ List (List (List t28)))
  | (a, b, c) => (some (decide (c < (ln a)))).bind fun d => bif d then ix c a.length ((some (gx a c [])).bind fun e => (laws_toRowS e).bind fun f => ix c b.length (lx c b.length (some (.inl (a, sx b c f, w64 (c + 1)))))) else some (.inr b)
def laws_toRowSS_n58 : NEnt := ⟨⟨25, [⟨0, .one, [.dat kk0]⟩, ⟨3, .one, [.own true kk2]⟩, ⟨4, .one, [.dat kI]⟩]⟩, [(.exit 0, ⟨25, [⟨3, .one, [.own true kk2]⟩]⟩)], lp laws_toRowSS_s58⟩
def laws_toRowSS : List (List (List t28)) → Option (List (List (List t28)))
  | a => chk (decide (((ln a).toNat ≤ (ln a).toNat) ∧ (((ln a).toNat ≤ 4294967296) ∧ (((ln a).toNat * 24) ≤ 140737488355328)))) ((some (List.replicate (ln a).toNat [])).bind fun b => (lp laws_toRowSS_s58 (a, b, 0)).bind fun c => some c)
def laws_toRowSS_e : FEnt := ⟨23, [.tmp 2], [], [(.one, [.dat kk0])], ⟨25, [⟨2, .one, [.own true kk2]⟩]⟩, laws_toRowSS⟩
theorem laws_toRowSS_ok : FnOk Tryz.prog 21 laws_toRowSS_e := fnOk_mk (tb := [(58, laws_toRowSS_n58)]) (c := (Tryz.f21.body).getD .skip) mixed Tryz.func21 (bC laws_toRowS_ok bN) (by kernel_rfl) (by kernel_rfl) (by kernel_rfl) ⟨nodeLoop (by kernel_rfl) laws_toRowSS_s58 (by kernel_rfl) (by intro d; kernel_rfl), trivial⟩ (by intro d; kernel_rfl)


/-! laws.toTurn -/
def laws_toTurn : Int × Bool × List Int → Option (Int × Bool × List Int)
  | (a, b, c) => (laws_toIntS c).bind fun d => some (a, b, d)
def laws_toTurn_e : FEnt := ⟨15, [.cell 2 true 3], [], [(.agg, cc6)], ⟨17, [⟨2, .box, [.dat kI, .dat .bool, .own true kI]⟩]⟩, laws_toTurn⟩
theorem laws_toTurn_ok : FnOk Tryz.prog 55 laws_toTurn_e := fnOk_mk (tb := []) (c := (Tryz.f55.body).getD .skip) mixed Tryz.func55 (bC laws_toIntS_ok bN) (by kernel_rfl) (by kernel_rfl) (by kernel_rfl) trivial (by intro d; kernel_rfl)


/-! laws.toTurnS -/
def laws_toTurnS_s58 : t25 → Option (t25 ⊕ List (Int × Bool × List Int))
  | (a, b, c) => bif decide (c < (ln a)) then ix c a.length ((some (gx a c (0, false, []))).bind fun (d, e, f) => (laws_toTurn (d, e, f)).bind fun (g, h, i) => ix c b.length (lx c b.length (some (.inl (a, sx b c (g, h, i), w64 (c + 1)))))) else some (.inr b)
def laws_toTurnS_n58 : NEnt := ⟨⟨25, [⟨0, .one, [.dat kk8]⟩, ⟨3, .one, [.own true kk9]⟩, ⟨4, .one, [.dat kI]⟩]⟩, [(.exit 0, ⟨25, [⟨3, .one, [.own true kk9]⟩]⟩)], lp laws_toTurnS_s58⟩
def laws_toTurnS : List (Int × Bool × List Int) → Option (List (Int × Bool × List Int))
  | a => chk (decide (((ln a).toNat ≤ (ln a).toNat) ∧ (((ln a).toNat ≤ 4294967296) ∧ (((ln a).toNat * 40) ≤ 140737488355328)))) ((lp laws_toTurnS_s58 (a, List.replicate (ln a).toNat (0, false, []), 0)).bind fun b => some b)
def laws_toTurnS_e : FEnt := ⟨23, [.tmp 2], [], [(.one, [.dat kk8])], ⟨25, [⟨2, .one, [.own true kk9]⟩]⟩, laws_toTurnS⟩
theorem laws_toTurnS_ok : FnOk Tryz.prog 22 laws_toTurnS_e := fnOk_mk (tb := [(58, laws_toTurnS_n58)]) (c := (Tryz.f22.body).getD .skip) mixed Tryz.func22 (bC laws_toTurn_ok bN) (by kernel_rfl) (by kernel_rfl) (by kernel_rfl) ⟨nodeLoop (by kernel_rfl) laws_toTurnS_s58 (by kernel_rfl) (by intro d; kernel_rfl), trivial⟩ (by intro d; kernel_rfl)


/-! laws.toOut -/
def laws_toOut : t30 → Option t30
  | (a, b, c, d, e, f, g, h, i, j, k) => (laws_toEntry (b, c, d, e, f, g, h, i, j, k)).bind fun (l, m, n, o, p, q, r, s, t, u) => some (a, l, m, n, o, p, q, r, s, t, u)
def laws_toOut_e : FEnt := ⟨12, [.cell 2 true 11], [], [(.agg, cc1)], ⟨14, [⟨2, .box, [.dat kI, .dat kI, .dat kI, .own true (.pair kI kI), .dat kI, .dat kI, .dat kI, .dat kI, .own true kI, .own true kI, .own true (.list kI)]⟩]⟩, laws_toOut⟩
theorem laws_toOut_ok : FnOk Tryz.prog 57 laws_toOut_e := fnOk_mk (tb := []) (c := (Tryz.f57.body).getD .skip) mixed Tryz.func57 (bC laws_toEntry_ok bN) (by kernel_rfl) (by kernel_rfl) (by kernel_rfl) trivial (by intro d; kernel_rfl)


/-! laws.toOutS -/
def laws_toOutS_s58 : List t30 × t33 → Option (List t30 × t33 ⊕ List t30)
  | (a, b, c) => (some (decide (c < (ln a)))).bind fun d => bif d then ix c a.length ((some (gx a c (0, 0, 0, [], 0, 0, 0, 0, [], [], []))).bind fun (e, f, g, h, i, j, k, l, m, n, o) => (laws_toOut (e, f, g, h, i, j, k, l, m, n, o)).bind fun (p, q, r, s, t, u, v, w, x, y, z) => ix c b.length (lx c b.length ((some (sx b c (p, q, r, s, t, u, v, w, x, y, z))).bind fun a1 => some (.inl (a, a1, w64 (c + 1)))))) else some (.inr b)
def laws_toOutS_n58 : NEnt := ⟨⟨25, [⟨0, .one, [.dat kk1]⟩, ⟨3, .one, [.own true kk3]⟩, ⟨4, .one, [.dat kI]⟩]⟩, [(.exit 0, ⟨25, [⟨3, .one, [.own true kk3]⟩]⟩)], lp laws_toOutS_s58⟩
def laws_toOutS : List t30 → Option (List t30)
  | a => chk (decide (((ln a).toNat ≤ (ln a).toNat) ∧ (((ln a).toNat ≤ 4294967296) ∧ (((ln a).toNat * 152) ≤ 140737488355328)))) ((some (List.replicate (ln a).toNat (0, 0, 0, [], 0, 0, 0, 0, [], [], []))).bind fun b => (lp laws_toOutS_s58 (a, b, 0)).bind fun c => some c)
def laws_toOutS_e : FEnt := ⟨23, [.tmp 2], [], [(.one, [.dat kk1])], ⟨25, [⟨2, .one, [.own true kk3]⟩]⟩, laws_toOutS⟩
theorem laws_toOutS_ok : FnOk Tryz.prog 24 laws_toOutS_e := fnOk_mk (tb := [(58, laws_toOutS_n58)]) (c := (Tryz.f24.body).getD .skip) mixed Tryz.func24 (bC laws_toOut_ok bN) (by kernel_rfl) (by kernel_rfl) (by kernel_rfl) ⟨nodeLoop (by kernel_rfl) laws_toOutS_s58 (by kernel_rfl) (by intro d; kernel_rfl), trivial⟩ (by intro d; kernel_rfl)


/-! laws.toHouse -/
def laws_toHouse : t58 → Option t58
  | (a, b, c, d, e, f, g, h, i, j, k, l, m, n, o, p) => (laws_toConf (a, b, c, d, e, f, g, h)).bind fun (q, r, s, t, u, v, w, x) => (laws_toSeatS k).bind fun y => (laws_toRowSS l).bind fun z => (laws_toTurnS m).bind fun a1 => (laws_toEntryS o).bind fun b1 => (laws_toOutS p).bind fun c1 => some (q, r, s, t, u, v, w, x, i, j, y, z, a1, n, b1, c1)
def laws_toHouse_e : FEnt := ⟨38, [.cell 2 true 16], [], [(.agg, cc0)], ⟨40, [⟨2, .box, [.dat kI, .dat kI, .dat kI, .own true kI, .dat kI, .dat kI, .dat kI, .dat kI, .dat kI, .dat .bool, .own true kk7, .own true kk2, .own true kk9, .dat kI, .own true kk5, .own true kk3]⟩]⟩, laws_toHouse⟩
theorem laws_toHouse_ok : FnOk Tryz.prog 6 laws_toHouse_e := fnOk_mk (tb := []) (c := (Tryz.f6.body).getD .skip) mixed Tryz.func6 (bC laws_toConf_ok (bC laws_toSeatS_ok (bC laws_toRowSS_ok (bC laws_toTurnS_ok (bC laws_toEntryS_ok (bC laws_toOutS_ok bN)))))) (by kernel_rfl) (by kernel_rfl) (by kernel_rfl) trivial (by intro d; kernel_rfl)


/-! spec.l1In -/
def spec_l1In : Int × Int × Int → Option Bool
  | (a, b, c) => bif decide (a ≥ b) then some (decide (a ≤ c)) else some false
def spec_l1In_e : FEnt := ⟨15, [.tmp 6], [], [(.one, [.dat kI]), (.one, [.dat kI]), (.one, [.dat kI])], ⟨21, [⟨6, .one, [.dat .bool]⟩]⟩, spec_l1In⟩
theorem spec_l1In_ok : FnOk Tryz.prog 81 spec_l1In_e := fnOk_mk (tb := []) (c := (Tryz.f81.body).getD .skip) mixed Tryz.func81 bN (by kernel_rfl) (by kernel_rfl) (by kernel_rfl) trivial (by intro d; kernel_rfl)


/-! spec.l11Nums -/
def spec_l11Nums_s58 : List Int × Int × Int × Int → Option (List Int × Int × Int × Int ⊕ Bool ⊕ Unit)
  | (a, b, c, d) => bif decide (d < (ln a)) then ix d a.length ((spec_l1In (gx a d 0, b, c)).bind fun e => bif !e then some (.inr (.inl false)) else some (.inl (a, b, c, w64 (d + 1)))) else some (.inr (.inr ()))
def spec_l11Nums_n58 : NEnt := ⟨⟨31, [⟨0, .one, [.dat (.list kI)]⟩, ⟨1, .one, [.dat kI]⟩, ⟨2, .one, [.dat kI]⟩, ⟨7, .one, [.dat kI]⟩]⟩, [(.ret, ⟨31, [⟨6, .one, [.dat .bool]⟩]⟩), (.exit 0, ⟨31, []⟩)], lp spec_l11Nums_s58⟩
def spec_l11Nums : List Int × Int × Int → Option Bool
  | (a, b, c) => bif (ln a) != 3 then some false else bx (lp spec_l11Nums_s58 (a, b, c, 0)) (fun d => some d) fun _ => some true
def spec_l11Nums_e : FEnt := ⟨25, [.tmp 6], [], [(.one, [.dat (.list kI)]), (.one, [.dat kI]), (.one, [.dat kI])], ⟨31, [⟨6, .one, [.dat .bool]⟩]⟩, spec_l11Nums⟩
theorem spec_l11Nums_ok : FnOk Tryz.prog 82 spec_l11Nums_e := fnOk_mk (tb := [(58, spec_l11Nums_n58)]) (c := (Tryz.f82.body).getD .skip) mixed Tryz.func82 (bC spec_l1In_ok bN) (by kernel_rfl) (by kernel_rfl) (by kernel_rfl) ⟨nodeLoop (by kernel_rfl) spec_l11Nums_s58 (by kernel_rfl) (by intro d; kernel_rfl), trivial⟩ (by intro d; kernel_rfl)


/-! spec.ConfOk -/
def spec_ConfOk : t20 → Option Bool
  | (a, b, c, d, e, f, g, h) => (spec_l1In (a, 1, 8)).bind fun i => bif i then (spec_l1In (b, 1, 60)).bind fun j => bif j then (spec_l1In (c, 1, 10)).bind fun k => bif k then (spec_l11Nums (d, 1, 4)).bind fun l => bif l then (spec_l1In (e, 1, 100)).bind fun m => bif m then (spec_l1In (f, 1, 20)).bind fun n => bif n then (spec_l1In (g, 0, 20)).bind fun o => bif o then (spec_l1In (h, 1, 50)).bind fun p => some p else some false else some false else some false else some false else some false else some false else some false
def spec_ConfOk_e : FEnt := ⟨41, [.tmp 2], [], [(.agg, cc4)], ⟨43, [⟨2, .one, [.dat .bool]⟩]⟩, spec_ConfOk⟩
theorem spec_ConfOk_ok : FnOk Tryz.prog 41 spec_ConfOk_e := fnOk_mk (tb := []) (c := (Tryz.f41.body).getD .skip) mixed Tryz.func41 (bC spec_l1In_ok (bC spec_l11Nums_ok bN)) (by kernel_rfl) (by kernel_rfl) (by kernel_rfl) trivial (by intro d; kernel_rfl)


/-! spec.SetOk -/
def spec_SetOk_s26 : t0 → Option (t0 ⊕ Bool ⊕ Unit)
  | (a, b) => bif decide (b < (ln a)) then ix b a.length ((some (gx a b (0, 0))).bind fun (c, d) => (spec_l1In (c, 0, 9999)).bind fun e => bif !e then some (.inr (.inl false)) else ix b a.length ((some (gx a b (0, 0))).bind fun (f, g) => ix b a.length ((some (gx a b (0, 0))).bind fun (h, i) => (spec_l1In (g, h, 9999)).bind fun j => bif !j then some (.inr (.inl false)) else bif decide (b > 0) then ix b a.length ((some (gx a b (0, 0))).bind fun (k, l) => ix (w64 (b - 1)) a.length ((some (gx a (w64 (b - 1)) (0, 0))).bind fun (m, n) => bif decide (k ≤ (w64 (n + 1))) then some (.inr (.inl false)) else some (.inl (a, w64 (b + 1))))) else some (.inl (a, w64 (b + 1)))))) else some (.inr (.inr ()))
def spec_SetOk_n26 : NEnt := ⟨⟨52, [⟨0, .one, [.dat kk10]⟩, ⟨3, .one, [.dat kI]⟩]⟩, [(.ret, ⟨52, [⟨2, .one, [.dat .bool]⟩]⟩), (.exit 0, ⟨52, []⟩)], lp spec_SetOk_s26⟩
def spec_SetOk : List (Int × Int) → Option Bool
  | a => bx (lp spec_SetOk_s26 (a, 0)) (fun b => some b) fun _ => some true
def spec_SetOk_e : FEnt := ⟨50, [.tmp 2], [], [(.one, [.dat kk10])], ⟨52, [⟨2, .one, [.dat .bool]⟩]⟩, spec_SetOk⟩
theorem spec_SetOk_ok : FnOk Tryz.prog 89 spec_SetOk_e := fnOk_mk (tb := [(26, spec_SetOk_n26)]) (c := (Tryz.f89.body).getD .skip) mixed Tryz.func89 (bC spec_l1In_ok bN) (by kernel_rfl) (by kernel_rfl) (by kernel_rfl) ⟨nodeLoop (by kernel_rfl) spec_SetOk_s26 (by kernel_rfl) (by intro d; kernel_rfl), trivial⟩ (by intro d; kernel_rfl)


/-! spec.l8Below -/
def spec_l8Below_s58 : t5 → Option (t5 ⊕ Bool ⊕ Unit)
  | (a, b, c) => bif decide (c < (ln a)) then ix c a.length ((some (gx a c (0, 0))).bind fun (d, e) => bif decide (d < 1) then some (.inr (.inl false)) else ix c a.length ((some (gx a c (0, 0))).bind fun (f, g) => bif decide (g > b) then some (.inr (.inl false)) else some (.inl (a, b, w64 (c + 1))))) else some (.inr (.inr ()))
def spec_l8Below_n58 : NEnt := ⟨⟨34, [⟨0, .one, [.dat kk10]⟩, ⟨1, .one, [.dat kI]⟩, ⟨5, .one, [.dat kI]⟩]⟩, [(.ret, ⟨34, [⟨4, .one, [.dat .bool]⟩]⟩), (.exit 0, ⟨34, []⟩)], lp spec_l8Below_s58⟩
def spec_l8Below : t0 → Option Bool
  | (a, b) => (spec_SetOk a).bind fun c => bif !c then some false else bx (lp spec_l8Below_s58 (a, b, 0)) (fun d => some d) fun _ => some true
def spec_l8Below_e : FEnt := ⟨30, [.tmp 4], [], [(.one, [.dat kk10]), (.one, [.dat kI])], ⟨34, [⟨4, .one, [.dat .bool]⟩]⟩, spec_l8Below⟩
theorem spec_l8Below_ok : FnOk Tryz.prog 124 spec_l8Below_e := fnOk_mk (tb := [(58, spec_l8Below_n58)]) (c := (Tryz.f124.body).getD .skip) mixed Tryz.func124 (bC spec_SetOk_ok bN) (by kernel_rfl) (by kernel_rfl) (by kernel_rfl) ⟨nodeLoop (by kernel_rfl) spec_l8Below_s58 (by kernel_rfl) (by intro d; kernel_rfl), trivial⟩ (by intro d; kernel_rfl)


/-! spec.SetSize -/
def spec_SetSize_s122 : t5 → Option (t5 ⊕ Int)
  | (a, b, c) => bif decide (c < (ln a)) then ix c a.length ((some (gx a c (0, 0))).bind fun (d, e) => ix c a.length ((some (gx a c (0, 0))).bind fun (f, g) => some (.inl (a, w64 ((w64 ((w64 (b + e)) - f)) + 1), w64 (c + 1))))) else some (.inr b)
def spec_SetSize_n122 : NEnt := ⟨⟨32, [⟨0, .one, [.dat kk10]⟩, ⟨3, .one, [.dat kI]⟩, ⟨4, .one, [.dat kI]⟩]⟩, [(.exit 0, ⟨32, [⟨3, .one, [.dat kI]⟩]⟩)], lp spec_SetSize_s122⟩
def spec_SetSize : List (Int × Int) → Option Int
  | a => (spec_SetOk a).bind fun b => bif !b then some 0 else (lp spec_SetSize_s122 (a, 0, 0)).bind fun c => some c
def spec_SetSize_e : FEnt := ⟨30, [.tmp 2], [], [(.one, [.dat kk10])], ⟨32, [⟨2, .one, [.dat kI]⟩]⟩, spec_SetSize⟩
theorem spec_SetSize_ok : FnOk Tryz.prog 86 spec_SetSize_e := fnOk_mk (tb := [(122, spec_SetSize_n122)]) (c := (Tryz.f86.body).getD .skip) mixed Tryz.func86 (bC spec_SetOk_ok bN) (by kernel_rfl) (by kernel_rfl) (by kernel_rfl) ⟨nodeLoop (by kernel_rfl) spec_SetSize_s122 (by kernel_rfl) (by intro d; kernel_rfl), trivial⟩ (by intro d; kernel_rfl)


/-! spec.SeatOk -/
def spec_SeatOk : t13 × Int → Option Bool
  | ((a, b, c, d, e), f) => (spec_l1In (f, 1, 8)).bind fun g => bif g then (spec_l1In (a, 0, 1000)).bind fun h => bif h then (spec_l1In (b, 0, 60)).bind fun i => bif i then (spec_l8Below (c, b)).bind fun j => bif j then (spec_SetSize c).bind fun k => (spec_l1In (d, 0, k)).bind fun l => bif l then bif decide (b ≤ (w64 (d + f))) then (spec_l1In (e, 0, 1000000)).bind fun m => some m else some false else some false else some false else some false else some false else some false
def spec_SeatOk_e : FEnt := ⟨46, [.tmp 4], [], [(.agg, cc5), (.one, [.dat kI])], ⟨50, [⟨4, .one, [.dat .bool]⟩]⟩, spec_SeatOk⟩
theorem spec_SeatOk_ok : FnOk Tryz.prog 83 spec_SeatOk_e := fnOk_mk (tb := []) (c := (Tryz.f83.body).getD .skip) mixed Tryz.func83 (bC spec_l1In_ok (bC spec_l8Below_ok (bC spec_SetSize_ok bN))) (by kernel_rfl) (by kernel_rfl) (by kernel_rfl) trivial (by intro d; kernel_rfl)


/-! spec.l6Place -/
def spec_l6Place : Int × Int → Option Bool
  | (a, b) => (spec_l1In (a, 0, 4)).bind fun c => bif c then (spec_l1In (b, 0, 20)).bind fun d => some d else some false
def spec_l6Place_e : FEnt := ⟨11, [.tmp 4], [], [(.one, [.dat kI]), (.one, [.dat kI])], ⟨15, [⟨4, .one, [.dat .bool]⟩]⟩, spec_l6Place⟩
theorem spec_l6Place_ok : FnOk Tryz.prog 94 spec_l6Place_e := fnOk_mk (tb := []) (c := (Tryz.f94.body).getD .skip) mixed Tryz.func94 (bC spec_l1In_ok bN) (by kernel_rfl) (by kernel_rfl) (by kernel_rfl) trivial (by intro d; kernel_rfl)


/-! spec.l3List -/
def spec_l3List_s58 : List Int × Int × Int × Bool × Int → Option (List Int × Int × Int × Bool × Int ⊕ Bool ⊕ Unit)
  | (a, b, c, d, e) => bif decide (e < b) then ix e a.length ((spec_l1In (gx a e 0, 0, c)).bind fun f => bif !f then some (.inr (.inl false)) else bif d then ix e a.length (bif (gx a e 0) != 0 then some (.inr (.inl false)) else some (.inl (a, b, c, d, w64 (e + 1)))) else some (.inl (a, b, c, d, w64 (e + 1)))) else some (.inr (.inr ()))
def spec_l3List_n58 : NEnt := ⟨⟨44, [⟨0, .one, [.dat (.list kI)]⟩, ⟨1, .one, [.dat kI]⟩, ⟨2, .one, [.dat kI]⟩, ⟨3, .one, [.dat .bool]⟩, ⟨9, .one, [.dat kI]⟩]⟩, [(.ret, ⟨44, [⟨8, .one, [.dat .bool]⟩]⟩), (.exit 0, ⟨44, []⟩)], lp spec_l3List_s58⟩
def spec_l3List : List Int × Int × Int × Bool → Option Bool
  | (a, b, c, d) => bif (ln a) != b then some false else bx (lp spec_l3List_s58 (a, b, c, d, 0)) (fun e => some e) fun _ => some true
def spec_l3List_e : FEnt := ⟨36, [.tmp 8], [], [(.one, [.dat (.list kI)]), (.one, [.dat kI]), (.one, [.dat kI]), (.one, [.dat .bool])], ⟨44, [⟨8, .one, [.dat .bool]⟩]⟩, spec_l3List⟩
theorem spec_l3List_ok : FnOk Tryz.prog 127 spec_l3List_e := fnOk_mk (tb := [(58, spec_l3List_n58)]) (c := (Tryz.f127.body).getD .skip) mixed Tryz.func127 (bC spec_l1In_ok bN) (by kernel_rfl) (by kernel_rfl) (by kernel_rfl) ⟨nodeLoop (by kernel_rfl) spec_l3List_s58 (by kernel_rfl) (by intro d; kernel_rfl), trivial⟩ (by intro d; kernel_rfl)


/-! spec.SketchOk -/
def spec_SketchOk_l31 : t24 × Bool → Option Bool
  | ((a, b, c, d, e, f, g), h) => (spec_l3List (e, 8, 1000000000, h)).bind fun i => bif i then (spec_l3List (f, 8, 17, h)).bind fun j => bif j then chk (decide (0 < g.length)) ((spec_l3List (List.getD g 0 [], 4, 1000000000, h)).bind fun k => bif k then chk (decide (1 < g.length)) ((spec_l3List (List.getD g 1 [], 4, 1000000000, h)).bind fun l => some l) else some false) else some false else some false
def spec_SketchOk_n31 : NEnt := ⟨⟨81, [⟨1, .box, cc3⟩, ⟨3, .one, [.dat .bool]⟩]⟩, [(.ret, ⟨81, [⟨2, .one, [.dat .bool]⟩]⟩)], spec_SketchOk_l31⟩
def spec_SketchOk : t24 → Option Bool
  | (a, b, c, d, e, f, g) => (spec_l1In (a, 0, 1000000000)).bind fun h => bif !h then some false else (spec_l1In (b, 0, 1000000000)).bind fun i => bif !i then some false else (spec_l1In (c, 0, 1000000)).bind fun j => bif !j then some false else (spec_l1In (d, 0, 1000000)).bind fun k => bif !k then some false else bif decide (c > d) then some false else bif (ln g) != 2 then some false else bif a == 0 then bif b != 0 then some false else bif d != 0 then some false else (spec_SketchOk_l31 ((a, b, c, d, e, f, g), a == 0)).bind fun l => some l else (spec_SketchOk_l31 ((a, b, c, d, e, f, g), a == 0)).bind fun l => some l
def spec_SketchOk_e : FEnt := ⟨79, [.tmp 2], [], [(.agg, cc3)], ⟨81, [⟨2, .one, [.dat .bool]⟩]⟩, spec_SketchOk⟩
theorem spec_SketchOk_ok : FnOk Tryz.prog 95 spec_SketchOk_e := fnOk_mk (tb := [(31, spec_SketchOk_n31)]) (c := (Tryz.f95.body).getD .skip) mixed Tryz.func95 (bC spec_l1In_ok (bC spec_l3List_ok bN)) (by kernel_rfl) (by kernel_rfl) (by kernel_rfl) ⟨nodeJoin (by kernel_rfl) (by intro d; kernel_rfl), trivial⟩ (by intro d; kernel_rfl)


/-! spec.EntryOk -/
def spec_EntryOk : t28 → Option Bool
  | (a, b, c, d, e, f, g, h, i, j) => (spec_l6Place (a, b)).bind fun k => bif k then bif decide ((ln c) > 0) then (spec_SetOk c).bind fun l => bif l then (spec_SketchOk (d, e, f, g, h, i, j)).bind fun m => some m else some false else some false else some false
def spec_EntryOk_e : FEnt := ⟨24, [.tmp 2], [], [(.agg, cc2)], ⟨26, [⟨2, .one, [.dat .bool]⟩]⟩, spec_EntryOk⟩
theorem spec_EntryOk_ok : FnOk Tryz.prog 50 spec_EntryOk_e := fnOk_mk (tb := []) (c := (Tryz.f50.body).getD .skip) mixed Tryz.func50 (bC spec_l6Place_ok (bC spec_SetOk_ok (bC spec_SketchOk_ok bN))) (by kernel_rfl) (by kernel_rfl) (by kernel_rfl) trivial (by intro d; kernel_rfl)


/-! spec.SetApart -/
def spec_SetApart_s3730 : t18 → Option (t18 ⊕ Bool ⊕ t15)
  | (a, b, c, d) => bif decide (d < (ln b)) then ix c a.length ((some (gx a c (0, 0))).bind fun (e, f) => ix d b.length ((some (gx b d (0, 0))).bind fun (g, h) => bif decide (e ≤ h) then ix d b.length ((some (gx b d (0, 0))).bind fun (i, j) => ix c a.length ((some (gx a c (0, 0))).bind fun (k, l) => bif decide (i ≤ l) then some (.inr (.inl false)) else some (.inl (a, b, c, w64 (d + 1))))) else some (.inl (a, b, c, w64 (d + 1))))) else some (.inr (.inr (a, b, c)))
def spec_SetApart_n3730 : NEnt := ⟨⟨55, [⟨0, .one, [.dat kk10]⟩, ⟨1, .one, [.dat kk10]⟩, ⟨5, .one, [.dat kI]⟩, ⟨6, .one, [.dat kI]⟩]⟩, [(.ret, ⟨55, [⟨4, .one, [.dat .bool]⟩]⟩), (.exit 2, ⟨55, [⟨0, .one, [.dat kk10]⟩, ⟨1, .one, [.dat kk10]⟩, ⟨5, .one, [.dat kI]⟩]⟩)], lp spec_SetApart_s3730⟩
def spec_SetApart_s58 : t15 → Option (t15 ⊕ Bool ⊕ Unit)
  | (a, b, c) => bif decide (c < (ln a)) then bx (lp spec_SetApart_s3730 (a, b, c, 0)) (fun d => some (.inr (.inl d))) fun (d, e, f) => some (.inl (d, e, w64 (f + 1))) else some (.inr (.inr ()))
def spec_SetApart_n58 : NEnt := ⟨⟨55, [⟨0, .one, [.dat kk10]⟩, ⟨1, .one, [.dat kk10]⟩, ⟨5, .one, [.dat kI]⟩]⟩, [(.ret, ⟨55, [⟨4, .one, [.dat .bool]⟩]⟩), (.exit 0, ⟨55, []⟩)], lp spec_SetApart_s58⟩
def spec_SetApart : t9 → Option Bool
  | (a, b) => (spec_SetOk a).bind fun c => bif !c then some false else (spec_SetOk b).bind fun d => bif !d then some false else bx (lp spec_SetApart_s58 (a, b, 0)) (fun e => some e) fun _ => some true
def spec_SetApart_e : FEnt := ⟨51, [.tmp 4], [], [(.one, [.dat kk10]), (.one, [.dat kk10])], ⟨55, [⟨4, .one, [.dat .bool]⟩]⟩, spec_SetApart⟩
theorem spec_SetApart_ok : FnOk Tryz.prog 45 spec_SetApart_e := fnOk_mk (tb := [(3730, spec_SetApart_n3730), (58, spec_SetApart_n58)]) (c := (Tryz.f45.body).getD .skip) mixed Tryz.func45 (bC spec_SetOk_ok bN) (by kernel_rfl) (by kernel_rfl) (by kernel_rfl) ⟨nodeLoop (by kernel_rfl) spec_SetApart_s3730 (by kernel_rfl) (by intro d; kernel_rfl), nodeLoop (by kernel_rfl) spec_SetApart_s58 (by kernel_rfl) (by intro d; kernel_rfl), trivial⟩ (by intro d; kernel_rfl)


/-! spec.RowOk -/
def spec_RowOk_s7462 : t32 → Option (t32 ⊕ Bool ⊕ t31)
  | (a, b, c) => bif decide (c < b) then ix b a.length ((some (gx a b (0, 0, [], 0, 0, 0, 0, [], [], []))).bind fun (d, e, f, g, h, i, j, k, l, m) => ix c a.length ((some (gx a c (0, 0, [], 0, 0, 0, 0, [], [], []))).bind fun (n, o, p, q, r, s, t, u, v, w) => (spec_SetApart (f, p)).bind fun x => bif !x then some (.inr (.inl false)) else some (.inl (a, b, w64 (c + 1))))) else some (.inr (.inr (a, b)))
def spec_RowOk_n7462 : NEnt := ⟨⟨44, [⟨1, .box, [.dat kk4]⟩, ⟨3, .one, [.dat kI]⟩, ⟨4, .one, [.dat kI]⟩]⟩, [(.ret, ⟨44, [⟨2, .one, [.dat .bool]⟩]⟩), (.exit 2, ⟨44, [⟨1, .box, [.dat kk4]⟩, ⟨3, .one, [.dat kI]⟩]⟩)], lp spec_RowOk_s7462⟩
def spec_RowOk_s58 : t31 → Option (t31 ⊕ Bool ⊕ Unit)
  | (a, b) => (some (decide (b < (ln a)))).bind fun c => bif c then ix b a.length ((some (gx a b (0, 0, [], 0, 0, 0, 0, [], [], []))).bind fun (d, e, f, g, h, i, j, k, l, m) => (spec_EntryOk (d, e, f, g, h, i, j, k, l, m)).bind fun n => bif !n then some (.inr (.inl false)) else bx (lp spec_RowOk_s7462 (a, b, 0)) (fun o => some (.inr (.inl o))) fun (o, p) => some (.inl (o, w64 (p + 1)))) else some (.inr (.inr ()))
def spec_RowOk_n58 : NEnt := ⟨⟨44, [⟨1, .box, [.dat kk4]⟩, ⟨3, .one, [.dat kI]⟩]⟩, [(.ret, ⟨44, [⟨2, .one, [.dat .bool]⟩]⟩), (.exit 0, ⟨44, []⟩)], lp spec_RowOk_s58⟩
def spec_RowOk : List t28 → Option Bool
  | a => (some (decide ((ln a) > 24))).bind fun b => bif b then some false else bx (lp spec_RowOk_s58 (a, 0)) (fun c => some c) fun _ => some true
def spec_RowOk_e : FEnt := ⟨42, [.tmp 2], [], [(.agg, [.dat kk4])], ⟨44, [⟨2, .one, [.dat .bool]⟩]⟩, spec_RowOk⟩
theorem spec_RowOk_ok : FnOk Tryz.prog 85 spec_RowOk_e := fnOk_mk (tb := [(7462, spec_RowOk_n7462), (58, spec_RowOk_n58)]) (c := (Tryz.f85.body).getD .skip) mixed Tryz.func85 (bC spec_EntryOk_ok (bC spec_SetApart_ok bN)) (by kernel_rfl) (by kernel_rfl) (by kernel_rfl) ⟨nodeLoop (by kernel_rfl) spec_RowOk_s7462 (by kernel_rfl) (by intro d; kernel_rfl), nodeLoop (by kernel_rfl) spec_RowOk_s58 (by kernel_rfl) (by intro d; kernel_rfl), trivial⟩ (by intro d; kernel_rfl)


/-! spec.l5Copy -/
def spec_l5Copy : List (Int × Int) → Option (List (Int × Int))
  | a => chk (fits (0 + a.length) 16) (some ([] ++ a))
def spec_l5Copy_e : FEnt := ⟨6, [.tmp 2], [], [(.one, [.dat kk10])], ⟨8, [⟨2, .one, cc7⟩]⟩, spec_l5Copy⟩
theorem spec_l5Copy_ok : FnOk Tryz.prog 90 spec_l5Copy_e := fnOk_mk (tb := []) (c := (Tryz.f90.body).getD .skip) mixed Tryz.func90 bN (by kernel_rfl) (by kernel_rfl) (by kernel_rfl) trivial (by intro d; kernel_rfl)


/-! spec.l1Min -/
def spec_l1Min : Int × Int → Option Int
  | (a, b) => bif decide (a < b) then some a else some b
def spec_l1Min_e : FEnt := ⟨10, [.tmp 4], [], [(.one, [.dat kI]), (.one, [.dat kI])], ⟨14, [⟨4, .one, [.dat kI]⟩]⟩, spec_l1Min⟩
theorem spec_l1Min_ok : FnOk Tryz.prog 93 spec_l1Min_e := fnOk_mk (tb := []) (c := (Tryz.f93.body).getD .skip) mixed Tryz.func93 bN (by kernel_rfl) (by kernel_rfl) (by kernel_rfl) trivial (by intro d; kernel_rfl)


/-! spec.l1Max -/
def spec_l1Max : Int × Int → Option Int
  | (a, b) => bif decide (a > b) then some a else some b
def spec_l1Max_e : FEnt := ⟨10, [.tmp 4], [], [(.one, [.dat kI]), (.one, [.dat kI])], ⟨14, [⟨4, .one, [.dat kI]⟩]⟩, spec_l1Max⟩
theorem spec_l1Max_ok : FnOk Tryz.prog 92 spec_l1Max_e := fnOk_mk (tb := []) (c := (Tryz.f92.body).getD .skip) mixed Tryz.func92 bN (by kernel_rfl) (by kernel_rfl) (by kernel_rfl) trivial (by intro d; kernel_rfl)


/-! spec.l5Put -/
def spec_l5Put_s122 : List (Int × Int) × (Int × Int) × List (Int × Int) × Bool × Int → Option (List (Int × Int) × (Int × Int) × List (Int × Int) × Bool × Int ⊕ (Int × Int) × List (Int × Int) × Bool)
  | (a, (b, c), d, e, f) => bif decide (f < (ln a)) then ix f a.length ((some (gx a f (0, 0))).bind fun (g, h) => bif decide ((w64 (h + 1)) < b) then ix f a.length ((some (gx a f (0, 0))).bind fun (i, j) => chk (fits (d.length + [(i, j)].length) 16) (some (.inl (a, (b, c), d ++ [(i, j)], e, w64 (f + 1))))) else ix f a.length ((some (gx a f (0, 0))).bind fun (i, j) => bif decide (i > (w64 (c + 1))) then bif !e then chk (fits (d.length + [(b, c)].length) 16) (ix f a.length ((some (gx a f (0, 0))).bind fun (k, l) => chk (fits ((d ++ [(b, c)]).length + [(k, l)].length) 16) ((some ((d ++ [(b, c)]) ++ [(k, l)])).bind fun m => some (.inl (a, (b, c), m, true, w64 (f + 1)))))) else ix f a.length ((some (gx a f (0, 0))).bind fun (k, l) => chk (fits (d.length + [(k, l)].length) 16) (some (.inl (a, (b, c), d ++ [(k, l)], e, w64 (f + 1))))) else ix f a.length ((some (gx a f (0, 0))).bind fun (k, l) => (spec_l1Min (b, k)).bind fun m => ix f a.length ((some (gx a f (0, 0))).bind fun (n, o) => (spec_l1Max (c, o)).bind fun p => some (.inl (a, (m, p), d, e, w64 (f + 1))))))) else some (.inr ((b, c), d, e))
def spec_l5Put_n122 : NEnt := ⟨⟨83, [⟨0, .one, [.dat kk10]⟩, ⟨3, .box, cc10⟩, ⟨5, .one, cc7⟩, ⟨6, .one, [.dat .bool]⟩, ⟨7, .one, [.dat kI]⟩]⟩, [(.exit 0, ⟨83, [⟨3, .box, cc10⟩, ⟨5, .one, cc7⟩, ⟨6, .one, [.dat .bool]⟩]⟩)], lp spec_l5Put_s122⟩
def spec_l5Put : t5 → Option (List (Int × Int))
  | (a, b, c) => (lp spec_l5Put_s122 (a, (b, c), [], false, 0)).bind fun ((d, e), f, g) => bif !g then chk (fits (f.length + [(d, e)].length) 16) (some (f ++ [(d, e)])) else some f
def spec_l5Put_e : FEnt := ⟨79, [.tmp 4], [], [(.one, [.dat kk10]), (.agg, cc10)], ⟨83, [⟨4, .one, cc7⟩]⟩, spec_l5Put⟩
theorem spec_l5Put_ok : FnOk Tryz.prog 91 spec_l5Put_e := fnOk_mk (tb := [(122, spec_l5Put_n122)]) (c := (Tryz.f91.body).getD .skip) mixed Tryz.func91 (bC spec_l1Min_ok (bC spec_l1Max_ok bN)) (by kernel_rfl) (by kernel_rfl) (by kernel_rfl) ⟨nodeLoop (by kernel_rfl) spec_l5Put_s122 (by kernel_rfl) (by intro d; kernel_rfl), trivial⟩ (by intro d; kernel_rfl)


/-! spec.l5Join -/
def spec_l5Join_s58 : t15 → Option (t15 ⊕ List (Int × Int))
  | (a, b, c) => bif decide (c < (ln a)) then ix c a.length ((some (gx a c (0, 0))).bind fun (d, e) => (spec_l5Put (b, d, e)).bind fun f => some (.inl (a, f, w64 (c + 1)))) else some (.inr b)
def spec_l5Join_n58 : NEnt := ⟨⟨26, [⟨1, .one, [.dat kk10]⟩, ⟨5, .one, cc7⟩, ⟨6, .one, [.dat kI]⟩]⟩, [(.exit 0, ⟨26, [⟨5, .one, cc7⟩]⟩)], lp spec_l5Join_s58⟩
def spec_l5Join : t9 → Option (List (Int × Int))
  | (a, b) => (spec_l5Copy a).bind fun c => (lp spec_l5Join_s58 (b, c, 0)).bind fun d => some d
def spec_l5Join_e : FEnt := ⟨22, [.tmp 4], [], [(.one, [.dat kk10]), (.one, [.dat kk10])], ⟨26, [⟨4, .one, cc7⟩]⟩, spec_l5Join⟩
theorem spec_l5Join_ok : FnOk Tryz.prog 46 spec_l5Join_e := fnOk_mk (tb := [(58, spec_l5Join_n58)]) (c := (Tryz.f46.body).getD .skip) mixed Tryz.func46 (bC spec_l5Copy_ok (bC spec_l5Put_ok bN)) (by kernel_rfl) (by kernel_rfl) (by kernel_rfl) ⟨nodeLoop (by kernel_rfl) spec_l5Join_s58 (by kernel_rfl) (by intro d; kernel_rfl), trivial⟩ (by intro d; kernel_rfl)


/-! spec.RowIds -/
def spec_RowIds_s122 : List t28 × t0 → Option (List t28 × t0 ⊕ List (Int × Int))
  | (a, b, c) => (some (decide (c < (ln a)))).bind fun d => bif d then ix c a.length ((some (gx a c (0, 0, [], 0, 0, 0, 0, [], [], []))).bind fun (e, f, g, h, i, j, k, l, m, n) => (spec_l5Join (b, g)).bind fun o => some (.inl (a, o, w64 (c + 1)))) else some (.inr b)
def spec_RowIds_n122 : NEnt := ⟨⟨28, [⟨1, .box, [.dat kk4]⟩, ⟨3, .one, cc7⟩, ⟨4, .one, [.dat kI]⟩]⟩, [(.exit 0, ⟨28, [⟨3, .one, cc7⟩]⟩)], lp spec_RowIds_s122⟩
def spec_RowIds : List t28 → Option (List (Int × Int))
  | a => (spec_RowOk a).bind fun b => bif !b then some [] else (lp spec_RowIds_s122 (a, [], 0)).bind fun c => some c
def spec_RowIds_e : FEnt := ⟨26, [.tmp 2], [], [(.agg, [.dat kk4])], ⟨28, [⟨2, .one, cc7⟩]⟩, spec_RowIds⟩
theorem spec_RowIds_ok : FnOk Tryz.prog 84 spec_RowIds_e := fnOk_mk (tb := [(122, spec_RowIds_n122)]) (c := (Tryz.f84.body).getD .skip) mixed Tryz.func84 (bC spec_RowOk_ok (bC spec_l5Join_ok bN)) (by kernel_rfl) (by kernel_rfl) (by kernel_rfl) ⟨nodeLoop (by kernel_rfl) spec_RowIds_s122 (by kernel_rfl) (by intro d; kernel_rfl), trivial⟩ (by intro d; kernel_rfl)


/-! spec.l12Of -/
def spec_l12Of_s58 : List (Int × Int) × Int × Int × Int → Option (List (Int × Int) × Int × Int × Int ⊕ Int)
  | (a, b, c, d) => bif decide (d < (ln a)) then ix d a.length ((some (gx a d (0, 0))).bind fun (e, f) => (spec_l1Max (e, w64 ((w64 (100 * b)) + 1))).bind fun g => ix d a.length ((some (gx a d (0, 0))).bind fun (h, i) => (spec_l1Min (i, w64 ((w64 (100 * b)) + 60))).bind fun j => (spec_l1Max (w64 ((w64 (j - g)) + 1), 0)).bind fun k => some (.inl (a, b, w64 (c + k), w64 (d + 1))))) else some (.inr c)
def spec_l12Of_n58 : NEnt := ⟨⟨45, [⟨0, .one, [.dat kk10]⟩, ⟨1, .one, [.dat kI]⟩, ⟨5, .one, [.dat kI]⟩, ⟨6, .one, [.dat kI]⟩]⟩, [(.exit 0, ⟨45, [⟨5, .one, [.dat kI]⟩]⟩)], lp spec_l12Of_s58⟩
def spec_l12Of : t0 → Option Int
  | (a, b) => (lp spec_l12Of_s58 (a, b, 0, 0)).bind fun c => some c
def spec_l12Of_e : FEnt := ⟨41, [.tmp 4], [], [(.one, [.dat kk10]), (.one, [.dat kI])], ⟨45, [⟨4, .one, [.dat kI]⟩]⟩, spec_l12Of⟩
theorem spec_l12Of_ok : FnOk Tryz.prog 49 spec_l12Of_e := fnOk_mk (tb := [(58, spec_l12Of_n58)]) (c := (Tryz.f49.body).getD .skip) mixed Tryz.func49 (bC spec_l1Max_ok (bC spec_l1Min_ok bN)) (by kernel_rfl) (by kernel_rfl) (by kernel_rfl) ⟨nodeLoop (by kernel_rfl) spec_l12Of_s58 (by kernel_rfl) (by intro d; kernel_rfl), trivial⟩ (by intro d; kernel_rfl)


/-! spec.l6Agent -/
def spec_l6Agent : Int → Option Bool
  | a => (spec_l1In (a, 0, 2)).bind fun b => some b
def spec_l6Agent_e : FEnt := ⟨5, [.tmp 2], [], [(.one, [.dat kI])], ⟨7, [⟨2, .one, [.dat .bool]⟩]⟩, spec_l6Agent⟩
theorem spec_l6Agent_ok : FnOk Tryz.prog 125 spec_l6Agent_e := fnOk_mk (tb := []) (c := (Tryz.f125.body).getD .skip) mixed Tryz.func125 (bC spec_l1In_ok bN) (by kernel_rfl) (by kernel_rfl) (by kernel_rfl) trivial (by intro d; kernel_rfl)


/-! spec.TurnOk -/
def spec_TurnOk : Int × Bool × List Int → Option Bool
  | (a, b, c) => (spec_l6Agent a).bind fun d => bif d then (spec_l11Nums (c, 0, 1000)).bind fun e => some e else some false
def spec_TurnOk_e : FEnt := ⟨11, [.tmp 2], [], [(.agg, cc6)], ⟨13, [⟨2, .one, [.dat .bool]⟩]⟩, spec_TurnOk⟩
theorem spec_TurnOk_ok : FnOk Tryz.prog 87 spec_TurnOk_e := fnOk_mk (tb := []) (c := (Tryz.f87.body).getD .skip) mixed Tryz.func87 (bC spec_l6Agent_ok (bC spec_l11Nums_ok bN)) (by kernel_rfl) (by kernel_rfl) (by kernel_rfl) trivial (by intro d; kernel_rfl)


/-! spec.l12Parts -/
def spec_l12Parts_s7462 : t58 × Int × Int × Unit × t46 → Option (t58 × Int × Int × Unit × t46 ⊕ Bool ⊕ t58 × Int × Unit × t46)
  | ((a, b, c, d, e, f, g, h, i, j, k, l, m, n, o, p), q, r, _, s, t, (u, _), v, w, x) => bif decide (r < 2) then ix q l.length ((some (gx l q [])).bind fun y => ix r y.length ((some (gx y r [])).bind fun z => (spec_RowIds z).bind fun a1 => ix q l.length ((some (gx l q [])).bind fun b1 => ix r b1.length ((some (gx b1 r [])).bind fun c1 => (spec_RowOk c1).bind fun d1 => bif !d1 then some (.inr (.inl false)) else (spec_l12Of (a1, q)).bind fun e1 => (spec_SetSize a1).bind fun f1 => bif e1 != f1 then some (.inr (.inl false)) else some (.inl ((a, b, c, d, e, f, g, h, i, j, k, l, m, n, o, p), q, w64 (r + 1), (), s, t, (u, ()), v, w, x)))))) else some (.inr (.inr ((a, b, c, d, e, f, g, h, i, j, k, l, m, n, o, p), q, (), s, t, (u, ()), v, w, x)))
def spec_l12Parts_n7462 : NEnt := ⟨⟨102, [⟨1, .box, cc0⟩, ⟨3, .one, [.dat kI]⟩, ⟨4, .one, [.dat kI]⟩, ⟨50, .one, [.bptr 1 11]⟩, ⟨51, .one, [.dat kk0]⟩, ⟨52, .one, [.dat kI]⟩, ⟨53, .one, [.pim [kk2] 0]⟩, ⟨54, .one, [.dat kk2]⟩, ⟨55, .one, [.dat kI]⟩, ⟨56, .one, [.dat .bool]⟩]⟩, [(.ret, ⟨102, [⟨2, .one, [.dat .bool]⟩]⟩), (.exit 2, ⟨102, [⟨1, .box, cc0⟩, ⟨3, .one, [.dat kI]⟩, ⟨50, .one, [.bptr 1 11]⟩, ⟨51, .one, [.dat kk0]⟩, ⟨52, .one, [.dat kI]⟩, ⟨53, .one, [.pim [kk2] 0]⟩, ⟨54, .one, [.dat kk2]⟩, ⟨55, .one, [.dat kI]⟩, ⟨56, .one, [.dat .bool]⟩]⟩)], lp spec_l12Parts_s7462⟩
def spec_l12Parts_s58 : t59 → Option (t59 ⊕ Bool ⊕ t58)
  | ((a, b, c, d, e, f, g, h, i, j, k, l, m, n, o, p), q) => bif decide (q < 3) then ix q k.length ((some (gx k q (0, 0, [], 0, 0))).bind fun (r, s, t, u, v) => (spec_SeatOk ((r, s, t, u, v), a)).bind fun w => bif !w then some (.inr (.inl false)) else ix q l.length ((some (gx l q [])).bind fun x => bif (ln x) != 2 then some (.inr (.inl false)) else bx (lp spec_l12Parts_s7462 ((a, b, c, d, e, f, g, h, i, j, k, l, m, n, o, p), q, 0, (), l, q, (gx l q [], ()), x, ln x, (ln x) != 2)) (fun y => some (.inr (.inl y))) fun ((y, z, a1, b1, c1, d1, e1, f1, g1, h1, i1, j1, k1, l1, m1, n1), o1, _, p1, q1, (r1, _), s1, t1, u1) => some (.inl ((y, z, a1, b1, c1, d1, e1, f1, g1, h1, i1, j1, k1, l1, m1, n1), w64 (o1 + 1))))) else some (.inr (.inr (a, b, c, d, e, f, g, h, i, j, k, l, m, n, o, p)))
def spec_l12Parts_n58 : NEnt := ⟨⟨102, [⟨1, .box, cc0⟩, ⟨3, .one, [.dat kI]⟩]⟩, [(.ret, ⟨102, [⟨2, .one, [.dat .bool]⟩]⟩), (.exit 0, ⟨102, [⟨1, .box, cc0⟩]⟩)], lp spec_l12Parts_s58⟩
def spec_l12Parts_s122 : t59 → Option (t59 ⊕ Bool ⊕ Unit)
  | ((a, b, c, d, e, f, g, h, i, j, k, l, m, n, o, p), q) => bif decide (q < 2) then ix q m.length ((some (gx m q (0, false, []))).bind fun (r, s, t) => (spec_TurnOk (r, s, t)).bind fun u => bif !u then some (.inr (.inl false)) else some (.inl ((a, b, c, d, e, f, g, h, i, j, k, l, m, n, o, p), w64 (q + 1)))) else some (.inr (.inr ()))
def spec_l12Parts_n122 : NEnt := ⟨⟨102, [⟨1, .box, cc0⟩, ⟨6, .one, [.dat kI]⟩]⟩, [(.ret, ⟨102, [⟨2, .one, [.dat .bool]⟩]⟩), (.exit 4, ⟨102, []⟩)], lp spec_l12Parts_s122⟩
def spec_l12Parts : t58 → Option Bool
  | (a, b, c, d, e, f, g, h, i, j, k, l, m, n, o, p) => bif (ln k) != 3 then some false else bif (ln l) != 3 then some false else bif (ln m) != 2 then some false else (spec_l1In (n, 0, 1000)).bind fun q => bif !q then some false else (spec_l1In (i, 0, 100000)).bind fun r => bif !r then some false else bx (lp spec_l12Parts_s58 ((a, b, c, d, e, f, g, h, i, j, k, l, m, n, o, p), 0)) (fun s => some s) fun (s, t, u, v, w, x, y, z, a1, b1, c1, d1, e1, f1, g1, h1) => bx (lp spec_l12Parts_s122 ((s, t, u, v, w, x, y, z, a1, b1, c1, d1, e1, f1, g1, h1), 0)) (fun i1 => some i1) fun _ => some true
def spec_l12Parts_e : FEnt := ⟨100, [.tmp 2], [], [(.agg, cc0)], ⟨102, [⟨2, .one, [.dat .bool]⟩]⟩, spec_l12Parts⟩
theorem spec_l12Parts_ok : FnOk Tryz.prog 42 spec_l12Parts_e := fnOk_mk (tb := [(122, spec_l12Parts_n122), (7462, spec_l12Parts_n7462), (58, spec_l12Parts_n58)]) (c := (Tryz.f42.body).getD .skip) mixed Tryz.func42 (bC spec_l1In_ok (bC spec_SeatOk_ok (bC spec_RowIds_ok (bC spec_RowOk_ok (bC spec_l12Of_ok (bC spec_SetSize_ok (bC spec_TurnOk_ok bN))))))) (by kernel_rfl) (by kernel_rfl) (by kernel_rfl) ⟨nodeLoop (by kernel_rfl) spec_l12Parts_s122 (by kernel_rfl) (by intro d; kernel_rfl), nodeLoop (by kernel_rfl) spec_l12Parts_s7462 (by kernel_rfl) (by intro d; kernel_rfl), nodeLoop (by kernel_rfl) spec_l12Parts_s58 (by kernel_rfl) (by intro d; kernel_rfl), trivial⟩ (by intro d; kernel_rfl)


/-! spec.l1Bit -/
def spec_l1Bit : Bool → Option Int
  | a => bif a then some 1 else some 0
def spec_l1Bit_e : FEnt := ⟨4, [.tmp 2], [], [(.one, [.dat .bool])], ⟨6, [⟨2, .one, [.dat kI]⟩]⟩, spec_l1Bit⟩
theorem spec_l1Bit_ok : FnOk Tryz.prog 126 spec_l1Bit_e := fnOk_mk (tb := []) (c := (Tryz.f126.body).getD .skip) mixed Tryz.func126 bN (by kernel_rfl) (by kernel_rfl) (by kernel_rfl) trivial (by intro d; kernel_rfl)


/-! spec.l12Gen -/
def spec_l12Gen_s58 : List t30 × Int × Int × Int × Int → Option (List t30 × Int × Int × Int × Int ⊕ Int)
  | (a, b, c, d, e) => (some (decide (e < (ln a)))).bind fun f => bif f then ix e a.length ((some (gx a e (0, 0, 0, [], 0, 0, 0, 0, [], [], []))).bind fun (g, h, i, j, k, l, m, n, o, p, q) => bif h == b then ix e a.length ((some (gx a e (0, 0, 0, [], 0, 0, 0, 0, [], [], []))).bind fun (r, s, t, u, v, w, x, y, z, a1, b1) => (spec_l1Bit (t == c)).bind fun c1 => some (.inl (a, b, c, w64 (d + c1), w64 (e + 1)))) else (spec_l1Bit false).bind fun r => some (.inl (a, b, c, w64 (d + r), w64 (e + 1)))) else some (.inr d)
def spec_l12Gen_n58 : NEnt := ⟨⟨43, [⟨0, .one, [.dat kk1]⟩, ⟨1, .one, [.dat kI]⟩, ⟨2, .one, [.dat kI]⟩, ⟨7, .one, [.dat kI]⟩, ⟨8, .one, [.dat kI]⟩]⟩, [(.exit 0, ⟨43, [⟨7, .one, [.dat kI]⟩]⟩)], lp spec_l12Gen_s58⟩
def spec_l12Gen : t36 → Option Int
  | (a, b, c) => (lp spec_l12Gen_s58 (a, b, c, 0, 0)).bind fun d => some d
def spec_l12Gen_e : FEnt := ⟨37, [.tmp 6], [], [(.one, [.dat kk1]), (.one, [.dat kI]), (.one, [.dat kI])], ⟨43, [⟨6, .one, [.dat kI]⟩]⟩, spec_l12Gen⟩
theorem spec_l12Gen_ok : FnOk Tryz.prog 88 spec_l12Gen_e := fnOk_mk (tb := [(58, spec_l12Gen_n58)]) (c := (Tryz.f88.body).getD .skip) mixed Tryz.func88 (bC spec_l1Bit_ok bN) (by kernel_rfl) (by kernel_rfl) (by kernel_rfl) ⟨nodeLoop (by kernel_rfl) spec_l12Gen_s58 (by kernel_rfl) (by intro d; kernel_rfl), trivial⟩ (by intro d; kernel_rfl)


/-! spec.l12Root -/
def spec_l12Root_s26 : t59 → Option (t59 ⊕ Bool ⊕ t58)
  | ((a, b, c, d, e, f, g, h, i, j, k, l, m, n, o, p), q) => (some (decide (q < (ln o)))).bind fun r => bif r then ix q o.length ((some (gx o q (0, 0, [], 0, 0, 0, 0, [], [], []))).bind fun (s, t, u, v, w, x, y, z, a1, b1) => (spec_EntryOk (s, t, u, v, w, x, y, z, a1, b1)).bind fun c1 => bif !c1 then some (.inr (.inl false)) else bif decide (q > 0) then ix (w64 (q - 1)) o.length ((some (gx o (w64 (q - 1)) (0, 0, [], 0, 0, 0, 0, [], [], []))).bind fun (d1, e1, f1, g1, h1, i1, j1, k1, l1, m1) => bif decide (s < d1) then some (.inr (.inl false)) else ix (w64 (q - 1)) o.length ((some (gx o (w64 (q - 1)) (0, 0, [], 0, 0, 0, 0, [], [], []))).bind fun (n1, o1, p1, q1, r1, s1, t1, u1, v1, w1) => bif s == n1 then ix (w64 (q - 1)) o.length ((some (gx o (w64 (q - 1)) (0, 0, [], 0, 0, 0, 0, [], [], []))).bind fun (x1, y1, z1, a2, b2, c2, d2, e2, f2, g2) => bif decide (t ≤ y1) then some (.inr (.inl false)) else some (.inl ((a, b, c, d, e, f, g, h, i, j, k, l, m, n, o, p), w64 (q + 1)))) else some (.inl ((a, b, c, d, e, f, g, h, i, j, k, l, m, n, o, p), w64 (q + 1))))) else some (.inl ((a, b, c, d, e, f, g, h, i, j, k, l, m, n, o, p), w64 (q + 1)))) else some (.inr (.inr (a, b, c, d, e, f, g, h, i, j, k, l, m, n, o, p)))
def spec_l12Root_n26 : NEnt := ⟨⟨104, [⟨1, .box, cc0⟩, ⟨3, .one, [.dat kI]⟩]⟩, [(.ret, ⟨104, [⟨2, .one, [.dat .bool]⟩]⟩), (.exit 0, ⟨104, [⟨1, .box, cc0⟩]⟩)], lp spec_l12Root_s26⟩
def spec_l12Root_s58 : t59 → Option (t59 ⊕ Bool ⊕ Unit)
  | ((a, b, c, d, e, f, g, h, i, j, k, l, m, n, o, p), q) => (some (decide (q < (ln p)))).bind fun r => bif r then ix q p.length ((some (gx p q (0, 0, 0, [], 0, 0, 0, 0, [], [], []))).bind fun (s, t, u, v, w, x, y, z, a1, b1, c1) => (spec_EntryOk (t, u, v, w, x, y, z, a1, b1, c1)).bind fun d1 => bif !d1 then some (.inr (.inl false)) else ix q p.length ((some (gx p q (0, 0, 0, [], 0, 0, 0, 0, [], [], []))).bind fun (e1, f1, g1, h1, i1, j1, k1, l1, m1, n1, o1) => g0 q (chk (decide ((0 ≤ q.toNat) ∧ (q.toNat ≤ p.length))) (ix q p.length ((some (gx p q (0, 0, 0, [], 0, 0, 0, 0, [], [], []))).bind fun (p1, q1, r1, s1, t1, u1, v1, w1, x1, y1, z1) => ix q p.length ((some (gx p q (0, 0, 0, [], 0, 0, 0, 0, [], [], []))).bind fun (a2, b2, c2, d2, e2, f2, g2, h2, i2, j2, k2) => (spec_l12Gen (List.take q.toNat p, q1, c2)).bind fun l2 => bif e1 != l2 then some (.inr (.inl false)) else some (.inl ((a, b, c, d, e, f, g, h, i, j, k, l, m, n, o, p), w64 (q + 1))))))))) else some (.inr (.inr ()))
def spec_l12Root_n58 : NEnt := ⟨⟨104, [⟨1, .box, cc0⟩, ⟨5, .one, [.dat kI]⟩]⟩, [(.ret, ⟨104, [⟨2, .one, [.dat .bool]⟩]⟩), (.exit 2, ⟨104, []⟩)], lp spec_l12Root_s58⟩
def spec_l12Root : t58 → Option Bool
  | (a, b, c, d, e, f, g, h, i, j, k, l, m, n, o, p) => bx (lp spec_l12Root_s26 ((a, b, c, d, e, f, g, h, i, j, k, l, m, n, o, p), 0)) (fun q => some q) fun (q, r, s, t, u, v, w, x, y, z, a1, b1, c1, d1, e1, f1) => bx (lp spec_l12Root_s58 ((q, r, s, t, u, v, w, x, y, z, a1, b1, c1, d1, e1, f1), 0)) (fun g1 => some g1) fun _ => some true
def spec_l12Root_e : FEnt := ⟨102, [.tmp 2], [], [(.agg, cc0)], ⟨104, [⟨2, .one, [.dat .bool]⟩]⟩, spec_l12Root⟩
theorem spec_l12Root_ok : FnOk Tryz.prog 43 spec_l12Root_e := fnOk_mk (tb := [(58, spec_l12Root_n58), (26, spec_l12Root_n26)]) (c := (Tryz.f43.body).getD .skip) mixed Tryz.func43 (bC spec_EntryOk_ok (bC spec_l12Gen_ok bN)) (by kernel_rfl) (by kernel_rfl) (by kernel_rfl) ⟨nodeLoop (by kernel_rfl) spec_l12Root_s58 (by kernel_rfl) (by intro d; kernel_rfl), nodeLoop (by kernel_rfl) spec_l12Root_s26 (by kernel_rfl) (by intro d; kernel_rfl), trivial⟩ (by intro d; kernel_rfl)


/-! spec.l12All -/
def spec_l12All_s3730 : t58 × t32 → Option (t58 × t32 ⊕ t58 × t31)
  | ((a, b, c, d, e, f, g, h, i, j, k, l, m, n, o, p), q, r, s) => ix r l.length ((some (gx l r [])).bind fun t => (some (decide (s < (ln t)))).bind fun u => bif u then ix r l.length ((some (gx l r [])).bind fun v => ix s v.length ((some (gx v s [])).bind fun w => chk (fits (q.length + w.length) 144) ((some (q ++ w)).bind fun x => some (.inl ((a, b, c, d, e, f, g, h, i, j, k, l, m, n, o, p), x, r, w64 (s + 1)))))) else some (.inr ((a, b, c, d, e, f, g, h, i, j, k, l, m, n, o, p), q, r)))
def spec_l12All_n3730 : NEnt := ⟨⟨59, [⟨1, .box, cc0⟩, ⟨3, .one, [.own false kk5]⟩, ⟨4, .one, [.dat kI]⟩, ⟨5, .one, [.dat kI]⟩]⟩, [(.exit 2, ⟨59, [⟨1, .box, cc0⟩, ⟨3, .one, [.own false kk5]⟩, ⟨4, .one, [.dat kI]⟩]⟩)], lp spec_l12All_s3730⟩
def spec_l12All_s58 : t58 × t31 → Option (t58 × t31 ⊕ t58 × List t28)
  | ((a, b, c, d, e, f, g, h, i, j, k, l, m, n, o, p), q, r) => (some (decide (r < (ln l)))).bind fun s => bif s then (lp spec_l12All_s3730 ((a, b, c, d, e, f, g, h, i, j, k, l, m, n, o, p), q, r, 0)).bind fun ((t, u, v, w, x, y, z, a1, b1, c1, d1, e1, f1, g1, h1, i1), j1, k1) => some (.inl ((t, u, v, w, x, y, z, a1, b1, c1, d1, e1, f1, g1, h1, i1), j1, w64 (k1 + 1))) else some (.inr ((a, b, c, d, e, f, g, h, i, j, k, l, m, n, o, p), q))
def spec_l12All_n58 : NEnt := ⟨⟨59, [⟨1, .box, cc0⟩, ⟨3, .one, [.own false kk5]⟩, ⟨4, .one, [.dat kI]⟩]⟩, [(.exit 0, ⟨59, [⟨1, .box, cc0⟩, ⟨3, .one, [.own false kk5]⟩]⟩)], lp spec_l12All_s58⟩
def spec_l12All_s250 : t58 × t31 → Option (t58 × t31 ⊕ List t28)
  | ((a, b, c, d, e, f, g, h, i, j, k, l, m, n, o, p), q, r) => (some (decide (r < (ln p)))).bind fun s => bif s then ix r p.length ((some (gx p r (0, 0, 0, [], 0, 0, 0, 0, [], [], []))).bind fun (t, u, v, w, x, y, z, a1, b1, c1, d1) => (some [(u, v, w, x, y, z, a1, b1, c1, d1)]).bind fun e1 => chk (fits (q.length + e1.length) 144) ((some (q ++ e1)).bind fun f1 => some (.inl ((a, b, c, d, e, f, g, h, i, j, k, l, m, n, o, p), f1, w64 (r + 1))))) else some (.inr q)
def spec_l12All_n250 : NEnt := ⟨⟨59, [⟨1, .box, cc0⟩, ⟨3, .one, [.own false kk5]⟩, ⟨6, .one, [.dat kI]⟩]⟩, [(.exit 4, ⟨59, [⟨3, .one, [.own false kk5]⟩]⟩)], lp spec_l12All_s250⟩
def spec_l12All : t58 → Option (List t28)
  | (a, b, c, d, e, f, g, h, i, j, k, l, m, n, o, p) => (lp spec_l12All_s58 ((a, b, c, d, e, f, g, h, i, j, k, l, m, n, o, p), [], 0)).bind fun ((q, r, s, t, u, v, w, x, y, z, a1, b1, c1, d1, e1, f1), g1) => chk (fits (g1.length + e1.length) 144) ((some (g1 ++ e1)).bind fun h1 => (lp spec_l12All_s250 ((q, r, s, t, u, v, w, x, y, z, a1, b1, c1, d1, e1, f1), h1, 0)).bind fun i1 => some i1)
def spec_l12All_e : FEnt := ⟨57, [.tmp 2], [], [(.agg, cc0)], ⟨59, [⟨2, .one, [.own false kk5]⟩]⟩, spec_l12All⟩
theorem spec_l12All_ok : FnOk Tryz.prog 44 spec_l12All_e := fnOk_mk (tb := [(250, spec_l12All_n250), (3730, spec_l12All_n3730), (58, spec_l12All_n58)]) (c := (Tryz.f44.body).getD .skip) mixed Tryz.func44 bN (by kernel_rfl) (by kernel_rfl) (by kernel_rfl) ⟨nodeLoop (by kernel_rfl) spec_l12All_s250 (by kernel_rfl) (by intro d; kernel_rfl), nodeLoop (by kernel_rfl) spec_l12All_s3730 (by kernel_rfl) (by intro d; kernel_rfl), nodeLoop (by kernel_rfl) spec_l12All_s58 (by kernel_rfl) (by intro d; kernel_rfl), trivial⟩ (by intro d; kernel_rfl)


/-! spec.l12Taken -/
def spec_l12Taken_s3730 : t58 × t5 → Option (t58 × t5 ⊕ t58 × t0)
  | ((a, b, c, d, e, f, g, h, i, j, k, l, m, n, o, p), q, r, s) => ix r k.length ((some (gx k r (0, 0, [], 0, 0))).bind fun (t, u, v, w, x) => bif decide (s < (ln v)) then ix r k.length ((some (gx k r (0, 0, [], 0, 0))).bind fun (y, z, a1, b1, c1) => ix s a1.length ((some (gx a1 s (0, 0))).bind fun (d1, e1) => (spec_l5Put (q, w64 ((w64 (100 * r)) + d1), w64 ((w64 (100 * r)) + e1))).bind fun f1 => some (.inl ((a, b, c, d, e, f, g, h, i, j, k, l, m, n, o, p), f1, r, w64 (s + 1))))) else some (.inr ((a, b, c, d, e, f, g, h, i, j, k, l, m, n, o, p), q, r)))
def spec_l12Taken_n3730 : NEnt := ⟨⟨51, [⟨1, .box, cc0⟩, ⟨3, .one, cc7⟩, ⟨4, .one, [.dat kI]⟩, ⟨5, .one, [.dat kI]⟩]⟩, [(.exit 2, ⟨51, [⟨1, .box, cc0⟩, ⟨3, .one, cc7⟩, ⟨4, .one, [.dat kI]⟩]⟩)], lp spec_l12Taken_s3730⟩
def spec_l12Taken_s58 : t58 × t0 → Option (t58 × t0 ⊕ List (Int × Int))
  | ((a, b, c, d, e, f, g, h, i, j, k, l, m, n, o, p), q, r) => bif decide (r < (ln k)) then (lp spec_l12Taken_s3730 ((a, b, c, d, e, f, g, h, i, j, k, l, m, n, o, p), q, r, 0)).bind fun ((s, t, u, v, w, x, y, z, a1, b1, c1, d1, e1, f1, g1, h1), i1, j1) => some (.inl ((s, t, u, v, w, x, y, z, a1, b1, c1, d1, e1, f1, g1, h1), i1, w64 (j1 + 1))) else some (.inr q)
def spec_l12Taken_n58 : NEnt := ⟨⟨51, [⟨1, .box, cc0⟩, ⟨3, .one, cc7⟩, ⟨4, .one, [.dat kI]⟩]⟩, [(.exit 0, ⟨51, [⟨3, .one, cc7⟩]⟩)], lp spec_l12Taken_s58⟩
def spec_l12Taken : t58 → Option (List (Int × Int))
  | (a, b, c, d, e, f, g, h, i, j, k, l, m, n, o, p) => (lp spec_l12Taken_s58 ((a, b, c, d, e, f, g, h, i, j, k, l, m, n, o, p), [], 0)).bind fun q => some q
def spec_l12Taken_e : FEnt := ⟨49, [.tmp 2], [], [(.agg, cc0)], ⟨51, [⟨2, .one, cc7⟩]⟩, spec_l12Taken⟩
theorem spec_l12Taken_ok : FnOk Tryz.prog 48 spec_l12Taken_e := fnOk_mk (tb := [(3730, spec_l12Taken_n3730), (58, spec_l12Taken_n58)]) (c := (Tryz.f48.body).getD .skip) mixed Tryz.func48 (bC spec_l5Put_ok bN) (by kernel_rfl) (by kernel_rfl) (by kernel_rfl) ⟨nodeLoop (by kernel_rfl) spec_l12Taken_s3730 (by kernel_rfl) (by intro d; kernel_rfl), nodeLoop (by kernel_rfl) spec_l12Taken_s58 (by kernel_rfl) (by intro d; kernel_rfl), trivial⟩ (by intro d; kernel_rfl)


/-! spec.l5Same -/
def spec_l5Same_s58 : t15 → Option (t15 ⊕ Bool ⊕ Unit)
  | (a, b, c) => bif decide (c < (ln a)) then ix c a.length ((some (gx a c (0, 0))).bind fun (d, e) => ix c b.length ((some (gx b c (0, 0))).bind fun (f, g) => bif !((d == f) && ((e == g) && true)) then some (.inr (.inl false)) else some (.inl (a, b, w64 (c + 1))))) else some (.inr (.inr ()))
def spec_l5Same_n58 : NEnt := ⟨⟨30, [⟨0, .one, [.dat kk10]⟩, ⟨1, .one, [.dat kk10]⟩, ⟨5, .one, [.dat kI]⟩]⟩, [(.ret, ⟨30, [⟨4, .one, [.dat .bool]⟩]⟩), (.exit 0, ⟨30, []⟩)], lp spec_l5Same_s58⟩
def spec_l5Same : t9 → Option Bool
  | (a, b) => bif (ln a) != (ln b) then some false else bx (lp spec_l5Same_s58 (a, b, 0)) (fun c => some c) fun _ => some true
def spec_l5Same_e : FEnt := ⟨26, [.tmp 4], [], [(.one, [.dat kk10]), (.one, [.dat kk10])], ⟨30, [⟨4, .one, [.dat .bool]⟩]⟩, spec_l5Same⟩
theorem spec_l5Same_ok : FnOk Tryz.prog 47 spec_l5Same_e := fnOk_mk (tb := [(58, spec_l5Same_n58)]) (c := (Tryz.f47.body).getD .skip) mixed Tryz.func47 bN (by kernel_rfl) (by kernel_rfl) (by kernel_rfl) ⟨nodeLoop (by kernel_rfl) spec_l5Same_s58 (by kernel_rfl) (by intro d; kernel_rfl), trivial⟩ (by intro d; kernel_rfl)


/-! spec.HouseOk -/
def spec_HouseOk_s250 : t58 × List (Int × Int) × t31 → Option (t58 × List (Int × Int) × t31 ⊕ Bool ⊕ t58 × List (Int × Int))
  | ((a, b, c, d, e, f, g, h, i, j, k, l, m, n, o, p), q, r, s) => (some (decide (s < (ln r)))).bind fun t => bif t then ix s r.length (lx s r.length ((some (gx r s (0, 0, [], 0, 0, 0, 0, [], [], []))).bind fun (u, v, w, x, y, z, a1, b1, c1, d1) => (spec_SetApart (q, w)).bind fun e1 => bif !e1 then some (.inr (.inl false)) else ix s r.length (lx s r.length ((some (gx r s (0, 0, [], 0, 0, 0, 0, [], [], []))).bind fun (f1, g1, h1, i1, j1, k1, l1, m1, n1, o1) => (spec_l5Join (q, h1)).bind fun p1 => some (.inl ((a, b, c, d, e, f, g, h, i, j, k, l, m, n, o, p), p1, r, w64 (s + 1))))))) else some (.inr (.inr ((a, b, c, d, e, f, g, h, i, j, k, l, m, n, o, p), q)))
def spec_HouseOk_n250 : NEnt := ⟨⟨102, [⟨1, .box, cc0⟩, ⟨3, .one, cc7⟩, ⟨4, .one, [.own false kk5]⟩, ⟨5, .one, [.dat kI]⟩]⟩, [(.ret, ⟨102, [⟨2, .one, [.dat .bool]⟩]⟩), (.exit 0, ⟨102, [⟨1, .box, cc0⟩, ⟨3, .one, cc7⟩]⟩)], lp spec_HouseOk_s250⟩
def spec_HouseOk_s260682 : t60 → Option (t60 ⊕ t58 × Int × Int)
  | ((a, b, c, d, e, f, g, h, i, j, k, l, m, n, o, p), q, r, s) => (some (decide (s < (ln o)))).bind fun t => bif t then ix s o.length ((some (gx o s (0, 0, [], 0, 0, 0, 0, [], [], []))).bind fun (u, v, w, x, y, z, a1, b1, c1, d1) => (spec_l12Of (w, q)).bind fun e1 => some (.inl ((a, b, c, d, e, f, g, h, i, j, k, l, m, n, o, p), q, w64 (r + e1), w64 (s + 1)))) else some (.inr ((a, b, c, d, e, f, g, h, i, j, k, l, m, n, o, p), q, r))
def spec_HouseOk_n260682 : NEnt := ⟨⟨102, [⟨1, .box, cc0⟩, ⟨6, .one, [.dat kI]⟩, ⟨7, .one, [.dat kI]⟩, ⟨8, .one, [.dat kI]⟩]⟩, [(.exit 4, ⟨102, [⟨1, .box, cc0⟩, ⟨6, .one, [.dat kI]⟩, ⟨7, .one, [.dat kI]⟩]⟩)], lp spec_HouseOk_s260682⟩
def spec_HouseOk_s521370 : t60 → Option (t60 ⊕ t58 × Int × Int)
  | ((a, b, c, d, e, f, g, h, i, j, k, l, m, n, o, p), q, r, s) => (some (decide (s < (ln p)))).bind fun t => bif t then ix s p.length ((some (gx p s (0, 0, 0, [], 0, 0, 0, 0, [], [], []))).bind fun (u, v, w, x, y, z, a1, b1, c1, d1, e1) => (spec_l12Of (x, q)).bind fun f1 => some (.inl ((a, b, c, d, e, f, g, h, i, j, k, l, m, n, o, p), q, w64 (r + f1), w64 (s + 1)))) else some (.inr ((a, b, c, d, e, f, g, h, i, j, k, l, m, n, o, p), q, r))
def spec_HouseOk_n521370 : NEnt := ⟨⟨102, [⟨1, .box, cc0⟩, ⟨6, .one, [.dat kI]⟩, ⟨7, .one, [.dat kI]⟩, ⟨9, .one, [.dat kI]⟩]⟩, [(.exit 6, ⟨102, [⟨1, .box, cc0⟩, ⟨6, .one, [.dat kI]⟩, ⟨7, .one, [.dat kI]⟩]⟩)], lp spec_HouseOk_s521370⟩
def spec_HouseOk_s1018 : t59 → Option (t59 ⊕ Bool ⊕ Unit)
  | ((a, b, c, d, e, f, g, h, i, j, k, l, m, n, o, p), q) => bif decide (q < 3) then (lp spec_HouseOk_s260682 ((a, b, c, d, e, f, g, h, i, j, k, l, m, n, o, p), q, 0, 0)).bind fun ((r, s, t, u, v, w, x, y, z, a1, b1, c1, d1, e1, f1, g1), h1, i1) => (lp spec_HouseOk_s521370 ((r, s, t, u, v, w, x, y, z, a1, b1, c1, d1, e1, f1, g1), h1, i1, 0)).bind fun ((j1, k1, l1, m1, n1, o1, p1, q1, r1, s1, t1, u1, v1, w1, x1, y1), z1, a2) => ix z1 t1.length ((some (gx t1 z1 (0, 0, [], 0, 0))).bind fun (b2, c2, d2, e2, f2) => bif a2 != e2 then some (.inr (.inl false)) else some (.inl ((j1, k1, l1, m1, n1, o1, p1, q1, r1, s1, t1, u1, v1, w1, x1, y1), w64 (z1 + 1)))) else some (.inr (.inr ()))
def spec_HouseOk_n1018 : NEnt := ⟨⟨102, [⟨1, .box, cc0⟩, ⟨6, .one, [.dat kI]⟩]⟩, [(.ret, ⟨102, [⟨2, .one, [.dat .bool]⟩]⟩), (.exit 2, ⟨102, []⟩)], lp spec_HouseOk_s1018⟩
def spec_HouseOk : t58 → Option Bool
  | (a, b, c, d, e, f, g, h, i, j, k, l, m, n, o, p) => (spec_ConfOk (a, b, c, d, e, f, g, h)).bind fun q => bif !q then some false else (spec_l12Parts (a, b, c, d, e, f, g, h, i, j, k, l, m, n, o, p)).bind fun r => bif !r then some false else (spec_l12Root (a, b, c, d, e, f, g, h, i, j, k, l, m, n, o, p)).bind fun s => bif !s then some false else (spec_l12All (a, b, c, d, e, f, g, h, i, j, k, l, m, n, o, p)).bind fun t => bx (lp spec_HouseOk_s250 ((a, b, c, d, e, f, g, h, i, j, k, l, m, n, o, p), [], t, 0)) (fun u => some u) fun ((u, v, w, x, y, z, a1, b1, c1, d1, e1, f1, g1, h1, i1, j1), k1) => (spec_l12Taken (u, v, w, x, y, z, a1, b1, c1, d1, e1, f1, g1, h1, i1, j1)).bind fun l1 => (spec_l5Same (k1, l1)).bind fun m1 => bif !m1 then some false else bx (lp spec_HouseOk_s1018 ((u, v, w, x, y, z, a1, b1, c1, d1, e1, f1, g1, h1, i1, j1), 0)) (fun n1 => some n1) fun _ => some true
def spec_HouseOk_e : FEnt := ⟨100, [.tmp 2], [], [(.agg, cc0)], ⟨102, [⟨2, .one, [.dat .bool]⟩]⟩, spec_HouseOk⟩
theorem spec_HouseOk_ok : FnOk Tryz.prog 15 spec_HouseOk_e := fnOk_mk (tb := [(521370, spec_HouseOk_n521370), (260682, spec_HouseOk_n260682), (1018, spec_HouseOk_n1018), (250, spec_HouseOk_n250)]) (c := (Tryz.f15.body).getD .skip) mixed Tryz.func15 (bC spec_ConfOk_ok (bC spec_l12Parts_ok (bC spec_l12Root_ok (bC spec_l12All_ok (bC spec_SetApart_ok (bC spec_l5Join_ok (bC spec_l12Taken_ok (bC spec_l5Same_ok (bC spec_l12Of_ok bN))))))))) (by kernel_rfl) (by kernel_rfl) (by kernel_rfl) ⟨nodeLoop (by kernel_rfl) spec_HouseOk_s521370 (by kernel_rfl) (by intro d; kernel_rfl), nodeLoop (by kernel_rfl) spec_HouseOk_s260682 (by kernel_rfl) (by intro d; kernel_rfl), nodeLoop (by kernel_rfl) spec_HouseOk_s1018 (by kernel_rfl) (by intro d; kernel_rfl), nodeLoop (by kernel_rfl) spec_HouseOk_s250 (by kernel_rfl) (by intro d; kernel_rfl), trivial⟩ (by intro d; kernel_rfl)


/-! spec.Digits -/
def spec_Digits_s124 : Int × Bool × List UInt8 → Option (Int × Bool × List UInt8 ⊕ Bool × List UInt8)
  | (a, b, c) => bif a != 0 then bif decide ((Int.tmod a 10) < 0) then (some (List.map (fun (n : Int) => UInt8.ofNat (Int.toNat n)) [IntKind.wrap IntKind.u8 (IntKind.wrap IntKind.i64 ((48 : Int) + IntKind.wrap IntKind.i64 ((0 : Int) - Int.tmod a (10 : Int))))])).bind fun d => chk (decide ((d.length + c.length) ≤ 1099511627776)) (some (.inl (w64 (Int.tdiv a 10), b, d ++ c))) else chk (decide (((List.map (fun (n : Int) => UInt8.ofNat (Int.toNat n)) [IntKind.wrap IntKind.u8 (IntKind.wrap IntKind.i64 ((48 : Int) + Int.tmod a (10 : Int)))]).length + c.length) ≤ 1099511627776)) ((some ((List.map (fun (n : Int) => UInt8.ofNat (Int.toNat n)) [IntKind.wrap IntKind.u8 (IntKind.wrap IntKind.i64 ((48 : Int) + Int.tmod a (10 : Int)))]) ++ c)).bind fun d => some (.inl (w64 (Int.tdiv a 10), b, d))) else some (.inr (b, c))
def spec_Digits_n124 : NEnt := ⟨⟨33, [⟨0, .one, [.dat kI]⟩, ⟨3, .one, [.dat .bool]⟩, ⟨4, .one, [.dat .str]⟩]⟩, [(.exit 0, ⟨33, [⟨3, .one, [.dat .bool]⟩, ⟨4, .one, [.dat .str]⟩]⟩)], lp spec_Digits_s124⟩
def spec_Digits : Int → Option (List UInt8)
  | a => bif a == 0 then some (Array.toList (ByteArray.data { data := #[(48 : UInt8)] })) else (lp spec_Digits_s124 (a, decide (a < 0), Array.toList (ByteArray.data { data := #[] }))).bind fun (b, c) => bif b then chk (decide ((1 + c.length) ≤ 1099511627776)) (some ((Array.toList (ByteArray.data { data := #[(45 : UInt8)] })) ++ c)) else some c
def spec_Digits_e : FEnt := ⟨31, [.tmp 2], [], [(.one, [.dat kI])], ⟨33, [⟨2, .one, [.dat .str]⟩]⟩, spec_Digits⟩
theorem spec_Digits_ok : FnOk Tryz.prog 16 spec_Digits_e := fnOk_mk (tb := [(124, spec_Digits_n124)]) (c := (Tryz.f16.body).getD .skip) mixed Tryz.func16 bN (by kernel_rfl) (by kernel_rfl) (by kernel_rfl) ⟨nodeLoop (by kernel_rfl) spec_Digits_s124 (by kernel_rfl) (by intro d; kernel_rfl), trivial⟩ (by intro d; kernel_rfl)


/-! spec.SetText -/
def spec_SetText_l1865 : t10 → Option t10
  | (a, b, c) => ix c a.length ((some (gx a c (0, 0))).bind fun (d, e) => (spec_Digits d).bind fun f => chk (decide ((b.length + f.length) ≤ 1099511627776)) (ix c a.length ((some (gx a c (0, 0))).bind fun (g, h) => ix c a.length ((some (gx a c (0, 0))).bind fun (i, j) => bif h != i then chk (decide (((b ++ f).length + 1) ≤ 1099511627776)) (ix c a.length ((some (gx a c (0, 0))).bind fun (k, l) => (spec_Digits l).bind fun m => chk (decide ((((b ++ f) ++ (Array.toList (ByteArray.data { data := #[(45 : UInt8)] }))).length + m.length) ≤ 1099511627776)) ((some (((b ++ f) ++ (Array.toList (ByteArray.data { data := #[(45 : UInt8)] }))) ++ m)).bind fun n => some (a, n, c)))) else some (a, b ++ f, c)))))
def spec_SetText_n1865 : NEnt := ⟨⟨46, [⟨0, .one, [.dat kk10]⟩, ⟨3, .one, [.dat .str]⟩, ⟨4, .one, [.dat kI]⟩]⟩, [(.normal, ⟨46, [⟨0, .one, [.dat kk10]⟩, ⟨3, .one, [.dat .str]⟩, ⟨4, .one, [.dat kI]⟩]⟩)], spec_SetText_l1865⟩
def spec_SetText_s58 : t10 → Option (t10 ⊕ List UInt8)
  | (a, b, c) => bif decide (c < (ln a)) then bif decide (c > 0) then chk (decide ((b.length + 1) ≤ 1099511627776)) ((spec_SetText_l1865 (a, b ++ (Array.toList (ByteArray.data { data := #[(44 : UInt8)] })), c)).bind fun (d, e, f) => some (.inl (d, e, w64 (f + 1)))) else (spec_SetText_l1865 (a, b, c)).bind fun (d, e, f) => some (.inl (d, e, w64 (f + 1))) else some (.inr b)
def spec_SetText_n58 : NEnt := ⟨⟨46, [⟨0, .one, [.dat kk10]⟩, ⟨3, .one, [.dat .str]⟩, ⟨4, .one, [.dat kI]⟩]⟩, [(.exit 0, ⟨46, [⟨3, .one, [.dat .str]⟩]⟩)], lp spec_SetText_s58⟩
def spec_SetText : List (Int × Int) → Option (List UInt8)
  | a => (lp spec_SetText_s58 (a, Array.toList (ByteArray.data { data := #[] }), 0)).bind fun b => some b
def spec_SetText_e : FEnt := ⟨44, [.tmp 2], [], [(.one, [.dat kk10])], ⟨46, [⟨2, .one, [.dat .str]⟩]⟩, spec_SetText⟩
theorem spec_SetText_ok : FnOk Tryz.prog 17 spec_SetText_e := fnOk_mk (tb := [(1865, spec_SetText_n1865), (58, spec_SetText_n58)]) (c := (Tryz.f17.body).getD .skip) mixed Tryz.func17 (bC spec_Digits_ok bN) (by kernel_rfl) (by kernel_rfl) (by kernel_rfl) ⟨nodeJoin (by kernel_rfl) (by intro d; kernel_rfl), nodeLoop (by kernel_rfl) spec_SetText_s58 (by kernel_rfl) (by intro d; kernel_rfl), trivial⟩ (by intro d; kernel_rfl)


/-! spec.SketchText -/
def spec_SketchText : t24 → Option (List UInt8)
  | (a, b, c, d, e, f, g) => (spec_SketchOk (a, b, c, d, e, f, g)).bind fun h => bif !h then some (Array.toList (ByteArray.data { data := #[(63 : UInt8)] })) else (spec_Digits a).bind fun i => chk (decide ((i.length + 1) ≤ 1099511627776)) ((spec_Digits b).bind fun j => chk (decide (((i ++ (Array.toList (ByteArray.data { data := #[(32 : UInt8)] }))).length + j.length) ≤ 1099511627776)) (chk (decide ((((i ++ (Array.toList (ByteArray.data { data := #[(32 : UInt8)] }))) ++ j).length + 1) ≤ 1099511627776)) ((some (((i ++ (Array.toList (ByteArray.data { data := #[(32 : UInt8)] }))) ++ j) ++ (Array.toList (ByteArray.data { data := #[(32 : UInt8)] })))).bind fun k => (spec_Digits c).bind fun l => chk (decide ((k.length + l.length) ≤ 1099511627776)) (chk (decide (((k ++ l).length + 1) ≤ 1099511627776)) ((spec_Digits d).bind fun m => chk (decide ((((k ++ l) ++ (Array.toList (ByteArray.data { data := #[(32 : UInt8)] }))).length + m.length) ≤ 1099511627776)) ((some (((k ++ l) ++ (Array.toList (ByteArray.data { data := #[(32 : UInt8)] }))) ++ m)).bind fun n => some n))))))
def spec_SketchText_e : FEnt := ⟨24, [.tmp 2], [], [(.agg, cc3)], ⟨26, [⟨2, .one, [.dat .str]⟩]⟩, spec_SketchText⟩
theorem spec_SketchText_ok : FnOk Tryz.prog 51 spec_SketchText_e := fnOk_mk (tb := []) (c := (Tryz.f51.body).getD .skip) mixed Tryz.func51 (bC spec_SketchOk_ok (bC spec_Digits_ok bN)) (by kernel_rfl) (by kernel_rfl) (by kernel_rfl) trivial (by intro d; kernel_rfl)


/-! spec.EntryText -/
def spec_EntryText : t28 → Option (List UInt8)
  | (a, b, c, d, e, f, g, h, i, j) => (spec_EntryOk (a, b, c, d, e, f, g, h, i, j)).bind fun k => bif !k then some (Array.toList (ByteArray.data { data := #[(63 : UInt8)] })) else (spec_Digits a).bind fun l => chk (decide ((l.length + 1) ≤ 1099511627776)) ((spec_Digits b).bind fun m => chk (decide (((l ++ (Array.toList (ByteArray.data { data := #[(47 : UInt8)] }))).length + m.length) ≤ 1099511627776)) (chk (decide ((((l ++ (Array.toList (ByteArray.data { data := #[(47 : UInt8)] }))) ++ m).length + 1) ≤ 1099511627776)) ((some (((l ++ (Array.toList (ByteArray.data { data := #[(47 : UInt8)] }))) ++ m) ++ (Array.toList (ByteArray.data { data := #[(32 : UInt8)] })))).bind fun n => (spec_SetText c).bind fun o => chk (decide ((n.length + o.length) ≤ 1099511627776)) (chk (decide (((n ++ o).length + 1) ≤ 1099511627776)) ((spec_SketchText (d, e, f, g, h, i, j)).bind fun p => chk (decide ((((n ++ o) ++ (Array.toList (ByteArray.data { data := #[(32 : UInt8)] }))).length + p.length) ≤ 1099511627776)) ((some (((n ++ o) ++ (Array.toList (ByteArray.data { data := #[(32 : UInt8)] }))) ++ p)).bind fun q => some q))))))
def spec_EntryText_e : FEnt := ⟨24, [.tmp 2], [], [(.agg, cc2)], ⟨26, [⟨2, .one, [.dat .str]⟩]⟩, spec_EntryText⟩
theorem spec_EntryText_ok : FnOk Tryz.prog 18 spec_EntryText_e := fnOk_mk (tb := []) (c := (Tryz.f18.body).getD .skip) mixed Tryz.func18 (bC spec_EntryOk_ok (bC spec_Digits_ok (bC spec_SetText_ok (bC spec_SketchText_ok bN)))) (by kernel_rfl) (by kernel_rfl) (by kernel_rfl) trivial (by intro d; kernel_rfl)


/-! spec.HouseText -/
def spec_HouseText_s122 : t61 → Option (t61 ⊕ t58 × List UInt8)
  | ((a, b, c, d, e, f, g, h, i, j, k, l, m, n, o, p), q, r) => bif decide (r < 3) then ix r k.length ((some (gx k r (0, 0, [], 0, 0))).bind fun (s, t, u, v, w) => chk (decide ((q.length + 1) ≤ 1099511627776)) ((spec_Digits s).bind fun x => chk (decide (((q ++ (Array.toList (ByteArray.data { data := #[(32 : UInt8)] }))).length + x.length) ≤ 1099511627776)) (chk (decide ((((q ++ (Array.toList (ByteArray.data { data := #[(32 : UInt8)] }))) ++ x).length + 1) ≤ 1099511627776)) ((some (((q ++ (Array.toList (ByteArray.data { data := #[(32 : UInt8)] }))) ++ x) ++ (Array.toList (ByteArray.data { data := #[(46 : UInt8)] })))).bind fun y => (spec_Digits t).bind fun z => chk (decide ((y.length + z.length) ≤ 1099511627776)) (chk (decide (((y ++ z).length + 1) ≤ 1099511627776)) ((spec_Digits v).bind fun a1 => chk (decide ((((y ++ z) ++ (Array.toList (ByteArray.data { data := #[(46 : UInt8)] }))).length + a1.length) ≤ 1099511627776)) ((some (((y ++ z) ++ (Array.toList (ByteArray.data { data := #[(46 : UInt8)] }))) ++ a1)).bind fun b1 => chk (decide ((b1.length + 1) ≤ 1099511627776)) ((spec_SetText u).bind fun c1 => chk (decide (((b1 ++ (Array.toList (ByteArray.data { data := #[(58 : UInt8)] }))).length + c1.length) ≤ 1099511627776)) (some (.inl ((a, b, c, d, e, f, g, h, i, j, k, l, m, n, o, p), (b1 ++ (Array.toList (ByteArray.data { data := #[(58 : UInt8)] }))) ++ c1, w64 (r + 1)))))))))))) else some (.inr ((a, b, c, d, e, f, g, h, i, j, k, l, m, n, o, p), q))
def spec_HouseText_n122 : NEnt := ⟨⟨69, [⟨1, .box, cc0⟩, ⟨3, .one, [.dat .str]⟩, ⟨4, .one, [.dat kI]⟩]⟩, [(.exit 0, ⟨69, [⟨1, .box, cc0⟩, ⟨3, .one, [.dat .str]⟩]⟩)], lp spec_HouseText_s122⟩
def spec_HouseText_s1018 : t61 → Option (t61 ⊕ List UInt8)
  | ((a, b, c, d, e, f, g, h, i, j, k, l, m, n, o, p), q, r) => (some (decide (r < (ln o)))).bind fun s => bif s then ix r o.length ((some (gx o r (0, 0, [], 0, 0, 0, 0, [], [], []))).bind fun (t, u, v, w, x, y, z, a1, b1, c1) => (spec_EntryText (t, u, v, w, x, y, z, a1, b1, c1)).bind fun d1 => chk (decide ((q.length + d1.length) ≤ 1099511627776)) (chk (decide (((q ++ d1).length + 1) ≤ 1099511627776)) (some (.inl ((a, b, c, d, e, f, g, h, i, j, k, l, m, n, o, p), (q ++ d1) ++ (Array.toList (ByteArray.data { data := #[(10 : UInt8)] })), w64 (r + 1)))))) else some (.inr q)
def spec_HouseText_n1018 : NEnt := ⟨⟨69, [⟨1, .box, cc0⟩, ⟨3, .one, [.dat .str]⟩, ⟨6, .one, [.dat kI]⟩]⟩, [(.exit 2, ⟨69, [⟨3, .one, [.dat .str]⟩]⟩)], lp spec_HouseText_s1018⟩
def spec_HouseText_l63 : t58 × List UInt8 → Option (List UInt8)
  | ((a, b, c, d, e, f, g, h, i, j, k, l, m, n, o, p), q) => chk (decide ((q.length + 1) ≤ 1099511627776)) ((lp spec_HouseText_s1018 ((a, b, c, d, e, f, g, h, i, j, k, l, m, n, o, p), q ++ (Array.toList (ByteArray.data { data := #[(10 : UInt8)] })), 0)).bind fun r => some r)
def spec_HouseText_n63 : NEnt := ⟨⟨69, [⟨1, .box, cc0⟩, ⟨3, .one, [.dat .str]⟩]⟩, [(.ret, ⟨69, [⟨2, .one, [.dat .str]⟩]⟩)], spec_HouseText_l63⟩
def spec_HouseText : t58 → Option (List UInt8)
  | (a, b, c, d, e, f, g, h, i, j, k, l, m, n, o, p) => (spec_HouseOk (a, b, c, d, e, f, g, h, i, j, k, l, m, n, o, p)).bind fun q => bif !q then some (Array.toList (ByteArray.data { data := #[] })) else (spec_Digits i).bind fun r => chk (decide ((1 + r.length) ≤ 1099511627776)) ((lp spec_HouseText_s122 ((a, b, c, d, e, f, g, h, i, j, k, l, m, n, o, p), (Array.toList (ByteArray.data { data := #[(116 : UInt8)] })) ++ r, 0)).bind fun ((s, t, u, v, w, x, y, z, a1, b1, c1, d1, e1, f1, g1, h1), i1) => bif b1 then chk (decide ((i1.length + 7) ≤ 1099511627776)) ((some (i1 ++ (Array.toList (ByteArray.data { data := #[(32 : UInt8), (99 : UInt8), (108 : UInt8), (111 : UInt8), (115 : UInt8), (101 : UInt8), (100 : UInt8)] })))).bind fun j1 => (spec_HouseText_l63 ((s, t, u, v, w, x, y, z, a1, b1, c1, d1, e1, f1, g1, h1), j1)).bind fun k1 => some k1) else (spec_HouseText_l63 ((s, t, u, v, w, x, y, z, a1, b1, c1, d1, e1, f1, g1, h1), i1)).bind fun j1 => some j1)
def spec_HouseText_e : FEnt := ⟨67, [.tmp 2], [], [(.agg, cc0)], ⟨69, [⟨2, .one, [.dat .str]⟩]⟩, spec_HouseText⟩
theorem spec_HouseText_ok : FnOk Tryz.prog 5 spec_HouseText_e := fnOk_mk (tb := [(1018, spec_HouseText_n1018), (63, spec_HouseText_n63), (122, spec_HouseText_n122)]) (c := (Tryz.f5.body).getD .skip) mixed Tryz.func5 (bC spec_HouseOk_ok (bC spec_Digits_ok (bC spec_SetText_ok (bC spec_EntryText_ok bN)))) (by kernel_rfl) (by kernel_rfl) (by kernel_rfl) ⟨nodeLoop (by kernel_rfl) spec_HouseText_s1018 (by kernel_rfl) (by intro d; kernel_rfl), nodeJoin (by kernel_rfl) (by intro d; kernel_rfl), nodeLoop (by kernel_rfl) spec_HouseText_s122 (by kernel_rfl) (by intro d; kernel_rfl), trivial⟩ (by intro d; kernel_rfl)


/-! impl.within -/
def impl_within : Int × Int × Int → Option Bool
  | (a, b, c) => bif decide (a ≥ b) then some (decide (a ≤ c)) else some false
def impl_within_e : FEnt := ⟨15, [.tmp 6], [], [(.one, [.dat kI]), (.one, [.dat kI]), (.one, [.dat kI])], ⟨21, [⟨6, .one, [.dat .bool]⟩]⟩, impl_within⟩
theorem impl_within_ok : FnOk Tryz.prog 100 impl_within_e := fnOk_mk (tb := []) (c := (Tryz.f100.body).getD .skip) mixed Tryz.func100 bN (by kernel_rfl) (by kernel_rfl) (by kernel_rfl) trivial (by intro d; kernel_rfl)


/-! impl.allWithin -/
def impl_allWithin_s26 : List Int × Int × Int × t3 → Option (List Int × Int × Int × t3 ⊕ Bool ⊕ List Int × Int)
  | (a, b, c, d, e, f, g) => bif decide (g < f) then ix g e.length ((impl_within (gx e g 0, c, d)).bind fun h => bif !h then some (.inr (.inl false)) else some (.inl (a, b, c, d, e, f, w64 (g + 1)))) else some (.inr (.inr (a, b)))
def impl_allWithin_n26 : NEnt := ⟨⟨35, [⟨0, .one, [.dat (.list kI)]⟩, ⟨1, .one, [.dat kI]⟩, ⟨2, .one, [.dat kI]⟩, ⟨3, .one, [.dat kI]⟩, ⟨11, .one, [.dat (.list kI)]⟩, ⟨12, .one, [.dat kI]⟩, ⟨13, .one, [.dat kI]⟩]⟩, [(.ret, ⟨35, [⟨8, .one, [.dat .bool]⟩]⟩), (.exit 0, ⟨35, [⟨0, .one, [.dat (.list kI)]⟩, ⟨1, .one, [.dat kI]⟩]⟩)], lp impl_allWithin_s26⟩
def impl_allWithin : List Int × Int × Int × Int → Option Bool
  | (a, b, c, d) => bx (lp impl_allWithin_s26 (a, b, c, d, a, ln a, 0)) (fun e => some e) fun (e, f) => some ((ln e) == f)
def impl_allWithin_e : FEnt := ⟨27, [.tmp 8], [], [(.one, [.dat (.list kI)]), (.one, [.dat kI]), (.one, [.dat kI]), (.one, [.dat kI])], ⟨35, [⟨8, .one, [.dat .bool]⟩]⟩, impl_allWithin⟩
theorem impl_allWithin_ok : FnOk Tryz.prog 130 impl_allWithin_e := fnOk_mk (tb := [(26, impl_allWithin_n26)]) (c := (Tryz.f130.body).getD .skip) mixed Tryz.func130 (bC impl_within_ok bN) (by kernel_rfl) (by kernel_rfl) (by kernel_rfl) ⟨nodeLoop (by kernel_rfl) impl_allWithin_s26 (by kernel_rfl) (by intro d; kernel_rfl), trivial⟩ (by intro d; kernel_rfl)


/-! impl.ConfOk -/
def impl_ConfOk : t20 → Option Bool
  | (a, b, c, d, e, f, g, h) => (impl_within (a, 1, 8)).bind fun i => bif i then (impl_within (b, 1, 60)).bind fun j => bif j then (impl_within (c, 1, 10)).bind fun k => bif k then (impl_allWithin (d, 3, 1, 4)).bind fun l => bif l then (impl_within (e, 1, 100)).bind fun m => bif m then (impl_within (f, 1, 20)).bind fun n => bif n then (impl_within (g, 0, 20)).bind fun o => bif o then (impl_within (h, 1, 50)).bind fun p => some p else some false else some false else some false else some false else some false else some false else some false
def impl_ConfOk_e : FEnt := ⟨41, [.tmp 2], [], [(.agg, cc4)], ⟨43, [⟨2, .one, [.dat .bool]⟩]⟩, impl_ConfOk⟩
theorem impl_ConfOk_ok : FnOk Tryz.prog 99 impl_ConfOk_e := fnOk_mk (tb := []) (c := (Tryz.f99.body).getD .skip) mixed Tryz.func99 (bC impl_within_ok (bC impl_allWithin_ok bN)) (by kernel_rfl) (by kernel_rfl) (by kernel_rfl) trivial (by intro d; kernel_rfl)


/-! impl.SetOk -/
def impl_SetOk_s26 : t18 → Option (t18 ⊕ Bool ⊕ Unit)
  | (a, b, c, d) => bif decide (d < c) then ix d b.length ((some (gx b d (0, 0))).bind fun (e, f) => (impl_within (e, 0, 9999)).bind fun g => bif !g then some (.inr (.inl false)) else (impl_within (f, e, 9999)).bind fun h => bif !h then some (.inr (.inl false)) else bif decide (d > 0) then ix (w64 (d - 1)) a.length ((some (gx a (w64 (d - 1)) (0, 0))).bind fun (i, j) => bif decide (e ≤ (w64 (j + 1))) then some (.inr (.inl false)) else some (.inl (a, b, c, w64 (d + 1)))) else some (.inl (a, b, c, w64 (d + 1)))) else some (.inr (.inr ()))
def impl_SetOk_n26 : NEnt := ⟨⟨43, [⟨0, .one, [.dat kk10]⟩, ⟨5, .one, [.dat kk10]⟩, ⟨6, .one, [.dat kI]⟩, ⟨7, .one, [.dat kI]⟩]⟩, [(.ret, ⟨43, [⟨2, .one, [.dat .bool]⟩]⟩), (.exit 0, ⟨43, []⟩)], lp impl_SetOk_s26⟩
def impl_SetOk : List (Int × Int) → Option Bool
  | a => bx (lp impl_SetOk_s26 (a, a, ln a, 0)) (fun b => some b) fun _ => some true
def impl_SetOk_e : FEnt := ⟨41, [.tmp 2], [], [(.one, [.dat kk10])], ⟨43, [⟨2, .one, [.dat .bool]⟩]⟩, impl_SetOk⟩
theorem impl_SetOk_ok : FnOk Tryz.prog 118 impl_SetOk_e := fnOk_mk (tb := [(26, impl_SetOk_n26)]) (c := (Tryz.f118.body).getD .skip) mixed Tryz.func118 (bC impl_within_ok bN) (by kernel_rfl) (by kernel_rfl) (by kernel_rfl) ⟨nodeLoop (by kernel_rfl) impl_SetOk_s26 (by kernel_rfl) (by intro d; kernel_rfl), trivial⟩ (by intro d; kernel_rfl)


/-! impl.allIn -/
def impl_allIn : t5 → Option Bool
  | (a, b, c) => (impl_SetOk a).bind fun d => bif d then bif (ln a) == 0 then some true else chk (decide (0 < a.length)) ((some (List.getD a 0 (0, 0))).bind fun (e, f) => bif decide (e ≥ b) then ix (w64 ((ln a) - 1)) a.length ((some (gx a (w64 ((ln a) - 1)) (0, 0))).bind fun (g, h) => some (decide (h ≤ c))) else some false) else some false
def impl_allIn_e : FEnt := ⟨33, [.tmp 6], [], [(.one, [.dat kk10]), (.one, [.dat kI]), (.one, [.dat kI])], ⟨39, [⟨6, .one, [.dat .bool]⟩]⟩, impl_allIn⟩
theorem impl_allIn_ok : FnOk Tryz.prog 103 impl_allIn_e := fnOk_mk (tb := []) (c := (Tryz.f103.body).getD .skip) mixed Tryz.func103 (bC impl_SetOk_ok bN) (by kernel_rfl) (by kernel_rfl) (by kernel_rfl) trivial (by intro d; kernel_rfl)


/-! impl.SetSize -/
def impl_SetSize_s122 : t7 → Option (t7 ⊕ Int)
  | (a, b, c, d) => bif decide (d < c) then ix d b.length ((some (gx b d (0, 0))).bind fun (e, f) => some (.inl (w64 (a + (w64 ((w64 (f - e)) + 1))), b, c, w64 (d + 1)))) else some (.inr a)
def impl_SetSize_n122 : NEnt := ⟨⟨27, [⟨3, .one, [.dat kI]⟩, ⟨9, .one, [.dat kk10]⟩, ⟨10, .one, [.dat kI]⟩, ⟨11, .one, [.dat kI]⟩]⟩, [(.exit 0, ⟨27, [⟨3, .one, [.dat kI]⟩]⟩)], lp impl_SetSize_s122⟩
def impl_SetSize : List (Int × Int) → Option Int
  | a => (impl_SetOk a).bind fun b => bif !b then some 0 else (lp impl_SetSize_s122 (0, a, ln a, 0)).bind fun c => some c
def impl_SetSize_e : FEnt := ⟨25, [.tmp 2], [], [(.one, [.dat kk10])], ⟨27, [⟨2, .one, [.dat kI]⟩]⟩, impl_SetSize⟩
theorem impl_SetSize_ok : FnOk Tryz.prog 131 impl_SetSize_e := fnOk_mk (tb := [(122, impl_SetSize_n122)]) (c := (Tryz.f131.body).getD .skip) mixed Tryz.func131 (bC impl_SetOk_ok bN) (by kernel_rfl) (by kernel_rfl) (by kernel_rfl) ⟨nodeLoop (by kernel_rfl) impl_SetSize_s122 (by kernel_rfl) (by intro d; kernel_rfl), trivial⟩ (by intro d; kernel_rfl)


/-! impl.SeatOk -/
def impl_SeatOk : t13 × Int → Option Bool
  | ((a, b, c, d, e), f) => (impl_within (f, 1, 8)).bind fun g => bif g then (impl_within (a, 0, 1000)).bind fun h => bif h then (impl_within (b, 0, 60)).bind fun i => bif i then (impl_allIn (c, 1, b)).bind fun j => bif j then (impl_SetSize c).bind fun k => (impl_within (d, 0, k)).bind fun l => bif l then bif decide (b ≤ (w64 (d + f))) then (impl_within (e, 0, 1000000)).bind fun m => some m else some false else some false else some false else some false else some false else some false
def impl_SeatOk_e : FEnt := ⟨46, [.tmp 4], [], [(.agg, cc5), (.one, [.dat kI])], ⟨50, [⟨4, .one, [.dat .bool]⟩]⟩, impl_SeatOk⟩
theorem impl_SeatOk_ok : FnOk Tryz.prog 101 impl_SeatOk_e := fnOk_mk (tb := []) (c := (Tryz.f101.body).getD .skip) mixed Tryz.func101 (bC impl_within_ok (bC impl_allIn_ok (bC impl_SetSize_ok bN))) (by kernel_rfl) (by kernel_rfl) (by kernel_rfl) trivial (by intro d; kernel_rfl)


/-! impl.copyInts -/
def impl_copyInts : List Int → Option (List Int)
  | a => chk (fits a.length 8) (some a)
def impl_copyInts_e : FEnt := ⟨5, [.tmp 2], [], [(.one, [.dat (.list kI)])], ⟨7, [⟨2, .one, [.own true kI]⟩]⟩, impl_copyInts⟩
theorem impl_copyInts_ok : FnOk Tryz.prog 158 impl_copyInts_e := fnOk_mk (tb := []) (c := (Tryz.f158.body).getD .skip) mixed Tryz.func158 bN (by kernel_rfl) (by kernel_rfl) (by kernel_rfl) trivial (by intro d; kernel_rfl)


/-! impl.counts -/
def impl_counts_s58 : List Int × t4 → Option (List Int × t4 ⊕ List Int)
  | (a, b, c, d) => bif decide (d < c) then ix d b.length (chk (fits (a.length + (gx b d []).length) 8) (some (.inl (a ++ (gx b d []), b, c, w64 (d + 1))))) else some (.inr a)
def impl_counts_n58 : NEnt := ⟨⟨26, [⟨3, .one, [.own true kI]⟩, ⟨13, .one, [.dat kk11]⟩, ⟨14, .one, [.dat kI]⟩, ⟨15, .one, [.dat kI]⟩]⟩, [(.exit 0, ⟨26, [⟨3, .one, [.own true kI]⟩]⟩)], lp impl_counts_s58⟩
def impl_counts : t24 → Option (List Int)
  | (a, b, c, d, e, f, g) => (impl_copyInts e).bind fun h => chk (fits (h.length + f.length) 8) ((lp impl_counts_s58 (h ++ f, g, ln g, 0)).bind fun i => some i)
def impl_counts_e : FEnt := ⟨24, [.tmp 2], [], [(.agg, cc3)], ⟨26, [⟨2, .one, [.own true kI]⟩]⟩, impl_counts⟩
theorem impl_counts_ok : FnOk Tryz.prog 139 impl_counts_e := fnOk_mk (tb := [(58, impl_counts_n58)]) (c := (Tryz.f139.body).getD .skip) mixed Tryz.func139 (bC impl_copyInts_ok bN) (by kernel_rfl) (by kernel_rfl) (by kernel_rfl) ⟨nodeLoop (by kernel_rfl) impl_counts_s58 (by kernel_rfl) (by intro d; kernel_rfl), trivial⟩ (by intro d; kernel_rfl)


/-! impl.SketchOk -/
def impl_SketchOk_s122 : t24 × t3 → Option (t24 × t3 ⊕ Bool ⊕ t24 × Int)
  | ((a, b, c, d, e, f, g), h, i, j, k) => bif decide (k < j) then ix k i.length (lx k i.length ((impl_within (gx i k 0, 0, 1000000000)).bind fun l => bif !l then some (.inr (.inl false)) else some (.inl ((a, b, c, d, e, f, g), w64 (h + (gx i k 0)), i, j, w64 (k + 1))))) else some (.inr (.inr ((a, b, c, d, e, f, g), h)))
def impl_SketchOk_n122 : NEnt := ⟨⟨91, [⟨1, .box, cc3⟩, ⟨3, .one, [.dat kI]⟩, ⟨51, .one, [.own true kI]⟩, ⟨52, .one, [.dat kI]⟩, ⟨53, .one, [.dat kI]⟩]⟩, [(.ret, ⟨91, [⟨2, .one, [.dat .bool]⟩]⟩), (.exit 0, ⟨91, [⟨1, .box, cc3⟩, ⟨3, .one, [.dat kI]⟩]⟩)], lp impl_SketchOk_s122⟩
def impl_SketchOk_s250 : t24 × t3 → Option (t24 × t3 ⊕ Bool ⊕ t24 × Int)
  | ((a, b, c, d, e, f, g), h, i, j, k) => bif decide (k < j) then ix k i.length (bif decide ((gx i k 0) > 17) then some (.inr (.inl false)) else some (.inl ((a, b, c, d, e, f, g), h, i, j, w64 (k + 1)))) else some (.inr (.inr ((a, b, c, d, e, f, g), h)))
def impl_SketchOk_n250 : NEnt := ⟨⟨91, [⟨1, .box, cc3⟩, ⟨3, .one, [.dat kI]⟩, ⟨65, .one, [.dat (.list kI)]⟩, ⟨66, .one, [.dat kI]⟩, ⟨67, .one, [.dat kI]⟩]⟩, [(.ret, ⟨91, [⟨2, .one, [.dat .bool]⟩]⟩), (.exit 2, ⟨91, [⟨1, .box, cc3⟩, ⟨3, .one, [.dat kI]⟩]⟩)], lp impl_SketchOk_s250⟩
def impl_SketchOk : t24 → Option Bool
  | (a, b, c, d, e, f, g) => bif (ln e) != 8 then some false else bif (ln f) != 8 then some false else bif (ln g) != 2 then some false else chk (decide (0 < g.length)) (bif (ln (List.getD g 0 [])) != 4 then some false else chk (decide (1 < g.length)) (bif (ln (List.getD g 1 [])) != 4 then some false else (impl_counts (a, b, c, d, e, f, g)).bind fun h => chk (fits (h.length + [a, b, c, d].length) 8) (bx (lp impl_SketchOk_s122 ((a, b, c, d, e, f, g), 0, h ++ [a, b, c, d], ln (h ++ [a, b, c, d]), 0)) (fun i => some i) fun ((i, j, k, l, m, n, o), p) => bx (lp impl_SketchOk_s250 ((i, j, k, l, m, n, o), p, n, ln n, 0)) (fun q => some q) fun ((q, r, s, t, u, v, w), x) => bif q == 0 then some (x == 0) else bif decide (s ≤ t) then some (decide (t ≤ 1000000)) else some false)))
def impl_SketchOk_e : FEnt := ⟨89, [.tmp 2], [], [(.agg, cc3)], ⟨91, [⟨2, .one, [.dat .bool]⟩]⟩, impl_SketchOk⟩
theorem impl_SketchOk_ok : FnOk Tryz.prog 119 impl_SketchOk_e := fnOk_mk (tb := [(250, impl_SketchOk_n250), (122, impl_SketchOk_n122)]) (c := (Tryz.f119.body).getD .skip) mixed Tryz.func119 (bC impl_counts_ok (bC impl_within_ok bN)) (by kernel_rfl) (by kernel_rfl) (by kernel_rfl) ⟨nodeLoop (by kernel_rfl) impl_SketchOk_s250 (by kernel_rfl) (by intro d; kernel_rfl), nodeLoop (by kernel_rfl) impl_SketchOk_s122 (by kernel_rfl) (by intro d; kernel_rfl), trivial⟩ (by intro d; kernel_rfl)


/-! impl.EntryOk -/
def impl_EntryOk : t28 → Option Bool
  | (a, b, c, d, e, f, g, h, i, j) => (impl_within (a, 0, 4)).bind fun k => bif k then (impl_within (b, 0, 20)).bind fun l => bif l then (impl_SetOk c).bind fun m => bif m then bif decide ((ln c) > 0) then (impl_SketchOk (d, e, f, g, h, i, j)).bind fun n => some n else some false else some false else some false else some false
def impl_EntryOk_e : FEnt := ⟨27, [.tmp 2], [], [(.agg, cc2)], ⟨29, [⟨2, .one, [.dat .bool]⟩]⟩, impl_EntryOk⟩
theorem impl_EntryOk_ok : FnOk Tryz.prog 70 impl_EntryOk_e := fnOk_mk (tb := []) (c := (Tryz.f70.body).getD .skip) mixed Tryz.func70 (bC impl_within_ok (bC impl_SetOk_ok (bC impl_SketchOk_ok bN))) (by kernel_rfl) (by kernel_rfl) (by kernel_rfl) trivial (by intro d; kernel_rfl)


/-! impl.SetApart -/
def impl_SetApart_s14950 : List (Int × Int) × (Int × Int) × List (Int × Int) × t13 → Option (List (Int × Int) × (Int × Int) × List (Int × Int) × t13 ⊕ Bool ⊕ t18)
  | (a, (b, c), d, e, f, g, h, i) => bif decide (i < h) then ix i g.length ((some (gx g i (0, 0))).bind fun (j, k) => bif decide (b ≤ k) then bif decide (j ≤ c) then some (.inr (.inl false)) else some (.inl (a, (b, c), d, e, f, g, h, w64 (i + 1))) else some (.inl (a, (b, c), d, e, f, g, h, w64 (i + 1)))) else some (.inr (.inr (a, d, e, f)))
def impl_SetApart_n14950 : NEnt := ⟨⟨47, [⟨1, .one, [.dat kk10]⟩, ⟨6, .box, cc10⟩, ⟨17, .one, [.dat kk10]⟩, ⟨18, .one, [.dat kI]⟩, ⟨19, .one, [.dat kI]⟩, ⟨23, .one, [.dat kk10]⟩, ⟨24, .one, [.dat kI]⟩, ⟨25, .one, [.dat kI]⟩]⟩, [(.ret, ⟨47, [⟨4, .one, [.dat .bool]⟩]⟩), (.exit 2, ⟨47, [⟨1, .one, [.dat kk10]⟩, ⟨17, .one, [.dat kk10]⟩, ⟨18, .one, [.dat kI]⟩, ⟨19, .one, [.dat kI]⟩]⟩)], lp impl_SetApart_s14950⟩
def impl_SetApart_s58 : t18 → Option (t18 ⊕ Bool ⊕ Unit)
  | (a, b, c, d) => bif decide (d < c) then ix d b.length ((some (gx b d (0, 0))).bind fun (e, f) => bx (lp impl_SetApart_s14950 (a, (e, f), b, c, d, a, ln a, 0)) (fun g => some (.inr (.inl g))) fun (g, h, i, j) => some (.inl (g, h, i, w64 (j + 1)))) else some (.inr (.inr ()))
def impl_SetApart_n58 : NEnt := ⟨⟨47, [⟨1, .one, [.dat kk10]⟩, ⟨17, .one, [.dat kk10]⟩, ⟨18, .one, [.dat kI]⟩, ⟨19, .one, [.dat kI]⟩]⟩, [(.ret, ⟨47, [⟨4, .one, [.dat .bool]⟩]⟩), (.exit 0, ⟨47, []⟩)], lp impl_SetApart_s58⟩
def impl_SetApart : t9 → Option Bool
  | (a, b) => (impl_SetOk a).bind fun c => bif !c then some false else (impl_SetOk b).bind fun d => bif !d then some false else bx (lp impl_SetApart_s58 (b, a, ln a, 0)) (fun e => some e) fun _ => some true
def impl_SetApart_e : FEnt := ⟨43, [.tmp 4], [], [(.one, [.dat kk10]), (.one, [.dat kk10])], ⟨47, [⟨4, .one, [.dat .bool]⟩]⟩, impl_SetApart⟩
theorem impl_SetApart_ok : FnOk Tryz.prog 107 impl_SetApart_e := fnOk_mk (tb := [(14950, impl_SetApart_n14950), (58, impl_SetApart_n58)]) (c := (Tryz.f107.body).getD .skip) mixed Tryz.func107 (bC impl_SetOk_ok bN) (by kernel_rfl) (by kernel_rfl) (by kernel_rfl) ⟨nodeLoop (by kernel_rfl) impl_SetApart_s14950 (by kernel_rfl) (by intro d; kernel_rfl), nodeLoop (by kernel_rfl) impl_SetApart_s58 (by kernel_rfl) (by intro d; kernel_rfl), trivial⟩ (by intro d; kernel_rfl)


/-! impl.apart -/
def impl_apart_s13518 : List t28 × t28 × List t28 × Int × Int × t32 → Option (List t28 × t28 × List t28 × Int × Int × t32 ⊕ Bool ⊕ List t28 × t32)
  | (a, (b, c, d, e, f, g, h, i, j, k), l, m, n, o, p, q) => bif decide (q < p) then ix q o.length ((some (gx o q (0, 0, [], 0, 0, 0, 0, [], [], []))).bind fun (r, s, t, u, v, w, x, y, z, a1) => (impl_SetApart (d, t)).bind fun b1 => bif !b1 then some (.inr (.inl false)) else some (.inl (a, (b, c, d, e, f, g, h, i, j, k), l, m, n, o, p, w64 (q + 1)))) else some (.inr (.inr (a, l, m, n)))
def impl_apart_n13518 : NEnt := ⟨⟨35, [⟨0, .one, [.dat kk4]⟩, ⟨4, .box, cc2⟩, ⟨7, .one, [.dat kk4]⟩, ⟨8, .one, [.dat kI]⟩, ⟨9, .one, [.dat kI]⟩, ⟨19, .one, [.dat kk4]⟩, ⟨20, .one, [.dat kI]⟩, ⟨21, .one, [.dat kI]⟩]⟩, [(.ret, ⟨35, [⟨2, .one, [.dat .bool]⟩]⟩), (.exit 2, ⟨35, [⟨0, .one, [.dat kk4]⟩, ⟨7, .one, [.dat kk4]⟩, ⟨8, .one, [.dat kI]⟩, ⟨9, .one, [.dat kI]⟩]⟩)], lp impl_apart_s13518⟩
def impl_apart_s26 : List t28 × t32 → Option (List t28 × t32 ⊕ Bool ⊕ Unit)
  | (a, b, c, d) => bif decide (d < c) then ix d b.length ((some (gx b d (0, 0, [], 0, 0, 0, 0, [], [], []))).bind fun (e, f, g, h, i, j, k, l, m, n) => (impl_EntryOk (e, f, g, h, i, j, k, l, m, n)).bind fun o => bif !o then some (.inr (.inl false)) else g0 d (chk (decide ((0 ≤ d.toNat) ∧ (d.toNat ≤ a.length))) ((some (ln (List.take d.toNat a))).bind fun p => bx (lp impl_apart_s13518 (a, (e, f, g, h, i, j, k, l, m, n), b, c, d, List.take d.toNat a, p, 0)) (fun q => some (.inr (.inl q))) fun (q, r, s, t) => some (.inl (q, r, s, w64 (t + 1)))))) else some (.inr (.inr ()))
def impl_apart_n26 : NEnt := ⟨⟨35, [⟨0, .one, [.dat kk4]⟩, ⟨7, .one, [.dat kk4]⟩, ⟨8, .one, [.dat kI]⟩, ⟨9, .one, [.dat kI]⟩]⟩, [(.ret, ⟨35, [⟨2, .one, [.dat .bool]⟩]⟩), (.exit 0, ⟨35, []⟩)], lp impl_apart_s26⟩
def impl_apart : List t28 → Option Bool
  | a => bx (lp impl_apart_s26 (a, a, ln a, 0)) (fun b => some b) fun _ => some true
def impl_apart_e : FEnt := ⟨33, [.tmp 2], [], [(.one, [.dat kk4])], ⟨35, [⟨2, .one, [.dat .bool]⟩]⟩, impl_apart⟩
theorem impl_apart_ok : FnOk Tryz.prog 59 impl_apart_e := fnOk_mk (tb := [(13518, impl_apart_n13518), (26, impl_apart_n26)]) (c := (Tryz.f59.body).getD .skip) mixed Tryz.func59 (bC impl_EntryOk_ok (bC impl_SetApart_ok bN)) (by kernel_rfl) (by kernel_rfl) (by kernel_rfl) ⟨nodeLoop (by kernel_rfl) impl_apart_s13518 (by kernel_rfl) (by intro d; kernel_rfl), nodeLoop (by kernel_rfl) impl_apart_s26 (by kernel_rfl) (by intro d; kernel_rfl), trivial⟩ (by intro d; kernel_rfl)


/-! impl.RowOk -/
def impl_RowOk : List t28 → Option Bool
  | a => (some (decide ((ln a) ≤ 24))).bind fun b => bif b then (impl_apart a).bind fun c => some c else some false
def impl_RowOk_e : FEnt := ⟨12, [.tmp 2], [], [(.agg, [.dat kk4])], ⟨14, [⟨2, .one, [.dat .bool]⟩]⟩, impl_RowOk⟩
theorem impl_RowOk_ok : FnOk Tryz.prog 102 impl_RowOk_e := fnOk_mk (tb := []) (c := (Tryz.f102.body).getD .skip) mixed Tryz.func102 (bC impl_apart_ok bN) (by kernel_rfl) (by kernel_rfl) (by kernel_rfl) trivial (by intro d; kernel_rfl)


/-! impl.copySet -/
def impl_copySet : List (Int × Int) → Option (List (Int × Int))
  | a => chk (fits a.length 16) (some a)
def impl_copySet_e : FEnt := ⟨5, [.tmp 2], [], [(.one, [.dat kk10])], ⟨7, [⟨2, .one, cc7⟩]⟩, impl_copySet⟩
theorem impl_copySet_ok : FnOk Tryz.prog 110 impl_copySet_e := fnOk_mk (tb := []) (c := (Tryz.f110.body).getD .skip) mixed Tryz.func110 bN (by kernel_rfl) (by kernel_rfl) (by kernel_rfl) trivial (by intro d; kernel_rfl)


/-! impl.union -/
def impl_union_s250 : List (Int × Int) × List (Int × Int) × (Unit × Unit × Unit) × Int × Int → Option (List (Int × Int) × List (Int × Int) × (Unit × Unit × Unit) × Int × Int ⊕ List (Int × Int))
  | (a, b, (_, _, _), c, d) => bif decide (d < c) then ix d a.length (lx d a.length ((some (gx a d (0, 0))).bind fun (e, f) => bif decide ((ln b) > 0) then ix (w64 ((ln b) - 1)) b.length (lx (w64 ((ln b) - 1)) b.length ((some (gx b (w64 ((ln b) - 1)) (0, 0))).bind fun (g, h) => bif decide (e ≤ (w64 (h + 1))) then ix (w64 ((ln b) - 1)) b.length (lx (w64 ((ln b) - 1)) b.length ((some (gx b (w64 ((ln b) - 1)) (0, 0))).bind fun (i, j) => ix (w64 ((ln b) - 1)) b.length (lx (w64 ((ln b) - 1)) b.length ((some (sx b (w64 ((ln b) - 1)) ((gx b (w64 ((ln b) - 1)) (0, 0)).1, if f > j then f else j))).bind fun k => some (.inl (a, k, ((), (), ()), c, w64 (d + 1))))))) else chk (fits (b.length + [(e, f)].length) 16) (some (.inl (a, b ++ [(e, f)], ((), (), ()), c, w64 (d + 1)))))) else chk (fits (b.length + [(e, f)].length) 16) (some (.inl (a, b ++ [(e, f)], ((), (), ()), c, w64 (d + 1)))))) else some (.inr b)
def impl_union_n250 : NEnt := ⟨⟨56, [⟨3, .one, cc7⟩, ⟨4, .one, cc7⟩, ⟨12, .one, [.ref 3 0 [] false false (.pair kI kI)]⟩, ⟨13, .one, [.dat kI]⟩, ⟨14, .one, [.dat kI]⟩]⟩, [(.exit 0, ⟨56, [⟨4, .one, cc7⟩]⟩)], lp impl_union_s250⟩
def impl_union : List (Int × Int) → Option (List (Int × Int))
  | a => (impl_copySet a).bind fun b => (slices_SortFunc (b, ())).bind fun c => (lp impl_union_s250 (c, [], ((), (), ()), ln c, 0)).bind fun d => some d
def impl_union_e : FEnt := ⟨54, [.tmp 2], [], [(.one, [.dat kk10])], ⟨56, [⟨2, .one, cc7⟩]⟩, impl_union⟩
theorem impl_union_ok : FnOk Tryz.prog 66 impl_union_e := fnOk_mk (tb := [(250, impl_union_n250)]) (c := (Tryz.f66.body).getD .skip) mixed Tryz.func66 (bC impl_copySet_ok (bC slices_SortFunc_ok bN)) (by kernel_rfl) (by kernel_rfl) (by kernel_rfl) ⟨nodeLoop (by kernel_rfl) impl_union_s250 (by kernel_rfl) (by intro d; kernel_rfl), trivial⟩ (by intro d; kernel_rfl)


/-! impl.idsOf -/
def impl_idsOf_s58 : List (Int × Int) × t32 → Option (List (Int × Int) × t32 ⊕ List (Int × Int))
  | (a, b, c, d) => bif decide (d < c) then ix d b.length ((some (gx b d (0, 0, [], 0, 0, 0, 0, [], [], []))).bind fun (e, f, g, h, i, j, k, l, m, n) => chk (fits (a.length + g.length) 16) (some (.inl (a ++ g, b, c, w64 (d + 1))))) else some (.inr a)
def impl_idsOf_n58 : NEnt := ⟨⟨21, [⟨3, .one, cc7⟩, ⟨6, .one, [.dat kk4]⟩, ⟨7, .one, [.dat kI]⟩, ⟨8, .one, [.dat kI]⟩]⟩, [(.exit 0, ⟨21, [⟨3, .one, cc7⟩]⟩)], lp impl_idsOf_s58⟩
def impl_idsOf : List t28 → Option (List (Int × Int))
  | a => (lp impl_idsOf_s58 ([], a, ln a, 0)).bind fun b => (impl_union b).bind fun c => some c
def impl_idsOf_e : FEnt := ⟨19, [.tmp 2], [], [(.one, [.dat kk4])], ⟨21, [⟨2, .one, cc7⟩]⟩, impl_idsOf⟩
theorem impl_idsOf_ok : FnOk Tryz.prog 62 impl_idsOf_e := fnOk_mk (tb := [(58, impl_idsOf_n58)]) (c := (Tryz.f62.body).getD .skip) mixed Tryz.func62 (bC impl_union_ok bN) (by kernel_rfl) (by kernel_rfl) (by kernel_rfl) ⟨nodeLoop (by kernel_rfl) impl_idsOf_s58 (by kernel_rfl) (by intro d; kernel_rfl), trivial⟩ (by intro d; kernel_rfl)


/-! impl.RowIds -/
def impl_RowIds : List t28 → Option (List (Int × Int))
  | a => (impl_RowOk a).bind fun b => bif !b then some [] else (impl_idsOf a).bind fun c => some c
def impl_RowIds_e : FEnt := ⟨9, [.tmp 2], [], [(.agg, [.dat kk4])], ⟨11, [⟨2, .one, cc7⟩]⟩, impl_RowIds⟩
theorem impl_RowIds_ok : FnOk Tryz.prog 104 impl_RowIds_e := fnOk_mk (tb := []) (c := (Tryz.f104.body).getD .skip) mixed Tryz.func104 (bC impl_RowOk_ok (bC impl_idsOf_ok bN)) (by kernel_rfl) (by kernel_rfl) (by kernel_rfl) trivial (by intro d; kernel_rfl)


/-! impl.IdOf -/
def impl_IdOf : Int × Int → Option Int
  | (a, b) => (impl_within (a, 0, 2)).bind fun c => bif !c then some (-1) else (impl_within (b, 1, 60)).bind fun d => bif !d then some (-1) else some (w64 ((w64 (100 * a)) + b))
def impl_IdOf_e : FEnt := ⟨17, [.tmp 4], [], [(.one, [.dat kI]), (.one, [.dat kI])], ⟨21, [⟨4, .one, [.dat kI]⟩]⟩, impl_IdOf⟩
theorem impl_IdOf_ok : FnOk Tryz.prog 64 impl_IdOf_e := fnOk_mk (tb := []) (c := (Tryz.f64.body).getD .skip) mixed Tryz.func64 (bC impl_within_ok bN) (by kernel_rfl) (by kernel_rfl) (by kernel_rfl) trivial (by intro d; kernel_rfl)


/-! impl.TurnOk -/
def impl_TurnOk : Int × Bool × List Int → Option Bool
  | (a, b, c) => (impl_within (a, 0, 2)).bind fun d => bif d then (impl_allWithin (c, 3, 0, 1000)).bind fun e => some e else some false
def impl_TurnOk_e : FEnt := ⟨11, [.tmp 2], [], [(.agg, cc6)], ⟨13, [⟨2, .one, [.dat .bool]⟩]⟩, impl_TurnOk⟩
theorem impl_TurnOk_ok : FnOk Tryz.prog 105 impl_TurnOk_e := fnOk_mk (tb := []) (c := (Tryz.f105.body).getD .skip) mixed Tryz.func105 (bC impl_within_ok (bC impl_allWithin_ok bN)) (by kernel_rfl) (by kernel_rfl) (by kernel_rfl) trivial (by intro d; kernel_rfl)


/-! impl.ahead -/
def impl_ahead : t28 × t28 → Option Bool
  | ((a, b, c, d, e, f, g, h, i, j), k, l, m, n, o, p, q, r, s, t) => bif decide (a < k) then some true else bif a == k then some (decide (b < l)) else some false
def impl_ahead_e : FEnt := ⟨24, [.tmp 4], [], [(.agg, cc2), (.agg, cc2)], ⟨28, [⟨4, .one, [.dat .bool]⟩]⟩, impl_ahead⟩
theorem impl_ahead_ok : FnOk Tryz.prog 106 impl_ahead_e := fnOk_mk (tb := []) (c := (Tryz.f106.body).getD .skip) mixed Tryz.func106 bN (by kernel_rfl) (by kernel_rfl) (by kernel_rfl) trivial (by intro d; kernel_rfl)


/-! impl.partsOk -/
def impl_partsOk_s29902 : t58 × Int × List t13 × Int × Int × Unit × List (List (List t28)) × Int × t35 × List (List t28) × Int × Bool × t37 → Option (t58 × Int × List t13 × Int × Int × Unit × List (List (List t28)) × Int × t35 × List (List t28) × Int × Bool × t37 ⊕ Bool ⊕ t58 × List t13 × Int × Int × Unit × t46)
  | ((a, b, c, d, e, f, g, h, i, j, k, l, m, n, o, p), q, r, s, t, _, u, v, (w, _), x, y, z, a1, b1, c1) => bif decide (c1 < b1) then ix c1 a1.length ((some (gx a1 c1 [])).bind fun d1 => (impl_RowOk d1).bind fun e1 => bif !e1 then some (.inr (.inl false)) else (impl_RowIds d1).bind fun f1 => (impl_IdOf (q, 1)).bind fun g1 => (impl_IdOf (q, 60)).bind fun h1 => (impl_allIn (f1, g1, h1)).bind fun i1 => bif !i1 then some (.inr (.inl false)) else some (.inl ((a, b, c, d, e, f, g, h, i, j, k, l, m, n, o, p), q, r, s, t, (), u, v, (w, ()), x, y, z, a1, b1, w64 (c1 + 1)))) else some (.inr (.inr ((a, b, c, d, e, f, g, h, i, j, k, l, m, n, o, p), r, s, t, (), u, v, (w, ()), x, y, z)))
def impl_partsOk_n29902 : NEnt := ⟨⟨128, [⟨1, .box, cc0⟩, ⟨3, .one, [.dat kI]⟩, ⟨46, .one, [.dat kk6]⟩, ⟨47, .one, [.dat kI]⟩, ⟨48, .one, [.dat kI]⟩, ⟨60, .one, [.bptr 1 11]⟩, ⟨61, .one, [.dat kk0]⟩, ⟨62, .one, [.dat kI]⟩, ⟨63, .one, [.pim [kk2] 0]⟩, ⟨64, .one, [.dat kk2]⟩, ⟨65, .one, [.dat kI]⟩, ⟨66, .one, [.dat .bool]⟩, ⟨72, .one, [.dat kk2]⟩, ⟨73, .one, [.dat kI]⟩, ⟨74, .one, [.dat kI]⟩]⟩, [(.ret, ⟨128, [⟨2, .one, [.dat .bool]⟩]⟩), (.exit 2, ⟨128, [⟨1, .box, cc0⟩, ⟨46, .one, [.dat kk6]⟩, ⟨47, .one, [.dat kI]⟩, ⟨48, .one, [.dat kI]⟩, ⟨60, .one, [.bptr 1 11]⟩, ⟨61, .one, [.dat kk0]⟩, ⟨62, .one, [.dat kI]⟩, ⟨63, .one, [.pim [kk2] 0]⟩, ⟨64, .one, [.dat kk2]⟩, ⟨65, .one, [.dat kI]⟩, ⟨66, .one, [.dat .bool]⟩]⟩)], lp impl_partsOk_s29902⟩
def impl_partsOk_s58 : t58 × t23 → Option (t58 × t23 ⊕ Bool ⊕ t58)
  | ((a, b, c, d, e, f, g, h, i, j, k, l, m, n, o, p), q, r, s) => bif decide (s < r) then ix s q.length ((some (gx q s (0, 0, [], 0, 0))).bind fun (t, u, v, w, x) => (impl_SeatOk ((t, u, v, w, x), a)).bind fun y => bif !y then some (.inr (.inl false)) else ix s l.length ((some (gx l s [])).bind fun z => bif (ln z) != 2 then some (.inr (.inl false)) else ix s l.length ((some (gx l s [])).bind fun a1 => bx (lp impl_partsOk_s29902 ((a, b, c, d, e, f, g, h, i, j, k, l, m, n, o, p), s, q, r, s, (), l, s, (gx l s [], ()), z, ln z, (ln z) != 2, a1, ln a1, 0)) (fun b1 => some (.inr (.inl b1))) fun ((b1, c1, d1, e1, f1, g1, h1, i1, j1, k1, l1, m1, n1, o1, p1, q1), r1, s1, t1, _, u1, v1, (w1, _), x1, y1, z1) => some (.inl ((b1, c1, d1, e1, f1, g1, h1, i1, j1, k1, l1, m1, n1, o1, p1, q1), r1, s1, w64 (t1 + 1)))))) else some (.inr (.inr (a, b, c, d, e, f, g, h, i, j, k, l, m, n, o, p)))
def impl_partsOk_n58 : NEnt := ⟨⟨128, [⟨1, .box, cc0⟩, ⟨46, .one, [.dat kk6]⟩, ⟨47, .one, [.dat kI]⟩, ⟨48, .one, [.dat kI]⟩]⟩, [(.ret, ⟨128, [⟨2, .one, [.dat .bool]⟩]⟩), (.exit 0, ⟨128, [⟨1, .box, cc0⟩]⟩)], lp impl_partsOk_s58⟩
def impl_partsOk_s122 : t58 × t14 → Option (t58 × t14 ⊕ Bool ⊕ t58)
  | ((a, b, c, d, e, f, g, h, i, j, k, l, m, n, o, p), q, r, s) => bif decide (s < r) then ix s q.length ((some (gx q s (0, false, []))).bind fun (t, u, v) => (impl_TurnOk (t, u, v)).bind fun w => bif !w then some (.inr (.inl false)) else some (.inl ((a, b, c, d, e, f, g, h, i, j, k, l, m, n, o, p), q, r, w64 (s + 1)))) else some (.inr (.inr (a, b, c, d, e, f, g, h, i, j, k, l, m, n, o, p)))
def impl_partsOk_n122 : NEnt := ⟨⟨128, [⟨1, .box, cc0⟩, ⟨94, .one, [.dat kk8]⟩, ⟨95, .one, [.dat kI]⟩, ⟨96, .one, [.dat kI]⟩]⟩, [(.ret, ⟨128, [⟨2, .one, [.dat .bool]⟩]⟩), (.exit 4, ⟨128, [⟨1, .box, cc0⟩]⟩)], lp impl_partsOk_s122⟩
def impl_partsOk_s250 : t58 × t32 → Option (t58 × t32 ⊕ Bool ⊕ Unit)
  | ((a, b, c, d, e, f, g, h, i, j, k, l, m, n, o, p), q, r, s) => bif decide (s < r) then ix s q.length ((some (gx q s (0, 0, [], 0, 0, 0, 0, [], [], []))).bind fun (t, u, v, w, x, y, z, a1, b1, c1) => bif decide (s > 0) then ix (w64 (s - 1)) o.length ((some (gx o (w64 (s - 1)) (0, 0, [], 0, 0, 0, 0, [], [], []))).bind fun (d1, e1, f1, g1, h1, i1, j1, k1, l1, m1) => (impl_ahead ((d1, e1, f1, g1, h1, i1, j1, k1, l1, m1), t, u, v, w, x, y, z, a1, b1, c1)).bind fun n1 => bif !n1 then some (.inr (.inl false)) else some (.inl ((a, b, c, d, e, f, g, h, i, j, k, l, m, n, o, p), q, r, w64 (s + 1)))) else some (.inl ((a, b, c, d, e, f, g, h, i, j, k, l, m, n, o, p), q, r, w64 (s + 1)))) else some (.inr (.inr ()))
def impl_partsOk_n250 : NEnt := ⟨⟨128, [⟨1, .box, cc0⟩, ⟨105, .one, [.dat kk4]⟩, ⟨106, .one, [.dat kI]⟩, ⟨107, .one, [.dat kI]⟩]⟩, [(.ret, ⟨128, [⟨2, .one, [.dat .bool]⟩]⟩), (.exit 6, ⟨128, []⟩)], lp impl_partsOk_s250⟩
def impl_partsOk : t58 → Option Bool
  | (a, b, c, d, e, f, g, h, i, j, k, l, m, n, o, p) => (impl_ConfOk (a, b, c, d, e, f, g, h)).bind fun q => bif !q then some false else (impl_within (i, 0, 100000)).bind fun r => bif !r then some false else bif (ln k) != 3 then some false else bif (ln l) != 3 then some false else bif (ln m) != 2 then some false else (impl_within (n, 0, 1000)).bind fun s => bif !s then some false else bx (lp impl_partsOk_s58 ((a, b, c, d, e, f, g, h, i, j, k, l, m, n, o, p), k, ln k, 0)) (fun t => some t) fun (t, u, v, w, x, y, z, a1, b1, c1, d1, e1, f1, g1, h1, i1) => bx (lp impl_partsOk_s122 ((t, u, v, w, x, y, z, a1, b1, c1, d1, e1, f1, g1, h1, i1), f1, ln f1, 0)) (fun j1 => some j1) fun (j1, k1, l1, m1, n1, o1, p1, q1, r1, s1, t1, u1, v1, w1, x1, y1) => bx (lp impl_partsOk_s250 ((j1, k1, l1, m1, n1, o1, p1, q1, r1, s1, t1, u1, v1, w1, x1, y1), x1, ln x1, 0)) (fun z1 => some z1) fun _ => some true
def impl_partsOk_e : FEnt := ⟨126, [.tmp 2], [], [(.agg, cc0)], ⟨128, [⟨2, .one, [.dat .bool]⟩]⟩, impl_partsOk⟩
theorem impl_partsOk_ok : FnOk Tryz.prog 58 impl_partsOk_e := fnOk_mk (tb := [(250, impl_partsOk_n250), (122, impl_partsOk_n122), (29902, impl_partsOk_n29902), (58, impl_partsOk_n58)]) (c := (Tryz.f58.body).getD .skip) mixed Tryz.func58 (bC impl_ConfOk_ok (bC impl_within_ok (bC impl_SeatOk_ok (bC impl_RowOk_ok (bC impl_RowIds_ok (bC impl_IdOf_ok (bC impl_allIn_ok (bC impl_TurnOk_ok (bC impl_ahead_ok bN))))))))) (by kernel_rfl) (by kernel_rfl) (by kernel_rfl) ⟨nodeLoop (by kernel_rfl) impl_partsOk_s250 (by kernel_rfl) (by intro d; kernel_rfl), nodeLoop (by kernel_rfl) impl_partsOk_s122 (by kernel_rfl) (by intro d; kernel_rfl), nodeLoop (by kernel_rfl) impl_partsOk_s29902 (by kernel_rfl) (by intro d; kernel_rfl), nodeLoop (by kernel_rfl) impl_partsOk_s58 (by kernel_rfl) (by intro d; kernel_rfl), trivial⟩ (by intro d; kernel_rfl)


/-! impl.rowEntries -/
def impl_rowEntries_s14950 : List t28 × List (List (List t28)) × Int × Int × t37 → Option (List t28 × List (List (List t28)) × Int × Int × t37 ⊕ List t28 × t40)
  | (a, b, c, d, e, f, g) => bif decide (g < f) then ix g e.length ((some (gx e g [])).bind fun h => chk (fits (a.length + h.length) 144) ((some (a ++ h)).bind fun i => some (.inl (i, b, c, d, e, f, w64 (g + 1))))) else some (.inr (a, b, c, d))
def impl_rowEntries_n14950 : NEnt := ⟨⟨30, [⟨3, .one, [.own false kk5]⟩, ⟨9, .one, [.dat kk0]⟩, ⟨10, .one, [.dat kI]⟩, ⟨11, .one, [.dat kI]⟩, ⟨15, .one, [.dat kk2]⟩, ⟨16, .one, [.dat kI]⟩, ⟨17, .one, [.dat kI]⟩]⟩, [(.exit 2, ⟨30, [⟨3, .one, [.own false kk5]⟩, ⟨9, .one, [.dat kk0]⟩, ⟨10, .one, [.dat kI]⟩, ⟨11, .one, [.dat kI]⟩]⟩)], lp impl_rowEntries_s14950⟩
def impl_rowEntries_s58 : List t28 × t40 → Option (List t28 × t40 ⊕ List t28)
  | (a, b, c, d) => bif decide (d < c) then ix d b.length ((some (gx b d [])).bind fun e => (lp impl_rowEntries_s14950 (a, b, c, d, e, ln e, 0)).bind fun (f, g, h, i) => some (.inl (f, g, h, w64 (i + 1)))) else some (.inr a)
def impl_rowEntries_n58 : NEnt := ⟨⟨30, [⟨3, .one, [.own false kk5]⟩, ⟨9, .one, [.dat kk0]⟩, ⟨10, .one, [.dat kI]⟩, ⟨11, .one, [.dat kI]⟩]⟩, [(.exit 0, ⟨30, [⟨3, .one, [.own false kk5]⟩]⟩)], lp impl_rowEntries_s58⟩
def impl_rowEntries : t58 → Option (List t28)
  | (a, b, c, d, e, f, g, h, i, j, k, l, m, n, o, p) => (lp impl_rowEntries_s58 ([], l, ln l, 0)).bind fun q => some q
def impl_rowEntries_e : FEnt := ⟨28, [.tmp 2], [], [(.agg, cc0)], ⟨30, [⟨2, .one, [.own false kk5]⟩]⟩, impl_rowEntries⟩
theorem impl_rowEntries_ok : FnOk Tryz.prog 60 impl_rowEntries_e := fnOk_mk (tb := [(14950, impl_rowEntries_n14950), (58, impl_rowEntries_n58)]) (c := (Tryz.f60.body).getD .skip) mixed Tryz.func60 bN (by kernel_rfl) (by kernel_rfl) (by kernel_rfl) ⟨nodeLoop (by kernel_rfl) impl_rowEntries_s14950 (by kernel_rfl) (by intro d; kernel_rfl), nodeLoop (by kernel_rfl) impl_rowEntries_s58 (by kernel_rfl) (by intro d; kernel_rfl), trivial⟩ (by intro d; kernel_rfl)


/-! impl.added -/
def impl_added_s58 : List t28 × t36 → Option (List t28 × t36 ⊕ List t28)
  | (a, b, c, d) => bif decide (d < c) then ix d b.length ((some (gx b d (0, 0, 0, [], 0, 0, 0, 0, [], [], []))).bind fun (e, f, g, h, i, j, k, l, m, n, o) => (some [(f, g, h, i, j, k, l, m, n, o)]).bind fun p => chk (fits (a.length + p.length) 144) ((some (a ++ p)).bind fun q => some (.inl (q, b, c, w64 (d + 1))))) else some (.inr a)
def impl_added_n58 : NEnt := ⟨⟨25, [⟨3, .one, [.own false kk5]⟩, ⟨10, .one, [.dat kk1]⟩, ⟨11, .one, [.dat kI]⟩, ⟨12, .one, [.dat kI]⟩]⟩, [(.exit 0, ⟨25, [⟨3, .one, [.own false kk5]⟩]⟩)], lp impl_added_s58⟩
def impl_added : t58 → Option (List t28)
  | (a, b, c, d, e, f, g, h, i, j, k, l, m, n, o, p) => chk (fits o.length 144) ((lp impl_added_s58 (o, p, ln p, 0)).bind fun q => some q)
def impl_added_e : FEnt := ⟨23, [.tmp 2], [], [(.agg, cc0)], ⟨25, [⟨2, .one, [.own false kk5]⟩]⟩, impl_added⟩
theorem impl_added_ok : FnOk Tryz.prog 61 impl_added_e := fnOk_mk (tb := [(58, impl_added_n58)]) (c := (Tryz.f61.body).getD .skip) mixed Tryz.func61 bN (by kernel_rfl) (by kernel_rfl) (by kernel_rfl) ⟨nodeLoop (by kernel_rfl) impl_added_s58 (by kernel_rfl) (by intro d; kernel_rfl), trivial⟩ (by intro d; kernel_rfl)


/-! impl.SetHas$1 -/
def impl_SetHas_1 : (Int × Int) × Int × Unit → Option Bool
  | ((a, b), c, _) => (impl_within (c, a, b)).bind fun d => some d
def impl_SetHas_1_e : FEnt := ⟨10, [.tmp 3], [], [(.agg, cc10), (.one, [.pim [kI] 0])], ⟨14, [⟨3, .one, [.dat .bool]⟩]⟩, impl_SetHas_1⟩
theorem impl_SetHas_1_ok : FnOk Tryz.prog 109 impl_SetHas_1_e := fnOk_mk (tb := []) (c := (Tryz.f109.body).getD .skip) mixed Tryz.func109 (bC impl_within_ok bN) (by kernel_rfl) (by kernel_rfl) (by kernel_rfl) trivial (by intro d; kernel_rfl)


/-! impl.Span] -/
def impl_Span__s26 : List (Int × Int) × ((Int × Unit) × Unit) × Int × Int → Option (List (Int × Int) × ((Int × Unit) × Unit) × Int × Int ⊕ Int ⊕ Unit)
  | (a, ((b, _), _), c, d) => bif decide (d < c) then ix d a.length ((some (gx a d (0, 0))).bind fun (e, f) => (impl_SetHas_1 ((e, f), b, ())).bind fun g => bif g then some (.inr (.inl d)) else some (.inl (a, ((b, ()), ()), c, w64 (d + 1)))) else some (.inr (.inr ()))
def impl_Span__n26 : NEnt := ⟨⟨23, [⟨0, .one, [.dat kk10]⟩, ⟨1, .one, cc8⟩, ⟨7, .one, [.dat kI]⟩, ⟨8, .one, [.dat kI]⟩]⟩, [(.ret, ⟨23, [⟨4, .one, [.dat kI]⟩]⟩), (.exit 0, ⟨23, []⟩)], lp impl_Span__s26⟩
def impl_Span_ : List (Int × Int) × (Int × Unit) × Unit → Option Int
  | (a, (b, _), _) => bx (lp impl_Span__s26 (a, ((b, ()), ()), ln a, 0)) (fun c => some c) fun _ => some (-1)
def impl_Span__e : FEnt := ⟨19, [.tmp 4], [], [(.one, [.dat kk10]), (.one, cc8)], ⟨23, [⟨4, .one, [.dat kI]⟩]⟩, impl_Span_⟩
theorem impl_Span__ok : FnOk Tryz.prog 132 impl_Span__e := fnOk_mk (tb := [(26, impl_Span__n26)]) (c := (Tryz.f132.body).getD .skip) mixed Tryz.func132 (bC impl_SetHas_1_ok bN) (by kernel_rfl) (by kernel_rfl) (by kernel_rfl) ⟨nodeLoop (by kernel_rfl) impl_Span__s26 (by kernel_rfl) (by intro d; kernel_rfl), trivial⟩ (by intro d; kernel_rfl)


/-! impl.Span] -/
def impl_Span__189 : List (Int × Int) × (Int × Unit) × Unit → Option Bool
  | (a, (b, _), _) => (impl_Span_ (a, (b, ()), ())).bind fun c => some (decide (c ≥ 0))
def impl_Span__189_e : FEnt := ⟨9, [.tmp 4], [], [(.one, [.dat kk10]), (.one, cc8)], ⟨13, [⟨4, .one, [.dat .bool]⟩]⟩, impl_Span__189⟩
theorem impl_Span__189_ok : FnOk Tryz.prog 108 impl_Span__189_e := fnOk_mk (tb := []) (c := (Tryz.f108.body).getD .skip) mixed Tryz.func108 (bC impl_Span__ok bN) (by kernel_rfl) (by kernel_rfl) (by kernel_rfl) trivial (by intro d; kernel_rfl)


/-! impl.SetHas -/
def impl_SetHas : t0 → Option Bool
  | (a, b) => (impl_Span__189 (a, (b, ()), ())).bind fun c => some c
def impl_SetHas_e : FEnt := ⟨8, [.tmp 4], [], [(.one, [.dat kk10]), (.one, [.dat kI])], ⟨12, [⟨4, .one, [.dat .bool]⟩]⟩, impl_SetHas⟩
theorem impl_SetHas_ok : FnOk Tryz.prog 63 impl_SetHas_e := fnOk_mk (tb := []) (c := (Tryz.f63.body).getD .skip) mixed Tryz.func63 (bC impl_Span__189_ok bN) (by kernel_rfl) (by kernel_rfl) (by kernel_rfl) trivial (by intro d; kernel_rfl)


/-! impl.Span] -/
def impl_Span__136_s58 : t18 → Option (t18 ⊕ Bool ⊕ Unit)
  | (a, b, c, d) => bif decide (d < c) then ix d a.length ((some (gx a d (0, 0))).bind fun (e, f) => ix d b.length ((some (gx b d (0, 0))).bind fun (g, h) => bif !((e == g) && ((f == h) && true)) then some (.inr (.inl false)) else some (.inl (a, b, c, w64 (d + 1))))) else some (.inr (.inr ()))
def impl_Span__136_n58 : NEnt := ⟨⟨30, [⟨0, .one, [.dat kk10]⟩, ⟨1, .one, [.dat kk10]⟩, ⟨12, .one, [.dat kI]⟩, ⟨13, .one, [.dat kI]⟩]⟩, [(.ret, ⟨30, [⟨4, .one, [.dat .bool]⟩]⟩), (.exit 0, ⟨30, []⟩)], lp impl_Span__136_s58⟩
def impl_Span__136 : t9 → Option Bool
  | (a, b) => bif (ln a) != (ln b) then some false else bx (lp impl_Span__136_s58 (a, b, ln a, 0)) (fun c => some c) fun _ => some true
def impl_Span__136_e : FEnt := ⟨26, [.tmp 4], [], [(.one, [.dat kk10]), (.one, [.dat kk10])], ⟨30, [⟨4, .one, [.dat .bool]⟩]⟩, impl_Span__136⟩
theorem impl_Span__136_ok : FnOk Tryz.prog 65 impl_Span__136_e := fnOk_mk (tb := [(58, impl_Span__136_n58)]) (c := (Tryz.f65.body).getD .skip) mixed Tryz.func65 bN (by kernel_rfl) (by kernel_rfl) (by kernel_rfl) ⟨nodeLoop (by kernel_rfl) impl_Span__136_s58 (by kernel_rfl) (by intro d; kernel_rfl), trivial⟩ (by intro d; kernel_rfl)


/-! impl.told -/
def impl_told_s58 : Int × Int × Int × t36 → Option (Int × Int × Int × t36 ⊕ Int)
  | (a, b, c, d, e, f) => bif decide (f < e) then ix f d.length ((some (gx d f (0, 0, 0, [], 0, 0, 0, 0, [], [], []))).bind fun (g, h, i, j, k, l, m, n, o, p, q) => bif h == a then bif i == b then some (.inl (a, b, w64 (c + 1), d, e, w64 (f + 1))) else some (.inl (a, b, c, d, e, w64 (f + 1))) else some (.inl (a, b, c, d, e, w64 (f + 1)))) else some (.inr c)
def impl_told_n58 : NEnt := ⟨⟨38, [⟨1, .one, [.dat kI]⟩, ⟨2, .one, [.dat kI]⟩, ⟨7, .one, [.dat kI]⟩, ⟨10, .one, [.dat kk1]⟩, ⟨11, .one, [.dat kI]⟩, ⟨12, .one, [.dat kI]⟩]⟩, [(.exit 0, ⟨38, [⟨7, .one, [.dat kI]⟩]⟩)], lp impl_told_s58⟩
def impl_told : t36 → Option Int
  | (a, b, c) => (lp impl_told_s58 (b, c, 0, a, ln a, 0)).bind fun d => some d
def impl_told_e : FEnt := ⟨32, [.tmp 6], [], [(.one, [.dat kk1]), (.one, [.dat kI]), (.one, [.dat kI])], ⟨38, [⟨6, .one, [.dat kI]⟩]⟩, impl_told⟩
theorem impl_told_ok : FnOk Tryz.prog 67 impl_told_e := fnOk_mk (tb := [(58, impl_told_n58)]) (c := (Tryz.f67.body).getD .skip) mixed Tryz.func67 bN (by kernel_rfl) (by kernel_rfl) (by kernel_rfl) ⟨nodeLoop (by kernel_rfl) impl_told_s58 (by kernel_rfl) (by intro d; kernel_rfl), trivial⟩ (by intro d; kernel_rfl)


/-! impl.HouseOk -/
def impl_HouseOk_s256410 : t58 × List (Int × Int) × List (Int × Int) × Int × t13 × Int × Int × t23 → Option (t58 × List (Int × Int) × List (Int × Int) × Int × t13 × Int × Int × t23 ⊕ t58 × List (Int × Int) × List (Int × Int) × Int × t13 × Int × t23)
  | ((a, b, c, d, e, f, g, h, i, j, k, l, m, n, o, p), q, r, s, (t, u, v, w, x), y, z, a1, b1, c1) => bif decide (z ≤ 60) then (impl_IdOf (s, z)).bind fun d1 => (impl_SetHas (r, d1)).bind fun e1 => bif e1 then some (.inl ((a, b, c, d, e, f, g, h, i, j, k, l, m, n, o, p), q, r, s, (t, u, v, w, x), w64 (y + 1), w64 (z + 1), a1, b1, c1)) else some (.inl ((a, b, c, d, e, f, g, h, i, j, k, l, m, n, o, p), q, r, s, (t, u, v, w, x), y, w64 (z + 1), a1, b1, c1)) else some (.inr ((a, b, c, d, e, f, g, h, i, j, k, l, m, n, o, p), q, r, s, (t, u, v, w, x), y, a1, b1, c1))
def impl_HouseOk_n256410 : NEnt := ⟨⟨107, [⟨1, .box, cc0⟩, ⟨3, .one, cc7⟩, ⟨4, .one, cc7⟩, ⟨5, .one, [.dat kI]⟩, ⟨6, .box, cc5⟩, ⟨7, .one, [.dat kI]⟩, ⟨8, .one, [.dat kI]⟩, ⟨29, .one, [.dat kk6]⟩, ⟨30, .one, [.dat kI]⟩, ⟨31, .one, [.dat kI]⟩]⟩, [(.exit 2, ⟨107, [⟨1, .box, cc0⟩, ⟨3, .one, cc7⟩, ⟨4, .one, cc7⟩, ⟨5, .one, [.dat kI]⟩, ⟨6, .box, cc5⟩, ⟨7, .one, [.dat kI]⟩, ⟨29, .one, [.dat kk6]⟩, ⟨30, .one, [.dat kI]⟩, ⟨31, .one, [.dat kI]⟩]⟩)], lp impl_HouseOk_s256410⟩
def impl_HouseOk_s512830 : t58 × List (Int × Int) × List (Int × Int) × Int × List t13 × t13 → Option (t58 × List (Int × Int) × List (Int × Int) × Int × List t13 × t13 ⊕ t58 × t29)
  | ((a, b, c, d, e, f, g, h, i, j, k, l, m, n, o, p), q, r, s, t, u, v, w, x, y) => bif decide (y < x) then ix y w.length ((some (gx w y (0, 0))).bind fun (z, a1) => (impl_IdOf (s, z)).bind fun b1 => (impl_IdOf (s, a1)).bind fun c1 => chk (fits (q.length + [(b1, c1)].length) 16) (some (.inl ((a, b, c, d, e, f, g, h, i, j, k, l, m, n, o, p), q ++ [(b1, c1)], r, s, t, u, v, w, x, w64 (y + 1))))) else some (.inr ((a, b, c, d, e, f, g, h, i, j, k, l, m, n, o, p), q, r, t, u, v))
def impl_HouseOk_n512830 : NEnt := ⟨⟨107, [⟨1, .box, cc0⟩, ⟨3, .one, cc7⟩, ⟨4, .one, cc7⟩, ⟨5, .one, [.dat kI]⟩, ⟨29, .one, [.dat kk6]⟩, ⟨30, .one, [.dat kI]⟩, ⟨31, .one, [.dat kI]⟩, ⟨52, .one, [.dat kk10]⟩, ⟨53, .one, [.dat kI]⟩, ⟨54, .one, [.dat kI]⟩]⟩, [(.exit 4, ⟨107, [⟨1, .box, cc0⟩, ⟨3, .one, cc7⟩, ⟨4, .one, cc7⟩, ⟨29, .one, [.dat kk6]⟩, ⟨30, .one, [.dat kI]⟩, ⟨31, .one, [.dat kI]⟩]⟩)], lp impl_HouseOk_s512830⟩
def impl_HouseOk_s250 : t58 × t29 → Option (t58 × t29 ⊕ Bool ⊕ t58 × List (Int × Int))
  | ((a, b, c, d, e, f, g, h, i, j, k, l, m, n, o, p), q, r, s, t, u) => bif decide (u < t) then ix u s.length ((some (gx s u (0, 0, [], 0, 0))).bind fun (v, w, x, y, z) => (lp impl_HouseOk_s256410 ((a, b, c, d, e, f, g, h, i, j, k, l, m, n, o, p), q, r, u, (v, w, x, y, z), 0, 1, s, t, u)).bind fun ((a1, b1, c1, d1, e1, f1, g1, h1, i1, j1, k1, l1, m1, n1, o1, p1), q1, r1, s1, (t1, u1, v1, w1, x1), y1, z1, a2, b2) => bif y1 != w1 then some (.inr (.inl false)) else (lp impl_HouseOk_s512830 ((a1, b1, c1, d1, e1, f1, g1, h1, i1, j1, k1, l1, m1, n1, o1, p1), q1, r1, s1, z1, a2, b2, v1, ln v1, 0)).bind fun ((c2, d2, e2, f2, g2, h2, i2, j2, k2, l2, m2, n2, o2, p2, q2, r2), s2, t2, u2, v2, w2) => some (.inl ((c2, d2, e2, f2, g2, h2, i2, j2, k2, l2, m2, n2, o2, p2, q2, r2), s2, t2, u2, v2, w64 (w2 + 1)))) else some (.inr (.inr ((a, b, c, d, e, f, g, h, i, j, k, l, m, n, o, p), q)))
def impl_HouseOk_n250 : NEnt := ⟨⟨107, [⟨1, .box, cc0⟩, ⟨3, .one, cc7⟩, ⟨4, .one, cc7⟩, ⟨29, .one, [.dat kk6]⟩, ⟨30, .one, [.dat kI]⟩, ⟨31, .one, [.dat kI]⟩]⟩, [(.ret, ⟨107, [⟨2, .one, [.dat .bool]⟩]⟩), (.exit 0, ⟨107, [⟨1, .box, cc0⟩, ⟨3, .one, cc7⟩]⟩)], lp impl_HouseOk_s250⟩
def impl_HouseOk_s1018 : t58 × t36 → Option (t58 × t36 ⊕ Bool ⊕ Unit)
  | ((a, b, c, d, e, f, g, h, i, j, k, l, m, n, o, p), q, r, s) => bif decide (s < r) then ix s q.length ((some (gx q s (0, 0, 0, [], 0, 0, 0, 0, [], [], []))).bind fun (t, u, v, w, x, y, z, a1, b1, c1, d1) => g0 s (chk (decide ((0 ≤ s.toNat) ∧ (s.toNat ≤ p.length))) ((impl_told (List.take s.toNat p, u, v)).bind fun e1 => bif t != e1 then some (.inr (.inl false)) else some (.inl ((a, b, c, d, e, f, g, h, i, j, k, l, m, n, o, p), q, r, w64 (s + 1)))))) else some (.inr (.inr ()))
def impl_HouseOk_n1018 : NEnt := ⟨⟨107, [⟨1, .box, cc0⟩, ⟨83, .one, [.dat kk1]⟩, ⟨84, .one, [.dat kI]⟩, ⟨85, .one, [.dat kI]⟩]⟩, [(.ret, ⟨107, [⟨2, .one, [.dat .bool]⟩]⟩), (.exit 6, ⟨107, []⟩)], lp impl_HouseOk_s1018⟩
def impl_HouseOk : t58 → Option Bool
  | (a, b, c, d, e, f, g, h, i, j, k, l, m, n, o, p) => (impl_partsOk (a, b, c, d, e, f, g, h, i, j, k, l, m, n, o, p)).bind fun q => bif !q then some false else (impl_rowEntries (a, b, c, d, e, f, g, h, i, j, k, l, m, n, o, p)).bind fun r => (impl_added (a, b, c, d, e, f, g, h, i, j, k, l, m, n, o, p)).bind fun s => chk (fits (r.length + s.length) 144) ((some (r ++ s)).bind fun t => (impl_apart t).bind fun u => bif !u then some false else (impl_added (a, b, c, d, e, f, g, h, i, j, k, l, m, n, o, p)).bind fun v => (impl_idsOf v).bind fun w => bx (lp impl_HouseOk_s250 ((a, b, c, d, e, f, g, h, i, j, k, l, m, n, o, p), [], w, k, ln k, 0)) (fun x => some x) fun ((x, y, z, a1, b1, c1, d1, e1, f1, g1, h1, i1, j1, k1, l1, m1), n1) => (impl_union n1).bind fun o1 => (impl_rowEntries (x, y, z, a1, b1, c1, d1, e1, f1, g1, h1, i1, j1, k1, l1, m1)).bind fun p1 => (impl_added (x, y, z, a1, b1, c1, d1, e1, f1, g1, h1, i1, j1, k1, l1, m1)).bind fun q1 => chk (fits (p1.length + q1.length) 144) ((some (p1 ++ q1)).bind fun r1 => (impl_idsOf r1).bind fun s1 => (impl_Span__136 (o1, s1)).bind fun t1 => bif !t1 then some false else bx (lp impl_HouseOk_s1018 ((x, y, z, a1, b1, c1, d1, e1, f1, g1, h1, i1, j1, k1, l1, m1), m1, ln m1, 0)) (fun u1 => some u1) fun _ => some true))
def impl_HouseOk_e : FEnt := ⟨105, [.tmp 2], [], [(.agg, cc0)], ⟨107, [⟨2, .one, [.dat .bool]⟩]⟩, impl_HouseOk⟩
theorem impl_HouseOk_ok : FnOk Tryz.prog 25 impl_HouseOk_e := fnOk_mk (tb := [(1018, impl_HouseOk_n1018), (512830, impl_HouseOk_n512830), (256410, impl_HouseOk_n256410), (250, impl_HouseOk_n250)]) (c := (Tryz.f25.body).getD .skip) mixed Tryz.func25 (bC impl_partsOk_ok (bC impl_rowEntries_ok (bC impl_added_ok (bC impl_apart_ok (bC impl_idsOf_ok (bC impl_IdOf_ok (bC impl_SetHas_ok (bC impl_union_ok (bC impl_Span__136_ok (bC impl_told_ok bN)))))))))) (by kernel_rfl) (by kernel_rfl) (by kernel_rfl) ⟨nodeLoop (by kernel_rfl) impl_HouseOk_s1018 (by kernel_rfl) (by intro d; kernel_rfl), nodeLoop (by kernel_rfl) impl_HouseOk_s512830 (by kernel_rfl) (by intro d; kernel_rfl), nodeLoop (by kernel_rfl) impl_HouseOk_s256410 (by kernel_rfl) (by intro d; kernel_rfl), nodeLoop (by kernel_rfl) impl_HouseOk_s250 (by kernel_rfl) (by intro d; kernel_rfl), trivial⟩ (by intro d; kernel_rfl)


/-! impl.Digits -/
def impl_Digits : Int → Option (List UInt8)
  | a => (strconv_Itoa a).bind fun b => some b
def impl_Digits_e : FEnt := ⟨5, [.tmp 2], [], [(.one, [.dat kI])], ⟨7, [⟨2, .one, [.dat .str]⟩]⟩, impl_Digits⟩
theorem impl_Digits_ok : FnOk Tryz.prog 26 impl_Digits_e := fnOk_mk (tb := []) (c := (Tryz.f26.body).getD .skip) mixed Tryz.func26 (bC strconv_Itoa_ok bN) (by kernel_rfl) (by kernel_rfl) (by kernel_rfl) trivial (by intro d; kernel_rfl)


/-! impl.SetText -/
def impl_SetText_s58 : List (List UInt8) × t5 → Option (List (List UInt8) × t5 ⊕ List (List UInt8))
  | (a, b, c, d) => bif decide (d < c) then ix d b.length ((some (gx b d (0, 0))).bind fun (e, f) => (impl_Digits e).bind fun g => bif f != e then (impl_Digits f).bind fun h => chk (decide ((1 + h.length) ≤ 1099511627776)) (chk (decide ((g.length + ((Array.toList (ByteArray.data { data := #[(45 : UInt8)] })) ++ h).length) ≤ 1099511627776)) ((some [g ++ ((Array.toList (ByteArray.data { data := #[(45 : UInt8)] })) ++ h)]).bind fun i => chk (fits (a.length + i.length) 16) (some (.inl (a ++ i, b, c, w64 (d + 1)))))) else chk (fits (a.length + [g].length) 16) (some (.inl (a ++ [g], b, c, w64 (d + 1))))) else some (.inr a)
def impl_SetText_n58 : NEnt := ⟨⟨36, [⟨3, .one, [.own true .str]⟩, ⟨7, .one, [.dat kk10]⟩, ⟨8, .one, [.dat kI]⟩, ⟨9, .one, [.dat kI]⟩]⟩, [(.exit 0, ⟨36, [⟨3, .one, [.own true .str]⟩]⟩)], lp impl_SetText_s58⟩
def impl_SetText : List (Int × Int) → Option (List UInt8)
  | a => (lp impl_SetText_s58 ([], a, ln a, 0)).bind fun b => (strings_Join (b, Array.toList (ByteArray.data { data := #[(44 : UInt8)] }))).bind fun c => some c
def impl_SetText_e : FEnt := ⟨34, [.tmp 2], [], [(.one, [.dat kk10])], ⟨36, [⟨2, .one, [.dat .str]⟩]⟩, impl_SetText⟩
theorem impl_SetText_ok : FnOk Tryz.prog 27 impl_SetText_e := fnOk_mk (tb := [(58, impl_SetText_n58)]) (c := (Tryz.f27.body).getD .skip) mixed Tryz.func27 (bC impl_Digits_ok (bC strings_Join_ok bN)) (by kernel_rfl) (by kernel_rfl) (by kernel_rfl) ⟨nodeLoop (by kernel_rfl) impl_SetText_s58 (by kernel_rfl) (by intro d; kernel_rfl), trivial⟩ (by intro d; kernel_rfl)


/-! impl.SketchText -/
def impl_SketchText : t24 → Option (List UInt8)
  | (a, b, c, d, e, f, g) => (impl_SketchOk (a, b, c, d, e, f, g)).bind fun h => bif !h then some (Array.toList (ByteArray.data { data := #[(63 : UInt8)] })) else (impl_Digits a).bind fun i => chk (decide ((i.length + 1) ≤ 1099511627776)) ((impl_Digits b).bind fun j => chk (decide (((i ++ (Array.toList (ByteArray.data { data := #[(32 : UInt8)] }))).length + j.length) ≤ 1099511627776)) (chk (decide ((((i ++ (Array.toList (ByteArray.data { data := #[(32 : UInt8)] }))) ++ j).length + 1) ≤ 1099511627776)) ((some (((i ++ (Array.toList (ByteArray.data { data := #[(32 : UInt8)] }))) ++ j) ++ (Array.toList (ByteArray.data { data := #[(32 : UInt8)] })))).bind fun k => (impl_Digits c).bind fun l => chk (decide ((k.length + l.length) ≤ 1099511627776)) (chk (decide (((k ++ l).length + 1) ≤ 1099511627776)) ((impl_Digits d).bind fun m => chk (decide ((((k ++ l) ++ (Array.toList (ByteArray.data { data := #[(32 : UInt8)] }))).length + m.length) ≤ 1099511627776)) ((some (((k ++ l) ++ (Array.toList (ByteArray.data { data := #[(32 : UInt8)] }))) ++ m)).bind fun n => some n))))))
def impl_SketchText_e : FEnt := ⟨24, [.tmp 2], [], [(.agg, cc3)], ⟨26, [⟨2, .one, [.dat .str]⟩]⟩, impl_SketchText⟩
theorem impl_SketchText_ok : FnOk Tryz.prog 71 impl_SketchText_e := fnOk_mk (tb := []) (c := (Tryz.f71.body).getD .skip) mixed Tryz.func71 (bC impl_SketchOk_ok (bC impl_Digits_ok bN)) (by kernel_rfl) (by kernel_rfl) (by kernel_rfl) trivial (by intro d; kernel_rfl)


/-! impl.EntryText -/
def impl_EntryText : t28 → Option (List UInt8)
  | (a, b, c, d, e, f, g, h, i, j) => (impl_EntryOk (a, b, c, d, e, f, g, h, i, j)).bind fun k => bif !k then some (Array.toList (ByteArray.data { data := #[(63 : UInt8)] })) else (impl_Digits a).bind fun l => chk (decide ((l.length + 1) ≤ 1099511627776)) ((impl_Digits b).bind fun m => chk (decide (((l ++ (Array.toList (ByteArray.data { data := #[(47 : UInt8)] }))).length + m.length) ≤ 1099511627776)) (chk (decide ((((l ++ (Array.toList (ByteArray.data { data := #[(47 : UInt8)] }))) ++ m).length + 1) ≤ 1099511627776)) ((some (((l ++ (Array.toList (ByteArray.data { data := #[(47 : UInt8)] }))) ++ m) ++ (Array.toList (ByteArray.data { data := #[(32 : UInt8)] })))).bind fun n => (impl_SetText c).bind fun o => chk (decide ((n.length + o.length) ≤ 1099511627776)) (chk (decide (((n ++ o).length + 1) ≤ 1099511627776)) ((impl_SketchText (d, e, f, g, h, i, j)).bind fun p => chk (decide ((((n ++ o) ++ (Array.toList (ByteArray.data { data := #[(32 : UInt8)] }))).length + p.length) ≤ 1099511627776)) ((some (((n ++ o) ++ (Array.toList (ByteArray.data { data := #[(32 : UInt8)] }))) ++ p)).bind fun q => some q))))))
def impl_EntryText_e : FEnt := ⟨24, [.tmp 2], [], [(.agg, cc2)], ⟨26, [⟨2, .one, [.dat .str]⟩]⟩, impl_EntryText⟩
theorem impl_EntryText_ok : FnOk Tryz.prog 28 impl_EntryText_e := fnOk_mk (tb := []) (c := (Tryz.f28.body).getD .skip) mixed Tryz.func28 (bC impl_EntryOk_ok (bC impl_Digits_ok (bC impl_SetText_ok (bC impl_SketchText_ok bN)))) (by kernel_rfl) (by kernel_rfl) (by kernel_rfl) trivial (by intro d; kernel_rfl)


/-! impl.HouseText -/
def impl_HouseText_s122 : t58 × List UInt8 × t23 → Option (t58 × List UInt8 × t23 ⊕ t58 × List UInt8)
  | ((a, b, c, d, e, f, g, h, i, j, k, l, m, n, o, p), q, r, s, t) => bif decide (t < s) then ix t r.length ((some (gx r t (0, 0, [], 0, 0))).bind fun (u, v, w, x, y) => (impl_Digits u).bind fun z => chk (decide ((1 + z.length) ≤ 1099511627776)) (chk (decide ((((Array.toList (ByteArray.data { data := #[(32 : UInt8)] })) ++ z).length + 1) ≤ 1099511627776)) ((some (((Array.toList (ByteArray.data { data := #[(32 : UInt8)] })) ++ z) ++ (Array.toList (ByteArray.data { data := #[(46 : UInt8)] })))).bind fun a1 => (impl_Digits v).bind fun b1 => chk (decide ((a1.length + b1.length) ≤ 1099511627776)) (chk (decide (((a1 ++ b1).length + 1) ≤ 1099511627776)) ((impl_Digits x).bind fun c1 => chk (decide ((((a1 ++ b1) ++ (Array.toList (ByteArray.data { data := #[(46 : UInt8)] }))).length + c1.length) ≤ 1099511627776)) ((some (((a1 ++ b1) ++ (Array.toList (ByteArray.data { data := #[(46 : UInt8)] }))) ++ c1)).bind fun d1 => chk (decide ((d1.length + 1) ≤ 1099511627776)) ((impl_SetText w).bind fun e1 => chk (decide (((d1 ++ (Array.toList (ByteArray.data { data := #[(58 : UInt8)] }))).length + e1.length) ≤ 1099511627776)) (chk (decide ((q.length + ((d1 ++ (Array.toList (ByteArray.data { data := #[(58 : UInt8)] }))) ++ e1).length) ≤ 1099511627776)) ((some (q ++ ((d1 ++ (Array.toList (ByteArray.data { data := #[(58 : UInt8)] }))) ++ e1))).bind fun f1 => some (.inl ((a, b, c, d, e, f, g, h, i, j, k, l, m, n, o, p), f1, r, s, w64 (t + 1)))))))))))) else some (.inr ((a, b, c, d, e, f, g, h, i, j, k, l, m, n, o, p), q))
def impl_HouseText_n122 : NEnt := ⟨⟨66, [⟨1, .box, cc0⟩, ⟨3, .one, [.dat .str]⟩, ⟨16, .one, [.dat kk6]⟩, ⟨17, .one, [.dat kI]⟩, ⟨18, .one, [.dat kI]⟩]⟩, [(.exit 0, ⟨66, [⟨1, .box, cc0⟩, ⟨3, .one, [.dat .str]⟩]⟩)], lp impl_HouseText_s122⟩
def impl_HouseText_s1018 : List UInt8 × t32 → Option (List UInt8 × t32 ⊕ List UInt8)
  | (a, b, c, d) => bif decide (d < c) then ix d b.length ((some (gx b d (0, 0, [], 0, 0, 0, 0, [], [], []))).bind fun (e, f, g, h, i, j, k, l, m, n) => (impl_EntryText (e, f, g, h, i, j, k, l, m, n)).bind fun o => chk (decide ((o.length + 1) ≤ 1099511627776)) (chk (decide ((a.length + (o ++ (Array.toList (ByteArray.data { data := #[(10 : UInt8)] }))).length) ≤ 1099511627776)) (some (.inl (a ++ (o ++ (Array.toList (ByteArray.data { data := #[(10 : UInt8)] }))), b, c, w64 (d + 1)))))) else some (.inr a)
def impl_HouseText_n1018 : NEnt := ⟨⟨66, [⟨3, .one, [.dat .str]⟩, ⟨51, .one, [.dat kk4]⟩, ⟨52, .one, [.dat kI]⟩, ⟨53, .one, [.dat kI]⟩]⟩, [(.exit 2, ⟨66, [⟨3, .one, [.dat .str]⟩]⟩)], lp impl_HouseText_s1018⟩
def impl_HouseText_l63 : t58 × List UInt8 → Option (List UInt8)
  | ((a, b, c, d, e, f, g, h, i, j, k, l, m, n, o, p), q) => chk (decide ((q.length + 1) ≤ 1099511627776)) ((lp impl_HouseText_s1018 (q ++ (Array.toList (ByteArray.data { data := #[(10 : UInt8)] })), o, ln o, 0)).bind fun r => some r)
def impl_HouseText_n63 : NEnt := ⟨⟨66, [⟨1, .box, cc0⟩, ⟨3, .one, [.dat .str]⟩]⟩, [(.ret, ⟨66, [⟨2, .one, [.dat .str]⟩]⟩)], impl_HouseText_l63⟩
def impl_HouseText : t58 → Option (List UInt8)
  | (a, b, c, d, e, f, g, h, i, j, k, l, m, n, o, p) => (impl_HouseOk (a, b, c, d, e, f, g, h, i, j, k, l, m, n, o, p)).bind fun q => bif !q then some (Array.toList (ByteArray.data { data := #[] })) else (impl_Digits i).bind fun r => chk (decide ((1 + r.length) ≤ 1099511627776)) ((lp impl_HouseText_s122 ((a, b, c, d, e, f, g, h, i, j, k, l, m, n, o, p), (Array.toList (ByteArray.data { data := #[(116 : UInt8)] })) ++ r, k, ln k, 0)).bind fun ((s, t, u, v, w, x, y, z, a1, b1, c1, d1, e1, f1, g1, h1), i1) => bif b1 then chk (decide ((i1.length + 7) ≤ 1099511627776)) ((some (i1 ++ (Array.toList (ByteArray.data { data := #[(32 : UInt8), (99 : UInt8), (108 : UInt8), (111 : UInt8), (115 : UInt8), (101 : UInt8), (100 : UInt8)] })))).bind fun j1 => (impl_HouseText_l63 ((s, t, u, v, w, x, y, z, a1, b1, c1, d1, e1, f1, g1, h1), j1)).bind fun k1 => some k1) else (impl_HouseText_l63 ((s, t, u, v, w, x, y, z, a1, b1, c1, d1, e1, f1, g1, h1), i1)).bind fun j1 => some j1)
def impl_HouseText_e : FEnt := ⟨64, [.tmp 2], [], [(.agg, cc0)], ⟨66, [⟨2, .one, [.dat .str]⟩]⟩, impl_HouseText⟩
theorem impl_HouseText_ok : FnOk Tryz.prog 7 impl_HouseText_e := fnOk_mk (tb := [(1018, impl_HouseText_n1018), (63, impl_HouseText_n63), (122, impl_HouseText_n122)]) (c := (Tryz.f7.body).getD .skip) mixed Tryz.func7 (bC impl_HouseOk_ok (bC impl_Digits_ok (bC impl_SetText_ok (bC impl_EntryText_ok bN)))) (by kernel_rfl) (by kernel_rfl) (by kernel_rfl) ⟨nodeLoop (by kernel_rfl) impl_HouseText_s1018 (by kernel_rfl) (by intro d; kernel_rfl), nodeJoin (by kernel_rfl) (by intro d; kernel_rfl), nodeLoop (by kernel_rfl) impl_HouseText_s122 (by kernel_rfl) (by intro d; kernel_rfl), trivial⟩ (by intro d; kernel_rfl)


/-! laws.eqIntS -/
def laws_eqIntS_s58 : t1 → Option (t1 ⊕ Bool ⊕ Unit)
  | (a, b, c) => bif decide (c < (ln a)) then ix c a.length (ix c b.length (bif (gx a c 0) != (gx b c 0) then some (.inr (.inl false)) else some (.inl (a, b, w64 (c + 1))))) else some (.inr (.inr ()))
def laws_eqIntS_n58 : NEnt := ⟨⟨30, [⟨0, .one, [.dat (.list kI)]⟩, ⟨1, .one, [.dat (.list kI)]⟩, ⟨5, .one, [.dat kI]⟩]⟩, [(.ret, ⟨30, [⟨4, .one, [.dat .bool]⟩]⟩), (.exit 0, ⟨30, []⟩)], lp laws_eqIntS_s58⟩
def laws_eqIntS : List Int × List Int → Option Bool
  | (a, b) => bif (ln a) != (ln b) then some false else bx (lp laws_eqIntS_s58 (a, b, 0)) (fun c => some c) fun _ => some true
def laws_eqIntS_e : FEnt := ⟨26, [.tmp 4], [], [(.one, [.dat (.list kI)]), (.one, [.dat (.list kI)])], ⟨30, [⟨4, .one, [.dat .bool]⟩]⟩, laws_eqIntS⟩
theorem laws_eqIntS_ok : FnOk Tryz.prog 72 laws_eqIntS_e := fnOk_mk (tb := [(58, laws_eqIntS_n58)]) (c := (Tryz.f72.body).getD .skip) mixed Tryz.func72 bN (by kernel_rfl) (by kernel_rfl) (by kernel_rfl) ⟨nodeLoop (by kernel_rfl) laws_eqIntS_s58 (by kernel_rfl) (by intro d; kernel_rfl), trivial⟩ (by intro d; kernel_rfl)


/-! laws.eqConf -/
def laws_eqConf : t20 × t20 → Option Bool
  | ((a, b, c, d, e, f, g, h), i, j, k, l, m, n, o, p) => bif a != i then some false else bif b != j then some false else bif c != k then some false else (laws_eqIntS (d, l)).bind fun q => bif !q then some false else bif e != m then some false else bif f != n then some false else bif g != o then some false else bif h != p then some false else some true
def laws_eqConf_e : FEnt := ⟨46, [.tmp 4], [], [(.agg, cc4), (.agg, cc4)], ⟨50, [⟨4, .one, [.dat .bool]⟩]⟩, laws_eqConf⟩
theorem laws_eqConf_ok : FnOk Tryz.prog 29 laws_eqConf_e := fnOk_mk (tb := []) (c := (Tryz.f29.body).getD .skip) mixed Tryz.func29 (bC laws_eqIntS_ok bN) (by kernel_rfl) (by kernel_rfl) (by kernel_rfl) trivial (by intro d; kernel_rfl)


/-! laws.eqSpan -/
def laws_eqSpan : (Int × Int) × Int × Int → Option Bool
  | ((a, b), c, d) => bif a != c then some false else bif b != d then some false else some true
def laws_eqSpan_e : FEnt := ⟨15, [.tmp 4], [], [(.agg, cc10), (.agg, cc10)], ⟨19, [⟨4, .one, [.dat .bool]⟩]⟩, laws_eqSpan⟩
theorem laws_eqSpan_ok : FnOk Tryz.prog 140 laws_eqSpan_e := fnOk_mk (tb := []) (c := (Tryz.f140.body).getD .skip) mixed Tryz.func140 bN (by kernel_rfl) (by kernel_rfl) (by kernel_rfl) trivial (by intro d; kernel_rfl)


/-! laws.eqSpanS -/
def laws_eqSpanS_s58 : t15 → Option (t15 ⊕ Bool ⊕ Unit)
  | (a, b, c) => bif decide (c < (ln a)) then ix c a.length ((some (gx a c (0, 0))).bind fun (d, e) => ix c b.length ((some (gx b c (0, 0))).bind fun (f, g) => (laws_eqSpan ((d, e), f, g)).bind fun h => bif !h then some (.inr (.inl false)) else some (.inl (a, b, w64 (c + 1))))) else some (.inr (.inr ()))
def laws_eqSpanS_n58 : NEnt := ⟨⟨31, [⟨0, .one, [.dat kk10]⟩, ⟨1, .one, [.dat kk10]⟩, ⟨5, .one, [.dat kI]⟩]⟩, [(.ret, ⟨31, [⟨4, .one, [.dat .bool]⟩]⟩), (.exit 0, ⟨31, []⟩)], lp laws_eqSpanS_s58⟩
def laws_eqSpanS : t9 → Option Bool
  | (a, b) => bif (ln a) != (ln b) then some false else bx (lp laws_eqSpanS_s58 (a, b, 0)) (fun c => some c) fun _ => some true
def laws_eqSpanS_e : FEnt := ⟨27, [.tmp 4], [], [(.one, [.dat kk10]), (.one, [.dat kk10])], ⟨31, [⟨4, .one, [.dat .bool]⟩]⟩, laws_eqSpanS⟩
theorem laws_eqSpanS_ok : FnOk Tryz.prog 120 laws_eqSpanS_e := fnOk_mk (tb := [(58, laws_eqSpanS_n58)]) (c := (Tryz.f120.body).getD .skip) mixed Tryz.func120 (bC laws_eqSpan_ok bN) (by kernel_rfl) (by kernel_rfl) (by kernel_rfl) ⟨nodeLoop (by kernel_rfl) laws_eqSpanS_s58 (by kernel_rfl) (by intro d; kernel_rfl), trivial⟩ (by intro d; kernel_rfl)


/-! laws.eqSeat -/
def laws_eqSeat : t13 × t13 → Option Bool
  | ((a, b, c, d, e), f, g, h, i, j) => bif a != f then some false else bif b != g then some false else (laws_eqSpanS (c, h)).bind fun k => bif !k then some false else bif d != i then some false else bif e != j then some false else some true
def laws_eqSeat_e : FEnt := ⟨31, [.tmp 4], [], [(.agg, cc5), (.agg, cc5)], ⟨35, [⟨4, .one, [.dat .bool]⟩]⟩, laws_eqSeat⟩
theorem laws_eqSeat_ok : FnOk Tryz.prog 73 laws_eqSeat_e := fnOk_mk (tb := []) (c := (Tryz.f73.body).getD .skip) mixed Tryz.func73 (bC laws_eqSpanS_ok bN) (by kernel_rfl) (by kernel_rfl) (by kernel_rfl) trivial (by intro d; kernel_rfl)


/-! laws.eqSeatS -/
def laws_eqSeatS_s58 : List t13 × t21 → Option (List t13 × t21 ⊕ Bool ⊕ Unit)
  | (a, b, c) => bif decide (c < (ln a)) then ix c a.length ((some (gx a c (0, 0, [], 0, 0))).bind fun (d, e, f, g, h) => ix c b.length ((some (gx b c (0, 0, [], 0, 0))).bind fun (i, j, k, l, m) => (laws_eqSeat ((d, e, f, g, h), i, j, k, l, m)).bind fun n => bif !n then some (.inr (.inl false)) else some (.inl (a, b, w64 (c + 1))))) else some (.inr (.inr ()))
def laws_eqSeatS_n58 : NEnt := ⟨⟨31, [⟨0, .one, [.dat kk6]⟩, ⟨1, .one, [.dat kk6]⟩, ⟨5, .one, [.dat kI]⟩]⟩, [(.ret, ⟨31, [⟨4, .one, [.dat .bool]⟩]⟩), (.exit 0, ⟨31, []⟩)], lp laws_eqSeatS_s58⟩
def laws_eqSeatS : List t13 × List t13 → Option Bool
  | (a, b) => bif (ln a) != (ln b) then some false else bx (lp laws_eqSeatS_s58 (a, b, 0)) (fun c => some c) fun _ => some true
def laws_eqSeatS_e : FEnt := ⟨27, [.tmp 4], [], [(.one, [.dat kk6]), (.one, [.dat kk6])], ⟨31, [⟨4, .one, [.dat .bool]⟩]⟩, laws_eqSeatS⟩
theorem laws_eqSeatS_ok : FnOk Tryz.prog 30 laws_eqSeatS_e := fnOk_mk (tb := [(58, laws_eqSeatS_n58)]) (c := (Tryz.f30.body).getD .skip) mixed Tryz.func30 (bC laws_eqSeat_ok bN) (by kernel_rfl) (by kernel_rfl) (by kernel_rfl) ⟨nodeLoop (by kernel_rfl) laws_eqSeatS_s58 (by kernel_rfl) (by intro d; kernel_rfl), trivial⟩ (by intro d; kernel_rfl)


/-! laws.eqIntSS -/
def laws_eqIntSS_s58 : t12 → Option (t12 ⊕ Bool ⊕ Unit)
  | (a, b, c) => bif decide (c < (ln a)) then ix c a.length (ix c b.length ((laws_eqIntS (gx a c [], gx b c [])).bind fun d => bif !d then some (.inr (.inl false)) else some (.inl (a, b, w64 (c + 1))))) else some (.inr (.inr ()))
def laws_eqIntSS_n58 : NEnt := ⟨⟨31, [⟨0, .one, [.dat kk11]⟩, ⟨1, .one, [.dat kk11]⟩, ⟨5, .one, [.dat kI]⟩]⟩, [(.ret, ⟨31, [⟨4, .one, [.dat .bool]⟩]⟩), (.exit 0, ⟨31, []⟩)], lp laws_eqIntSS_s58⟩
def laws_eqIntSS : List (List Int) × List (List Int) → Option Bool
  | (a, b) => bif (ln a) != (ln b) then some false else bx (lp laws_eqIntSS_s58 (a, b, 0)) (fun c => some c) fun _ => some true
def laws_eqIntSS_e : FEnt := ⟨27, [.tmp 4], [], [(.one, [.dat kk11]), (.one, [.dat kk11])], ⟨31, [⟨4, .one, [.dat .bool]⟩]⟩, laws_eqIntSS⟩
theorem laws_eqIntSS_ok : FnOk Tryz.prog 141 laws_eqIntSS_e := fnOk_mk (tb := [(58, laws_eqIntSS_n58)]) (c := (Tryz.f141.body).getD .skip) mixed Tryz.func141 (bC laws_eqIntS_ok bN) (by kernel_rfl) (by kernel_rfl) (by kernel_rfl) ⟨nodeLoop (by kernel_rfl) laws_eqIntSS_s58 (by kernel_rfl) (by intro d; kernel_rfl), trivial⟩ (by intro d; kernel_rfl)


/-! laws.eqSketch -/
def laws_eqSketch : t24 × t24 → Option Bool
  | ((a, b, c, d, e, f, g), h, i, j, k, l, m, n) => bif a != h then some false else bif b != i then some false else bif c != j then some false else bif d != k then some false else (laws_eqIntS (e, l)).bind fun o => bif !o then some false else (laws_eqIntS (f, m)).bind fun p => bif !p then some false else (laws_eqIntSS (g, n)).bind fun q => bif !q then some false else some true
def laws_eqSketch_e : FEnt := ⟨43, [.tmp 4], [], [(.agg, cc3), (.agg, cc3)], ⟨47, [⟨4, .one, [.dat .bool]⟩]⟩, laws_eqSketch⟩
theorem laws_eqSketch_ok : FnOk Tryz.prog 122 laws_eqSketch_e := fnOk_mk (tb := []) (c := (Tryz.f122.body).getD .skip) mixed Tryz.func122 (bC laws_eqIntS_ok (bC laws_eqIntSS_ok bN)) (by kernel_rfl) (by kernel_rfl) (by kernel_rfl) trivial (by intro d; kernel_rfl)


/-! laws.eqEntry -/
def laws_eqEntry : t28 × t28 → Option Bool
  | ((a, b, c, d, e, f, g, h, i, j), k, l, m, n, o, p, q, r, s, t) => bif a != k then some false else bif b != l then some false else (laws_eqSpanS (c, m)).bind fun u => bif !u then some false else (laws_eqSketch ((d, e, f, g, h, i, j), n, o, p, q, r, s, t)).bind fun v => bif !v then some false else some true
def laws_eqEntry_e : FEnt := ⟨27, [.tmp 4], [], [(.agg, cc2), (.agg, cc2)], ⟨31, [⟨4, .one, [.dat .bool]⟩]⟩, laws_eqEntry⟩
theorem laws_eqEntry_ok : FnOk Tryz.prog 76 laws_eqEntry_e := fnOk_mk (tb := []) (c := (Tryz.f76.body).getD .skip) mixed Tryz.func76 (bC laws_eqSpanS_ok (bC laws_eqSketch_ok bN)) (by kernel_rfl) (by kernel_rfl) (by kernel_rfl) trivial (by intro d; kernel_rfl)


/-! laws.eqEntryS -/
def laws_eqEntryS_s58 : List t28 × t31 → Option (List t28 × t31 ⊕ Bool ⊕ Unit)
  | (a, b, c) => (some (decide (c < (ln a)))).bind fun d => bif d then ix c a.length ((some (gx a c (0, 0, [], 0, 0, 0, 0, [], [], []))).bind fun (e, f, g, h, i, j, k, l, m, n) => ix c b.length ((some (gx b c (0, 0, [], 0, 0, 0, 0, [], [], []))).bind fun (o, p, q, r, s, t, u, v, w, x) => (laws_eqEntry ((e, f, g, h, i, j, k, l, m, n), o, p, q, r, s, t, u, v, w, x)).bind fun y => bif !y then some (.inr (.inl false)) else some (.inl (a, b, w64 (c + 1))))) else some (.inr (.inr ()))
def laws_eqEntryS_n58 : NEnt := ⟨⟨31, [⟨0, .one, [.dat kk4]⟩, ⟨1, .one, [.dat kk4]⟩, ⟨5, .one, [.dat kI]⟩]⟩, [(.ret, ⟨31, [⟨4, .one, [.dat .bool]⟩]⟩), (.exit 0, ⟨31, []⟩)], lp laws_eqEntryS_s58⟩
def laws_eqEntryS : List t28 × List t28 → Option Bool
  | (a, b) => (some ((ln a) != (ln b))).bind fun c => bif c then some false else bx (lp laws_eqEntryS_s58 (a, b, 0)) (fun d => some d) fun _ => some true
def laws_eqEntryS_e : FEnt := ⟨27, [.tmp 4], [], [(.one, [.dat kk4]), (.one, [.dat kk4])], ⟨31, [⟨4, .one, [.dat .bool]⟩]⟩, laws_eqEntryS⟩
theorem laws_eqEntryS_ok : FnOk Tryz.prog 33 laws_eqEntryS_e := fnOk_mk (tb := [(58, laws_eqEntryS_n58)]) (c := (Tryz.f33.body).getD .skip) mixed Tryz.func33 (bC laws_eqEntry_ok bN) (by kernel_rfl) (by kernel_rfl) (by kernel_rfl) ⟨nodeLoop (by kernel_rfl) laws_eqEntryS_s58 (by kernel_rfl) (by intro d; kernel_rfl), trivial⟩ (by intro d; kernel_rfl)


/-! laws.eqRow -/
def laws_eqRow : List t28 × List t28 → Option Bool
  | (a, b) => (laws_eqEntryS (a, b)).bind fun c => bif !c then some false else some true
def laws_eqRow_e : FEnt := ⟨11, [.tmp 4], [], [(.agg, [.dat kk4]), (.agg, [.dat kk4])], ⟨15, [⟨4, .one, [.dat .bool]⟩]⟩, laws_eqRow⟩
theorem laws_eqRow_ok : FnOk Tryz.prog 121 laws_eqRow_e := fnOk_mk (tb := []) (c := (Tryz.f121.body).getD .skip) mixed Tryz.func121 (bC laws_eqEntryS_ok bN) (by kernel_rfl) (by kernel_rfl) (by kernel_rfl) trivial (by intro d; kernel_rfl)


/-! laws.eqRowS -/
def laws_eqRowS_s58 : t43 → Option (t43 ⊕ Bool ⊕ Unit)
  | (a, b, c) => (some (decide (c < (ln a)))).bind fun d => bif d then ix c a.length ((some (gx a c [])).bind fun e => ix c b.length ((some (gx b c [])).bind fun f => (laws_eqRow (e, f)).bind fun g => bif !g then some (.inr (.inl false)) else some (.inl (a, b, w64 (c + 1))))) else some (.inr (.inr ()))
def laws_eqRowS_n58 : NEnt := ⟨⟨31, [⟨0, .one, [.dat kk2]⟩, ⟨1, .one, [.dat kk2]⟩, ⟨5, .one, [.dat kI]⟩]⟩, [(.ret, ⟨31, [⟨4, .one, [.dat .bool]⟩]⟩), (.exit 0, ⟨31, []⟩)], lp laws_eqRowS_s58⟩
def laws_eqRowS : List (List t28) × List (List t28) → Option Bool
  | (a, b) => (some ((ln a) != (ln b))).bind fun c => bif c then some false else bx (lp laws_eqRowS_s58 (a, b, 0)) (fun d => some d) fun _ => some true
def laws_eqRowS_e : FEnt := ⟨27, [.tmp 4], [], [(.one, [.dat kk2]), (.one, [.dat kk2])], ⟨31, [⟨4, .one, [.dat .bool]⟩]⟩, laws_eqRowS⟩
theorem laws_eqRowS_ok : FnOk Tryz.prog 74 laws_eqRowS_e := fnOk_mk (tb := [(58, laws_eqRowS_n58)]) (c := (Tryz.f74.body).getD .skip) mixed Tryz.func74 (bC laws_eqRow_ok bN) (by kernel_rfl) (by kernel_rfl) (by kernel_rfl) ⟨nodeLoop (by kernel_rfl) laws_eqRowS_s58 (by kernel_rfl) (by intro d; kernel_rfl), trivial⟩ (by intro d; kernel_rfl)


/-! laws.eqRowSS -/
def laws_eqRowSS_s58 : t44 → Option (t44 ⊕ Bool ⊕ Unit)
  | (a, b, c) => (some (decide (c < (ln a)))).bind fun d => bif d then ix c a.length ((some (gx a c [])).bind fun e => ix c b.length ((some (gx b c [])).bind fun f => (laws_eqRowS (e, f)).bind fun g => bif !g then some (.inr (.inl false)) else some (.inl (a, b, w64 (c + 1))))) else some (.inr (.inr ()))
def laws_eqRowSS_n58 : NEnt := ⟨⟨31, [⟨0, .one, [.dat kk0]⟩, ⟨1, .one, [.dat kk0]⟩, ⟨5, .one, [.dat kI]⟩]⟩, [(.ret, ⟨31, [⟨4, .one, [.dat .bool]⟩]⟩), (.exit 0, ⟨31, []⟩)], lp laws_eqRowSS_s58⟩
def laws_eqRowSS : List (List (List t28)) × List (List (List t28)) → Option Bool
  | (a, b) => (some ((ln a) != (ln b))).bind fun c => bif c then some false else bx (lp laws_eqRowSS_s58 (a, b, 0)) (fun d => some d) fun _ => some true
def laws_eqRowSS_e : FEnt := ⟨27, [.tmp 4], [], [(.one, [.dat kk0]), (.one, [.dat kk0])], ⟨31, [⟨4, .one, [.dat .bool]⟩]⟩, laws_eqRowSS⟩
theorem laws_eqRowSS_ok : FnOk Tryz.prog 31 laws_eqRowSS_e := fnOk_mk (tb := [(58, laws_eqRowSS_n58)]) (c := (Tryz.f31.body).getD .skip) mixed Tryz.func31 (bC laws_eqRowS_ok bN) (by kernel_rfl) (by kernel_rfl) (by kernel_rfl) ⟨nodeLoop (by kernel_rfl) laws_eqRowSS_s58 (by kernel_rfl) (by intro d; kernel_rfl), trivial⟩ (by intro d; kernel_rfl)


/-! laws.eqTurn -/
def laws_eqTurn : (Int × Bool × List Int) × Int × Bool × List Int → Option Bool
  | ((a, b, c), d, e, f) => bif a != d then some false else bif !(b == e) then some false else (laws_eqIntS (c, f)).bind fun g => bif !g then some false else some true
def laws_eqTurn_e : FEnt := ⟨21, [.tmp 4], [], [(.agg, cc6), (.agg, cc6)], ⟨25, [⟨4, .one, [.dat .bool]⟩]⟩, laws_eqTurn⟩
theorem laws_eqTurn_ok : FnOk Tryz.prog 75 laws_eqTurn_e := fnOk_mk (tb := []) (c := (Tryz.f75.body).getD .skip) mixed Tryz.func75 (bC laws_eqIntS_ok bN) (by kernel_rfl) (by kernel_rfl) (by kernel_rfl) trivial (by intro d; kernel_rfl)


/-! laws.eqTurnS -/
def laws_eqTurnS_s58 : t25 → Option (t25 ⊕ Bool ⊕ Unit)
  | (a, b, c) => bif decide (c < (ln a)) then ix c a.length ((some (gx a c (0, false, []))).bind fun (d, e, f) => ix c b.length ((some (gx b c (0, false, []))).bind fun (g, h, i) => (laws_eqTurn ((d, e, f), g, h, i)).bind fun j => bif !j then some (.inr (.inl false)) else some (.inl (a, b, w64 (c + 1))))) else some (.inr (.inr ()))
def laws_eqTurnS_n58 : NEnt := ⟨⟨31, [⟨0, .one, [.dat kk8]⟩, ⟨1, .one, [.dat kk8]⟩, ⟨5, .one, [.dat kI]⟩]⟩, [(.ret, ⟨31, [⟨4, .one, [.dat .bool]⟩]⟩), (.exit 0, ⟨31, []⟩)], lp laws_eqTurnS_s58⟩
def laws_eqTurnS : List (Int × Bool × List Int) × List (Int × Bool × List Int) → Option Bool
  | (a, b) => bif (ln a) != (ln b) then some false else bx (lp laws_eqTurnS_s58 (a, b, 0)) (fun c => some c) fun _ => some true
def laws_eqTurnS_e : FEnt := ⟨27, [.tmp 4], [], [(.one, [.dat kk8]), (.one, [.dat kk8])], ⟨31, [⟨4, .one, [.dat .bool]⟩]⟩, laws_eqTurnS⟩
theorem laws_eqTurnS_ok : FnOk Tryz.prog 32 laws_eqTurnS_e := fnOk_mk (tb := [(58, laws_eqTurnS_n58)]) (c := (Tryz.f32.body).getD .skip) mixed Tryz.func32 (bC laws_eqTurn_ok bN) (by kernel_rfl) (by kernel_rfl) (by kernel_rfl) ⟨nodeLoop (by kernel_rfl) laws_eqTurnS_s58 (by kernel_rfl) (by intro d; kernel_rfl), trivial⟩ (by intro d; kernel_rfl)


/-! laws.eqOut -/
def laws_eqOut : t30 × t30 → Option Bool
  | ((a, b, c, d, e, f, g, h, i, j, k), l, m, n, o, p, q, r, s, t, u, v) => bif a != l then some false else (laws_eqEntry ((b, c, d, e, f, g, h, i, j, k), m, n, o, p, q, r, s, t, u, v)).bind fun w => bif !w then some false else some true
def laws_eqOut_e : FEnt := ⟨16, [.tmp 4], [], [(.agg, cc1), (.agg, cc1)], ⟨20, [⟨4, .one, [.dat .bool]⟩]⟩, laws_eqOut⟩
theorem laws_eqOut_ok : FnOk Tryz.prog 77 laws_eqOut_e := fnOk_mk (tb := []) (c := (Tryz.f77.body).getD .skip) mixed Tryz.func77 (bC laws_eqEntry_ok bN) (by kernel_rfl) (by kernel_rfl) (by kernel_rfl) trivial (by intro d; kernel_rfl)


/-! laws.eqOutS -/
def laws_eqOutS_s58 : List t30 × t33 → Option (List t30 × t33 ⊕ Bool ⊕ Unit)
  | (a, b, c) => (some (decide (c < (ln a)))).bind fun d => bif d then ix c a.length ((some (gx a c (0, 0, 0, [], 0, 0, 0, 0, [], [], []))).bind fun (e, f, g, h, i, j, k, l, m, n, o) => ix c b.length ((some (gx b c (0, 0, 0, [], 0, 0, 0, 0, [], [], []))).bind fun (p, q, r, s, t, u, v, w, x, y, z) => (laws_eqOut ((e, f, g, h, i, j, k, l, m, n, o), p, q, r, s, t, u, v, w, x, y, z)).bind fun a1 => bif !a1 then some (.inr (.inl false)) else some (.inl (a, b, w64 (c + 1))))) else some (.inr (.inr ()))
def laws_eqOutS_n58 : NEnt := ⟨⟨31, [⟨0, .one, [.dat kk1]⟩, ⟨1, .one, [.dat kk1]⟩, ⟨5, .one, [.dat kI]⟩]⟩, [(.ret, ⟨31, [⟨4, .one, [.dat .bool]⟩]⟩), (.exit 0, ⟨31, []⟩)], lp laws_eqOutS_s58⟩
def laws_eqOutS : List t30 × List t30 → Option Bool
  | (a, b) => (some ((ln a) != (ln b))).bind fun c => bif c then some false else bx (lp laws_eqOutS_s58 (a, b, 0)) (fun d => some d) fun _ => some true
def laws_eqOutS_e : FEnt := ⟨27, [.tmp 4], [], [(.one, [.dat kk1]), (.one, [.dat kk1])], ⟨31, [⟨4, .one, [.dat .bool]⟩]⟩, laws_eqOutS⟩
theorem laws_eqOutS_ok : FnOk Tryz.prog 34 laws_eqOutS_e := fnOk_mk (tb := [(58, laws_eqOutS_n58)]) (c := (Tryz.f34.body).getD .skip) mixed Tryz.func34 (bC laws_eqOut_ok bN) (by kernel_rfl) (by kernel_rfl) (by kernel_rfl) ⟨nodeLoop (by kernel_rfl) laws_eqOutS_s58 (by kernel_rfl) (by intro d; kernel_rfl), trivial⟩ (by intro d; kernel_rfl)


/-! laws.eqHouse -/
def laws_eqHouse : t58 × t58 → Option Bool
  | ((a, b, c, d, e, f, g, h, i, j, k, l, m, n, o, p), q, r, s, t, u, v, w, x, y, z, a1, b1, c1, d1, e1, f1) => (laws_eqConf ((a, b, c, d, e, f, g, h), q, r, s, t, u, v, w, x)).bind fun g1 => bif !g1 then some false else bif i != y then some false else bif !(j == z) then some false else (laws_eqSeatS (k, a1)).bind fun h1 => bif !h1 then some false else (laws_eqRowSS (l, b1)).bind fun i1 => bif !i1 then some false else (laws_eqTurnS (m, c1)).bind fun j1 => bif !j1 then some false else bif n != d1 then some false else (laws_eqEntryS (o, e1)).bind fun k1 => bif !k1 then some false else (laws_eqOutS (p, f1)).bind fun l1 => bif !l1 then some false else some true
def laws_eqHouse_e : FEnt := ⟨56, [.tmp 4], [], [(.agg, cc0), (.agg, cc0)], ⟨60, [⟨4, .one, [.dat .bool]⟩]⟩, laws_eqHouse⟩
theorem laws_eqHouse_ok : FnOk Tryz.prog 8 laws_eqHouse_e := fnOk_mk (tb := []) (c := (Tryz.f8.body).getD .skip) mixed Tryz.func8 (bC laws_eqConf_ok (bC laws_eqSeatS_ok (bC laws_eqRowSS_ok (bC laws_eqTurnS_ok (bC laws_eqEntryS_ok (bC laws_eqOutS_ok bN)))))) (by kernel_rfl) (by kernel_rfl) (by kernel_rfl) trivial (by intro d; kernel_rfl)


/-! laws.FnExactHouseText -/
def laws_FnExactHouseText : t58 → Option Bool
  | (a, b, c, d, e, f, g, h, i, j, k, l, m, n, o, p) => (laws_szHouse ((a, b, c, d, e, f, g, h, i, j, k, l, m, n, o, p), 1048576)).bind fun q => bif decide (q < 0) then some true else (laws_toHouse (a, b, c, d, e, f, g, h, i, j, k, l, m, n, o, p)).bind fun (r, s, t, u, v, w, x, y, z, a1, b1, c1, d1, e1, f1, g1) => (spec_HouseText (r, s, t, u, v, w, x, y, z, a1, b1, c1, d1, e1, f1, g1)).bind fun h1 => (laws_toHouse (a, b, c, d, e, f, g, h, i, j, k, l, m, n, o, p)).bind fun (i1, j1, k1, l1, m1, n1, o1, p1, q1, r1, s1, t1, u1, v1, w1, x1) => (impl_HouseText (i1, j1, k1, l1, m1, n1, o1, p1, q1, r1, s1, t1, u1, v1, w1, x1)).bind fun y1 => bif !(y1 == h1) then some false else (laws_toHouse (a, b, c, d, e, f, g, h, i, j, k, l, m, n, o, p)).bind fun (z1, a2, b2, c2, d2, e2, f2, g2, h2, i2, j2, k2, l2, m2, n2, o2) => (laws_eqHouse ((i1, j1, k1, l1, m1, n1, o1, p1, q1, r1, s1, t1, u1, v1, w1, x1), z1, a2, b2, c2, d2, e2, f2, g2, h2, i2, j2, k2, l2, m2, n2, o2)).bind fun p2 => bif !p2 then some false else some true
def laws_FnExactHouseText_e : FEnt := ⟨27, [.tmp 2], [], [(.agg, cc0)], ⟨29, [⟨2, .one, [.dat .bool]⟩]⟩, laws_FnExactHouseText⟩
theorem laws_FnExactHouseText_ok : FnOk Tryz.prog 3 laws_FnExactHouseText_e := fnOk_mk (tb := []) (c := (Tryz.f3.body).getD .skip) mixed Tryz.func3 (bC laws_szHouse_ok (bC laws_toHouse_ok (bC spec_HouseText_ok (bC impl_HouseText_ok (bC laws_eqHouse_ok bN))))) (by kernel_rfl) (by kernel_rfl) (by kernel_rfl) trivial (by intro d; kernel_rfl)

end Go.Proofs.YtkegollaleklaaaGreatDoor.Tw
