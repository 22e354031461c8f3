/- Printed by print.lean: typed twins of functions and their proofs. No condition. -/
import Derived.Test.YtkegollaleklaaaV
import Derived.Test.YtkegollaleklaaaExt
import Derived.Test.YtkegollaleklaaaProg
import Derived.KernelRfl
namespace Go.Proofs.Ytkegollaleklaaa.Tw
open Go.Mach
set_option linter.unusedVariables false
set_option maxRecDepth 100000
abbrev kI : K := .int .i64
abbrev kB : K := .int .u8
abbrev t0 : Type := List (Int × Int) × Int
abbrev t1 : Type := Int × List (Int × Int)
abbrev t2 : Type := Int × Unit × Unit × Unit
abbrev t3 : Type := List Int × List Int × Int
abbrev t4 : Type := List Int × List (List Int)
abbrev t5 : Type := Int × List Int × Int × Int
abbrev t6 : Type := List (List Int) × Int × Int
abbrev t7 : Type := List (Int × Int) × Int × Int
abbrev t8 : Type := Int × t2
abbrev t9 : Type := (Unit × Unit × Unit) × Int × Int
abbrev t10 : Type := Int × t8
abbrev t11 : Type := List Int × t4
abbrev t12 : Type := List (List Int) × List (List Int) × Int
abbrev t13 : Type := List (Int × Int) × t0
abbrev t14 : Type := Int × t10
abbrev t15 : Type := Int × t11
abbrev t16 : Type := Int × t15
abbrev t17 : Type := Int × t16
abbrev t18 : Type := Int × t17
abbrev t19 : Type := t18 × Int
abbrev t20 : Type := List (Int × Int) × t18
abbrev t21 : Type := Int × t20
abbrev t22 : Type := t18 × List Int × Int × Int
abbrev t23 : Type := Int × t21
abbrev t24 : Type := Int × t23
abbrev t25 : Type := List t23 × Int
abbrev t26 : Type := Int × List t23
abbrev t27 : Type := t14 × t18
abbrev t28 : Type := List t23 × Int × Int
abbrev t29 : Type := List t24 × Int
abbrev t30 : Type := List t24 × Int × Int
abbrev t31 : Type := t14 × t18 × t6
abbrev t32 : Type := List t23 × List t23
abbrev t33 : Type := List t23 × t25
abbrev t34 : Type := (Unit × Unit × Unit) × t23 × Int × t26
abbrev kk5 : K := (.list (.list kI))
abbrev kk4 : K := (.list (.pair kI kI))
abbrev kk3 : K := (.pair kI (.pair kI (.pair kk4 (.pair kI (.pair kI (.pair kI (.pair kI (.pair (.list kI) (.pair (.list kI) kk5)))))))))
abbrev kk2 : K := (.list kk3)
abbrev kk1 : K := (.pair kI kk3)
abbrev kk0 : K := (.list kk1)
abbrev cc0 : List PC := [.dat kI, .dat kI, .own true (.pair kI kI), .dat kI, .dat kI, .dat kI, .dat kI, .own true kI, .own true kI, .own true (.list kI)]
abbrev cc1 : List PC := [.dat kI, .dat kI, .dat kI, .dat kk4, .dat kI, .dat kI, .dat kI, .dat kI, .dat (.list kI), .dat (.list kI), .dat kk5]
abbrev cc2 : List PC := [.dat kI, .dat kI, .dat kk4, .dat kI, .dat kI, .dat kI, .dat kI, .dat (.list kI), .dat (.list kI), .dat kk5]
abbrev cc3 : List PC := [.dat kI, .dat kI, .dat kI, .dat kI, .own true kI, .own true kI, .own true (.list kI)]
abbrev cc4 : List PC := [.dat kI, .dat kI, .dat kI, .dat kI, .dat (.list kI), .dat (.list kI), .dat kk5]
abbrev cc5 : List PC := [.dat kI, .dat kI, .dat kI, .dat kI, .own true kI, .nil, .own true (.list kI)]
abbrev cc6 : List PC := [.dat kI, .dat kI, .nil, .dat kI, .dat kI, .dat kI, .dat kI, .nil, .nil, .nil]
abbrev cc7 : List PC := [.dat kI, .dat kI, .dat kI, .dat kI, .nil, .nil, .nil]
abbrev cc8 : List PC := [.ref 89 0 [] false false kk3]
abbrev cc9 : List PC := [.own true (.pair kI kI)]
abbrev cc10 : List PC := [.own true (.list kI)]
abbrev cc11 : List PC := [.dat kI, .dat kI]
theorem mixed : Try.prog.follows .mixedOrders = true := by kernel_rfl

/-! laws.szSpanS -/
def laws_szSpanS : t0 → Option Int
  | (a, b) => (some (decide ((w64 (b - (ln a))) < 0))).bind fun c => bif c then some (-1) else some (w64 (b - (ln a)))
def laws_szSpanS_e : FEnt := ⟨12, [.tmp 4], [], [(.one, [.dat kk4]), (.one, [.dat kI])], ⟨16, [⟨4, .one, [.dat kI]⟩]⟩, laws_szSpanS⟩
theorem laws_szSpanS_ok : FnOk Try.prog 63 laws_szSpanS_e := fnOk_mk (tb := []) (c := (Try.f63.body).getD .skip) mixed Try.func63 bN (by kernel_rfl) (by kernel_rfl) (by kernel_rfl) trivial (by intro d; kernel_rfl)


/-! laws.szIntS -/
def laws_szIntS : List Int × Int → Option Int
  | (a, b) => (some (decide ((w64 (b - (ln a))) < 0))).bind fun c => bif c then some (-1) else some (w64 (b - (ln a)))
def laws_szIntS_e : FEnt := ⟨12, [.tmp 4], [], [(.one, [.dat (.list kI)]), (.one, [.dat kI])], ⟨16, [⟨4, .one, [.dat kI]⟩]⟩, laws_szIntS⟩
theorem laws_szIntS_ok : FnOk Try.prog 82 laws_szIntS_e := fnOk_mk (tb := []) (c := (Try.f82.body).getD .skip) mixed Try.func82 bN (by kernel_rfl) (by kernel_rfl) (by kernel_rfl) trivial (by intro d; kernel_rfl)


/-! laws.szIntSS -/
def laws_szIntSS_s122 : t6 → Option (t6 ⊕ Int ⊕ Int)
  | (a, b, c) => bif decide (c < (ln a)) then ix c a.length ((laws_szIntS (gx a c [], b)).bind fun d => bif decide (d < 0) then some (.inr (.inl (-1))) else some (.inl (a, d, w64 (c + 1)))) else some (.inr (.inr b))
def laws_szIntSS_n122 : NEnt := ⟨⟨31, [⟨0, .one, [.dat kk5]⟩, ⟨1, .one, [.dat kI]⟩, ⟨5, .one, [.dat kI]⟩]⟩, [(.ret, ⟨31, [⟨4, .one, [.dat kI]⟩]⟩), (.exit 0, ⟨31, [⟨1, .one, [.dat kI]⟩]⟩)], lp laws_szIntSS_s122⟩
def laws_szIntSS : List (List Int) × Int → Option Int
  | (a, b) => (some (decide ((w64 (b - (ln a))) < 0))).bind fun c => bif c then some (-1) else bx (lp laws_szIntSS_s122 (a, w64 (b - (ln a)), 0)) (fun d => some d) fun d => some d
def laws_szIntSS_e : FEnt := ⟨27, [.tmp 4], [], [(.one, [.dat kk5]), (.one, [.dat kI])], ⟨31, [⟨4, .one, [.dat kI]⟩]⟩, laws_szIntSS⟩
theorem laws_szIntSS_ok : FnOk Try.prog 83 laws_szIntSS_e := fnOk_mk (tb := [(122, laws_szIntSS_n122)]) (c := (Try.f83.body).getD .skip) mixed Try.func83 (bC laws_szIntS_ok bN) (by kernel_rfl) (by kernel_rfl) (by kernel_rfl) ⟨nodeLoop (by kernel_rfl) laws_szIntSS_s122 (by kernel_rfl) (by intro d; kernel_rfl), trivial⟩ (by intro d; kernel_rfl)


/-! laws.szSketch -/
def laws_szSketch : t19 → Option Int
  | ((a, b, c, d, e, f, g), h) => (laws_szIntS (e, h)).bind fun i => bif decide (i < 0) then some (-1) else (laws_szIntS (f, i)).bind fun j => bif decide (j < 0) then some (-1) else (laws_szIntSS (g, j)).bind fun k => bif decide (k < 0) then some (-1) else some k
def laws_szSketch_e : FEnt := ⟨24, [.tmp 4], [], [(.agg, cc4), (.one, [.dat kI])], ⟨28, [⟨4, .one, [.dat kI]⟩]⟩, laws_szSketch⟩
theorem laws_szSketch_ok : FnOk Try.prog 64 laws_szSketch_e := fnOk_mk (tb := []) (c := (Try.f64.body).getD .skip) mixed Try.func64 (bC laws_szIntS_ok (bC laws_szIntSS_ok bN)) (by kernel_rfl) (by kernel_rfl) (by kernel_rfl) trivial (by intro d; kernel_rfl)


/-! laws.szEntry -/
def laws_szEntry : t23 × Int → Option Int
  | ((a, b, c, d, e, f, g, h, i, j), k) => (laws_szSpanS (c, k)).bind fun l => bif decide (l < 0) then some (-1) else (laws_szSketch ((d, e, f, g, h, i, j), l)).bind fun m => bif decide (m < 0) then some (-1) else some m
def laws_szEntry_e : FEnt := ⟨18, [.tmp 4], [], [(.agg, cc2), (.one, [.dat kI])], ⟨22, [⟨4, .one, [.dat kI]⟩]⟩, laws_szEntry⟩
theorem laws_szEntry_ok : FnOk Try.prog 42 laws_szEntry_e := fnOk_mk (tb := []) (c := (Try.f42.body).getD .skip) mixed Try.func42 (bC laws_szSpanS_ok (bC laws_szSketch_ok bN)) (by kernel_rfl) (by kernel_rfl) (by kernel_rfl) trivial (by intro d; kernel_rfl)


/-! laws.szEntryS -/
def laws_szEntryS_s122 : t28 → Option (t28 ⊕ Int ⊕ Int)
  | (a, b, c) => (some (decide (c < (ln a)))).bind fun d => bif d then ix c a.length ((some (gx a c (0, 0, [], 0, 0, 0, 0, [], [], []))).bind fun (e, f, g, h, i, j, k, l, m, n) => (laws_szEntry ((e, f, g, h, i, j, k, l, m, n), b)).bind fun o => bif decide (o < 0) then some (.inr (.inl (-1))) else some (.inl (a, o, w64 (c + 1)))) else some (.inr (.inr b))
def laws_szEntryS_n122 : NEnt := ⟨⟨31, [⟨0, .one, [.dat kk2]⟩, ⟨1, .one, [.dat kI]⟩, ⟨5, .one, [.dat kI]⟩]⟩, [(.ret, ⟨31, [⟨4, .one, [.dat kI]⟩]⟩), (.exit 0, ⟨31, [⟨1, .one, [.dat kI]⟩]⟩)], lp laws_szEntryS_s122⟩
def laws_szEntryS : t25 → Option Int
  | (a, b) => (some (decide ((w64 (b - (ln a))) < 0))).bind fun c => bif c then some (-1) else bx (lp laws_szEntryS_s122 (a, w64 (b - (ln a)), 0)) (fun d => some d) fun d => some d
def laws_szEntryS_e : FEnt := ⟨27, [.tmp 4], [], [(.one, [.dat kk2]), (.one, [.dat kI])], ⟨31, [⟨4, .one, [.dat kI]⟩]⟩, laws_szEntryS⟩
theorem laws_szEntryS_ok : FnOk Try.prog 14 laws_szEntryS_e := fnOk_mk (tb := [(122, laws_szEntryS_n122)]) (c := (Try.f14.body).getD .skip) mixed Try.func14 (bC laws_szEntry_ok bN) (by kernel_rfl) (by kernel_rfl) (by kernel_rfl) ⟨nodeLoop (by kernel_rfl) laws_szEntryS_s122 (by kernel_rfl) (by intro d; kernel_rfl), trivial⟩ (by intro d; kernel_rfl)


/-! laws.toSpan -/
def laws_toSpan : Int × Int → Option (Int × Int)
  | (a, b) => some (a, b)
def laws_toSpan_e : FEnt := ⟨11, [.cell 2 true 2], [], [(.agg, cc11)], ⟨13, [⟨2, .box, cc11⟩]⟩, laws_toSpan⟩
theorem laws_toSpan_ok : FnOk Try.prog 86 laws_toSpan_e := fnOk_mk (tb := []) (c := (Try.f86.body).getD .skip) mixed Try.func86 bN (by kernel_rfl) (by kernel_rfl) (by kernel_rfl) trivial (by intro d; kernel_rfl)


/-! laws.toSpanS -/
def laws_toSpanS_s58 : t13 → Option (t13 ⊕ List (Int × Int))
  | (a, b, c) => bif decide (c < (ln a)) then ix c a.length ((some (gx a c (0, 0))).bind fun (d, e) => (laws_toSpan (d, e)).bind fun (f, g) => ix c b.length (lx c b.length (some (.inl (a, sx b c (f, g), w64 (c + 1)))))) else some (.inr b)
def laws_toSpanS_n58 : NEnt := ⟨⟨25, [⟨0, .one, [.dat kk4]⟩, ⟨3, .one, cc9⟩, ⟨4, .one, [.dat kI]⟩]⟩, [(.exit 0, ⟨25, [⟨3, .one, cc9⟩]⟩)], lp laws_toSpanS_s58⟩
def laws_toSpanS : List (Int × Int) → Option (List (Int × Int))
  | a => chk (decide (((ln a).toNat ≤ (ln a).toNat) ∧ (((ln a).toNat ≤ 4294967296) ∧ (((ln a).toNat * 16) ≤ 140737488355328)))) ((lp laws_toSpanS_s58 (a, List.replicate (ln a).toNat (0, 0), 0)).bind fun b => some b)
def laws_toSpanS_e : FEnt := ⟨23, [.tmp 2], [], [(.one, [.dat kk4])], ⟨25, [⟨2, .one, cc9⟩]⟩, laws_toSpanS⟩
theorem laws_toSpanS_ok : FnOk Try.prog 66 laws_toSpanS_e := fnOk_mk (tb := [(58, laws_toSpanS_n58)]) (c := (Try.f66.body).getD .skip) mixed Try.func66 (bC laws_toSpan_ok bN) (by kernel_rfl) (by kernel_rfl) (by kernel_rfl) ⟨nodeLoop (by kernel_rfl) laws_toSpanS_s58 (by kernel_rfl) (by intro d; kernel_rfl), trivial⟩ (by intro d; kernel_rfl)


/-! laws.toIntS -/
def laws_toIntS_s58 : t3 → Option (t3 ⊕ List Int)
  | (a, b, c) => bif decide (c < (ln a)) then ix c a.length (ix c b.length (lx c b.length (some (.inl (a, sx b c (gx a c 0), w64 (c + 1)))))) else some (.inr b)
def laws_toIntS_n58 : NEnt := ⟨⟨24, [⟨0, .one, [.dat (.list kI)]⟩, ⟨3, .one, [.own true kI]⟩, ⟨4, .one, [.dat kI]⟩]⟩, [(.exit 0, ⟨24, [⟨3, .one, [.own true kI]⟩]⟩)], lp laws_toIntS_s58⟩
def laws_toIntS : List Int → Option (List Int)
  | a => chk (decide (((ln a).toNat ≤ (ln a).toNat) ∧ (((ln a).toNat ≤ 4294967296) ∧ (((ln a).toNat * 8) ≤ 140737488355328)))) ((lp laws_toIntS_s58 (a, List.replicate (ln a).toNat 0, 0)).bind fun b => some b)
def laws_toIntS_e : FEnt := ⟨22, [.tmp 2], [], [(.one, [.dat (.list kI)])], ⟨24, [⟨2, .one, [.own true kI]⟩]⟩, laws_toIntS⟩
theorem laws_toIntS_ok : FnOk Try.prog 87 laws_toIntS_e := fnOk_mk (tb := [(58, laws_toIntS_n58)]) (c := (Try.f87.body).getD .skip) mixed Try.func87 bN (by kernel_rfl) (by kernel_rfl) (by kernel_rfl) ⟨nodeLoop (by kernel_rfl) laws_toIntS_s58 (by kernel_rfl) (by intro d; kernel_rfl), trivial⟩ (by intro d; kernel_rfl)


/-! laws.toIntSS -/
def laws_toIntSS_s58 : t12 → Option (t12 ⊕ List (List Int))
  | (a, b, c) => bif decide (c < (ln a)) then ix c a.length ((laws_toIntS (gx a c [])).bind fun d => ix c b.length (lx c b.length (some (.inl (a, sx b c d, w64 (c + 1)))))) else some (.inr b)
def laws_toIntSS_n58 : NEnt := ⟨⟨25, [⟨0, .one, [.dat kk5]⟩, ⟨3, .one, cc10⟩, ⟨4, .one, [.dat kI]⟩]⟩, [(.exit 0, ⟨25, [⟨3, .one, cc10⟩]⟩)], lp laws_toIntSS_s58⟩
def laws_toIntSS : List (List Int) → Option (List (List Int))
  | a => chk (decide (((ln a).toNat ≤ (ln a).toNat) ∧ (((ln a).toNat ≤ 4294967296) ∧ (((ln a).toNat * 24) ≤ 140737488355328)))) ((lp laws_toIntSS_s58 (a, List.replicate (ln a).toNat [], 0)).bind fun b => some b)
def laws_toIntSS_e : FEnt := ⟨23, [.tmp 2], [], [(.one, [.dat kk5])], ⟨25, [⟨2, .one, cc10⟩]⟩, laws_toIntSS⟩
theorem laws_toIntSS_ok : FnOk Try.prog 88 laws_toIntSS_e := fnOk_mk (tb := [(58, laws_toIntSS_n58)]) (c := (Try.f88.body).getD .skip) mixed Try.func88 (bC laws_toIntS_ok bN) (by kernel_rfl) (by kernel_rfl) (by kernel_rfl) ⟨nodeLoop (by kernel_rfl) laws_toIntSS_s58 (by kernel_rfl) (by intro d; kernel_rfl), trivial⟩ (by intro d; kernel_rfl)


/-! laws.toSketch -/
def laws_toSketch : t18 → Option t18
  | (a, b, c, d, e, f, g) => (laws_toIntS e).bind fun h => (laws_toIntS f).bind fun i => (laws_toIntSS g).bind fun j => some (a, b, c, d, h, i, j)
def laws_toSketch_e : FEnt := ⟨29, [.cell 2 true 7], [], [(.agg, cc4)], ⟨31, [⟨2, .box, cc3⟩]⟩, laws_toSketch⟩
theorem laws_toSketch_ok : FnOk Try.prog 67 laws_toSketch_e := fnOk_mk (tb := []) (c := (Try.f67.body).getD .skip) mixed Try.func67 (bC laws_toIntS_ok (bC laws_toIntSS_ok bN)) (by kernel_rfl) (by kernel_rfl) (by kernel_rfl) trivial (by intro d; kernel_rfl)


/-! laws.toEntry -/
def laws_toEntry : t23 → Option t23
  | (a, b, c, d, e, f, g, h, i, j) => (laws_toSpanS c).bind fun k => (laws_toSketch (d, e, f, g, h, i, j)).bind fun (l, m, n, o, p, q, r) => some (a, b, k, l, m, n, o, p, q, r)
def laws_toEntry_e : FEnt := ⟨19, [.cell 2 true 10], [], [(.agg, cc2)], ⟨21, [⟨2, .box, cc0⟩]⟩, laws_toEntry⟩
theorem laws_toEntry_ok : FnOk Try.prog 45 laws_toEntry_e := fnOk_mk (tb := []) (c := (Try.f45.body).getD .skip) mixed Try.func45 (bC laws_toSpanS_ok (bC laws_toSketch_ok bN)) (by kernel_rfl) (by kernel_rfl) (by kernel_rfl) trivial (by intro d; kernel_rfl)


/-! laws.toEntryS -/
def laws_toEntryS_s58 : t33 → Option (t33 ⊕ List t23)
  | (a, b, c) => (some (decide (c < (ln a)))).bind fun d => bif d then ix c a.length ((some (gx a c (0, 0, [], 0, 0, 0, 0, [], [], []))).bind fun (e, f, g, h, i, j, k, l, m, n) => (laws_toEntry (e, f, g, h, i, j, k, l, m, n)).bind fun (o, p, q, r, s, t, u, v, w, x) => ix c b.length (lx c b.length ((some (sx b c (o, p, q, r, s, t, u, v, w, x))).bind fun y => some (.inl (a, y, w64 (c + 1)))))) else some (.inr b)
def laws_toEntryS_n58 : NEnt := ⟨⟨25, [⟨0, .one, [.dat kk2]⟩, ⟨3, .one, [.own true kk3]⟩, ⟨4, .one, [.dat kI]⟩]⟩, [(.exit 0, ⟨25, [⟨3, .one, [.own true kk3]⟩]⟩)], lp laws_toEntryS_s58⟩
def laws_toEntryS : List t23 → Option (List t23)
  | a => chk (decide (((ln a).toNat ≤ (ln a).toNat) ∧ (((ln a).toNat ≤ 4294967296) ∧ (((ln a).toNat * 144) ≤ 140737488355328)))) ((some (List.replicate (ln a).toNat (0, 0, [], 0, 0, 0, 0, [], [], []))).bind fun b => (lp laws_toEntryS_s58 (a, b, 0)).bind fun c => some c)
def laws_toEntryS_e : FEnt := ⟨23, [.tmp 2], [], [(.one, [.dat kk2])], ⟨25, [⟨2, .one, [.own true kk3]⟩]⟩, laws_toEntryS⟩
theorem laws_toEntryS_ok : FnOk Try.prog 16 laws_toEntryS_e := fnOk_mk (tb := [(58, laws_toEntryS_n58)]) (c := (Try.f16.body).getD .skip) mixed Try.func16 (bC laws_toEntry_ok bN) (by kernel_rfl) (by kernel_rfl) (by kernel_rfl) ⟨nodeLoop (by kernel_rfl) laws_toEntryS_s58 (by kernel_rfl) (by intro d; kernel_rfl), trivial⟩ (by intro d; kernel_rfl)


/-! spec.l1In -/
def spec_l1In : Int × Int × Int → Option Bool
  | (a, b, c) => bif decide (a ≥ b) then some (decide (a ≤ c)) else some false
def spec_l1In_e : FEnt := ⟨15, [.tmp 6], [], [(.one, [.dat kI]), (.one, [.dat kI]), (.one, [.dat kI])], ⟨21, [⟨6, .one, [.dat .bool]⟩]⟩, spec_l1In⟩
theorem spec_l1In_ok : FnOk Try.prog 54 spec_l1In_e := fnOk_mk (tb := []) (c := (Try.f54.body).getD .skip) mixed Try.func54 bN (by kernel_rfl) (by kernel_rfl) (by kernel_rfl) trivial (by intro d; kernel_rfl)


/-! spec.l6Place -/
def spec_l6Place : Int × Int → Option Bool
  | (a, b) => (spec_l1In (a, 0, 4)).bind fun c => bif c then (spec_l1In (b, 0, 20)).bind fun d => some d else some false
def spec_l6Place_e : FEnt := ⟨11, [.tmp 4], [], [(.one, [.dat kI]), (.one, [.dat kI])], ⟨15, [⟨4, .one, [.dat .bool]⟩]⟩, spec_l6Place⟩
theorem spec_l6Place_ok : FnOk Try.prog 75 spec_l6Place_e := fnOk_mk (tb := []) (c := (Try.f75.body).getD .skip) mixed Try.func75 (bC spec_l1In_ok bN) (by kernel_rfl) (by kernel_rfl) (by kernel_rfl) trivial (by intro d; kernel_rfl)


/-! spec.SetOk -/
def spec_SetOk_s26 : t0 → Option (t0 ⊕ Bool ⊕ Unit)
  | (a, b) => bif decide (b < (ln a)) then ix b a.length ((some (gx a b (0, 0))).bind fun (c, d) => (spec_l1In (c, 0, 9999)).bind fun e => bif !e then some (.inr (.inl false)) else ix b a.length ((some (gx a b (0, 0))).bind fun (f, g) => ix b a.length ((some (gx a b (0, 0))).bind fun (h, i) => (spec_l1In (g, h, 9999)).bind fun j => bif !j then some (.inr (.inl false)) else bif decide (b > 0) then ix b a.length ((some (gx a b (0, 0))).bind fun (k, l) => ix (w64 (b - 1)) a.length ((some (gx a (w64 (b - 1)) (0, 0))).bind fun (m, n) => bif decide (k ≤ (w64 (n + 1))) then some (.inr (.inl false)) else some (.inl (a, w64 (b + 1))))) else some (.inl (a, w64 (b + 1)))))) else some (.inr (.inr ()))
def spec_SetOk_n26 : NEnt := ⟨⟨52, [⟨0, .one, [.dat kk4]⟩, ⟨3, .one, [.dat kI]⟩]⟩, [(.ret, ⟨52, [⟨2, .one, [.dat .bool]⟩]⟩), (.exit 0, ⟨52, []⟩)], lp spec_SetOk_s26⟩
def spec_SetOk : List (Int × Int) → Option Bool
  | a => bx (lp spec_SetOk_s26 (a, 0)) (fun b => some b) fun _ => some true
def spec_SetOk_e : FEnt := ⟨50, [.tmp 2], [], [(.one, [.dat kk4])], ⟨52, [⟨2, .one, [.dat .bool]⟩]⟩, spec_SetOk⟩
theorem spec_SetOk_ok : FnOk Try.prog 76 spec_SetOk_e := fnOk_mk (tb := [(26, spec_SetOk_n26)]) (c := (Try.f76.body).getD .skip) mixed Try.func76 (bC spec_l1In_ok bN) (by kernel_rfl) (by kernel_rfl) (by kernel_rfl) ⟨nodeLoop (by kernel_rfl) spec_SetOk_s26 (by kernel_rfl) (by intro d; kernel_rfl), trivial⟩ (by intro d; kernel_rfl)


/-! spec.l3List -/
def spec_l3List_s58 : List Int × Int × Int × Bool × Int → Option (List Int × Int × Int × Bool × Int ⊕ Bool ⊕ Unit)
  | (a, b, c, d, e) => bif decide (e < b) then ix e a.length ((spec_l1In (gx a e 0, 0, c)).bind fun f => bif !f then some (.inr (.inl false)) else bif d then ix e a.length (bif (gx a e 0) != 0 then some (.inr (.inl false)) else some (.inl (a, b, c, d, w64 (e + 1)))) else some (.inl (a, b, c, d, w64 (e + 1)))) else some (.inr (.inr ()))
def spec_l3List_n58 : NEnt := ⟨⟨44, [⟨0, .one, [.dat (.list kI)]⟩, ⟨1, .one, [.dat kI]⟩, ⟨2, .one, [.dat kI]⟩, ⟨3, .one, [.dat .bool]⟩, ⟨9, .one, [.dat kI]⟩]⟩, [(.ret, ⟨44, [⟨8, .one, [.dat .bool]⟩]⟩), (.exit 0, ⟨44, []⟩)], lp spec_l3List_s58⟩
def spec_l3List : List Int × Int × Int × Bool → Option Bool
  | (a, b, c, d) => bif (ln a) != b then some false else bx (lp spec_l3List_s58 (a, b, c, d, 0)) (fun e => some e) fun _ => some true
def spec_l3List_e : FEnt := ⟨36, [.tmp 8], [], [(.one, [.dat (.list kI)]), (.one, [.dat kI]), (.one, [.dat kI]), (.one, [.dat .bool])], ⟨44, [⟨8, .one, [.dat .bool]⟩]⟩, spec_l3List⟩
theorem spec_l3List_ok : FnOk Try.prog 96 spec_l3List_e := fnOk_mk (tb := [(58, spec_l3List_n58)]) (c := (Try.f96.body).getD .skip) mixed Try.func96 (bC spec_l1In_ok bN) (by kernel_rfl) (by kernel_rfl) (by kernel_rfl) ⟨nodeLoop (by kernel_rfl) spec_l3List_s58 (by kernel_rfl) (by intro d; kernel_rfl), trivial⟩ (by intro d; kernel_rfl)


/-! spec.SketchOk -/
def spec_SketchOk_l31 : t18 × Bool → Option Bool
  | ((a, b, c, d, e, f, g), h) => (spec_l3List (e, 8, 1000000000, h)).bind fun i => bif i then (spec_l3List (f, 8, 17, h)).bind fun j => bif j then chk (decide (0 < g.length)) ((spec_l3List (List.getD g 0 [], 4, 1000000000, h)).bind fun k => bif k then chk (decide (1 < g.length)) ((spec_l3List (List.getD g 1 [], 4, 1000000000, h)).bind fun l => some l) else some false) else some false else some false
def spec_SketchOk_n31 : NEnt := ⟨⟨81, [⟨1, .box, cc4⟩, ⟨3, .one, [.dat .bool]⟩]⟩, [(.ret, ⟨81, [⟨2, .one, [.dat .bool]⟩]⟩)], spec_SketchOk_l31⟩
def spec_SketchOk : t18 → Option Bool
  | (a, b, c, d, e, f, g) => (spec_l1In (a, 0, 1000000000)).bind fun h => bif !h then some false else (spec_l1In (b, 0, 1000000000)).bind fun i => bif !i then some false else (spec_l1In (c, 0, 1000000)).bind fun j => bif !j then some false else (spec_l1In (d, 0, 1000000)).bind fun k => bif !k then some false else bif decide (c > d) then some false else bif (ln g) != 2 then some false else bif a == 0 then bif b != 0 then some false else bif d != 0 then some false else (spec_SketchOk_l31 ((a, b, c, d, e, f, g), a == 0)).bind fun l => some l else (spec_SketchOk_l31 ((a, b, c, d, e, f, g), a == 0)).bind fun l => some l
def spec_SketchOk_e : FEnt := ⟨79, [.tmp 2], [], [(.agg, cc4)], ⟨81, [⟨2, .one, [.dat .bool]⟩]⟩, spec_SketchOk⟩
theorem spec_SketchOk_ok : FnOk Try.prog 74 spec_SketchOk_e := fnOk_mk (tb := [(31, spec_SketchOk_n31)]) (c := (Try.f74.body).getD .skip) mixed Try.func74 (bC spec_l1In_ok (bC spec_l3List_ok bN)) (by kernel_rfl) (by kernel_rfl) (by kernel_rfl) ⟨nodeJoin (by kernel_rfl) (by intro d; kernel_rfl), trivial⟩ (by intro d; kernel_rfl)


/-! spec.EntryOk -/
def spec_EntryOk : t23 → Option Bool
  | (a, b, c, d, e, f, g, h, i, j) => (spec_l6Place (a, b)).bind fun k => bif k then bif decide ((ln c) > 0) then (spec_SetOk c).bind fun l => bif l then (spec_SketchOk (d, e, f, g, h, i, j)).bind fun m => some m else some false else some false else some false
def spec_EntryOk_e : FEnt := ⟨24, [.tmp 2], [], [(.agg, cc2)], ⟨26, [⟨2, .one, [.dat .bool]⟩]⟩, spec_EntryOk⟩
theorem spec_EntryOk_ok : FnOk Try.prog 55 spec_EntryOk_e := fnOk_mk (tb := []) (c := (Try.f55.body).getD .skip) mixed Try.func55 (bC spec_l6Place_ok (bC spec_SetOk_ok (bC spec_SketchOk_ok bN))) (by kernel_rfl) (by kernel_rfl) (by kernel_rfl) trivial (by intro d; kernel_rfl)


/-! spec.l24Entries -/
def spec_l24Entries_s26 : t25 → Option (t25 ⊕ Bool ⊕ Unit)
  | (a, b) => (some (decide (b < (ln a)))).bind fun c => bif c then ix b a.length ((some (gx a b (0, 0, [], 0, 0, 0, 0, [], [], []))).bind fun (d, e, f, g, h, i, j, k, l, m) => (spec_EntryOk (d, e, f, g, h, i, j, k, l, m)).bind fun n => bif !n then some (.inr (.inl false)) else some (.inl (a, w64 (b + 1)))) else some (.inr (.inr ()))
def spec_l24Entries_n26 : NEnt := ⟨⟨18, [⟨0, .one, [.dat kk2]⟩, ⟨3, .one, [.dat kI]⟩]⟩, [(.ret, ⟨18, [⟨2, .one, [.dat .bool]⟩]⟩), (.exit 0, ⟨18, []⟩)], lp spec_l24Entries_s26⟩
def spec_l24Entries : List t23 → Option Bool
  | a => bx (lp spec_l24Entries_s26 (a, 0)) (fun b => some b) fun _ => some true
def spec_l24Entries_e : FEnt := ⟨16, [.tmp 2], [], [(.one, [.dat kk2])], ⟨18, [⟨2, .one, [.dat .bool]⟩]⟩, spec_l24Entries⟩
theorem spec_l24Entries_ok : FnOk Try.prog 43 spec_l24Entries_e := fnOk_mk (tb := [(26, spec_l24Entries_n26)]) (c := (Try.f43.body).getD .skip) mixed Try.func43 (bC spec_EntryOk_ok bN) (by kernel_rfl) (by kernel_rfl) (by kernel_rfl) ⟨nodeLoop (by kernel_rfl) spec_l24Entries_s26 (by kernel_rfl) (by intro d; kernel_rfl), trivial⟩ (by intro d; kernel_rfl)


/-! spec.l5Copy -/
def spec_l5Copy : List (Int × Int) → Option (List (Int × Int))
  | a => chk (fits (0 + a.length) 16) (some ([] ++ a))
def spec_l5Copy_e : FEnt := ⟨6, [.tmp 2], [], [(.one, [.dat kk4])], ⟨8, [⟨2, .one, cc9⟩]⟩, spec_l5Copy⟩
theorem spec_l5Copy_ok : FnOk Try.prog 100 spec_l5Copy_e := fnOk_mk (tb := []) (c := (Try.f100.body).getD .skip) mixed Try.func100 bN (by kernel_rfl) (by kernel_rfl) (by kernel_rfl) trivial (by intro d; kernel_rfl)


/-! spec.l1Min -/
def spec_l1Min : Int × Int → Option Int
  | (a, b) => bif decide (a < b) then some a else some b
def spec_l1Min_e : FEnt := ⟨10, [.tmp 4], [], [(.one, [.dat kI]), (.one, [.dat kI])], ⟨14, [⟨4, .one, [.dat kI]⟩]⟩, spec_l1Min⟩
theorem spec_l1Min_ok : FnOk Try.prog 109 spec_l1Min_e := fnOk_mk (tb := []) (c := (Try.f109.body).getD .skip) mixed Try.func109 bN (by kernel_rfl) (by kernel_rfl) (by kernel_rfl) trivial (by intro d; kernel_rfl)


/-! spec.l1Max -/
def spec_l1Max : Int × Int → Option Int
  | (a, b) => bif decide (a > b) then some a else some b
def spec_l1Max_e : FEnt := ⟨10, [.tmp 4], [], [(.one, [.dat kI]), (.one, [.dat kI])], ⟨14, [⟨4, .one, [.dat kI]⟩]⟩, spec_l1Max⟩
theorem spec_l1Max_ok : FnOk Try.prog 110 spec_l1Max_e := fnOk_mk (tb := []) (c := (Try.f110.body).getD .skip) mixed Try.func110 bN (by kernel_rfl) (by kernel_rfl) (by kernel_rfl) trivial (by intro d; kernel_rfl)


/-! spec.l5Put -/
def spec_l5Put_s122 : List (Int × Int) × (Int × Int) × List (Int × Int) × Bool × Int → Option (List (Int × Int) × (Int × Int) × List (Int × Int) × Bool × Int ⊕ (Int × Int) × List (Int × Int) × Bool)
  | (a, (b, c), d, e, f) => bif decide (f < (ln a)) then ix f a.length ((some (gx a f (0, 0))).bind fun (g, h) => bif decide ((w64 (h + 1)) < b) then ix f a.length ((some (gx a f (0, 0))).bind fun (i, j) => chk (fits (d.length + [(i, j)].length) 16) (some (.inl (a, (b, c), d ++ [(i, j)], e, w64 (f + 1))))) else ix f a.length ((some (gx a f (0, 0))).bind fun (i, j) => bif decide (i > (w64 (c + 1))) then bif !e then chk (fits (d.length + [(b, c)].length) 16) (ix f a.length ((some (gx a f (0, 0))).bind fun (k, l) => chk (fits ((d ++ [(b, c)]).length + [(k, l)].length) 16) ((some ((d ++ [(b, c)]) ++ [(k, l)])).bind fun m => some (.inl (a, (b, c), m, true, w64 (f + 1)))))) else ix f a.length ((some (gx a f (0, 0))).bind fun (k, l) => chk (fits (d.length + [(k, l)].length) 16) (some (.inl (a, (b, c), d ++ [(k, l)], e, w64 (f + 1))))) else ix f a.length ((some (gx a f (0, 0))).bind fun (k, l) => (spec_l1Min (b, k)).bind fun m => ix f a.length ((some (gx a f (0, 0))).bind fun (n, o) => (spec_l1Max (c, o)).bind fun p => some (.inl (a, (m, p), d, e, w64 (f + 1))))))) else some (.inr ((b, c), d, e))
def spec_l5Put_n122 : NEnt := ⟨⟨83, [⟨0, .one, [.dat kk4]⟩, ⟨3, .box, cc11⟩, ⟨5, .one, cc9⟩, ⟨6, .one, [.dat .bool]⟩, ⟨7, .one, [.dat kI]⟩]⟩, [(.exit 0, ⟨83, [⟨3, .box, cc11⟩, ⟨5, .one, cc9⟩, ⟨6, .one, [.dat .bool]⟩]⟩)], lp spec_l5Put_s122⟩
def spec_l5Put : t7 → Option (List (Int × Int))
  | (a, b, c) => (lp spec_l5Put_s122 (a, (b, c), [], false, 0)).bind fun ((d, e), f, g) => bif !g then chk (fits (f.length + [(d, e)].length) 16) (some (f ++ [(d, e)])) else some f
def spec_l5Put_e : FEnt := ⟨79, [.tmp 4], [], [(.one, [.dat kk4]), (.agg, cc11)], ⟨83, [⟨4, .one, cc9⟩]⟩, spec_l5Put⟩
theorem spec_l5Put_ok : FnOk Try.prog 107 spec_l5Put_e := fnOk_mk (tb := [(122, spec_l5Put_n122)]) (c := (Try.f107.body).getD .skip) mixed Try.func107 (bC spec_l1Min_ok (bC spec_l1Max_ok bN)) (by kernel_rfl) (by kernel_rfl) (by kernel_rfl) ⟨nodeLoop (by kernel_rfl) spec_l5Put_s122 (by kernel_rfl) (by intro d; kernel_rfl), trivial⟩ (by intro d; kernel_rfl)


/-! spec.l5Join -/
def spec_l5Join_s58 : t13 → Option (t13 ⊕ List (Int × Int))
  | (a, b, c) => bif decide (c < (ln a)) then ix c a.length ((some (gx a c (0, 0))).bind fun (d, e) => (spec_l5Put (b, d, e)).bind fun f => some (.inl (a, f, w64 (c + 1)))) else some (.inr b)
def spec_l5Join_n58 : NEnt := ⟨⟨26, [⟨1, .one, [.dat kk4]⟩, ⟨5, .one, cc9⟩, ⟨6, .one, [.dat kI]⟩]⟩, [(.exit 0, ⟨26, [⟨5, .one, cc9⟩]⟩)], lp spec_l5Join_s58⟩
def spec_l5Join : List (Int × Int) × List (Int × Int) → Option (List (Int × Int))
  | (a, b) => (spec_l5Copy a).bind fun c => (lp spec_l5Join_s58 (b, c, 0)).bind fun d => some d
def spec_l5Join_e : FEnt := ⟨22, [.tmp 4], [], [(.one, [.dat kk4]), (.one, [.dat kk4])], ⟨26, [⟨4, .one, cc9⟩]⟩, spec_l5Join⟩
theorem spec_l5Join_ok : FnOk Try.prog 98 spec_l5Join_e := fnOk_mk (tb := [(58, spec_l5Join_n58)]) (c := (Try.f98.body).getD .skip) mixed Try.func98 (bC spec_l5Copy_ok (bC spec_l5Put_ok bN)) (by kernel_rfl) (by kernel_rfl) (by kernel_rfl) ⟨nodeLoop (by kernel_rfl) spec_l5Join_s58 (by kernel_rfl) (by intro d; kernel_rfl), trivial⟩ (by intro d; kernel_rfl)


/-! spec.l2Clip -/
def spec_l2Clip : Int × Int → Option Int
  | (a, b) => (spec_l1Min (a, b)).bind fun c => (spec_l1Max (0, c)).bind fun d => some d
def spec_l2Clip_e : FEnt := ⟨9, [.tmp 4], [], [(.one, [.dat kI]), (.one, [.dat kI])], ⟨13, [⟨4, .one, [.dat kI]⟩]⟩, spec_l2Clip⟩
theorem spec_l2Clip_ok : FnOk Try.prog 116 spec_l2Clip_e := fnOk_mk (tb := []) (c := (Try.f116.body).getD .skip) mixed Try.func116 (bC spec_l1Min_ok (bC spec_l1Max_ok bN)) (by kernel_rfl) (by kernel_rfl) (by kernel_rfl) trivial (by intro d; kernel_rfl)


/-! spec.Add -/
def spec_Add : Int × Int → Option Int
  | (a, b) => (spec_l2Clip (a, 1000000000)).bind fun c => (spec_l2Clip (b, 1000000000)).bind fun d => (spec_l1Min (w64 (c + d), 1000000000)).bind fun e => some e
def spec_Add_e : FEnt := ⟨11, [.tmp 4], [], [(.one, [.dat kI]), (.one, [.dat kI])], ⟨15, [⟨4, .one, [.dat kI]⟩]⟩, spec_Add⟩
theorem spec_Add_ok : FnOk Try.prog 108 spec_Add_e := fnOk_mk (tb := []) (c := (Try.f108.body).getD .skip) mixed Try.func108 (bC spec_l2Clip_ok (bC spec_l1Min_ok bN)) (by kernel_rfl) (by kernel_rfl) (by kernel_rfl) trivial (by intro d; kernel_rfl)


/-! spec.l3Sum -/
def spec_l3Sum_s58 : List Int × t3 → Option (List Int × t3 ⊕ List Int)
  | (a, b, c, d) => bif decide (d < (ln a)) then ix d a.length (ix d b.length ((spec_Add (gx a d 0, gx b d 0)).bind fun e => chk (fits (c.length + [e].length) 8) (some (.inl (a, b, c ++ [e], w64 (d + 1)))))) else some (.inr c)
def spec_l3Sum_n58 : NEnt := ⟨⟨31, [⟨0, .one, [.dat (.list kI)]⟩, ⟨1, .one, [.dat (.list kI)]⟩, ⟨5, .one, [.own true kI]⟩, ⟨6, .one, [.dat kI]⟩]⟩, [(.exit 0, ⟨31, [⟨5, .one, [.own true kI]⟩]⟩)], lp spec_l3Sum_s58⟩
def spec_l3Sum : List Int × List Int → Option (List Int)
  | (a, b) => (lp spec_l3Sum_s58 (a, b, [], 0)).bind fun c => some c
def spec_l3Sum_e : FEnt := ⟨27, [.tmp 4], [], [(.one, [.dat (.list kI)]), (.one, [.dat (.list kI)])], ⟨31, [⟨4, .one, [.own true kI]⟩]⟩, spec_l3Sum⟩
theorem spec_l3Sum_ok : FnOk Try.prog 111 spec_l3Sum_e := fnOk_mk (tb := [(58, spec_l3Sum_n58)]) (c := (Try.f111.body).getD .skip) mixed Try.func111 (bC spec_Add_ok bN) (by kernel_rfl) (by kernel_rfl) (by kernel_rfl) ⟨nodeLoop (by kernel_rfl) spec_l3Sum_s58 (by kernel_rfl) (by intro d; kernel_rfl), trivial⟩ (by intro d; kernel_rfl)


/-! spec.l3Merge -/
def spec_l3Merge_s250 : t18 × t18 × t14 × t19 → Option (t18 × t18 × t14 × t19 ⊕ t27)
  | ((a, b, c, d, e, f, g), (h, i, j, k, l, m, n), (o, p, q, r, _, _, _), (s, t, u, v, w, x, y), z) => bif decide (z < 8) then ix z f.length (ix z m.length ((spec_l1Max (gx f z 0, gx m z 0)).bind fun a1 => chk (fits (x.length + [a1].length) 8) (some (.inl ((a, b, c, d, e, f, g), (h, i, j, k, l, m, n), (o, p, q, r, (), (), ()), (s, t, u, v, w, x ++ [a1], y), w64 (z + 1)))))) else some (.inr ((o, p, q, r, (), (), ()), s, t, u, v, w, x, y))
def spec_l3Merge_n250 : NEnt := ⟨⟨89, [⟨2, .box, cc4⟩, ⟨3, .box, cc4⟩, ⟨4, .box, cc7⟩, ⟨5, .box, cc3⟩, ⟨6, .one, [.dat kI]⟩]⟩, [(.exit 0, ⟨89, [⟨4, .box, cc7⟩, ⟨5, .box, cc3⟩]⟩)], lp spec_l3Merge_s250⟩
def spec_l3Merge_l31 : t18 × t18 × t14 × Int × Int × Int × Int × List Int × Unit × List (List Int) → Option t18
  | ((a, b, c, d, e, f, g), (h, i, j, k, l, m, n), (o, p, q, r, _, _, _), s, t, u, v, w, _, x) => (lp spec_l3Merge_s250 ((a, b, c, d, e, f, g), (h, i, j, k, l, m, n), (o, p, q, r, (), (), ()), (s, t, u, v, w, [], x), 0)).bind fun ((y, z, a1, b1, _, _, _), c1, d1, e1, f1, g1, h1, i1) => some (c1, d1, e1, f1, g1, h1, i1)
def spec_l3Merge_n31 : NEnt := ⟨⟨89, [⟨2, .box, cc4⟩, ⟨3, .box, cc4⟩, ⟨4, .box, cc7⟩, ⟨5, .box, cc5⟩]⟩, [(.ret, ⟨89, [⟨4, .box, cc3⟩]⟩)], spec_l3Merge_l31⟩
def spec_l3Merge_l15 : t18 × t18 × t14 × Int × Int × Int × Int × List Int × Unit × List (List Int) → Option t18
  | ((a, b, c, d, e, f, g), (h, i, j, k, l, m, n), (o, p, q, r, _, _, _), s, t, u, v, w, _, x) => bif h == 0 then (spec_l3Merge_l31 ((a, b, c, d, e, f, g), (h, i, j, k, l, m, n), (o, p, q, r, (), (), ()), s, t, c, v, w, (), x)).bind fun (y, z, a1, b1, c1, d1, e1) => some (y, z, a1, b1, c1, d1, e1) else (spec_l3Merge_l31 ((a, b, c, d, e, f, g), (h, i, j, k, l, m, n), (o, p, q, r, (), (), ()), s, t, u, v, w, (), x)).bind fun (y, z, a1, b1, c1, d1, e1) => some (y, z, a1, b1, c1, d1, e1)
def spec_l3Merge_n15 : NEnt := ⟨⟨89, [⟨2, .box, cc4⟩, ⟨3, .box, cc4⟩, ⟨4, .box, cc7⟩, ⟨5, .box, cc5⟩]⟩, [(.ret, ⟨89, [⟨4, .box, cc3⟩]⟩)], spec_l3Merge_l15⟩
def spec_l3Merge : t18 × t18 → Option t18
  | ((a, b, c, d, e, f, g), h, i, j, k, l, m, n) => (spec_Add (a, h)).bind fun o => (spec_Add (b, i)).bind fun p => (spec_l1Min (c, j)).bind fun q => (spec_l1Max (d, k)).bind fun r => (spec_l3Sum (e, l)).bind fun s => chk (decide (0 < g.length)) (chk (decide (0 < n.length)) ((spec_l3Sum (List.getD g 0 [], List.getD n 0 [])).bind fun t => chk (decide (1 < g.length)) (chk (decide (1 < n.length)) ((spec_l3Sum (List.getD g 1 [], List.getD n 1 [])).bind fun u => bif a == 0 then (spec_l3Merge_l15 ((a, b, c, d, e, f, g), (h, i, j, k, l, m, n), (0, 0, 0, 0, (), (), ()), o, p, j, r, s, (), [t, u])).bind fun (v, w, x, y, z, a1, b1) => some (v, w, x, y, z, a1, b1) else (spec_l3Merge_l15 ((a, b, c, d, e, f, g), (h, i, j, k, l, m, n), (0, 0, 0, 0, (), (), ()), o, p, q, r, s, (), [t, u])).bind fun (v, w, x, y, z, a1, b1) => some (v, w, x, y, z, a1, b1)))))
def spec_l3Merge_e : FEnt := ⟨85, [.cell 4 true 7], [], [(.agg, cc4), (.agg, cc4)], ⟨89, [⟨4, .box, cc3⟩]⟩, spec_l3Merge⟩
theorem spec_l3Merge_ok : FnOk Try.prog 99 spec_l3Merge_e := fnOk_mk (tb := [(250, spec_l3Merge_n250), (31, spec_l3Merge_n31), (15, spec_l3Merge_n15)]) (c := (Try.f99.body).getD .skip) mixed Try.func99 (bC spec_Add_ok (bC spec_l1Min_ok (bC spec_l1Max_ok (bC spec_l3Sum_ok bN)))) (by kernel_rfl) (by kernel_rfl) (by kernel_rfl) ⟨nodeLoop (by kernel_rfl) spec_l3Merge_s250 (by kernel_rfl) (by intro d; kernel_rfl), nodeJoin (by kernel_rfl) (by intro d; kernel_rfl), nodeJoin (by kernel_rfl) (by intro d; kernel_rfl), trivial⟩ (by intro d; kernel_rfl)


/-! spec.l6Add -/
def spec_l6Add : t23 × t23 → Option t23
  | ((a, b, c, d, e, f, g, h, i, j), k, l, m, n, o, p, q, r, s, t) => (spec_l5Join (c, m)).bind fun u => (spec_l3Merge ((d, e, f, g, h, i, j), n, o, p, q, r, s, t)).bind fun (v, w, x, y, z, a1, b1) => some (a, b, u, v, w, x, y, z, a1, b1)
def spec_l6Add_e : FEnt := ⟨20, [.cell 4 true 10], [], [(.agg, cc2), (.agg, cc2)], ⟨24, [⟨4, .box, cc0⟩]⟩, spec_l6Add⟩
theorem spec_l6Add_ok : FnOk Try.prog 84 spec_l6Add_e := fnOk_mk (tb := []) (c := (Try.f84.body).getD .skip) mixed Try.func84 (bC spec_l5Join_ok (bC spec_l3Merge_ok bN)) (by kernel_rfl) (by kernel_rfl) (by kernel_rfl) trivial (by intro d; kernel_rfl)


/-! spec.l3Copy -/
def spec_l3Copy_s506 : t18 × t14 × t19 → Option (t18 × t14 × t19 ⊕ t27)
  | ((a, b, c, d, e, f, g), (h, i, j, k, _, _, _), (l, m, n, o, p, q, r), s) => bif decide (s < (ln g)) then ix s g.length (chk (fits (0 + (gx g s []).length) 8) (chk (fits (r.length + [[] ++ (gx g s [])].length) 24) ((some (r ++ [[] ++ (gx g s [])])).bind fun t => some (.inl ((a, b, c, d, e, f, g), (h, i, j, k, (), (), ()), (l, m, n, o, p, q, t), w64 (s + 1)))))) else some (.inr ((h, i, j, k, (), (), ()), l, m, n, o, p, q, r))
def spec_l3Copy_n506 : NEnt := ⟨⟨39, [⟨1, .box, cc4⟩, ⟨2, .box, cc7⟩, ⟨3, .box, cc3⟩, ⟨4, .one, [.dat kI]⟩]⟩, [(.exit 0, ⟨39, [⟨2, .box, cc7⟩, ⟨3, .box, cc3⟩]⟩)], lp spec_l3Copy_s506⟩
def spec_l3Copy : t18 → Option t18
  | (a, b, c, d, e, f, g) => chk (fits (0 + e.length) 8) (chk (fits (0 + f.length) 8) ((lp spec_l3Copy_s506 ((a, b, c, d, e, f, g), (0, 0, 0, 0, (), (), ()), (a, b, c, d, [] ++ e, [] ++ f, []), 0)).bind fun ((h, i, j, k, _, _, _), l, m, n, o, p, q, r) => some (l, m, n, o, p, q, r)))
def spec_l3Copy_e : FEnt := ⟨37, [.cell 2 true 7], [], [(.agg, cc4)], ⟨39, [⟨2, .box, cc3⟩]⟩, spec_l3Copy⟩
theorem spec_l3Copy_ok : FnOk Try.prog 101 spec_l3Copy_e := fnOk_mk (tb := [(506, spec_l3Copy_n506)]) (c := (Try.f101.body).getD .skip) mixed Try.func101 bN (by kernel_rfl) (by kernel_rfl) (by kernel_rfl) ⟨nodeLoop (by kernel_rfl) spec_l3Copy_s506 (by kernel_rfl) (by intro d; kernel_rfl), trivial⟩ (by intro d; kernel_rfl)


/-! spec.l6Copy -/
def spec_l6Copy : t23 → Option t23
  | (a, b, c, d, e, f, g, h, i, j) => (spec_l5Copy c).bind fun k => (spec_l3Copy (d, e, f, g, h, i, j)).bind fun (l, m, n, o, p, q, r) => some (a, b, k, l, m, n, o, p, q, r)
def spec_l6Copy_e : FEnt := ⟨14, [.cell 2 true 10], [], [(.agg, cc2)], ⟨16, [⟨2, .box, cc0⟩]⟩, spec_l6Copy⟩
theorem spec_l6Copy_ok : FnOk Try.prog 85 spec_l6Copy_e := fnOk_mk (tb := []) (c := (Try.f85.body).getD .skip) mixed Try.func85 (bC spec_l5Copy_ok (bC spec_l3Copy_ok bN)) (by kernel_rfl) (by kernel_rfl) (by kernel_rfl) trivial (by intro d; kernel_rfl)


/-! spec.l10Into -/
def spec_l10Into_l1865 : t34 → Option t34
  | ((_, _, _), (a, b, c, d, e, f, g, h, i, j), k, l, m) => ix l m.length (lx l m.length ((some (gx m l (0, 0, [], 0, 0, 0, 0, [], [], []))).bind fun (n, o, p, q, r, s, t, u, v, w) => bif decide (n > a) then some (((), (), ()), (a, b, c, d, e, f, g, h, i, j), l, l, m) else ix l m.length (lx l m.length ((some (gx m l (0, 0, [], 0, 0, 0, 0, [], [], []))).bind fun (x, y, z, a1, b1, c1, d1, e1, f1, g1) => bif x == a then ix l m.length (lx l m.length ((some (gx m l (0, 0, [], 0, 0, 0, 0, [], [], []))).bind fun (h1, i1, j1, k1, l1, m1, n1, o1, p1, q1) => bif decide (i1 > b) then some (((), (), ()), (a, b, c, d, e, f, g, h, i, j), l, l, m) else some (((), (), ()), (a, b, c, d, e, f, g, h, i, j), k, l, m))) else some (((), (), ()), (a, b, c, d, e, f, g, h, i, j), k, l, m)))))
def spec_l10Into_n1865 : NEnt := ⟨⟨93, [⟨0, .one, cc8⟩, ⟨3, .box, cc2⟩, ⟨5, .one, [.dat kI]⟩, ⟨6, .one, [.dat kI]⟩, ⟨89, .agg, [.own false kk3]⟩]⟩, [(.normal, ⟨93, [⟨0, .one, cc8⟩, ⟨3, .box, cc2⟩, ⟨5, .one, [.dat kI]⟩, ⟨6, .one, [.dat kI]⟩, ⟨89, .agg, [.own false kk3]⟩]⟩)], spec_l10Into_l1865⟩
def spec_l10Into_s58 : t34 → Option (t34 ⊕ List t23 × Unit ⊕ (Unit × Unit × Unit) × t23 × t26)
  | ((_, _, _), (a, b, c, d, e, f, g, h, i, j), k, l, m) => bif decide (l ≥ 0) then ix l m.length (lx l m.length ((some (gx m l (0, 0, [], 0, 0, 0, 0, [], [], []))).bind fun (n, o, p, q, r, s, t, u, v, w) => bif n == a then ix l m.length (lx l m.length ((some (gx m l (0, 0, [], 0, 0, 0, 0, [], [], []))).bind fun (x, y, z, a1, b1, c1, d1, e1, f1, g1) => bif y == b then ix l m.length (lx l m.length ((some (gx m l (0, 0, [], 0, 0, 0, 0, [], [], []))).bind fun (h1, i1, j1, k1, l1, m1, n1, o1, p1, q1) => (spec_l6Add ((h1, i1, j1, k1, l1, m1, n1, o1, p1, q1), a, b, c, d, e, f, g, h, i, j)).bind fun (r1, s1, t1, u1, v1, w1, x1, y1, z1, a2) => ix l m.length (lx l m.length ((some (sx m l (r1, s1, t1, u1, v1, w1, x1, y1, z1, a2))).bind fun b2 => some (.inr (.inl (b2, ()))))))) else (spec_l10Into_l1865 (((), (), ()), (a, b, c, d, e, f, g, h, i, j), k, l, m)).bind fun ((_, _, _), (h1, i1, j1, k1, l1, m1, n1, o1, p1, q1), r1, s1, t1) => some (.inl (((), (), ()), (h1, i1, j1, k1, l1, m1, n1, o1, p1, q1), r1, w64 (s1 - 1), t1)))) else (spec_l10Into_l1865 (((), (), ()), (a, b, c, d, e, f, g, h, i, j), k, l, m)).bind fun ((_, _, _), (x, y, z, a1, b1, c1, d1, e1, f1, g1), h1, i1, j1) => some (.inl (((), (), ()), (x, y, z, a1, b1, c1, d1, e1, f1, g1), h1, w64 (i1 - 1), j1)))) else some (.inr (.inr (((), (), ()), (a, b, c, d, e, f, g, h, i, j), k, m)))
def spec_l10Into_n58 : NEnt := ⟨⟨93, [⟨0, .one, cc8⟩, ⟨3, .box, cc2⟩, ⟨5, .one, [.dat kI]⟩, ⟨6, .one, [.dat kI]⟩, ⟨89, .agg, [.own false kk3]⟩]⟩, [(.ret, ⟨93, [⟨4, .one, [.own false kk3]⟩, ⟨89, .agg, [.dead]⟩]⟩), (.exit 0, ⟨93, [⟨0, .one, cc8⟩, ⟨3, .box, cc2⟩, ⟨5, .one, [.dat kI]⟩, ⟨89, .agg, [.own false kk3]⟩]⟩)], lp spec_l10Into_s58⟩
def spec_l10Into : List t23 × t23 → Option (List t23 × Unit)
  | (a, b, c, d, e, f, g, h, i, j, k) => bx (lp spec_l10Into_s58 (((), (), ()), (b, c, d, e, f, g, h, i, j, k), ln a, w64 ((ln a) - 1), a)) (fun (l, _) => some (l, ())) fun ((_, _, _), (l, m, n, o, p, q, r, s, t, u), v, w) => g0 v (chk (decide ((0 ≤ v.toNat) ∧ (v.toNat ≤ w.length))) (chk (fits (0 + (List.take v.toNat w).length) 144) ((some ([] ++ (List.take v.toNat w))).bind fun x => (spec_l6Copy (l, m, n, o, p, q, r, s, t, u)).bind fun (y, z, a1, b1, c1, d1, e1, f1, g1, h1) => (some [(y, z, a1, b1, c1, d1, e1, f1, g1, h1)]).bind fun i1 => chk (fits (x.length + i1.length) 144) ((some (x ++ i1)).bind fun j1 => g0 v (chk (decide ((v.toNat ≤ w.length) ∧ (w.length ≤ w.length))) (chk (fits (j1.length + (List.drop v.toNat w).length) 144) ((some (j1 ++ (List.drop v.toNat w))).bind fun k1 => some (k1, ()))))))))
def spec_l10Into_e : FEnt := ⟨89, [.tmp 4], [true, false], [(.one, [.own false kk3]), (.agg, cc2)], ⟨93, [⟨4, .one, [.own false kk3]⟩, ⟨89, .agg, [.dead]⟩]⟩, spec_l10Into⟩
theorem spec_l10Into_ok : FnOk Try.prog 65 spec_l10Into_e := fnOk_mk (tb := [(1865, spec_l10Into_n1865), (58, spec_l10Into_n58)]) (c := (Try.f65.body).getD .skip) mixed Try.func65 (bC spec_l6Add_ok (bC spec_l6Copy_ok bN)) (by kernel_rfl) (by kernel_rfl) (by kernel_rfl) ⟨nodeJoin (by kernel_rfl) (by intro d; kernel_rfl), nodeLoop (by kernel_rfl) spec_l10Into_s58 (by kernel_rfl) (by intro d; kernel_rfl), trivial⟩ (by intro d; kernel_rfl)


/-! spec.l24Sum -/
def spec_l24Sum_s58 : t33 → Option (t33 ⊕ List t23)
  | (a, b, c) => (some (decide (c < (ln a)))).bind fun d => bif d then ix c a.length ((some (gx a c (0, 0, [], 0, 0, 0, 0, [], [], []))).bind fun (e, f, g, h, i, j, k, l, m, n) => (spec_l10Into (b, e, f, g, h, i, j, k, l, m, n)).bind fun (o, _) => some (.inl (a, o, w64 (c + 1)))) else some (.inr b)
def spec_l24Sum_n58 : NEnt := ⟨⟨21, [⟨0, .one, [.dat kk2]⟩, ⟨3, .one, [.own false kk3]⟩, ⟨4, .one, [.dat kI]⟩]⟩, [(.exit 0, ⟨21, [⟨3, .one, [.own false kk3]⟩]⟩)], lp spec_l24Sum_s58⟩
def spec_l24Sum : List t23 → Option (List t23)
  | a => (lp spec_l24Sum_s58 (a, [], 0)).bind fun b => some b
def spec_l24Sum_e : FEnt := ⟨19, [.tmp 2], [], [(.one, [.dat kk2])], ⟨21, [⟨2, .one, [.own false kk3]⟩]⟩, spec_l24Sum⟩
theorem spec_l24Sum_ok : FnOk Try.prog 44 spec_l24Sum_e := fnOk_mk (tb := [(58, spec_l24Sum_n58)]) (c := (Try.f44.body).getD .skip) mixed Try.func44 (bC spec_l10Into_ok bN) (by kernel_rfl) (by kernel_rfl) (by kernel_rfl) ⟨nodeLoop (by kernel_rfl) spec_l24Sum_s58 (by kernel_rfl) (by intro d; kernel_rfl), trivial⟩ (by intro d; kernel_rfl)


/-! spec.Combine -/
def spec_Combine : t32 → Option (List t23)
  | (a, b) => (spec_l24Entries a).bind fun c => bif !c then some [] else (spec_l24Entries b).bind fun d => bif !d then some [] else chk (fits (0 + a.length) 144) ((some ([] ++ a)).bind fun e => chk (fits (e.length + b.length) 144) ((some (e ++ b)).bind fun f => (spec_l24Sum f).bind fun g => some g))
def spec_Combine_e : FEnt := ⟨20, [.tmp 4], [], [(.one, [.dat kk2]), (.one, [.dat kk2])], ⟨24, [⟨4, .one, [.own false kk3]⟩]⟩, spec_Combine⟩
theorem spec_Combine_ok : FnOk Try.prog 15 spec_Combine_e := fnOk_mk (tb := []) (c := (Try.f15.body).getD .skip) mixed Try.func15 (bC spec_l24Entries_ok (bC spec_l24Sum_ok bN)) (by kernel_rfl) (by kernel_rfl) (by kernel_rfl) trivial (by intro d; kernel_rfl)


/-! impl.within -/
def impl_within : Int × Int × Int → Option Bool
  | (a, b, c) => bif decide (a ≥ b) then some (decide (a ≤ c)) else some false
def impl_within_e : FEnt := ⟨15, [.tmp 6], [], [(.one, [.dat kI]), (.one, [.dat kI]), (.one, [.dat kI])], ⟨21, [⟨6, .one, [.dat .bool]⟩]⟩, impl_within⟩
theorem impl_within_ok : FnOk Try.prog 60 impl_within_e := fnOk_mk (tb := []) (c := (Try.f60.body).getD .skip) mixed Try.func60 bN (by kernel_rfl) (by kernel_rfl) (by kernel_rfl) trivial (by intro d; kernel_rfl)


/-! impl.SetOk -/
def impl_SetOk_s26 : List (Int × Int) × t7 → Option (List (Int × Int) × t7 ⊕ Bool ⊕ Unit)
  | (a, b, c, d) => bif decide (d < c) then ix d b.length ((some (gx b d (0, 0))).bind fun (e, f) => (impl_within (e, 0, 9999)).bind fun g => bif !g then some (.inr (.inl false)) else (impl_within (f, e, 9999)).bind fun h => bif !h then some (.inr (.inl false)) else bif decide (d > 0) then ix (w64 (d - 1)) a.length ((some (gx a (w64 (d - 1)) (0, 0))).bind fun (i, j) => bif decide (e ≤ (w64 (j + 1))) then some (.inr (.inl false)) else some (.inl (a, b, c, w64 (d + 1)))) else some (.inl (a, b, c, w64 (d + 1)))) else some (.inr (.inr ()))
def impl_SetOk_n26 : NEnt := ⟨⟨43, [⟨0, .one, [.dat kk4]⟩, ⟨5, .one, [.dat kk4]⟩, ⟨6, .one, [.dat kI]⟩, ⟨7, .one, [.dat kI]⟩]⟩, [(.ret, ⟨43, [⟨2, .one, [.dat .bool]⟩]⟩), (.exit 0, ⟨43, []⟩)], lp impl_SetOk_s26⟩
def impl_SetOk : List (Int × Int) → Option Bool
  | a => bx (lp impl_SetOk_s26 (a, a, ln a, 0)) (fun b => some b) fun _ => some true
def impl_SetOk_e : FEnt := ⟨41, [.tmp 2], [], [(.one, [.dat kk4])], ⟨43, [⟨2, .one, [.dat .bool]⟩]⟩, impl_SetOk⟩
theorem impl_SetOk_ok : FnOk Try.prog 68 impl_SetOk_e := fnOk_mk (tb := [(26, impl_SetOk_n26)]) (c := (Try.f68.body).getD .skip) mixed Try.func68 (bC impl_within_ok bN) (by kernel_rfl) (by kernel_rfl) (by kernel_rfl) ⟨nodeLoop (by kernel_rfl) impl_SetOk_s26 (by kernel_rfl) (by intro d; kernel_rfl), trivial⟩ (by intro d; kernel_rfl)


/-! impl.copyInts -/
def impl_copyInts : List Int → Option (List Int)
  | a => chk (fits a.length 8) (some a)
def impl_copyInts_e : FEnt := ⟨5, [.tmp 2], [], [(.one, [.dat (.list kI)])], ⟨7, [⟨2, .one, [.own true kI]⟩]⟩, impl_copyInts⟩
theorem impl_copyInts_ok : FnOk Try.prog 102 impl_copyInts_e := fnOk_mk (tb := []) (c := (Try.f102.body).getD .skip) mixed Try.func102 bN (by kernel_rfl) (by kernel_rfl) (by kernel_rfl) trivial (by intro d; kernel_rfl)


/-! impl.counts -/
def impl_counts_s58 : List Int × t6 → Option (List Int × t6 ⊕ List Int)
  | (a, b, c, d) => bif decide (d < c) then ix d b.length (chk (fits (a.length + (gx b d []).length) 8) (some (.inl (a ++ (gx b d []), b, c, w64 (d + 1))))) else some (.inr a)
def impl_counts_n58 : NEnt := ⟨⟨26, [⟨3, .one, [.own true kI]⟩, ⟨13, .one, [.dat kk5]⟩, ⟨14, .one, [.dat kI]⟩, ⟨15, .one, [.dat kI]⟩]⟩, [(.exit 0, ⟨26, [⟨3, .one, [.own true kI]⟩]⟩)], lp impl_counts_s58⟩
def impl_counts : t18 → Option (List Int)
  | (a, b, c, d, e, f, g) => (impl_copyInts e).bind fun h => chk (fits (h.length + f.length) 8) ((lp impl_counts_s58 (h ++ f, g, ln g, 0)).bind fun i => some i)
def impl_counts_e : FEnt := ⟨24, [.tmp 2], [], [(.agg, cc4)], ⟨26, [⟨2, .one, [.own true kI]⟩]⟩, impl_counts⟩
theorem impl_counts_ok : FnOk Try.prog 89 impl_counts_e := fnOk_mk (tb := [(58, impl_counts_n58)]) (c := (Try.f89.body).getD .skip) mixed Try.func89 (bC impl_copyInts_ok bN) (by kernel_rfl) (by kernel_rfl) (by kernel_rfl) ⟨nodeLoop (by kernel_rfl) impl_counts_s58 (by kernel_rfl) (by intro d; kernel_rfl), trivial⟩ (by intro d; kernel_rfl)


/-! impl.SketchOk -/
def impl_SketchOk_s122 : t18 × t5 → Option (t18 × t5 ⊕ Bool ⊕ t19)
  | ((a, b, c, d, e, f, g), h, i, j, k) => bif decide (k < j) then ix k i.length (lx k i.length ((impl_within (gx i k 0, 0, 1000000000)).bind fun l => bif !l then some (.inr (.inl false)) else some (.inl ((a, b, c, d, e, f, g), w64 (h + (gx i k 0)), i, j, w64 (k + 1))))) else some (.inr (.inr ((a, b, c, d, e, f, g), h)))
def impl_SketchOk_n122 : NEnt := ⟨⟨91, [⟨1, .box, cc4⟩, ⟨3, .one, [.dat kI]⟩, ⟨51, .one, [.own true kI]⟩, ⟨52, .one, [.dat kI]⟩, ⟨53, .one, [.dat kI]⟩]⟩, [(.ret, ⟨91, [⟨2, .one, [.dat .bool]⟩]⟩), (.exit 0, ⟨91, [⟨1, .box, cc4⟩, ⟨3, .one, [.dat kI]⟩]⟩)], lp impl_SketchOk_s122⟩
def impl_SketchOk_s250 : t18 × t5 → Option (t18 × t5 ⊕ Bool ⊕ t19)
  | ((a, b, c, d, e, f, g), h, i, j, k) => bif decide (k < j) then ix k i.length (bif decide ((gx i k 0) > 17) then some (.inr (.inl false)) else some (.inl ((a, b, c, d, e, f, g), h, i, j, w64 (k + 1)))) else some (.inr (.inr ((a, b, c, d, e, f, g), h)))
def impl_SketchOk_n250 : NEnt := ⟨⟨91, [⟨1, .box, cc4⟩, ⟨3, .one, [.dat kI]⟩, ⟨65, .one, [.dat (.list kI)]⟩, ⟨66, .one, [.dat kI]⟩, ⟨67, .one, [.dat kI]⟩]⟩, [(.ret, ⟨91, [⟨2, .one, [.dat .bool]⟩]⟩), (.exit 2, ⟨91, [⟨1, .box, cc4⟩, ⟨3, .one, [.dat kI]⟩]⟩)], lp impl_SketchOk_s250⟩
def impl_SketchOk : t18 → Option Bool
  | (a, b, c, d, e, f, g) => bif (ln e) != 8 then some false else bif (ln f) != 8 then some false else bif (ln g) != 2 then some false else chk (decide (0 < g.length)) (bif (ln (List.getD g 0 [])) != 4 then some false else chk (decide (1 < g.length)) (bif (ln (List.getD g 1 [])) != 4 then some false else (impl_counts (a, b, c, d, e, f, g)).bind fun h => chk (fits (h.length + [a, b, c, d].length) 8) (bx (lp impl_SketchOk_s122 ((a, b, c, d, e, f, g), 0, h ++ [a, b, c, d], ln (h ++ [a, b, c, d]), 0)) (fun i => some i) fun ((i, j, k, l, m, n, o), p) => bx (lp impl_SketchOk_s250 ((i, j, k, l, m, n, o), p, n, ln n, 0)) (fun q => some q) fun ((q, r, s, t, u, v, w), x) => bif q == 0 then some (x == 0) else bif decide (s ≤ t) then some (decide (t ≤ 1000000)) else some false)))
def impl_SketchOk_e : FEnt := ⟨89, [.tmp 2], [], [(.agg, cc4)], ⟨91, [⟨2, .one, [.dat .bool]⟩]⟩, impl_SketchOk⟩
theorem impl_SketchOk_ok : FnOk Try.prog 69 impl_SketchOk_e := fnOk_mk (tb := [(250, impl_SketchOk_n250), (122, impl_SketchOk_n122)]) (c := (Try.f69.body).getD .skip) mixed Try.func69 (bC impl_counts_ok (bC impl_within_ok bN)) (by kernel_rfl) (by kernel_rfl) (by kernel_rfl) ⟨nodeLoop (by kernel_rfl) impl_SketchOk_s250 (by kernel_rfl) (by intro d; kernel_rfl), nodeLoop (by kernel_rfl) impl_SketchOk_s122 (by kernel_rfl) (by intro d; kernel_rfl), trivial⟩ (by intro d; kernel_rfl)


/-! impl.EntryOk -/
def impl_EntryOk : t23 → Option Bool
  | (a, b, c, d, e, f, g, h, i, j) => (impl_within (a, 0, 4)).bind fun k => bif k then (impl_within (b, 0, 20)).bind fun l => bif l then (impl_SetOk c).bind fun m => bif m then bif decide ((ln c) > 0) then (impl_SketchOk (d, e, f, g, h, i, j)).bind fun n => some n else some false else some false else some false else some false
def impl_EntryOk_e : FEnt := ⟨27, [.tmp 2], [], [(.agg, cc2)], ⟨29, [⟨2, .one, [.dat .bool]⟩]⟩, impl_EntryOk⟩
theorem impl_EntryOk_ok : FnOk Try.prog 46 impl_EntryOk_e := fnOk_mk (tb := []) (c := (Try.f46.body).getD .skip) mixed Try.func46 (bC impl_within_ok (bC impl_SetOk_ok (bC impl_SketchOk_ok bN))) (by kernel_rfl) (by kernel_rfl) (by kernel_rfl) trivial (by intro d; kernel_rfl)


/-! impl.of -/
def impl_of_s58 : Int × Int × List t23 × t28 → Option (Int × Int × List t23 × t28 ⊕ List t23)
  | (a, b, c, d, e, f) => bif decide (f < e) then ix f d.length ((some (gx d f (0, 0, [], 0, 0, 0, 0, [], [], []))).bind fun (g, h, i, j, k, l, m, n, o, p) => bif g == a then bif h == b then (some [(g, h, i, j, k, l, m, n, o, p)]).bind fun q => chk (fits (c.length + q.length) 144) ((some (c ++ q)).bind fun r => some (.inl (a, b, r, d, e, w64 (f + 1)))) else some (.inl (a, b, c, d, e, w64 (f + 1))) else some (.inl (a, b, c, d, e, w64 (f + 1)))) else some (.inr c)
def impl_of_n58 : NEnt := ⟨⟨38, [⟨1, .one, [.dat kI]⟩, ⟨2, .one, [.dat kI]⟩, ⟨7, .one, [.own false kk3]⟩, ⟨10, .one, [.dat kk2]⟩, ⟨11, .one, [.dat kI]⟩, ⟨12, .one, [.dat kI]⟩]⟩, [(.exit 0, ⟨38, [⟨7, .one, [.own false kk3]⟩]⟩)], lp impl_of_s58⟩
def impl_of : t28 → Option (List t23)
  | (a, b, c) => (lp impl_of_s58 (b, c, [], a, ln a, 0)).bind fun d => some d
def impl_of_e : FEnt := ⟨32, [.tmp 6], [], [(.one, [.dat kk2]), (.one, [.dat kI]), (.one, [.dat kI])], ⟨38, [⟨6, .one, [.own false kk3]⟩]⟩, impl_of⟩
theorem impl_of_ok : FnOk Try.prog 70 impl_of_e := fnOk_mk (tb := [(58, impl_of_n58)]) (c := (Try.f70.body).getD .skip) mixed Try.func70 bN (by kernel_rfl) (by kernel_rfl) (by kernel_rfl) ⟨nodeLoop (by kernel_rfl) impl_of_s58 (by kernel_rfl) (by intro d; kernel_rfl), trivial⟩ (by intro d; kernel_rfl)


/-! impl.copySet -/
def impl_copySet : List (Int × Int) → Option (List (Int × Int))
  | a => chk (fits a.length 16) (some a)
def impl_copySet_e : FEnt := ⟨5, [.tmp 2], [], [(.one, [.dat kk4])], ⟨7, [⟨2, .one, cc9⟩]⟩, impl_copySet⟩
theorem impl_copySet_ok : FnOk Try.prog 103 impl_copySet_e := fnOk_mk (tb := []) (c := (Try.f103.body).getD .skip) mixed Try.func103 bN (by kernel_rfl) (by kernel_rfl) (by kernel_rfl) trivial (by intro d; kernel_rfl)


/-! impl.copySketch -/
def impl_copySketch_s506 : t31 → Option (t31 ⊕ t27)
  | ((a, b, c, d, _, _, _), (e, f, g, h, i, j, k), l, m, n) => bif decide (n < m) then ix n l.length ((impl_copyInts (gx l n [])).bind fun o => chk (fits (k.length + [o].length) 24) (some (.inl ((a, b, c, d, (), (), ()), (e, f, g, h, i, j, k ++ [o]), l, m, w64 (n + 1))))) else some (.inr ((a, b, c, d, (), (), ()), e, f, g, h, i, j, k))
def impl_copySketch_n506 : NEnt := ⟨⟨34, [⟨2, .box, cc7⟩, ⟨3, .box, cc3⟩, ⟨17, .one, [.dat kk5]⟩, ⟨18, .one, [.dat kI]⟩, ⟨19, .one, [.dat kI]⟩]⟩, [(.exit 0, ⟨34, [⟨2, .box, cc7⟩, ⟨3, .box, cc3⟩]⟩)], lp impl_copySketch_s506⟩
def impl_copySketch : t18 → Option t18
  | (a, b, c, d, e, f, g) => (impl_copyInts e).bind fun h => (impl_copyInts f).bind fun i => (lp impl_copySketch_s506 ((0, 0, 0, 0, (), (), ()), (a, b, c, d, h, i, []), g, ln g, 0)).bind fun ((j, k, l, m, _, _, _), n, o, p, q, r, s, t) => some (n, o, p, q, r, s, t)
def impl_copySketch_e : FEnt := ⟨32, [.cell 2 true 7], [], [(.agg, cc4)], ⟨34, [⟨2, .box, cc3⟩]⟩, impl_copySketch⟩
theorem impl_copySketch_ok : FnOk Try.prog 104 impl_copySketch_e := fnOk_mk (tb := [(506, impl_copySketch_n506)]) (c := (Try.f104.body).getD .skip) mixed Try.func104 (bC impl_copyInts_ok bN) (by kernel_rfl) (by kernel_rfl) (by kernel_rfl) ⟨nodeLoop (by kernel_rfl) impl_copySketch_s506 (by kernel_rfl) (by intro d; kernel_rfl), trivial⟩ (by intro d; kernel_rfl)


/-! impl.copyEntry -/
def impl_copyEntry : t23 → Option t23
  | (a, b, c, d, e, f, g, h, i, j) => (impl_copySet c).bind fun k => (impl_copySketch (d, e, f, g, h, i, j)).bind fun (l, m, n, o, p, q, r) => some (a, b, k, l, m, n, o, p, q, r)
def impl_copyEntry_e : FEnt := ⟨12, [.cell 2 true 10], [], [(.agg, cc2)], ⟨14, [⟨2, .box, cc0⟩]⟩, impl_copyEntry⟩
theorem impl_copyEntry_ok : FnOk Try.prog 90 impl_copyEntry_e := fnOk_mk (tb := []) (c := (Try.f90.body).getD .skip) mixed Try.func90 (bC impl_copySet_ok (bC impl_copySketch_ok bN)) (by kernel_rfl) (by kernel_rfl) (by kernel_rfl) trivial (by intro d; kernel_rfl)


/-! impl.limited -/
def impl_limited : Int × Int × Int → Option Int
  | (a, b, c) => some (if c < if b > a then b else a then c else if b > a then b else a)
def impl_limited_e : FEnt := ⟨12, [.tmp 6], [], [(.one, [.dat kI]), (.one, [.dat kI]), (.one, [.dat kI])], ⟨18, [⟨6, .one, [.dat kI]⟩]⟩, impl_limited⟩
theorem impl_limited_ok : FnOk Try.prog 112 impl_limited_e := fnOk_mk (tb := []) (c := (Try.f112.body).getD .skip) mixed Try.func112 bN (by kernel_rfl) (by kernel_rfl) (by kernel_rfl) trivial (by intro d; kernel_rfl)


/-! impl.Add -/
def impl_Add : Int × Int → Option Int
  | (a, b) => (impl_limited (a, 0, 1000000000)).bind fun c => (impl_limited (b, 0, 1000000000)).bind fun d => (some (if (1000000000 : Int) < IntKind.wrap IntKind.i64 (c + d) then (1000000000 : Int) else IntKind.wrap IntKind.i64 (c + d))).bind fun e => some e
def impl_Add_e : FEnt := ⟨11, [.tmp 4], [], [(.one, [.dat kI]), (.one, [.dat kI])], ⟨15, [⟨4, .one, [.dat kI]⟩]⟩, impl_Add⟩
theorem impl_Add_ok : FnOk Try.prog 105 impl_Add_e := fnOk_mk (tb := []) (c := (Try.f105.body).getD .skip) mixed Try.func105 (bC impl_limited_ok bN) (by kernel_rfl) (by kernel_rfl) (by kernel_rfl) trivial (by intro d; kernel_rfl)


/-! impl.Merge -/
def impl_Merge_s2042 : t18 × t14 × t22 → Option (t18 × t14 × t22 ⊕ t18 × t27)
  | ((a, b, c, d, e, f, g), (h, i, j, k, _, _, _), (l, m, n, o, p, q, r), s, t, u) => bif decide (u < t) then ix u s.length (ix u p.length (lx u p.length ((impl_Add (gx p u 0, gx s u 0)).bind fun v => ix u p.length (lx u p.length (some (.inl ((a, b, c, d, e, f, g), (h, i, j, k, (), (), ()), (l, m, n, o, sx p u v, q, r), s, t, w64 (u + 1)))))))) else some (.inr ((a, b, c, d, e, f, g), (h, i, j, k, (), (), ()), l, m, n, o, p, q, r))
def impl_Merge_n2042 : NEnt := ⟨⟨141, [⟨3, .box, cc4⟩, ⟨4, .box, cc7⟩, ⟨6, .box, cc3⟩, ⟨63, .one, [.dat (.list kI)]⟩, ⟨64, .one, [.dat kI]⟩, ⟨65, .one, [.dat kI]⟩]⟩, [(.exit 0, ⟨141, [⟨3, .box, cc4⟩, ⟨4, .box, cc7⟩, ⟨6, .box, cc3⟩]⟩)], lp impl_Merge_s2042⟩
def impl_Merge_s4090 : t18 × t14 × t22 → Option (t18 × t14 × t22 ⊕ t18 × t27)
  | ((a, b, c, d, e, f, g), (h, i, j, k, _, _, _), (l, m, n, o, p, q, r), s, t, u) => bif decide (u < t) then ix u s.length (ix u q.length (lx u q.length ((some (if List.getD s (Int.toNat u) (0 : Int) > List.getD q (Int.toNat u) (0 : Int) then List.getD s (Int.toNat u) (0 : Int) else List.getD q (Int.toNat u) (0 : Int))).bind fun v => ix u q.length (lx u q.length (some (.inl ((a, b, c, d, e, f, g), (h, i, j, k, (), (), ()), (l, m, n, o, p, sx q u v, r), s, t, w64 (u + 1)))))))) else some (.inr ((a, b, c, d, e, f, g), (h, i, j, k, (), (), ()), l, m, n, o, p, q, r))
def impl_Merge_n4090 : NEnt := ⟨⟨141, [⟨3, .box, cc4⟩, ⟨4, .box, cc7⟩, ⟨6, .box, cc3⟩, ⟨83, .one, [.dat (.list kI)]⟩, ⟨84, .one, [.dat kI]⟩, ⟨85, .one, [.dat kI]⟩]⟩, [(.exit 2, ⟨141, [⟨3, .box, cc4⟩, ⟨4, .box, cc7⟩, ⟨6, .box, cc3⟩]⟩)], lp impl_Merge_s4090⟩
def impl_Merge_s2095718 : t14 × t18 × Int × List (List Int) × Int × t5 → Option (t14 × t18 × Int × List (List Int) × Int × t5 ⊕ t31)
  | ((a, b, c, d, _, _, _), (e, f, g, h, i, j, k), l, m, n, o, p, q, r) => bif decide (r < q) then ix r p.length (ix l k.length (lx l k.length (ix l k.length (lx l k.length (ix r (gx k l []).length (lx r (gx k l []).length ((impl_Add (gx (gx k l []) r 0, gx p r 0)).bind fun s => ix r (gx k l []).length (lx r (gx k l []).length (some (.inl ((a, b, c, d, (), (), ()), (e, f, g, h, i, j, sx k l (sx (gx k l []) r s)), l, m, n, o, p, q, w64 (r + 1)))))))))))) else some (.inr ((a, b, c, d, (), (), ()), (e, f, g, h, i, j, k), m, n, o))
def impl_Merge_n2095718 : NEnt := ⟨⟨141, [⟨4, .box, cc7⟩, ⟨6, .box, cc3⟩, ⟨11, .one, [.dat kI]⟩, ⟨103, .one, [.dat kk5]⟩, ⟨104, .one, [.dat kI]⟩, ⟨105, .one, [.dat kI]⟩, ⟨110, .one, [.dat (.list kI)]⟩, ⟨111, .one, [.dat kI]⟩, ⟨112, .one, [.dat kI]⟩]⟩, [(.exit 6, ⟨141, [⟨4, .box, cc7⟩, ⟨6, .box, cc3⟩, ⟨103, .one, [.dat kk5]⟩, ⟨104, .one, [.dat kI]⟩, ⟨105, .one, [.dat kI]⟩]⟩)], lp impl_Merge_s2095718⟩
def impl_Merge_s8186 : t31 → Option (t31 ⊕ t27)
  | ((a, b, c, d, _, _, _), (e, f, g, h, i, j, k), l, m, n) => bif decide (n < m) then ix n l.length ((lp impl_Merge_s2095718 ((a, b, c, d, (), (), ()), (e, f, g, h, i, j, k), n, l, m, n, gx l n [], ln (gx l n []), 0)).bind fun ((o, p, q, r, _, _, _), (s, t, u, v, w, x, y), z, a1, b1) => some (.inl ((o, p, q, r, (), (), ()), (s, t, u, v, w, x, y), z, a1, w64 (b1 + 1)))) else some (.inr ((a, b, c, d, (), (), ()), e, f, g, h, i, j, k))
def impl_Merge_n8186 : NEnt := ⟨⟨141, [⟨4, .box, cc7⟩, ⟨6, .box, cc3⟩, ⟨103, .one, [.dat kk5]⟩, ⟨104, .one, [.dat kI]⟩, ⟨105, .one, [.dat kI]⟩]⟩, [(.exit 4, ⟨141, [⟨4, .box, cc7⟩, ⟨6, .box, cc3⟩]⟩)], lp impl_Merge_s8186⟩
def impl_Merge_l31 : t18 × t18 × t27 → Option (t18 × Bool)
  | ((a, b, c, d, e, f, g), (h, i, j, k, l, m, n), (o, p, q, r, _, _, _), s, t, u, v, w, x, y) => (impl_Add (a, h)).bind fun z => (impl_Add (b, i)).bind fun a1 => (lp impl_Merge_s2042 ((h, i, j, k, l, m, n), (o, p, q, r, (), (), ()), (z, a1, u, if k > d then k else d, w, x, y), l, ln l, 0)).bind fun ((b1, c1, d1, e1, f1, g1, h1), (i1, j1, k1, l1, _, _, _), m1, n1, o1, p1, q1, r1, s1) => (lp impl_Merge_s4090 ((b1, c1, d1, e1, f1, g1, h1), (i1, j1, k1, l1, (), (), ()), (m1, n1, o1, p1, q1, r1, s1), g1, ln g1, 0)).bind fun ((t1, u1, v1, w1, x1, y1, z1), (a2, b2, c2, d2, _, _, _), e2, f2, g2, h2, i2, j2, k2) => (lp impl_Merge_s8186 ((a2, b2, c2, d2, (), (), ()), (e2, f2, g2, h2, i2, j2, k2), z1, ln z1, 0)).bind fun ((l2, m2, n2, o2, _, _, _), p2, q2, r2, s2, t2, u2, v2) => some ((p2, q2, r2, s2, t2, u2, v2), true)
def impl_Merge_n31 : NEnt := ⟨⟨141, [⟨2, .box, cc4⟩, ⟨3, .box, cc4⟩, ⟨4, .box, cc7⟩, ⟨6, .box, cc3⟩]⟩, [(.ret, ⟨141, [⟨4, .box, cc3⟩, ⟨5, .one, [.dat .bool]⟩]⟩)], impl_Merge_l31⟩
def impl_Merge : t18 × t18 → Option (t18 × Bool)
  | ((a, b, c, d, e, f, g), h, i, j, k, l, m, n) => (impl_SketchOk (a, b, c, d, e, f, g)).bind fun o => bif !o then some ((0, 0, 0, 0, [], [], []), false) else (impl_SketchOk (h, i, j, k, l, m, n)).bind fun p => bif !p then some ((0, 0, 0, 0, [], [], []), false) else (impl_copySketch (a, b, c, d, e, f, g)).bind fun (q, r, s, t, u, v, w) => bif a == 0 then (impl_Merge_l31 ((a, b, c, d, e, f, g), (h, i, j, k, l, m, n), (0, 0, 0, 0, (), (), ()), q, r, j, t, u, v, w)).bind fun ((x, y, z, a1, b1, c1, d1), e1) => some ((x, y, z, a1, b1, c1, d1), e1) else bif decide (h > 0) then bif decide (j < c) then (impl_Merge_l31 ((a, b, c, d, e, f, g), (h, i, j, k, l, m, n), (0, 0, 0, 0, (), (), ()), q, r, j, t, u, v, w)).bind fun ((x, y, z, a1, b1, c1, d1), e1) => some ((x, y, z, a1, b1, c1, d1), e1) else (impl_Merge_l31 ((a, b, c, d, e, f, g), (h, i, j, k, l, m, n), (0, 0, 0, 0, (), (), ()), q, r, s, t, u, v, w)).bind fun ((x, y, z, a1, b1, c1, d1), e1) => some ((x, y, z, a1, b1, c1, d1), e1) else (impl_Merge_l31 ((a, b, c, d, e, f, g), (h, i, j, k, l, m, n), (0, 0, 0, 0, (), (), ()), q, r, s, t, u, v, w)).bind fun ((x, y, z, a1, b1, c1, d1), e1) => some ((x, y, z, a1, b1, c1, d1), e1)
def impl_Merge_e : FEnt := ⟨137, [.cell 4 true 7, .tmp 5], [], [(.agg, cc4), (.agg, cc4)], ⟨141, [⟨4, .box, cc3⟩, ⟨5, .one, [.dat .bool]⟩]⟩, impl_Merge⟩
theorem impl_Merge_ok : FnOk Try.prog 91 impl_Merge_e := fnOk_mk (tb := [(2095718, impl_Merge_n2095718), (8186, impl_Merge_n8186), (4090, impl_Merge_n4090), (2042, impl_Merge_n2042), (31, impl_Merge_n31)]) (c := (Try.f91.body).getD .skip) mixed Try.func91 (bC impl_SketchOk_ok (bC impl_copySketch_ok (bC impl_Add_ok bN))) (by kernel_rfl) (by kernel_rfl) (by kernel_rfl) ⟨nodeLoop (by kernel_rfl) impl_Merge_s2095718 (by kernel_rfl) (by intro d; kernel_rfl), nodeLoop (by kernel_rfl) impl_Merge_s8186 (by kernel_rfl) (by intro d; kernel_rfl), nodeLoop (by kernel_rfl) impl_Merge_s4090 (by kernel_rfl) (by intro d; kernel_rfl), nodeLoop (by kernel_rfl) impl_Merge_s2042 (by kernel_rfl) (by intro d; kernel_rfl), nodeJoin (by kernel_rfl) (by intro d; kernel_rfl), trivial⟩ (by intro d; kernel_rfl)


/-! impl.union -/
def impl_union_s250 : List (Int × Int) × List (Int × Int) × t9 → Option (List (Int × Int) × List (Int × Int) × t9 ⊕ List (Int × Int))
  | (a, b, (_, _, _), c, d) => bif decide (d < c) then ix d a.length (lx d a.length ((some (gx a d (0, 0))).bind fun (e, f) => bif decide ((ln b) > 0) then ix (w64 ((ln b) - 1)) b.length (lx (w64 ((ln b) - 1)) b.length ((some (gx b (w64 ((ln b) - 1)) (0, 0))).bind fun (g, h) => bif decide (e ≤ (w64 (h + 1))) then ix (w64 ((ln b) - 1)) b.length (lx (w64 ((ln b) - 1)) b.length ((some (gx b (w64 ((ln b) - 1)) (0, 0))).bind fun (i, j) => ix (w64 ((ln b) - 1)) b.length (lx (w64 ((ln b) - 1)) b.length ((some (sx b (w64 ((ln b) - 1)) ((gx b (w64 ((ln b) - 1)) (0, 0)).1, if f > j then f else j))).bind fun k => some (.inl (a, k, ((), (), ()), c, w64 (d + 1))))))) else chk (fits (b.length + [(e, f)].length) 16) (some (.inl (a, b ++ [(e, f)], ((), (), ()), c, w64 (d + 1)))))) else chk (fits (b.length + [(e, f)].length) 16) (some (.inl (a, b ++ [(e, f)], ((), (), ()), c, w64 (d + 1)))))) else some (.inr b)
def impl_union_n250 : NEnt := ⟨⟨56, [⟨3, .one, cc9⟩, ⟨4, .one, cc9⟩, ⟨12, .one, [.ref 3 0 [] false false (.pair kI kI)]⟩, ⟨13, .one, [.dat kI]⟩, ⟨14, .one, [.dat kI]⟩]⟩, [(.exit 0, ⟨56, [⟨4, .one, cc9⟩]⟩)], lp impl_union_s250⟩
def impl_union : List (Int × Int) → Option (List (Int × Int))
  | a => (impl_copySet a).bind fun b => (slices_SortFunc (b, ())).bind fun c => (lp impl_union_s250 (c, [], ((), (), ()), ln c, 0)).bind fun d => some d
def impl_union_e : FEnt := ⟨54, [.tmp 2], [], [(.one, [.dat kk4])], ⟨56, [⟨2, .one, cc9⟩]⟩, impl_union⟩
theorem impl_union_ok : FnOk Try.prog 106 impl_union_e := fnOk_mk (tb := [(250, impl_union_n250)]) (c := (Try.f106.body).getD .skip) mixed Try.func106 (bC impl_copySet_ok (bC slices_SortFunc_ok bN)) (by kernel_rfl) (by kernel_rfl) (by kernel_rfl) ⟨nodeLoop (by kernel_rfl) impl_union_s250 (by kernel_rfl) (by intro d; kernel_rfl), trivial⟩ (by intro d; kernel_rfl)


/-! impl.idsOf -/
def impl_idsOf_s58 : List (Int × Int) × t28 → Option (List (Int × Int) × t28 ⊕ List (Int × Int))
  | (a, b, c, d) => bif decide (d < c) then ix d b.length ((some (gx b d (0, 0, [], 0, 0, 0, 0, [], [], []))).bind fun (e, f, g, h, i, j, k, l, m, n) => chk (fits (a.length + g.length) 16) (some (.inl (a ++ g, b, c, w64 (d + 1))))) else some (.inr a)
def impl_idsOf_n58 : NEnt := ⟨⟨21, [⟨3, .one, cc9⟩, ⟨6, .one, [.dat kk2]⟩, ⟨7, .one, [.dat kI]⟩, ⟨8, .one, [.dat kI]⟩]⟩, [(.exit 0, ⟨21, [⟨3, .one, cc9⟩]⟩)], lp impl_idsOf_s58⟩
def impl_idsOf : List t23 → Option (List (Int × Int))
  | a => (lp impl_idsOf_s58 ([], a, ln a, 0)).bind fun b => (impl_union b).bind fun c => some c
def impl_idsOf_e : FEnt := ⟨19, [.tmp 2], [], [(.one, [.dat kk2])], ⟨21, [⟨2, .one, cc9⟩]⟩, impl_idsOf⟩
theorem impl_idsOf_ok : FnOk Try.prog 92 impl_idsOf_e := fnOk_mk (tb := [(58, impl_idsOf_n58)]) (c := (Try.f92.body).getD .skip) mixed Try.func92 (bC impl_union_ok bN) (by kernel_rfl) (by kernel_rfl) (by kernel_rfl) ⟨nodeLoop (by kernel_rfl) impl_idsOf_s58 (by kernel_rfl) (by intro d; kernel_rfl), trivial⟩ (by intro d; kernel_rfl)


/-! impl.total -/
def impl_total_s58 : List t23 × (Int × Int × Unit × t14) × t23 × t28 → Option (List t23 × (Int × Int × Unit × t14) × t23 × t28 ⊕ List t23 × (Int × Int × Unit × t14) × t23)
  | (a, (b, c, _, d, e, f, g, _, _, _), (h, i, j, k, l, m, n, o, p, q), r, s, t) => bif decide (t < s) then ix t r.length ((some (gx r t (0, 0, [], 0, 0, 0, 0, [], [], []))).bind fun (u, v, w, x, y, z, a1, b1, c1, d1) => (impl_Merge ((k, l, m, n, o, p, q), x, y, z, a1, b1, c1, d1)).bind fun ((e1, f1, g1, h1, i1, j1, k1), l1) => some (.inl (a, (b, c, (), d, e, f, g, (), (), ()), (h, i, j, e1, f1, g1, h1, i1, j1, k1), r, s, w64 (t + 1)))) else some (.inr (a, (b, c, (), d, e, f, g, (), (), ()), h, i, j, k, l, m, n, o, p, q))
def impl_total_n58 : NEnt := ⟨⟨33, [⟨0, .one, [.dat kk2]⟩, ⟨2, .box, cc6⟩, ⟨3, .box, cc0⟩, ⟨11, .one, [.dat kk2]⟩, ⟨12, .one, [.dat kI]⟩, ⟨13, .one, [.dat kI]⟩]⟩, [(.exit 0, ⟨33, [⟨0, .one, [.dat kk2]⟩, ⟨2, .box, cc6⟩, ⟨3, .box, cc0⟩]⟩)], lp impl_total_s58⟩
def impl_total : List t23 → Option t23
  | a => chk (decide (0 < a.length)) ((some (List.getD a 0 (0, 0, [], 0, 0, 0, 0, [], [], []))).bind fun (b, c, d, e, f, g, h, i, j, k) => (impl_copyEntry (b, c, d, e, f, g, h, i, j, k)).bind fun (l, m, n, o, p, q, r, s, t, u) => chk (decide ((1 ≤ a.length) ∧ (a.length ≤ a.length))) ((some (ln (List.drop 1 a))).bind fun v => (lp impl_total_s58 (a, (0, 0, (), 0, 0, 0, 0, (), (), ()), (l, m, n, o, p, q, r, s, t, u), List.drop 1 a, v, 0)).bind fun (w, (x, y, _, z, a1, b1, c1, _, _, _), d1, e1, f1, g1, h1, i1, j1, k1, l1, m1) => (impl_idsOf w).bind fun n1 => some (d1, e1, n1, g1, h1, i1, j1, k1, l1, m1)))
def impl_total_e : FEnt := ⟨31, [.cell 2 true 10], [], [(.one, [.dat kk2])], ⟨33, [⟨2, .box, cc0⟩]⟩, impl_total⟩
theorem impl_total_ok : FnOk Try.prog 71 impl_total_e := fnOk_mk (tb := [(58, impl_total_n58)]) (c := (Try.f71.body).getD .skip) mixed Try.func71 (bC impl_copyEntry_ok (bC impl_Merge_ok (bC impl_idsOf_ok bN))) (by kernel_rfl) (by kernel_rfl) (by kernel_rfl) ⟨nodeLoop (by kernel_rfl) impl_total_s58 (by kernel_rfl) (by intro d; kernel_rfl), trivial⟩ (by intro d; kernel_rfl)


/-! impl.sums -/
def impl_sums_s3730 : List t23 × t28 → Option (List t23 × t28 ⊕ t33)
  | (a, b, c, d) => bif decide (d ≤ 20) then (impl_of (a, c, d)).bind fun e => (some (decide ((ln e) > 0))).bind fun f => bif f then (impl_total e).bind fun (g, h, i, j, k, l, m, n, o, p) => (some [(g, h, i, j, k, l, m, n, o, p)]).bind fun q => chk (fits (b.length + q.length) 144) ((some (b ++ q)).bind fun r => some (.inl (a, r, c, w64 (d + 1)))) else some (.inl (a, b, c, w64 (d + 1))) else some (.inr (a, b, c))
def impl_sums_n3730 : NEnt := ⟨⟨30, [⟨0, .one, [.dat kk2]⟩, ⟨3, .one, [.own true kk3]⟩, ⟨4, .one, [.dat kI]⟩, ⟨5, .one, [.dat kI]⟩]⟩, [(.exit 2, ⟨30, [⟨0, .one, [.dat kk2]⟩, ⟨3, .one, [.own true kk3]⟩, ⟨4, .one, [.dat kI]⟩]⟩)], lp impl_sums_s3730⟩
def impl_sums_s58 : t33 → Option (t33 ⊕ List t23)
  | (a, b, c) => bif decide (c ≤ 4) then (lp impl_sums_s3730 (a, b, c, 0)).bind fun (d, e, f) => some (.inl (d, e, w64 (f + 1))) else some (.inr b)
def impl_sums_n58 : NEnt := ⟨⟨30, [⟨0, .one, [.dat kk2]⟩, ⟨3, .one, [.own true kk3]⟩, ⟨4, .one, [.dat kI]⟩]⟩, [(.exit 0, ⟨30, [⟨3, .one, [.own true kk3]⟩]⟩)], lp impl_sums_s58⟩
def impl_sums : List t23 → Option (List t23)
  | a => (lp impl_sums_s58 (a, [], 0)).bind fun b => some b
def impl_sums_e : FEnt := ⟨28, [.tmp 2], [], [(.one, [.dat kk2])], ⟨30, [⟨2, .one, [.own true kk3]⟩]⟩, impl_sums⟩
theorem impl_sums_ok : FnOk Try.prog 47 impl_sums_e := fnOk_mk (tb := [(3730, impl_sums_n3730), (58, impl_sums_n58)]) (c := (Try.f47.body).getD .skip) mixed Try.func47 (bC impl_of_ok (bC impl_total_ok bN)) (by kernel_rfl) (by kernel_rfl) (by kernel_rfl) ⟨nodeLoop (by kernel_rfl) impl_sums_s3730 (by kernel_rfl) (by intro d; kernel_rfl), nodeLoop (by kernel_rfl) impl_sums_s58 (by kernel_rfl) (by intro d; kernel_rfl), trivial⟩ (by intro d; kernel_rfl)


/-! impl.Combine -/
def impl_Combine_s58 : List t23 × t9 → Option (List t23 × t9 ⊕ Unit ⊕ List t23)
  | (a, (_, _, _), b, c) => bif decide (c < b) then ix c a.length (lx c a.length ((some (gx a c (0, 0, [], 0, 0, 0, 0, [], [], []))).bind fun (d, e, f, g, h, i, j, k, l, m) => (impl_EntryOk (d, e, f, g, h, i, j, k, l, m)).bind fun n => bif !n then some (.inr (.inl ())) else some (.inl (a, ((), (), ()), b, w64 (c + 1))))) else some (.inr (.inr a))
def impl_Combine_n58 : NEnt := ⟨⟨28, [⟨5, .one, [.own false kk3]⟩, ⟨12, .one, [.ref 5 0 [] false false kk3]⟩, ⟨13, .one, [.dat kI]⟩, ⟨14, .one, [.dat kI]⟩]⟩, [(.ret, ⟨28, [⟨4, .one, [.nil]⟩]⟩), (.exit 0, ⟨28, [⟨5, .one, [.own false kk3]⟩]⟩)], lp impl_Combine_s58⟩
def impl_Combine : t32 → Option (List t23)
  | (a, b) => chk (fits a.length 144) (chk (fits (a.length + b.length) 144) ((some (a ++ b)).bind fun c => bx (lp impl_Combine_s58 (c, ((), (), ()), ln c, 0)) (fun _ => some []) fun d => (impl_sums d).bind fun e => some e))
def impl_Combine_e : FEnt := ⟨24, [.tmp 4], [], [(.one, [.dat kk2]), (.one, [.dat kk2])], ⟨28, [⟨4, .one, [.own true kk3]⟩]⟩, impl_Combine⟩
theorem impl_Combine_ok : FnOk Try.prog 17 impl_Combine_e := fnOk_mk (tb := [(58, impl_Combine_n58)]) (c := (Try.f17.body).getD .skip) mixed Try.func17 (bC impl_EntryOk_ok (bC impl_sums_ok bN)) (by kernel_rfl) (by kernel_rfl) (by kernel_rfl) ⟨nodeLoop (by kernel_rfl) impl_Combine_s58 (by kernel_rfl) (by intro d; kernel_rfl), trivial⟩ (by intro d; kernel_rfl)


/-! laws.eqSpan -/
def laws_eqSpan : (Int × Int) × Int × Int → Option Bool
  | ((a, b), c, d) => bif a != c then some false else bif b != d then some false else some true
def laws_eqSpan_e : FEnt := ⟨15, [.tmp 4], [], [(.agg, cc11), (.agg, cc11)], ⟨19, [⟨4, .one, [.dat .bool]⟩]⟩, laws_eqSpan⟩
theorem laws_eqSpan_ok : FnOk Try.prog 93 laws_eqSpan_e := fnOk_mk (tb := []) (c := (Try.f93.body).getD .skip) mixed Try.func93 bN (by kernel_rfl) (by kernel_rfl) (by kernel_rfl) trivial (by intro d; kernel_rfl)


/-! laws.eqSpanS -/
def laws_eqSpanS_s58 : t13 → Option (t13 ⊕ Bool ⊕ Unit)
  | (a, b, c) => bif decide (c < (ln a)) then ix c a.length ((some (gx a c (0, 0))).bind fun (d, e) => ix c b.length ((some (gx b c (0, 0))).bind fun (f, g) => (laws_eqSpan ((d, e), f, g)).bind fun h => bif !h then some (.inr (.inl false)) else some (.inl (a, b, w64 (c + 1))))) else some (.inr (.inr ()))
def laws_eqSpanS_n58 : NEnt := ⟨⟨31, [⟨0, .one, [.dat kk4]⟩, ⟨1, .one, [.dat kk4]⟩, ⟨5, .one, [.dat kI]⟩]⟩, [(.ret, ⟨31, [⟨4, .one, [.dat .bool]⟩]⟩), (.exit 0, ⟨31, []⟩)], lp laws_eqSpanS_s58⟩
def laws_eqSpanS : List (Int × Int) × List (Int × Int) → Option Bool
  | (a, b) => bif (ln a) != (ln b) then some false else bx (lp laws_eqSpanS_s58 (a, b, 0)) (fun c => some c) fun _ => some true
def laws_eqSpanS_e : FEnt := ⟨27, [.tmp 4], [], [(.one, [.dat kk4]), (.one, [.dat kk4])], ⟨31, [⟨4, .one, [.dat .bool]⟩]⟩, laws_eqSpanS⟩
theorem laws_eqSpanS_ok : FnOk Try.prog 72 laws_eqSpanS_e := fnOk_mk (tb := [(58, laws_eqSpanS_n58)]) (c := (Try.f72.body).getD .skip) mixed Try.func72 (bC laws_eqSpan_ok bN) (by kernel_rfl) (by kernel_rfl) (by kernel_rfl) ⟨nodeLoop (by kernel_rfl) laws_eqSpanS_s58 (by kernel_rfl) (by intro d; kernel_rfl), trivial⟩ (by intro d; kernel_rfl)


/-! laws.eqIntS -/
def laws_eqIntS_s58 : t3 → Option (t3 ⊕ Bool ⊕ Unit)
  | (a, b, c) => bif decide (c < (ln a)) then ix c a.length (ix c b.length (bif (gx a c 0) != (gx b c 0) then some (.inr (.inl false)) else some (.inl (a, b, w64 (c + 1))))) else some (.inr (.inr ()))
def laws_eqIntS_n58 : NEnt := ⟨⟨30, [⟨0, .one, [.dat (.list kI)]⟩, ⟨1, .one, [.dat (.list kI)]⟩, ⟨5, .one, [.dat kI]⟩]⟩, [(.ret, ⟨30, [⟨4, .one, [.dat .bool]⟩]⟩), (.exit 0, ⟨30, []⟩)], lp laws_eqIntS_s58⟩
def laws_eqIntS : List Int × List Int → Option Bool
  | (a, b) => bif (ln a) != (ln b) then some false else bx (lp laws_eqIntS_s58 (a, b, 0)) (fun c => some c) fun _ => some true
def laws_eqIntS_e : FEnt := ⟨26, [.tmp 4], [], [(.one, [.dat (.list kI)]), (.one, [.dat (.list kI)])], ⟨30, [⟨4, .one, [.dat .bool]⟩]⟩, laws_eqIntS⟩
theorem laws_eqIntS_ok : FnOk Try.prog 94 laws_eqIntS_e := fnOk_mk (tb := [(58, laws_eqIntS_n58)]) (c := (Try.f94.body).getD .skip) mixed Try.func94 bN (by kernel_rfl) (by kernel_rfl) (by kernel_rfl) ⟨nodeLoop (by kernel_rfl) laws_eqIntS_s58 (by kernel_rfl) (by intro d; kernel_rfl), trivial⟩ (by intro d; kernel_rfl)


/-! laws.eqIntSS -/
def laws_eqIntSS_s58 : t12 → Option (t12 ⊕ Bool ⊕ Unit)
  | (a, b, c) => bif decide (c < (ln a)) then ix c a.length (ix c b.length ((laws_eqIntS (gx a c [], gx b c [])).bind fun d => bif !d then some (.inr (.inl false)) else some (.inl (a, b, w64 (c + 1))))) else some (.inr (.inr ()))
def laws_eqIntSS_n58 : NEnt := ⟨⟨31, [⟨0, .one, [.dat kk5]⟩, ⟨1, .one, [.dat kk5]⟩, ⟨5, .one, [.dat kI]⟩]⟩, [(.ret, ⟨31, [⟨4, .one, [.dat .bool]⟩]⟩), (.exit 0, ⟨31, []⟩)], lp laws_eqIntSS_s58⟩
def laws_eqIntSS : List (List Int) × List (List Int) → Option Bool
  | (a, b) => bif (ln a) != (ln b) then some false else bx (lp laws_eqIntSS_s58 (a, b, 0)) (fun c => some c) fun _ => some true
def laws_eqIntSS_e : FEnt := ⟨27, [.tmp 4], [], [(.one, [.dat kk5]), (.one, [.dat kk5])], ⟨31, [⟨4, .one, [.dat .bool]⟩]⟩, laws_eqIntSS⟩
theorem laws_eqIntSS_ok : FnOk Try.prog 95 laws_eqIntSS_e := fnOk_mk (tb := [(58, laws_eqIntSS_n58)]) (c := (Try.f95.body).getD .skip) mixed Try.func95 (bC laws_eqIntS_ok bN) (by kernel_rfl) (by kernel_rfl) (by kernel_rfl) ⟨nodeLoop (by kernel_rfl) laws_eqIntSS_s58 (by kernel_rfl) (by intro d; kernel_rfl), trivial⟩ (by intro d; kernel_rfl)


/-! laws.eqSketch -/
def laws_eqSketch : t18 × t18 → Option Bool
  | ((a, b, c, d, e, f, g), h, i, j, k, l, m, n) => bif a != h then some false else bif b != i then some false else bif c != j then some false else bif d != k then some false else (laws_eqIntS (e, l)).bind fun o => bif !o then some false else (laws_eqIntS (f, m)).bind fun p => bif !p then some false else (laws_eqIntSS (g, n)).bind fun q => bif !q then some false else some true
def laws_eqSketch_e : FEnt := ⟨43, [.tmp 4], [], [(.agg, cc4), (.agg, cc4)], ⟨47, [⟨4, .one, [.dat .bool]⟩]⟩, laws_eqSketch⟩
theorem laws_eqSketch_ok : FnOk Try.prog 73 laws_eqSketch_e := fnOk_mk (tb := []) (c := (Try.f73.body).getD .skip) mixed Try.func73 (bC laws_eqIntS_ok (bC laws_eqIntSS_ok bN)) (by kernel_rfl) (by kernel_rfl) (by kernel_rfl) trivial (by intro d; kernel_rfl)


/-! laws.eqEntry -/
def laws_eqEntry : t23 × t23 → Option Bool
  | ((a, b, c, d, e, f, g, h, i, j), k, l, m, n, o, p, q, r, s, t) => bif a != k then some false else bif b != l then some false else (laws_eqSpanS (c, m)).bind fun u => bif !u then some false else (laws_eqSketch ((d, e, f, g, h, i, j), n, o, p, q, r, s, t)).bind fun v => bif !v then some false else some true
def laws_eqEntry_e : FEnt := ⟨27, [.tmp 4], [], [(.agg, cc2), (.agg, cc2)], ⟨31, [⟨4, .one, [.dat .bool]⟩]⟩, laws_eqEntry⟩
theorem laws_eqEntry_ok : FnOk Try.prog 48 laws_eqEntry_e := fnOk_mk (tb := []) (c := (Try.f48.body).getD .skip) mixed Try.func48 (bC laws_eqSpanS_ok (bC laws_eqSketch_ok bN)) (by kernel_rfl) (by kernel_rfl) (by kernel_rfl) trivial (by intro d; kernel_rfl)


/-! laws.eqEntryS -/
def laws_eqEntryS_s58 : t33 → Option (t33 ⊕ Bool ⊕ Unit)
  | (a, b, c) => (some (decide (c < (ln a)))).bind fun d => bif d then ix c a.length ((some (gx a c (0, 0, [], 0, 0, 0, 0, [], [], []))).bind fun (e, f, g, h, i, j, k, l, m, n) => ix c b.length ((some (gx b c (0, 0, [], 0, 0, 0, 0, [], [], []))).bind fun (o, p, q, r, s, t, u, v, w, x) => (laws_eqEntry ((e, f, g, h, i, j, k, l, m, n), o, p, q, r, s, t, u, v, w, x)).bind fun y => bif !y then some (.inr (.inl false)) else some (.inl (a, b, w64 (c + 1))))) else some (.inr (.inr ()))
def laws_eqEntryS_n58 : NEnt := ⟨⟨31, [⟨0, .one, [.dat kk2]⟩, ⟨1, .one, [.dat kk2]⟩, ⟨5, .one, [.dat kI]⟩]⟩, [(.ret, ⟨31, [⟨4, .one, [.dat .bool]⟩]⟩), (.exit 0, ⟨31, []⟩)], lp laws_eqEntryS_s58⟩
def laws_eqEntryS : t32 → Option Bool
  | (a, b) => (some ((ln a) != (ln b))).bind fun c => bif c then some false else bx (lp laws_eqEntryS_s58 (a, b, 0)) (fun d => some d) fun _ => some true
def laws_eqEntryS_e : FEnt := ⟨27, [.tmp 4], [], [(.one, [.dat kk2]), (.one, [.dat kk2])], ⟨31, [⟨4, .one, [.dat .bool]⟩]⟩, laws_eqEntryS⟩
theorem laws_eqEntryS_ok : FnOk Try.prog 18 laws_eqEntryS_e := fnOk_mk (tb := [(58, laws_eqEntryS_n58)]) (c := (Try.f18.body).getD .skip) mixed Try.func18 (bC laws_eqEntry_ok bN) (by kernel_rfl) (by kernel_rfl) (by kernel_rfl) ⟨nodeLoop (by kernel_rfl) laws_eqEntryS_s58 (by kernel_rfl) (by intro d; kernel_rfl), trivial⟩ (by intro d; kernel_rfl)


/-! laws.markSpanS -/
def laws_markSpanS_s26 : (Unit × Unit × Unit) × Int × t1 → Option ((Unit × Unit × Unit) × Int × t1 ⊕ t1)
  | ((_, _, _), a, b, c) => bif decide (b < (ln c)) then ix b c.length (lx b c.length (ix b (sx c b (a, (gx c b (0, 0)).2)).length (lx b (sx c b (a, (gx c b (0, 0)).2)).length ((some (sx (sx c b (a, (gx c b (0, 0)).2)) b ((gx (sx c b (a, (gx c b (0, 0)).2)) b (0, 0)).1, w64 (a + 1)))).bind fun d => some (.inl (((), (), ()), w64 ((w64 (a + 1)) + 1), w64 (b + 1), d)))))) else some (.inr (a, c))
def laws_markSpanS_n26 : NEnt := ⟨⟨31, [⟨0, .one, [.ref 27 0 [] false false (.pair kI kI)]⟩, ⟨1, .one, [.dat kI]⟩, ⟨5, .one, [.dat kI]⟩, ⟨27, .agg, cc9⟩]⟩, [(.exit 0, ⟨31, [⟨1, .one, [.dat kI]⟩, ⟨27, .agg, cc9⟩]⟩)], lp laws_markSpanS_s26⟩
def laws_markSpanS : t0 → Option t1
  | (a, b) => (lp laws_markSpanS_s26 (((), (), ()), b, 0, a)).bind fun (c, d) => some (c, d)
def laws_markSpanS_e : FEnt := ⟨27, [.tmp 4], [true, false], [(.one, cc9), (.one, [.dat kI])], ⟨31, [⟨4, .one, [.dat kI]⟩, ⟨27, .agg, cc9⟩]⟩, laws_markSpanS⟩
theorem laws_markSpanS_ok : FnOk Try.prog 36 laws_markSpanS_e := fnOk_mk (tb := [(26, laws_markSpanS_n26)]) (c := (Try.f36.body).getD .skip) mixed Try.func36 bN (by kernel_rfl) (by kernel_rfl) (by kernel_rfl) ⟨nodeLoop (by kernel_rfl) laws_markSpanS_s26 (by kernel_rfl) (by intro d; kernel_rfl), trivial⟩ (by intro d; kernel_rfl)


/-! laws.markIntS -/
def laws_markIntS_s26 : (Unit × Unit × Unit) × Int × Int × List Int → Option ((Unit × Unit × Unit) × Int × Int × List Int ⊕ Int × List Int)
  | ((_, _, _), a, b, c) => bif decide (b < (ln c)) then ix b c.length (lx b c.length (some (.inl (((), (), ()), w64 (a + 1), w64 (b + 1), sx c b a)))) else some (.inr (a, c))
def laws_markIntS_n26 : NEnt := ⟨⟨23, [⟨0, .one, [.ref 19 0 [] false false kI]⟩, ⟨1, .one, [.dat kI]⟩, ⟨5, .one, [.dat kI]⟩, ⟨19, .agg, [.own true kI]⟩]⟩, [(.exit 0, ⟨23, [⟨1, .one, [.dat kI]⟩, ⟨19, .agg, [.own true kI]⟩]⟩)], lp laws_markIntS_s26⟩
def laws_markIntS : List Int × Int → Option (Int × List Int)
  | (a, b) => (lp laws_markIntS_s26 (((), (), ()), b, 0, a)).bind fun (c, d) => some (c, d)
def laws_markIntS_e : FEnt := ⟨19, [.tmp 4], [true, false], [(.one, [.own true kI]), (.one, [.dat kI])], ⟨23, [⟨4, .one, [.dat kI]⟩, ⟨19, .agg, [.own true kI]⟩]⟩, laws_markIntS⟩
theorem laws_markIntS_ok : FnOk Try.prog 37 laws_markIntS_e := fnOk_mk (tb := [(26, laws_markIntS_n26)]) (c := (Try.f37.body).getD .skip) mixed Try.func37 bN (by kernel_rfl) (by kernel_rfl) (by kernel_rfl) ⟨nodeLoop (by kernel_rfl) laws_markIntS_s26 (by kernel_rfl) (by intro d; kernel_rfl), trivial⟩ (by intro d; kernel_rfl)


/-! laws.markIntSS -/
def laws_markIntSS_s26 : (Unit × Unit × Unit) × Int × Int × List (List Int) → Option ((Unit × Unit × Unit) × Int × Int × List (List Int) ⊕ Int × List (List Int))
  | ((_, _, _), a, b, c) => bif decide (b < (ln c)) then ix b c.length (lx b c.length ((laws_markIntS (gx c b [], a)).bind fun (d, e) => some (.inl (((), (), ()), d, w64 (b + 1), sx c b e)))) else some (.inr (a, c))
def laws_markIntSS_n26 : NEnt := ⟨⟨23, [⟨0, .one, [.ref 19 0 [] false false (.list kI)]⟩, ⟨1, .one, [.dat kI]⟩, ⟨5, .one, [.dat kI]⟩, ⟨19, .agg, cc10⟩]⟩, [(.exit 0, ⟨23, [⟨1, .one, [.dat kI]⟩, ⟨19, .agg, cc10⟩]⟩)], lp laws_markIntSS_s26⟩
def laws_markIntSS : List (List Int) × Int → Option (Int × List (List Int))
  | (a, b) => (lp laws_markIntSS_s26 (((), (), ()), b, 0, a)).bind fun (c, d) => some (c, d)
def laws_markIntSS_e : FEnt := ⟨19, [.tmp 4], [true, false], [(.one, cc10), (.one, [.dat kI])], ⟨23, [⟨4, .one, [.dat kI]⟩, ⟨19, .agg, cc10⟩]⟩, laws_markIntSS⟩
theorem laws_markIntSS_ok : FnOk Try.prog 38 laws_markIntSS_e := fnOk_mk (tb := [(26, laws_markIntSS_n26)]) (c := (Try.f38.body).getD .skip) mixed Try.func38 (bC laws_markIntS_ok bN) (by kernel_rfl) (by kernel_rfl) (by kernel_rfl) ⟨nodeLoop (by kernel_rfl) laws_markIntSS_s26 (by kernel_rfl) (by intro d; kernel_rfl), trivial⟩ (by intro d; kernel_rfl)


/-! laws.markEntryS -/
def laws_markEntryS_s26 : (Unit × Unit × Unit) × Int × t26 → Option ((Unit × Unit × Unit) × Int × t26 ⊕ t26)
  | ((_, _, _), a, b, c) => (some (decide (b < (ln c)))).bind fun d => bif d then ix b c.length (lx b c.length ((some (sx c b (a, (gx c b (0, 0, [], 0, 0, 0, 0, [], [], [])).2))).bind fun e => ix b e.length (lx b e.length ((some (sx e b ((gx e b (0, 0, [], 0, 0, 0, 0, [], [], [])).1, w64 (a + 1), (gx e b (0, 0, [], 0, 0, 0, 0, [], [], [])).2.2))).bind fun f => ix b f.length (lx b f.length ((laws_markSpanS ((gx f b (0, 0, [], 0, 0, 0, 0, [], [], [])).2.2.1, w64 ((w64 (a + 1)) + 1))).bind fun (g, h) => (some (sx f b ((gx f b (0, 0, [], 0, 0, 0, 0, [], [], [])).1, (gx f b (0, 0, [], 0, 0, 0, 0, [], [], [])).2.1, h, (gx f b (0, 0, [], 0, 0, 0, 0, [], [], [])).2.2.2))).bind fun i => ix b i.length (lx b i.length ((some (sx i b ((gx i b (0, 0, [], 0, 0, 0, 0, [], [], [])).1, (gx i b (0, 0, [], 0, 0, 0, 0, [], [], [])).2.1, (gx i b (0, 0, [], 0, 0, 0, 0, [], [], [])).2.2.1, g, (gx i b (0, 0, [], 0, 0, 0, 0, [], [], [])).2.2.2.2))).bind fun j => ix b j.length (lx b j.length ((some (sx j b ((gx j b (0, 0, [], 0, 0, 0, 0, [], [], [])).1, (gx j b (0, 0, [], 0, 0, 0, 0, [], [], [])).2.1, (gx j b (0, 0, [], 0, 0, 0, 0, [], [], [])).2.2.1, (gx j b (0, 0, [], 0, 0, 0, 0, [], [], [])).2.2.2.1, w64 (g + 1), (gx j b (0, 0, [], 0, 0, 0, 0, [], [], [])).2.2.2.2.2))).bind fun k => ix b k.length (lx b k.length ((some (sx k b ((gx k b (0, 0, [], 0, 0, 0, 0, [], [], [])).1, (gx k b (0, 0, [], 0, 0, 0, 0, [], [], [])).2.1, (gx k b (0, 0, [], 0, 0, 0, 0, [], [], [])).2.2.1, (gx k b (0, 0, [], 0, 0, 0, 0, [], [], [])).2.2.2.1, (gx k b (0, 0, [], 0, 0, 0, 0, [], [], [])).2.2.2.2.1, w64 ((w64 (g + 1)) + 1), (gx k b (0, 0, [], 0, 0, 0, 0, [], [], [])).2.2.2.2.2.2))).bind fun l => ix b l.length (lx b l.length ((some (sx l b ((gx l b (0, 0, [], 0, 0, 0, 0, [], [], [])).1, (gx l b (0, 0, [], 0, 0, 0, 0, [], [], [])).2.1, (gx l b (0, 0, [], 0, 0, 0, 0, [], [], [])).2.2.1, (gx l b (0, 0, [], 0, 0, 0, 0, [], [], [])).2.2.2.1, (gx l b (0, 0, [], 0, 0, 0, 0, [], [], [])).2.2.2.2.1, (gx l b (0, 0, [], 0, 0, 0, 0, [], [], [])).2.2.2.2.2.1, w64 ((w64 ((w64 (g + 1)) + 1)) + 1), (gx l b (0, 0, [], 0, 0, 0, 0, [], [], [])).2.2.2.2.2.2.2))).bind fun m => (some (w64 ((w64 ((w64 ((w64 (g + 1)) + 1)) + 1)) + 1))).bind fun n => ix b m.length (lx b m.length ((laws_markIntS ((gx m b (0, 0, [], 0, 0, 0, 0, [], [], [])).2.2.2.2.2.2.2.1, n)).bind fun (o, p) => (some (sx m b ((gx m b (0, 0, [], 0, 0, 0, 0, [], [], [])).1, (gx m b (0, 0, [], 0, 0, 0, 0, [], [], [])).2.1, (gx m b (0, 0, [], 0, 0, 0, 0, [], [], [])).2.2.1, (gx m b (0, 0, [], 0, 0, 0, 0, [], [], [])).2.2.2.1, (gx m b (0, 0, [], 0, 0, 0, 0, [], [], [])).2.2.2.2.1, (gx m b (0, 0, [], 0, 0, 0, 0, [], [], [])).2.2.2.2.2.1, (gx m b (0, 0, [], 0, 0, 0, 0, [], [], [])).2.2.2.2.2.2.1, p, (gx m b (0, 0, [], 0, 0, 0, 0, [], [], [])).2.2.2.2.2.2.2.2))).bind fun q => ix b q.length (lx b q.length ((laws_markIntS ((gx q b (0, 0, [], 0, 0, 0, 0, [], [], [])).2.2.2.2.2.2.2.2.1, o)).bind fun (r, s) => (some (sx q b ((gx q b (0, 0, [], 0, 0, 0, 0, [], [], [])).1, (gx q b (0, 0, [], 0, 0, 0, 0, [], [], [])).2.1, (gx q b (0, 0, [], 0, 0, 0, 0, [], [], [])).2.2.1, (gx q b (0, 0, [], 0, 0, 0, 0, [], [], [])).2.2.2.1, (gx q b (0, 0, [], 0, 0, 0, 0, [], [], [])).2.2.2.2.1, (gx q b (0, 0, [], 0, 0, 0, 0, [], [], [])).2.2.2.2.2.1, (gx q b (0, 0, [], 0, 0, 0, 0, [], [], [])).2.2.2.2.2.2.1, (gx q b (0, 0, [], 0, 0, 0, 0, [], [], [])).2.2.2.2.2.2.2.1, s, (gx q b (0, 0, [], 0, 0, 0, 0, [], [], [])).2.2.2.2.2.2.2.2.2))).bind fun t => ix b t.length (lx b t.length ((laws_markIntSS ((gx t b (0, 0, [], 0, 0, 0, 0, [], [], [])).2.2.2.2.2.2.2.2.2, r)).bind fun (u, v) => (some (sx t b ((gx t b (0, 0, [], 0, 0, 0, 0, [], [], [])).1, (gx t b (0, 0, [], 0, 0, 0, 0, [], [], [])).2.1, (gx t b (0, 0, [], 0, 0, 0, 0, [], [], [])).2.2.1, (gx t b (0, 0, [], 0, 0, 0, 0, [], [], [])).2.2.2.1, (gx t b (0, 0, [], 0, 0, 0, 0, [], [], [])).2.2.2.2.1, (gx t b (0, 0, [], 0, 0, 0, 0, [], [], [])).2.2.2.2.2.1, (gx t b (0, 0, [], 0, 0, 0, 0, [], [], [])).2.2.2.2.2.2.1, (gx t b (0, 0, [], 0, 0, 0, 0, [], [], [])).2.2.2.2.2.2.2.1, (gx t b (0, 0, [], 0, 0, 0, 0, [], [], [])).2.2.2.2.2.2.2.2.1, v))).bind fun w => some (.inl (((), (), ()), u, w64 (b + 1), w)))))))))))))))))))))) else some (.inr (a, c))
def laws_markEntryS_n26 : NEnt := ⟨⟨94, [⟨0, .one, [.ref 90 0 [] false false kk3]⟩, ⟨1, .one, [.dat kI]⟩, ⟨5, .one, [.dat kI]⟩, ⟨90, .agg, [.own true kk3]⟩]⟩, [(.exit 0, ⟨94, [⟨1, .one, [.dat kI]⟩, ⟨90, .agg, [.own true kk3]⟩]⟩)], lp laws_markEntryS_s26⟩
def laws_markEntryS : t25 → Option t26
  | (a, b) => (lp laws_markEntryS_s26 (((), (), ()), b, 0, a)).bind fun (c, d) => some (c, d)
def laws_markEntryS_e : FEnt := ⟨90, [.tmp 4], [true, false], [(.one, [.own true kk3]), (.one, [.dat kI])], ⟨94, [⟨4, .one, [.dat kI]⟩, ⟨90, .agg, [.own true kk3]⟩]⟩, laws_markEntryS⟩
theorem laws_markEntryS_ok : FnOk Try.prog 19 laws_markEntryS_e := fnOk_mk (tb := [(26, laws_markEntryS_n26)]) (c := (Try.f19.body).getD .skip) mixed Try.func19 (bC laws_markSpanS_ok (bC laws_markIntS_ok (bC laws_markIntSS_ok bN))) (by kernel_rfl) (by kernel_rfl) (by kernel_rfl) ⟨nodeLoop (by kernel_rfl) laws_markEntryS_s26 (by kernel_rfl) (by intro d; kernel_rfl), trivial⟩ (by intro d; kernel_rfl)


/-! laws.heldSpanS -/
def laws_heldSpanS_s26 : t7 → Option (t7 ⊕ Int ⊕ Int)
  | (a, b, c) => bif decide (c < (ln a)) then ix c a.length ((some (gx a c (0, 0))).bind fun (d, e) => bif d != b then some (.inr (.inl (-1))) else ix c a.length ((some (gx a c (0, 0))).bind fun (f, g) => bif g != (w64 (b + 1)) then some (.inr (.inl (-1))) else some (.inl (a, w64 ((w64 (b + 1)) + 1), w64 (c + 1))))) else some (.inr (.inr b))
def laws_heldSpanS_n26 : NEnt := ⟨⟨35, [⟨0, .one, [.dat kk4]⟩, ⟨1, .one, [.dat kI]⟩, ⟨5, .one, [.dat kI]⟩]⟩, [(.ret, ⟨35, [⟨4, .one, [.dat kI]⟩]⟩), (.exit 0, ⟨35, [⟨1, .one, [.dat kI]⟩]⟩)], lp laws_heldSpanS_s26⟩
def laws_heldSpanS : t0 → Option Int
  | (a, b) => bx (lp laws_heldSpanS_s26 (a, b, 0)) (fun c => some c) fun c => some c
def laws_heldSpanS_e : FEnt := ⟨31, [.tmp 4], [], [(.one, [.dat kk4]), (.one, [.dat kI])], ⟨35, [⟨4, .one, [.dat kI]⟩]⟩, laws_heldSpanS⟩
theorem laws_heldSpanS_ok : FnOk Try.prog 39 laws_heldSpanS_e := fnOk_mk (tb := [(26, laws_heldSpanS_n26)]) (c := (Try.f39.body).getD .skip) mixed Try.func39 bN (by kernel_rfl) (by kernel_rfl) (by kernel_rfl) ⟨nodeLoop (by kernel_rfl) laws_heldSpanS_s26 (by kernel_rfl) (by intro d; kernel_rfl), trivial⟩ (by intro d; kernel_rfl)


/-! laws.heldIntS -/
def laws_heldIntS_s26 : List Int × Int × Int → Option (List Int × Int × Int ⊕ Int ⊕ Int)
  | (a, b, c) => bif decide (c < (ln a)) then ix c a.length (bif (gx a c 0) != b then some (.inr (.inl (-1))) else some (.inl (a, w64 (b + 1), w64 (c + 1)))) else some (.inr (.inr b))
def laws_heldIntS_n26 : NEnt := ⟨⟨25, [⟨0, .one, [.dat (.list kI)]⟩, ⟨1, .one, [.dat kI]⟩, ⟨5, .one, [.dat kI]⟩]⟩, [(.ret, ⟨25, [⟨4, .one, [.dat kI]⟩]⟩), (.exit 0, ⟨25, [⟨1, .one, [.dat kI]⟩]⟩)], lp laws_heldIntS_s26⟩
def laws_heldIntS : List Int × Int → Option Int
  | (a, b) => bx (lp laws_heldIntS_s26 (a, b, 0)) (fun c => some c) fun c => some c
def laws_heldIntS_e : FEnt := ⟨21, [.tmp 4], [], [(.one, [.dat (.list kI)]), (.one, [.dat kI])], ⟨25, [⟨4, .one, [.dat kI]⟩]⟩, laws_heldIntS⟩
theorem laws_heldIntS_ok : FnOk Try.prog 40 laws_heldIntS_e := fnOk_mk (tb := [(26, laws_heldIntS_n26)]) (c := (Try.f40.body).getD .skip) mixed Try.func40 bN (by kernel_rfl) (by kernel_rfl) (by kernel_rfl) ⟨nodeLoop (by kernel_rfl) laws_heldIntS_s26 (by kernel_rfl) (by intro d; kernel_rfl), trivial⟩ (by intro d; kernel_rfl)


/-! laws.heldIntSS -/
def laws_heldIntSS_s26 : t6 → Option (t6 ⊕ Int ⊕ Int)
  | (a, b, c) => bif decide (c < (ln a)) then ix c a.length ((laws_heldIntS (gx a c [], b)).bind fun d => bif decide (d < 0) then some (.inr (.inl (-1))) else some (.inl (a, d, w64 (c + 1)))) else some (.inr (.inr b))
def laws_heldIntSS_n26 : NEnt := ⟨⟨25, [⟨0, .one, [.dat kk5]⟩, ⟨1, .one, [.dat kI]⟩, ⟨5, .one, [.dat kI]⟩]⟩, [(.ret, ⟨25, [⟨4, .one, [.dat kI]⟩]⟩), (.exit 0, ⟨25, [⟨1, .one, [.dat kI]⟩]⟩)], lp laws_heldIntSS_s26⟩
def laws_heldIntSS : List (List Int) × Int → Option Int
  | (a, b) => bx (lp laws_heldIntSS_s26 (a, b, 0)) (fun c => some c) fun c => some c
def laws_heldIntSS_e : FEnt := ⟨21, [.tmp 4], [], [(.one, [.dat kk5]), (.one, [.dat kI])], ⟨25, [⟨4, .one, [.dat kI]⟩]⟩, laws_heldIntSS⟩
theorem laws_heldIntSS_ok : FnOk Try.prog 41 laws_heldIntSS_e := fnOk_mk (tb := [(26, laws_heldIntSS_n26)]) (c := (Try.f41.body).getD .skip) mixed Try.func41 (bC laws_heldIntS_ok bN) (by kernel_rfl) (by kernel_rfl) (by kernel_rfl) ⟨nodeLoop (by kernel_rfl) laws_heldIntSS_s26 (by kernel_rfl) (by intro d; kernel_rfl), trivial⟩ (by intro d; kernel_rfl)


/-! laws.heldEntryS -/
def laws_heldEntryS_s26 : t28 → Option (t28 ⊕ Int ⊕ Int)
  | (a, b, c) => (some (decide (c < (ln a)))).bind fun d => bif d then ix c a.length ((some (gx a c (0, 0, [], 0, 0, 0, 0, [], [], []))).bind fun (e, f, g, h, i, j, k, l, m, n) => bif e != b then some (.inr (.inl (-1))) else ix c a.length ((some (gx a c (0, 0, [], 0, 0, 0, 0, [], [], []))).bind fun (o, p, q, r, s, t, u, v, w, x) => bif p != (w64 (b + 1)) then some (.inr (.inl (-1))) else ix c a.length ((some (gx a c (0, 0, [], 0, 0, 0, 0, [], [], []))).bind fun (y, z, a1, b1, c1, d1, e1, f1, g1, h1) => (laws_heldSpanS (a1, w64 ((w64 (b + 1)) + 1))).bind fun i1 => bif decide (i1 < 0) then some (.inr (.inl (-1))) else ix c a.length ((some (gx a c (0, 0, [], 0, 0, 0, 0, [], [], []))).bind fun (j1, k1, l1, m1, n1, o1, p1, q1, r1, s1) => bif m1 != i1 then some (.inr (.inl (-1))) else ix c a.length ((some (gx a c (0, 0, [], 0, 0, 0, 0, [], [], []))).bind fun (t1, u1, v1, w1, x1, y1, z1, a2, b2, c2) => bif x1 != (w64 (i1 + 1)) then some (.inr (.inl (-1))) else ix c a.length ((some (gx a c (0, 0, [], 0, 0, 0, 0, [], [], []))).bind fun (d2, e2, f2, g2, h2, i2, j2, k2, l2, m2) => bif i2 != (w64 ((w64 (i1 + 1)) + 1)) then some (.inr (.inl (-1))) else ix c a.length ((some (gx a c (0, 0, [], 0, 0, 0, 0, [], [], []))).bind fun (n2, o2, p2, q2, r2, s2, t2, u2, v2, w2) => (some (t2 != (w64 ((w64 ((w64 (i1 + 1)) + 1)) + 1)))).bind fun x2 => bif x2 then some (.inr (.inl (-1))) else (some (w64 ((w64 ((w64 ((w64 (i1 + 1)) + 1)) + 1)) + 1))).bind fun y2 => ix c a.length ((some (gx a c (0, 0, [], 0, 0, 0, 0, [], [], []))).bind fun (z2, a3, b3, c3, d3, e3, f3, g3, h3, i3) => (laws_heldIntS (g3, y2)).bind fun j3 => bif decide (j3 < 0) then some (.inr (.inl (-1))) else ix c a.length ((some (gx a c (0, 0, [], 0, 0, 0, 0, [], [], []))).bind fun (k3, l3, m3, n3, o3, p3, q3, r3, s3, t3) => (laws_heldIntS (s3, j3)).bind fun u3 => bif decide (u3 < 0) then some (.inr (.inl (-1))) else ix c a.length ((some (gx a c (0, 0, [], 0, 0, 0, 0, [], [], []))).bind fun (v3, w3, x3, y3, z3, a4, b4, c4, d4, e4) => (laws_heldIntSS (e4, u3)).bind fun f4 => bif decide (f4 < 0) then some (.inr (.inl (-1))) else some (.inl (a, f4, w64 (c + 1))))))))))))) else some (.inr (.inr b))
def laws_heldEntryS_n26 : NEnt := ⟨⟨114, [⟨0, .one, [.dat kk2]⟩, ⟨1, .one, [.dat kI]⟩, ⟨5, .one, [.dat kI]⟩]⟩, [(.ret, ⟨114, [⟨4, .one, [.dat kI]⟩]⟩), (.exit 0, ⟨114, [⟨1, .one, [.dat kI]⟩]⟩)], lp laws_heldEntryS_s26⟩
def laws_heldEntryS : t25 → Option Int
  | (a, b) => bx (lp laws_heldEntryS_s26 (a, b, 0)) (fun c => some c) fun c => some c
def laws_heldEntryS_e : FEnt := ⟨110, [.tmp 4], [], [(.one, [.dat kk2]), (.one, [.dat kI])], ⟨114, [⟨4, .one, [.dat kI]⟩]⟩, laws_heldEntryS⟩
theorem laws_heldEntryS_ok : FnOk Try.prog 20 laws_heldEntryS_e := fnOk_mk (tb := [(26, laws_heldEntryS_n26)]) (c := (Try.f20.body).getD .skip) mixed Try.func20 (bC laws_heldSpanS_ok (bC laws_heldIntS_ok (bC laws_heldIntSS_ok bN))) (by kernel_rfl) (by kernel_rfl) (by kernel_rfl) ⟨nodeLoop (by kernel_rfl) laws_heldEntryS_s26 (by kernel_rfl) (by intro d; kernel_rfl), trivial⟩ (by intro d; kernel_rfl)


/-! laws.FnExactCombine -/
def laws_FnExactCombine : t32 → Option Bool
  | (a, b) => (laws_szEntryS (a, 1048576)).bind fun c => bif decide (c < 0) then some true else (laws_szEntryS (b, c)).bind fun d => bif decide (d < 0) then some true else (laws_toEntryS a).bind fun e => (laws_toEntryS b).bind fun f => (spec_Combine (e, f)).bind fun g => (laws_toEntryS a).bind fun h => (laws_toEntryS b).bind fun i => (impl_Combine (h, i)).bind fun j => (laws_eqEntryS (j, g)).bind fun k => bif !k then some false else (laws_toEntryS a).bind fun l => (laws_eqEntryS (h, l)).bind fun m => bif !m then some false else (laws_toEntryS b).bind fun n => (laws_eqEntryS (i, n)).bind fun o => bif !o then some false else (laws_markEntryS (h, 1)).bind fun (p, q) => (laws_markEntryS (i, p)).bind fun (r, s) => bif decide (r < 0) then some false else (laws_eqEntryS (j, g)).bind fun t => bif !t then some false else (laws_markEntryS (j, 1)).bind fun (u, v) => (laws_heldEntryS (v, 1)).bind fun w => bif decide (w < 0) then some false else bif w != u then some false else (laws_toEntryS a).bind fun x => (laws_toEntryS b).bind fun y => (impl_Combine (x, y)).bind fun z => (laws_eqEntryS (z, g)).bind fun a1 => bif !a1 then some false else (laws_heldEntryS (v, 1)).bind fun b1 => bif decide (b1 < 0) then some false else bif b1 != u then some false else some true
def laws_FnExactCombine_e : FEnt := ⟨92, [.tmp 4], [], [(.one, [.dat kk2]), (.one, [.dat kk2])], ⟨96, [⟨4, .one, [.dat .bool]⟩]⟩, laws_FnExactCombine⟩
theorem laws_FnExactCombine_ok : FnOk Try.prog 4 laws_FnExactCombine_e := fnOk_mk (tb := []) (c := (Try.f4.body).getD .skip) mixed Try.func4 (bC laws_szEntryS_ok (bC laws_toEntryS_ok (bC spec_Combine_ok (bC impl_Combine_ok (bC laws_eqEntryS_ok (bC laws_markEntryS_ok (bC laws_heldEntryS_ok bN))))))) (by kernel_rfl) (by kernel_rfl) (by kernel_rfl) trivial (by intro d; kernel_rfl)


/-! laws.szOut -/
def laws_szOut : t24 × Int → Option Int
  | ((a, b, c, d, e, f, g, h, i, j, k), l) => (laws_szEntry ((b, c, d, e, f, g, h, i, j, k), l)).bind fun m => bif decide (m < 0) then some (-1) else some m
def laws_szOut_e : FEnt := ⟨12, [.tmp 4], [], [(.agg, cc1), (.one, [.dat kI])], ⟨16, [⟨4, .one, [.dat kI]⟩]⟩, laws_szOut⟩
theorem laws_szOut_ok : FnOk Try.prog 49 laws_szOut_e := fnOk_mk (tb := []) (c := (Try.f49.body).getD .skip) mixed Try.func49 (bC laws_szEntry_ok bN) (by kernel_rfl) (by kernel_rfl) (by kernel_rfl) trivial (by intro d; kernel_rfl)


/-! laws.szOutS -/
def laws_szOutS_s122 : t30 → Option (t30 ⊕ Int ⊕ Int)
  | (a, b, c) => (some (decide (c < (ln a)))).bind fun d => bif d then ix c a.length ((some (gx a c (0, 0, 0, [], 0, 0, 0, 0, [], [], []))).bind fun (e, f, g, h, i, j, k, l, m, n, o) => (laws_szOut ((e, f, g, h, i, j, k, l, m, n, o), b)).bind fun p => bif decide (p < 0) then some (.inr (.inl (-1))) else some (.inl (a, p, w64 (c + 1)))) else some (.inr (.inr b))
def laws_szOutS_n122 : NEnt := ⟨⟨31, [⟨0, .one, [.dat kk0]⟩, ⟨1, .one, [.dat kI]⟩, ⟨5, .one, [.dat kI]⟩]⟩, [(.ret, ⟨31, [⟨4, .one, [.dat kI]⟩]⟩), (.exit 0, ⟨31, [⟨1, .one, [.dat kI]⟩]⟩)], lp laws_szOutS_s122⟩
def laws_szOutS : t29 → Option Int
  | (a, b) => (some (decide ((w64 (b - (ln a))) < 0))).bind fun c => bif c then some (-1) else bx (lp laws_szOutS_s122 (a, w64 (b - (ln a)), 0)) (fun d => some d) fun d => some d
def laws_szOutS_e : FEnt := ⟨27, [.tmp 4], [], [(.one, [.dat kk0]), (.one, [.dat kI])], ⟨31, [⟨4, .one, [.dat kI]⟩]⟩, laws_szOutS⟩
theorem laws_szOutS_ok : FnOk Try.prog 21 laws_szOutS_e := fnOk_mk (tb := [(122, laws_szOutS_n122)]) (c := (Try.f21.body).getD .skip) mixed Try.func21 (bC laws_szOut_ok bN) (by kernel_rfl) (by kernel_rfl) (by kernel_rfl) ⟨nodeLoop (by kernel_rfl) laws_szOutS_s122 (by kernel_rfl) (by intro d; kernel_rfl), trivial⟩ (by intro d; kernel_rfl)


/-! laws.toOut -/
def laws_toOut : t24 → Option t24
  | (a, b, c, d, e, f, g, h, i, j, k) => (laws_toEntry (b, c, d, e, f, g, h, i, j, k)).bind fun (l, m, n, o, p, q, r, s, t, u) => some (a, l, m, n, o, p, q, r, s, t, u)
def laws_toOut_e : FEnt := ⟨12, [.cell 2 true 11], [], [(.agg, cc1)], ⟨14, [⟨2, .box, [.dat kI, .dat kI, .dat kI, .own true (.pair kI kI), .dat kI, .dat kI, .dat kI, .dat kI, .own true kI, .own true kI, .own true (.list kI)]⟩]⟩, laws_toOut⟩
theorem laws_toOut_ok : FnOk Try.prog 50 laws_toOut_e := fnOk_mk (tb := []) (c := (Try.f50.body).getD .skip) mixed Try.func50 (bC laws_toEntry_ok bN) (by kernel_rfl) (by kernel_rfl) (by kernel_rfl) trivial (by intro d; kernel_rfl)


/-! laws.toOutS -/
def laws_toOutS_s58 : List t24 × t29 → Option (List t24 × t29 ⊕ List t24)
  | (a, b, c) => (some (decide (c < (ln a)))).bind fun d => bif d then ix c a.length ((some (gx a c (0, 0, 0, [], 0, 0, 0, 0, [], [], []))).bind fun (e, f, g, h, i, j, k, l, m, n, o) => (laws_toOut (e, f, g, h, i, j, k, l, m, n, o)).bind fun (p, q, r, s, t, u, v, w, x, y, z) => ix c b.length (lx c b.length ((some (sx b c (p, q, r, s, t, u, v, w, x, y, z))).bind fun a1 => some (.inl (a, a1, w64 (c + 1)))))) else some (.inr b)
def laws_toOutS_n58 : NEnt := ⟨⟨25, [⟨0, .one, [.dat kk0]⟩, ⟨3, .one, [.own true kk1]⟩, ⟨4, .one, [.dat kI]⟩]⟩, [(.exit 0, ⟨25, [⟨3, .one, [.own true kk1]⟩]⟩)], lp laws_toOutS_s58⟩
def laws_toOutS : List t24 → Option (List t24)
  | a => chk (decide (((ln a).toNat ≤ (ln a).toNat) ∧ (((ln a).toNat ≤ 4294967296) ∧ (((ln a).toNat * 152) ≤ 140737488355328)))) ((some (List.replicate (ln a).toNat (0, 0, 0, [], 0, 0, 0, 0, [], [], []))).bind fun b => (lp laws_toOutS_s58 (a, b, 0)).bind fun c => some c)
def laws_toOutS_e : FEnt := ⟨23, [.tmp 2], [], [(.one, [.dat kk0])], ⟨25, [⟨2, .one, [.own true kk1]⟩]⟩, laws_toOutS⟩
theorem laws_toOutS_ok : FnOk Try.prog 23 laws_toOutS_e := fnOk_mk (tb := [(58, laws_toOutS_n58)]) (c := (Try.f23.body).getD .skip) mixed Try.func23 (bC laws_toOut_ok bN) (by kernel_rfl) (by kernel_rfl) (by kernel_rfl) ⟨nodeLoop (by kernel_rfl) laws_toOutS_s58 (by kernel_rfl) (by intro d; kernel_rfl), trivial⟩ (by intro d; kernel_rfl)


/-! spec.OutsOk -/
def spec_OutsOk_s26 : t29 → Option (t29 ⊕ Bool ⊕ Unit)
  | (a, b) => (some (decide (b < (ln a)))).bind fun c => bif c then ix b a.length ((some (gx a b (0, 0, 0, [], 0, 0, 0, 0, [], [], []))).bind fun (d, e, f, g, h, i, j, k, l, m, n) => (spec_l1In (d, 0, 1000)).bind fun o => bif !o then some (.inr (.inl false)) else ix b a.length ((some (gx a b (0, 0, 0, [], 0, 0, 0, 0, [], [], []))).bind fun (p, q, r, s, t, u, v, w, x, y, z) => (spec_EntryOk (q, r, s, t, u, v, w, x, y, z)).bind fun a1 => bif !a1 then some (.inr (.inl false)) else some (.inl (a, w64 (b + 1))))) else some (.inr (.inr ()))
def spec_OutsOk_n26 : NEnt := ⟨⟨28, [⟨0, .one, [.dat kk0]⟩, ⟨3, .one, [.dat kI]⟩]⟩, [(.ret, ⟨28, [⟨2, .one, [.dat .bool]⟩]⟩), (.exit 0, ⟨28, []⟩)], lp spec_OutsOk_s26⟩
def spec_OutsOk : List t24 → Option Bool
  | a => bx (lp spec_OutsOk_s26 (a, 0)) (fun b => some b) fun _ => some true
def spec_OutsOk_e : FEnt := ⟨26, [.tmp 2], [], [(.one, [.dat kk0])], ⟨28, [⟨2, .one, [.dat .bool]⟩]⟩, spec_OutsOk⟩
theorem spec_OutsOk_ok : FnOk Try.prog 27 spec_OutsOk_e := fnOk_mk (tb := [(26, spec_OutsOk_n26)]) (c := (Try.f27.body).getD .skip) mixed Try.func27 (bC spec_l1In_ok (bC spec_EntryOk_ok bN)) (by kernel_rfl) (by kernel_rfl) (by kernel_rfl) ⟨nodeLoop (by kernel_rfl) spec_OutsOk_s26 (by kernel_rfl) (by intro d; kernel_rfl), trivial⟩ (by intro d; kernel_rfl)


/-! spec.Totals -/
def spec_Totals_s122 : List t24 × t25 → Option (List t24 × t25 ⊕ List t23)
  | (a, b, c) => (some (decide (c < (ln a)))).bind fun d => bif d then ix c a.length ((some (gx a c (0, 0, 0, [], 0, 0, 0, 0, [], [], []))).bind fun (e, f, g, h, i, j, k, l, m, n, o) => (some [(f, g, h, i, j, k, l, m, n, o)]).bind fun p => chk (fits (b.length + p.length) 144) ((some (b ++ p)).bind fun q => some (.inl (a, q, w64 (c + 1))))) else some (.inr b)
def spec_Totals_n122 : NEnt := ⟨⟨28, [⟨0, .one, [.dat kk0]⟩, ⟨3, .one, [.own false kk3]⟩, ⟨4, .one, [.dat kI]⟩]⟩, [(.exit 0, ⟨28, [⟨3, .one, [.own false kk3]⟩]⟩)], lp spec_Totals_s122⟩
def spec_Totals : List t24 → Option (List t23)
  | a => (spec_OutsOk a).bind fun b => bif !b then some [] else (lp spec_Totals_s122 (a, [], 0)).bind fun c => (spec_l24Sum c).bind fun d => some d
def spec_Totals_e : FEnt := ⟨26, [.tmp 2], [], [(.one, [.dat kk0])], ⟨28, [⟨2, .one, [.own false kk3]⟩]⟩, spec_Totals⟩
theorem spec_Totals_ok : FnOk Try.prog 22 spec_Totals_e := fnOk_mk (tb := [(122, spec_Totals_n122)]) (c := (Try.f22.body).getD .skip) mixed Try.func22 (bC spec_OutsOk_ok (bC spec_l24Sum_ok bN)) (by kernel_rfl) (by kernel_rfl) (by kernel_rfl) ⟨nodeLoop (by kernel_rfl) spec_Totals_s122 (by kernel_rfl) (by intro d; kernel_rfl), trivial⟩ (by intro d; kernel_rfl)


/-! impl.OutsOk -/
def impl_OutsOk_s26 : t30 → Option (t30 ⊕ Bool ⊕ Unit)
  | (a, b, c) => bif decide (c < b) then ix c a.length ((some (gx a c (0, 0, 0, [], 0, 0, 0, 0, [], [], []))).bind fun (d, e, f, g, h, i, j, k, l, m, n) => (impl_within (d, 0, 1000)).bind fun o => bif !o then some (.inr (.inl false)) else (impl_EntryOk (e, f, g, h, i, j, k, l, m, n)).bind fun p => bif !p then some (.inr (.inl false)) else some (.inl (a, b, w64 (c + 1)))) else some (.inr (.inr ()))
def impl_OutsOk_n26 : NEnt := ⟨⟨24, [⟨5, .one, [.dat kk0]⟩, ⟨6, .one, [.dat kI]⟩, ⟨7, .one, [.dat kI]⟩]⟩, [(.ret, ⟨24, [⟨2, .one, [.dat .bool]⟩]⟩), (.exit 0, ⟨24, []⟩)], lp impl_OutsOk_s26⟩
def impl_OutsOk : List t24 → Option Bool
  | a => bx (lp impl_OutsOk_s26 (a, ln a, 0)) (fun b => some b) fun _ => some true
def impl_OutsOk_e : FEnt := ⟨22, [.tmp 2], [], [(.one, [.dat kk0])], ⟨24, [⟨2, .one, [.dat .bool]⟩]⟩, impl_OutsOk⟩
theorem impl_OutsOk_ok : FnOk Try.prog 32 impl_OutsOk_e := fnOk_mk (tb := [(26, impl_OutsOk_n26)]) (c := (Try.f32.body).getD .skip) mixed Try.func32 (bC impl_within_ok (bC impl_EntryOk_ok bN)) (by kernel_rfl) (by kernel_rfl) (by kernel_rfl) ⟨nodeLoop (by kernel_rfl) impl_OutsOk_s26 (by kernel_rfl) (by intro d; kernel_rfl), trivial⟩ (by intro d; kernel_rfl)


/-! impl.entriesOf -/
def impl_entriesOf_s58 : List t23 × t30 → Option (List t23 × t30 ⊕ List t23)
  | (a, b, c, d) => bif decide (d < c) then ix d b.length ((some (gx b d (0, 0, 0, [], 0, 0, 0, 0, [], [], []))).bind fun (e, f, g, h, i, j, k, l, m, n, o) => (some [(f, g, h, i, j, k, l, m, n, o)]).bind fun p => chk (fits (a.length + p.length) 144) ((some (a ++ p)).bind fun q => some (.inl (q, b, c, w64 (d + 1))))) else some (.inr a)
def impl_entriesOf_n58 : NEnt := ⟨⟨21, [⟨3, .one, [.own false kk3]⟩, ⟨6, .one, [.dat kk0]⟩, ⟨7, .one, [.dat kI]⟩, ⟨8, .one, [.dat kI]⟩]⟩, [(.exit 0, ⟨21, [⟨3, .one, [.own false kk3]⟩]⟩)], lp impl_entriesOf_s58⟩
def impl_entriesOf : List t24 → Option (List t23)
  | a => (lp impl_entriesOf_s58 ([], a, ln a, 0)).bind fun b => some b
def impl_entriesOf_e : FEnt := ⟨19, [.tmp 2], [], [(.one, [.dat kk0])], ⟨21, [⟨2, .one, [.own false kk3]⟩]⟩, impl_entriesOf⟩
theorem impl_entriesOf_ok : FnOk Try.prog 51 impl_entriesOf_e := fnOk_mk (tb := [(58, impl_entriesOf_n58)]) (c := (Try.f51.body).getD .skip) mixed Try.func51 bN (by kernel_rfl) (by kernel_rfl) (by kernel_rfl) ⟨nodeLoop (by kernel_rfl) impl_entriesOf_s58 (by kernel_rfl) (by intro d; kernel_rfl), trivial⟩ (by intro d; kernel_rfl)


/-! impl.Totals -/
def impl_Totals : List t24 → Option (List t23)
  | a => (impl_OutsOk a).bind fun b => bif !b then some [] else (impl_entriesOf a).bind fun c => (impl_sums c).bind fun d => some d
def impl_Totals_e : FEnt := ⟨9, [.tmp 2], [], [(.one, [.dat kk0])], ⟨11, [⟨2, .one, [.own true kk3]⟩]⟩, impl_Totals⟩
theorem impl_Totals_ok : FnOk Try.prog 24 impl_Totals_e := fnOk_mk (tb := []) (c := (Try.f24.body).getD .skip) mixed Try.func24 (bC impl_OutsOk_ok (bC impl_entriesOf_ok (bC impl_sums_ok bN))) (by kernel_rfl) (by kernel_rfl) (by kernel_rfl) trivial (by intro d; kernel_rfl)


/-! laws.eqOut -/
def laws_eqOut : t24 × t24 → Option Bool
  | ((a, b, c, d, e, f, g, h, i, j, k), l, m, n, o, p, q, r, s, t, u, v) => bif a != l then some false else (laws_eqEntry ((b, c, d, e, f, g, h, i, j, k), m, n, o, p, q, r, s, t, u, v)).bind fun w => bif !w then some false else some true
def laws_eqOut_e : FEnt := ⟨16, [.tmp 4], [], [(.agg, cc1), (.agg, cc1)], ⟨20, [⟨4, .one, [.dat .bool]⟩]⟩, laws_eqOut⟩
theorem laws_eqOut_ok : FnOk Try.prog 35 laws_eqOut_e := fnOk_mk (tb := []) (c := (Try.f35.body).getD .skip) mixed Try.func35 (bC laws_eqEntry_ok bN) (by kernel_rfl) (by kernel_rfl) (by kernel_rfl) trivial (by intro d; kernel_rfl)


/-! laws.eqOutS -/
def laws_eqOutS_s58 : List t24 × t29 → Option (List t24 × t29 ⊕ Bool ⊕ Unit)
  | (a, b, c) => (some (decide (c < (ln a)))).bind fun d => bif d then ix c a.length ((some (gx a c (0, 0, 0, [], 0, 0, 0, 0, [], [], []))).bind fun (e, f, g, h, i, j, k, l, m, n, o) => ix c b.length ((some (gx b c (0, 0, 0, [], 0, 0, 0, 0, [], [], []))).bind fun (p, q, r, s, t, u, v, w, x, y, z) => (laws_eqOut ((e, f, g, h, i, j, k, l, m, n, o), p, q, r, s, t, u, v, w, x, y, z)).bind fun a1 => bif !a1 then some (.inr (.inl false)) else some (.inl (a, b, w64 (c + 1))))) else some (.inr (.inr ()))
def laws_eqOutS_n58 : NEnt := ⟨⟨31, [⟨0, .one, [.dat kk0]⟩, ⟨1, .one, [.dat kk0]⟩, ⟨5, .one, [.dat kI]⟩]⟩, [(.ret, ⟨31, [⟨4, .one, [.dat .bool]⟩]⟩), (.exit 0, ⟨31, []⟩)], lp laws_eqOutS_s58⟩
def laws_eqOutS : List t24 × List t24 → Option Bool
  | (a, b) => (some ((ln a) != (ln b))).bind fun c => bif c then some false else bx (lp laws_eqOutS_s58 (a, b, 0)) (fun d => some d) fun _ => some true
def laws_eqOutS_e : FEnt := ⟨27, [.tmp 4], [], [(.one, [.dat kk0]), (.one, [.dat kk0])], ⟨31, [⟨4, .one, [.dat .bool]⟩]⟩, laws_eqOutS⟩
theorem laws_eqOutS_ok : FnOk Try.prog 9 laws_eqOutS_e := fnOk_mk (tb := [(58, laws_eqOutS_n58)]) (c := (Try.f9.body).getD .skip) mixed Try.func9 (bC laws_eqOut_ok bN) (by kernel_rfl) (by kernel_rfl) (by kernel_rfl) ⟨nodeLoop (by kernel_rfl) laws_eqOutS_s58 (by kernel_rfl) (by intro d; kernel_rfl), trivial⟩ (by intro d; kernel_rfl)


/-! laws.markOutS -/
def laws_markOutS_s26 : (Unit × Unit × Unit) × Int × Int × List t24 → Option ((Unit × Unit × Unit) × Int × Int × List t24 ⊕ Int × List t24)
  | ((_, _, _), a, b, c) => (some (decide (b < (ln c)))).bind fun d => bif d then ix b c.length (lx b c.length ((some (sx c b (a, (gx c b (0, 0, 0, [], 0, 0, 0, 0, [], [], [])).2))).bind fun e => ix b e.length (lx b e.length ((some (sx e b ((gx e b (0, 0, 0, [], 0, 0, 0, 0, [], [], [])).1, w64 (a + 1), (gx e b (0, 0, 0, [], 0, 0, 0, 0, [], [], [])).2.2))).bind fun f => ix b f.length (lx b f.length ((some (sx f b ((gx f b (0, 0, 0, [], 0, 0, 0, 0, [], [], [])).1, (gx f b (0, 0, 0, [], 0, 0, 0, 0, [], [], [])).2.1, w64 ((w64 (a + 1)) + 1), (gx f b (0, 0, 0, [], 0, 0, 0, 0, [], [], [])).2.2.2))).bind fun g => ix b g.length (lx b g.length ((laws_markSpanS ((gx g b (0, 0, 0, [], 0, 0, 0, 0, [], [], [])).2.2.2.1, w64 ((w64 ((w64 (a + 1)) + 1)) + 1))).bind fun (h, i) => (some (sx g b ((gx g b (0, 0, 0, [], 0, 0, 0, 0, [], [], [])).1, (gx g b (0, 0, 0, [], 0, 0, 0, 0, [], [], [])).2.1, (gx g b (0, 0, 0, [], 0, 0, 0, 0, [], [], [])).2.2.1, i, (gx g b (0, 0, 0, [], 0, 0, 0, 0, [], [], [])).2.2.2.2))).bind fun j => ix b j.length (lx b j.length ((some (sx j b ((gx j b (0, 0, 0, [], 0, 0, 0, 0, [], [], [])).1, (gx j b (0, 0, 0, [], 0, 0, 0, 0, [], [], [])).2.1, (gx j b (0, 0, 0, [], 0, 0, 0, 0, [], [], [])).2.2.1, (gx j b (0, 0, 0, [], 0, 0, 0, 0, [], [], [])).2.2.2.1, h, (gx j b (0, 0, 0, [], 0, 0, 0, 0, [], [], [])).2.2.2.2.2))).bind fun k => ix b k.length (lx b k.length ((some (sx k b ((gx k b (0, 0, 0, [], 0, 0, 0, 0, [], [], [])).1, (gx k b (0, 0, 0, [], 0, 0, 0, 0, [], [], [])).2.1, (gx k b (0, 0, 0, [], 0, 0, 0, 0, [], [], [])).2.2.1, (gx k b (0, 0, 0, [], 0, 0, 0, 0, [], [], [])).2.2.2.1, (gx k b (0, 0, 0, [], 0, 0, 0, 0, [], [], [])).2.2.2.2.1, w64 (h + 1), (gx k b (0, 0, 0, [], 0, 0, 0, 0, [], [], [])).2.2.2.2.2.2))).bind fun l => ix b l.length (lx b l.length ((some (sx l b ((gx l b (0, 0, 0, [], 0, 0, 0, 0, [], [], [])).1, (gx l b (0, 0, 0, [], 0, 0, 0, 0, [], [], [])).2.1, (gx l b (0, 0, 0, [], 0, 0, 0, 0, [], [], [])).2.2.1, (gx l b (0, 0, 0, [], 0, 0, 0, 0, [], [], [])).2.2.2.1, (gx l b (0, 0, 0, [], 0, 0, 0, 0, [], [], [])).2.2.2.2.1, (gx l b (0, 0, 0, [], 0, 0, 0, 0, [], [], [])).2.2.2.2.2.1, w64 ((w64 (h + 1)) + 1), (gx l b (0, 0, 0, [], 0, 0, 0, 0, [], [], [])).2.2.2.2.2.2.2))).bind fun m => ix b m.length (lx b m.length ((some (sx m b ((gx m b (0, 0, 0, [], 0, 0, 0, 0, [], [], [])).1, (gx m b (0, 0, 0, [], 0, 0, 0, 0, [], [], [])).2.1, (gx m b (0, 0, 0, [], 0, 0, 0, 0, [], [], [])).2.2.1, (gx m b (0, 0, 0, [], 0, 0, 0, 0, [], [], [])).2.2.2.1, (gx m b (0, 0, 0, [], 0, 0, 0, 0, [], [], [])).2.2.2.2.1, (gx m b (0, 0, 0, [], 0, 0, 0, 0, [], [], [])).2.2.2.2.2.1, (gx m b (0, 0, 0, [], 0, 0, 0, 0, [], [], [])).2.2.2.2.2.2.1, w64 ((w64 ((w64 (h + 1)) + 1)) + 1), (gx m b (0, 0, 0, [], 0, 0, 0, 0, [], [], [])).2.2.2.2.2.2.2.2))).bind fun n => (some (w64 ((w64 ((w64 ((w64 (h + 1)) + 1)) + 1)) + 1))).bind fun o => ix b n.length (lx b n.length ((laws_markIntS ((gx n b (0, 0, 0, [], 0, 0, 0, 0, [], [], [])).2.2.2.2.2.2.2.2.1, o)).bind fun (p, q) => (some (sx n b ((gx n b (0, 0, 0, [], 0, 0, 0, 0, [], [], [])).1, (gx n b (0, 0, 0, [], 0, 0, 0, 0, [], [], [])).2.1, (gx n b (0, 0, 0, [], 0, 0, 0, 0, [], [], [])).2.2.1, (gx n b (0, 0, 0, [], 0, 0, 0, 0, [], [], [])).2.2.2.1, (gx n b (0, 0, 0, [], 0, 0, 0, 0, [], [], [])).2.2.2.2.1, (gx n b (0, 0, 0, [], 0, 0, 0, 0, [], [], [])).2.2.2.2.2.1, (gx n b (0, 0, 0, [], 0, 0, 0, 0, [], [], [])).2.2.2.2.2.2.1, (gx n b (0, 0, 0, [], 0, 0, 0, 0, [], [], [])).2.2.2.2.2.2.2.1, q, (gx n b (0, 0, 0, [], 0, 0, 0, 0, [], [], [])).2.2.2.2.2.2.2.2.2))).bind fun r => ix b r.length (lx b r.length ((laws_markIntS ((gx r b (0, 0, 0, [], 0, 0, 0, 0, [], [], [])).2.2.2.2.2.2.2.2.2.1, p)).bind fun (s, t) => (some (sx r b ((gx r b (0, 0, 0, [], 0, 0, 0, 0, [], [], [])).1, (gx r b (0, 0, 0, [], 0, 0, 0, 0, [], [], [])).2.1, (gx r b (0, 0, 0, [], 0, 0, 0, 0, [], [], [])).2.2.1, (gx r b (0, 0, 0, [], 0, 0, 0, 0, [], [], [])).2.2.2.1, (gx r b (0, 0, 0, [], 0, 0, 0, 0, [], [], [])).2.2.2.2.1, (gx r b (0, 0, 0, [], 0, 0, 0, 0, [], [], [])).2.2.2.2.2.1, (gx r b (0, 0, 0, [], 0, 0, 0, 0, [], [], [])).2.2.2.2.2.2.1, (gx r b (0, 0, 0, [], 0, 0, 0, 0, [], [], [])).2.2.2.2.2.2.2.1, (gx r b (0, 0, 0, [], 0, 0, 0, 0, [], [], [])).2.2.2.2.2.2.2.2.1, t, (gx r b (0, 0, 0, [], 0, 0, 0, 0, [], [], [])).2.2.2.2.2.2.2.2.2.2))).bind fun u => ix b u.length (lx b u.length ((laws_markIntSS ((gx u b (0, 0, 0, [], 0, 0, 0, 0, [], [], [])).2.2.2.2.2.2.2.2.2.2, s)).bind fun (v, w) => (some (sx u b ((gx u b (0, 0, 0, [], 0, 0, 0, 0, [], [], [])).1, (gx u b (0, 0, 0, [], 0, 0, 0, 0, [], [], [])).2.1, (gx u b (0, 0, 0, [], 0, 0, 0, 0, [], [], [])).2.2.1, (gx u b (0, 0, 0, [], 0, 0, 0, 0, [], [], [])).2.2.2.1, (gx u b (0, 0, 0, [], 0, 0, 0, 0, [], [], [])).2.2.2.2.1, (gx u b (0, 0, 0, [], 0, 0, 0, 0, [], [], [])).2.2.2.2.2.1, (gx u b (0, 0, 0, [], 0, 0, 0, 0, [], [], [])).2.2.2.2.2.2.1, (gx u b (0, 0, 0, [], 0, 0, 0, 0, [], [], [])).2.2.2.2.2.2.2.1, (gx u b (0, 0, 0, [], 0, 0, 0, 0, [], [], [])).2.2.2.2.2.2.2.2.1, (gx u b (0, 0, 0, [], 0, 0, 0, 0, [], [], [])).2.2.2.2.2.2.2.2.2.1, w))).bind fun x => some (.inl (((), (), ()), v, w64 (b + 1), x)))))))))))))))))))))))) else some (.inr (a, c))
def laws_markOutS_n26 : NEnt := ⟨⟨111, [⟨0, .one, [.ref 107 0 [] false false kk1]⟩, ⟨1, .one, [.dat kI]⟩, ⟨5, .one, [.dat kI]⟩, ⟨107, .agg, [.own true kk1]⟩]⟩, [(.exit 0, ⟨111, [⟨1, .one, [.dat kI]⟩, ⟨107, .agg, [.own true kk1]⟩]⟩)], lp laws_markOutS_s26⟩
def laws_markOutS : t29 → Option (Int × List t24)
  | (a, b) => (lp laws_markOutS_s26 (((), (), ()), b, 0, a)).bind fun (c, d) => some (c, d)
def laws_markOutS_e : FEnt := ⟨107, [.tmp 4], [true, false], [(.one, [.own true kk1]), (.one, [.dat kI])], ⟨111, [⟨4, .one, [.dat kI]⟩, ⟨107, .agg, [.own true kk1]⟩]⟩, laws_markOutS⟩
theorem laws_markOutS_ok : FnOk Try.prog 12 laws_markOutS_e := fnOk_mk (tb := [(26, laws_markOutS_n26)]) (c := (Try.f12.body).getD .skip) mixed Try.func12 (bC laws_markSpanS_ok (bC laws_markIntS_ok (bC laws_markIntSS_ok bN))) (by kernel_rfl) (by kernel_rfl) (by kernel_rfl) ⟨nodeLoop (by kernel_rfl) laws_markOutS_s26 (by kernel_rfl) (by intro d; kernel_rfl), trivial⟩ (by intro d; kernel_rfl)


/-! laws.FnExactTotals -/
def laws_FnExactTotals : List t24 → Option Bool
  | a => (laws_szOutS (a, 1048576)).bind fun b => bif decide (b < 0) then some true else (laws_toOutS a).bind fun c => (spec_Totals c).bind fun d => (laws_toOutS a).bind fun e => (impl_Totals e).bind fun f => (laws_eqEntryS (f, d)).bind fun g => bif !g then some false else (laws_toOutS a).bind fun h => (laws_eqOutS (e, h)).bind fun i => bif !i then some false else (laws_markOutS (e, 1)).bind fun (j, k) => bif decide (j < 0) then some false else (laws_eqEntryS (f, d)).bind fun l => bif !l then some false else (laws_markEntryS (f, 1)).bind fun (m, n) => (laws_heldEntryS (n, 1)).bind fun o => bif decide (o < 0) then some false else bif o != m then some false else (laws_toOutS a).bind fun p => (impl_Totals p).bind fun q => (laws_eqEntryS (q, d)).bind fun r => bif !r then some false else (laws_heldEntryS (n, 1)).bind fun s => bif decide (s < 0) then some false else bif s != m then some false else some true
def laws_FnExactTotals_e : FEnt := ⟨69, [.tmp 2], [], [(.one, [.dat kk0])], ⟨71, [⟨2, .one, [.dat .bool]⟩]⟩, laws_FnExactTotals⟩
theorem laws_FnExactTotals_ok : FnOk Try.prog 5 laws_FnExactTotals_e := fnOk_mk (tb := []) (c := (Try.f5.body).getD .skip) mixed Try.func5 (bC laws_szOutS_ok (bC laws_toOutS_ok (bC spec_Totals_ok (bC impl_Totals_ok (bC laws_eqEntryS_ok (bC laws_eqOutS_ok (bC laws_markOutS_ok (bC laws_markEntryS_ok (bC laws_heldEntryS_ok bN))))))))) (by kernel_rfl) (by kernel_rfl) (by kernel_rfl) trivial (by intro d; kernel_rfl)

end Go.Proofs.Ytkegollaleklaaa.Tw
