/- Printed by print.lean: typed twins of functions and their proofs. No condition. -/
import Derived.Test.YtkegollaleklaaaGreatTwJ
namespace Go.Proofs.YtkegollaleklaaaGreat.Tw
open Go.Mach
set_option linter.unusedVariables false
set_option maxRecDepth 100000

/-! laws.szConf -/
def laws_szConf : t27 × Int → Option Int
  | ((a, b, c, d, e, f, g, h), i) => (laws_szIntS (d, i)).bind fun j => bif decide (j < 0) then some (-1) else some j
def laws_szConf_e : FEnt := ⟨12, [.tmp 4], [], [(.agg, cc7), (.one, [.dat kI])], ⟨16, [⟨4, .one, [.dat kI]⟩]⟩, laws_szConf⟩
theorem laws_szConf_ok : FnOk Tryz.prog 54 laws_szConf_e := fnOk_mk (tb := []) (c := (Tryz.f54.body).getD .skip) mixed Tryz.func54 (bC laws_szIntS_ok bN) (by kernel_rfl) (by kernel_rfl) (by kernel_rfl) trivial (by intro d; kernel_rfl)


/-! laws.szSeat -/
def laws_szSeat : t19 × Int → Option Int
  | ((a, b, c, d, e), f) => (laws_szSpanS (c, f)).bind fun g => bif decide (g < 0) then some (-1) else some g
def laws_szSeat_e : FEnt := ⟨12, [.tmp 4], [], [(.agg, cc11), (.one, [.dat kI])], ⟨16, [⟨4, .one, [.dat kI]⟩]⟩, laws_szSeat⟩
theorem laws_szSeat_ok : FnOk Tryz.prog 116 laws_szSeat_e := fnOk_mk (tb := []) (c := (Tryz.f116.body).getD .skip) mixed Tryz.func116 (bC laws_szSpanS_ok bN) (by kernel_rfl) (by kernel_rfl) (by kernel_rfl) trivial (by intro d; kernel_rfl)


/-! laws.szSeatS -/
def laws_szSeatS_s122 : t30 → Option (t30 ⊕ Int ⊕ Int)
  | (a, b, c) => bif decide (c < (ln a)) then ix c a.length ((some (gx a c (0, 0, [], 0, 0))).bind fun (d, e, f, g, h) => (laws_szSeat ((d, e, f, g, h), b)).bind fun i => bif decide (i < 0) then some (.inr (.inl (-1))) else some (.inl (a, i, w64 (c + 1)))) else some (.inr (.inr b))
def laws_szSeatS_n122 : NEnt := ⟨⟨31, [⟨0, .one, [.dat kk6]⟩, ⟨1, .one, [.dat kI]⟩, ⟨5, .one, [.dat kI]⟩]⟩, [(.ret, ⟨31, [⟨4, .one, [.dat kI]⟩]⟩), (.exit 0, ⟨31, [⟨1, .one, [.dat kI]⟩]⟩)], lp laws_szSeatS_s122⟩
def laws_szSeatS : t28 → Option Int
  | (a, b) => (some (decide ((w64 (b - (ln a))) < 0))).bind fun c => bif c then some (-1) else bx (lp laws_szSeatS_s122 (a, w64 (b - (ln a)), 0)) (fun d => some d) fun d => some d
def laws_szSeatS_e : FEnt := ⟨27, [.tmp 4], [], [(.one, [.dat kk6]), (.one, [.dat kI])], ⟨31, [⟨4, .one, [.dat kI]⟩]⟩, laws_szSeatS⟩
theorem laws_szSeatS_ok : FnOk Tryz.prog 55 laws_szSeatS_e := fnOk_mk (tb := [(122, laws_szSeatS_n122)]) (c := (Tryz.f55.body).getD .skip) mixed Tryz.func55 (bC laws_szSeat_ok bN) (by kernel_rfl) (by kernel_rfl) (by kernel_rfl) ⟨nodeLoop (by kernel_rfl) laws_szSeatS_s122 (by kernel_rfl) (by intro d; kernel_rfl), trivial⟩ (by intro d; kernel_rfl)


/-! laws.szRowS -/
def laws_szRowS_s122 : t50 → Option (t50 ⊕ Int ⊕ Int)
  | (a, b, c) => (some (decide (c < (ln a)))).bind fun d => bif d then ix c a.length ((some (gx a c [])).bind fun e => (laws_szRow (e, b)).bind fun f => bif decide (f < 0) then some (.inr (.inl (-1))) else some (.inl (a, f, w64 (c + 1)))) else some (.inr (.inr b))
def laws_szRowS_n122 : NEnt := ⟨⟨31, [⟨0, .one, [.dat kk2]⟩, ⟨1, .one, [.dat kI]⟩, ⟨5, .one, [.dat kI]⟩]⟩, [(.ret, ⟨31, [⟨4, .one, [.dat kI]⟩]⟩), (.exit 0, ⟨31, [⟨1, .one, [.dat kI]⟩]⟩)], lp laws_szRowS_s122⟩
def laws_szRowS : t46 → Option Int
  | (a, b) => (some (decide ((w64 (b - (ln a))) < 0))).bind fun c => bif c then some (-1) else bx (lp laws_szRowS_s122 (a, w64 (b - (ln a)), 0)) (fun d => some d) fun d => some d
def laws_szRowS_e : FEnt := ⟨27, [.tmp 4], [], [(.one, [.dat kk2]), (.one, [.dat kI])], ⟨31, [⟨4, .one, [.dat kI]⟩]⟩, laws_szRowS⟩
theorem laws_szRowS_ok : FnOk Tryz.prog 117 laws_szRowS_e := fnOk_mk (tb := [(122, laws_szRowS_n122)]) (c := (Tryz.f117.body).getD .skip) mixed Tryz.func117 (bC laws_szRow_ok bN) (by kernel_rfl) (by kernel_rfl) (by kernel_rfl) ⟨nodeLoop (by kernel_rfl) laws_szRowS_s122 (by kernel_rfl) (by intro d; kernel_rfl), trivial⟩ (by intro d; kernel_rfl)


/-! laws.szRowSS -/
def laws_szRowSS_s122 : t56 → Option (t56 ⊕ Int ⊕ Int)
  | (a, b, c) => (some (decide (c < (ln a)))).bind fun d => bif d then ix c a.length ((some (gx a c [])).bind fun e => (laws_szRowS (e, b)).bind fun f => bif decide (f < 0) then some (.inr (.inl (-1))) else some (.inl (a, f, w64 (c + 1)))) else some (.inr (.inr b))
def laws_szRowSS_n122 : NEnt := ⟨⟨31, [⟨0, .one, [.dat kk0]⟩, ⟨1, .one, [.dat kI]⟩, ⟨5, .one, [.dat kI]⟩]⟩, [(.ret, ⟨31, [⟨4, .one, [.dat kI]⟩]⟩), (.exit 0, ⟨31, [⟨1, .one, [.dat kI]⟩]⟩)], lp laws_szRowSS_s122⟩
def laws_szRowSS : t51 → Option Int
  | (a, b) => (some (decide ((w64 (b - (ln a))) < 0))).bind fun c => bif c then some (-1) else bx (lp laws_szRowSS_s122 (a, w64 (b - (ln a)), 0)) (fun d => some d) fun d => some d
def laws_szRowSS_e : FEnt := ⟨27, [.tmp 4], [], [(.one, [.dat kk0]), (.one, [.dat kI])], ⟨31, [⟨4, .one, [.dat kI]⟩]⟩, laws_szRowSS⟩
theorem laws_szRowSS_ok : FnOk Tryz.prog 56 laws_szRowSS_e := fnOk_mk (tb := [(122, laws_szRowSS_n122)]) (c := (Tryz.f56.body).getD .skip) mixed Tryz.func56 (bC laws_szRowS_ok bN) (by kernel_rfl) (by kernel_rfl) (by kernel_rfl) ⟨nodeLoop (by kernel_rfl) laws_szRowSS_s122 (by kernel_rfl) (by intro d; kernel_rfl), trivial⟩ (by intro d; kernel_rfl)


/-! laws.szTurn -/
def laws_szTurn : (Int × Bool × List Int) × Int → Option Int
  | ((a, b, c), d) => (laws_szIntS (c, d)).bind fun e => bif decide (e < 0) then some (-1) else some e
def laws_szTurn_e : FEnt := ⟨12, [.tmp 4], [], [(.agg, cc12), (.one, [.dat kI])], ⟨16, [⟨4, .one, [.dat kI]⟩]⟩, laws_szTurn⟩
theorem laws_szTurn_ok : FnOk Tryz.prog 118 laws_szTurn_e := fnOk_mk (tb := []) (c := (Tryz.f118.body).getD .skip) mixed Tryz.func118 (bC laws_szIntS_ok bN) (by kernel_rfl) (by kernel_rfl) (by kernel_rfl) trivial (by intro d; kernel_rfl)


/-! laws.szTurnS -/
def laws_szTurnS_s122 : t20 → Option (t20 ⊕ Int ⊕ Int)
  | (a, b, c) => bif decide (c < (ln a)) then ix c a.length ((some (gx a c (0, false, []))).bind fun (d, e, f) => (laws_szTurn ((d, e, f), b)).bind fun g => bif decide (g < 0) then some (.inr (.inl (-1))) else some (.inl (a, g, w64 (c + 1)))) else some (.inr (.inr b))
def laws_szTurnS_n122 : NEnt := ⟨⟨31, [⟨0, .one, [.dat kk8]⟩, ⟨1, .one, [.dat kI]⟩, ⟨5, .one, [.dat kI]⟩]⟩, [(.ret, ⟨31, [⟨4, .one, [.dat kI]⟩]⟩), (.exit 0, ⟨31, [⟨1, .one, [.dat kI]⟩]⟩)], lp laws_szTurnS_s122⟩
def laws_szTurnS : t12 → Option Int
  | (a, b) => (some (decide ((w64 (b - (ln a))) < 0))).bind fun c => bif c then some (-1) else bx (lp laws_szTurnS_s122 (a, w64 (b - (ln a)), 0)) (fun d => some d) fun d => some d
def laws_szTurnS_e : FEnt := ⟨27, [.tmp 4], [], [(.one, [.dat kk8]), (.one, [.dat kI])], ⟨31, [⟨4, .one, [.dat kI]⟩]⟩, laws_szTurnS⟩
theorem laws_szTurnS_ok : FnOk Tryz.prog 57 laws_szTurnS_e := fnOk_mk (tb := [(122, laws_szTurnS_n122)]) (c := (Tryz.f57.body).getD .skip) mixed Tryz.func57 (bC laws_szTurn_ok bN) (by kernel_rfl) (by kernel_rfl) (by kernel_rfl) ⟨nodeLoop (by kernel_rfl) laws_szTurnS_s122 (by kernel_rfl) (by intro d; kernel_rfl), trivial⟩ (by intro d; kernel_rfl)


/-! laws.szOut -/
def laws_szOut : t39 × Int → Option Int
  | ((a, b, c, d, e, f, g, h, i, j, k), l) => (laws_szEntry ((b, c, d, e, f, g, h, i, j, k), l)).bind fun m => bif decide (m < 0) then some (-1) else some m
def laws_szOut_e : FEnt := ⟨12, [.tmp 4], [], [(.agg, cc3), (.one, [.dat kI])], ⟨16, [⟨4, .one, [.dat kI]⟩]⟩, laws_szOut⟩
theorem laws_szOut_ok : FnOk Tryz.prog 119 laws_szOut_e := fnOk_mk (tb := []) (c := (Tryz.f119.body).getD .skip) mixed Tryz.func119 (bC laws_szEntry_ok bN) (by kernel_rfl) (by kernel_rfl) (by kernel_rfl) trivial (by intro d; kernel_rfl)


/-! laws.szOutS -/
def laws_szOutS_s122 : t49 → Option (t49 ⊕ Int ⊕ Int)
  | (a, b, c) => (some (decide (c < (ln a)))).bind fun d => bif d then ix c a.length ((some (gx a c (0, 0, 0, [], 0, 0, 0, 0, [], [], []))).bind fun (e, f, g, h, i, j, k, l, m, n, o) => (laws_szOut ((e, f, g, h, i, j, k, l, m, n, o), b)).bind fun p => bif decide (p < 0) then some (.inr (.inl (-1))) else some (.inl (a, p, w64 (c + 1)))) else some (.inr (.inr b))
def laws_szOutS_n122 : NEnt := ⟨⟨31, [⟨0, .one, [.dat kk1]⟩, ⟨1, .one, [.dat kI]⟩, ⟨5, .one, [.dat kI]⟩]⟩, [(.ret, ⟨31, [⟨4, .one, [.dat kI]⟩]⟩), (.exit 0, ⟨31, [⟨1, .one, [.dat kI]⟩]⟩)], lp laws_szOutS_s122⟩
def laws_szOutS : t45 → Option Int
  | (a, b) => (some (decide ((w64 (b - (ln a))) < 0))).bind fun c => bif c then some (-1) else bx (lp laws_szOutS_s122 (a, w64 (b - (ln a)), 0)) (fun d => some d) fun d => some d
def laws_szOutS_e : FEnt := ⟨27, [.tmp 4], [], [(.one, [.dat kk1]), (.one, [.dat kI])], ⟨31, [⟨4, .one, [.dat kI]⟩]⟩, laws_szOutS⟩
theorem laws_szOutS_ok : FnOk Tryz.prog 58 laws_szOutS_e := fnOk_mk (tb := [(122, laws_szOutS_n122)]) (c := (Tryz.f58.body).getD .skip) mixed Tryz.func58 (bC laws_szOut_ok bN) (by kernel_rfl) (by kernel_rfl) (by kernel_rfl) ⟨nodeLoop (by kernel_rfl) laws_szOutS_s122 (by kernel_rfl) (by intro d; kernel_rfl), trivial⟩ (by intro d; kernel_rfl)


/-! laws.szHouse -/
def laws_szHouse : t78 → Option Int
  | ((a, b, c, d, e, f, g, h, i, j, k, l, m, n, o, p), q) => (laws_szConf ((a, b, c, d, e, f, g, h), q)).bind fun r => bif decide (r < 0) then some (-1) else (laws_szSeatS (k, r)).bind fun s => bif decide (s < 0) then some (-1) else (laws_szRowSS (l, s)).bind fun t => bif decide (t < 0) then some (-1) else (laws_szTurnS (m, t)).bind fun u => bif decide (u < 0) then some (-1) else (laws_szEntryS (o, u)).bind fun v => bif decide (v < 0) then some (-1) else (laws_szOutS (p, v)).bind fun w => bif decide (w < 0) then some (-1) else some w
def laws_szHouse_e : FEnt := ⟨42, [.tmp 4], [], [(.agg, cc1), (.one, [.dat kI])], ⟨46, [⟨4, .one, [.dat kI]⟩]⟩, laws_szHouse⟩
theorem laws_szHouse_ok : FnOk Tryz.prog 18 laws_szHouse_e := fnOk_mk (tb := []) (c := (Tryz.f18.body).getD .skip) mixed Tryz.func18 (bC laws_szConf_ok (bC laws_szSeatS_ok (bC laws_szRowSS_ok (bC laws_szTurnS_ok (bC laws_szEntryS_ok (bC laws_szOutS_ok bN)))))) (by kernel_rfl) (by kernel_rfl) (by kernel_rfl) trivial (by intro d; kernel_rfl)


/-! laws.toConf -/
def laws_toConf : t27 → Option t27
  | (a, b, c, d, e, f, g, h) => (laws_toIntS d).bind fun i => some (a, b, c, i, e, f, g, h)
def laws_toConf_e : FEnt := ⟨30, [.cell 2 true 8], [], [(.agg, cc7)], ⟨32, [⟨2, .box, cc9⟩]⟩, laws_toConf⟩
theorem laws_toConf_ok : FnOk Tryz.prog 61 laws_toConf_e := fnOk_mk (tb := []) (c := (Tryz.f61.body).getD .skip) mixed Tryz.func61 (bC laws_toIntS_ok bN) (by kernel_rfl) (by kernel_rfl) (by kernel_rfl) trivial (by intro d; kernel_rfl)


/-! laws.toSeat -/
def laws_toSeat : t19 → Option t19
  | (a, b, c, d, e) => (laws_toSpanS c).bind fun f => some (a, b, f, d, e)
def laws_toSeat_e : FEnt := ⟨21, [.cell 2 true 5], [], [(.agg, cc11)], ⟨23, [⟨2, .box, [.dat kI, .dat kI, .own true (.pair kI kI), .dat kI, .dat kI]⟩]⟩, laws_toSeat⟩
theorem laws_toSeat_ok : FnOk Tryz.prog 128 laws_toSeat_e := fnOk_mk (tb := []) (c := (Tryz.f128.body).getD .skip) mixed Tryz.func128 (bC laws_toSpanS_ok bN) (by kernel_rfl) (by kernel_rfl) (by kernel_rfl) trivial (by intro d; kernel_rfl)


/-! laws.toSeatS -/
def laws_toSeatS_s58 : List t19 × t28 → Option (List t19 × t28 ⊕ List t19)
  | (a, b, c) => bif decide (c < (ln a)) then ix c a.length ((some (gx a c (0, 0, [], 0, 0))).bind fun (d, e, f, g, h) => (laws_toSeat (d, e, f, g, h)).bind fun (i, j, k, l, m) => ix c b.length (lx c b.length ((some (sx b c (i, j, k, l, m))).bind fun n => some (.inl (a, n, w64 (c + 1)))))) else some (.inr b)
def laws_toSeatS_n58 : NEnt := ⟨⟨25, [⟨0, .one, [.dat kk6]⟩, ⟨3, .one, [.own true kk7]⟩, ⟨4, .one, [.dat kI]⟩]⟩, [(.exit 0, ⟨25, [⟨3, .one, [.own true kk7]⟩]⟩)], lp laws_toSeatS_s58⟩
def laws_toSeatS : List t19 → Option (List t19)
  | a => chk (decide (((ln a).toNat ≤ (ln a).toNat) ∧ (((ln a).toNat ≤ 4294967296) ∧ (((ln a).toNat * 56) ≤ 140737488355328)))) ((some (List.replicate (ln a).toNat (0, 0, [], 0, 0))).bind fun b => (lp laws_toSeatS_s58 (a, b, 0)).bind fun c => some c)
def laws_toSeatS_e : FEnt := ⟨23, [.tmp 2], [], [(.one, [.dat kk6])], ⟨25, [⟨2, .one, [.own true kk7]⟩]⟩, laws_toSeatS⟩
theorem laws_toSeatS_ok : FnOk Tryz.prog 62 laws_toSeatS_e := fnOk_mk (tb := [(58, laws_toSeatS_n58)]) (c := (Tryz.f62.body).getD .skip) mixed Tryz.func62 (bC laws_toSeat_ok bN) (by kernel_rfl) (by kernel_rfl) (by kernel_rfl) ⟨nodeLoop (by kernel_rfl) laws_toSeatS_s58 (by kernel_rfl) (by intro d; kernel_rfl), trivial⟩ (by intro d; kernel_rfl)


/-! laws.toRowS -/
def laws_toRowS_s58 : t62 → Option (t62 ⊕ List (List t37))
  | (a, b, c) => (some (decide (c < (ln a)))).bind fun d => bif d then ix c a.length ((some (gx a c [])).bind fun e => (laws_toRow e).bind fun f => ix c b.length (lx c b.length (some (.inl (a, sx b c f, w64 (c + 1)))))) else some (.inr b)
def laws_toRowS_n58 : NEnt := ⟨⟨25, [⟨0, .one, [.dat kk2]⟩, ⟨3, .one, [.own true kk4]⟩, ⟨4, .one, [.dat kI]⟩]⟩, [(.exit 0, ⟨25, [⟨3, .one, [.own true kk4]⟩]⟩)], lp laws_toRowS_s58⟩
def laws_toRowS : List (List t37) → Option (List (List t37))
  | a => chk (decide (((ln a).toNat ≤ (ln a).toNat) ∧ (((ln a).toNat ≤ 4294967296) ∧ (((ln a).toNat * 24) ≤ 140737488355328)))) ((some (List.replicate (ln a).toNat [])).bind fun b => (lp laws_toRowS_s58 (a, b, 0)).bind fun c => some c)
def laws_toRowS_e : FEnt := ⟨23, [.tmp 2], [], [(.one, [.dat kk2])], ⟨25, [⟨2, .one, [.own true kk4]⟩]⟩, laws_toRowS⟩
theorem laws_toRowS_ok : FnOk Tryz.prog 129 laws_toRowS_e := fnOk_mk (tb := [(58, laws_toRowS_n58)]) (c := (Tryz.f129.body).getD .skip) mixed Tryz.func129 (bC laws_toRow_ok bN) (by kernel_rfl) (by kernel_rfl) (by kernel_rfl) ⟨nodeLoop (by kernel_rfl) laws_toRowS_s58 (by kernel_rfl) (by intro d; kernel_rfl), trivial⟩ (by intro d; kernel_rfl)


/-! laws.toRowSS -/
def laws_toRowSS_s58 : t63 → Option (t63 ⊕ List (List (List t37)))
  | (a, b, c) => (some (decide (c < (ln a)))).bind fun d => bif d then ix c a.length ((some (gx a c [])).bind fun e => (laws_toRowS e).bind fun f => ix c b.length (lx c b.length (some (.inl (a, sx b c f, w64 (c + 1)))))) else some (.inr b)
def laws_toRowSS_n58 : NEnt := ⟨⟨25, [⟨0, .one, [.dat kk0]⟩, ⟨3, .one, [.own true kk2]⟩, ⟨4, .one, [.dat kI]⟩]⟩, [(.exit 0, ⟨25, [⟨3, .one, [.own true kk2]⟩]⟩)], lp laws_toRowSS_s58⟩
def laws_toRowSS : List (List (List t37)) → Option (List (List (List t37)))
  | a => chk (decide (((ln a).toNat ≤ (ln a).toNat) ∧ (((ln a).toNat ≤ 4294967296) ∧ (((ln a).toNat * 24) ≤ 140737488355328)))) ((some (List.replicate (ln a).toNat [])).bind fun b => (lp laws_toRowSS_s58 (a, b, 0)).bind fun c => some c)
def laws_toRowSS_e : FEnt := ⟨23, [.tmp 2], [], [(.one, [.dat kk0])], ⟨25, [⟨2, .one, [.own true kk2]⟩]⟩, laws_toRowSS⟩
theorem laws_toRowSS_ok : FnOk Tryz.prog 63 laws_toRowSS_e := fnOk_mk (tb := [(58, laws_toRowSS_n58)]) (c := (Tryz.f63.body).getD .skip) mixed Tryz.func63 (bC laws_toRowS_ok bN) (by kernel_rfl) (by kernel_rfl) (by kernel_rfl) ⟨nodeLoop (by kernel_rfl) laws_toRowSS_s58 (by kernel_rfl) (by intro d; kernel_rfl), trivial⟩ (by intro d; kernel_rfl)


/-! laws.toTurn -/
def laws_toTurn : Int × Bool × List Int → Option (Int × Bool × List Int)
  | (a, b, c) => (laws_toIntS c).bind fun d => some (a, b, d)
def laws_toTurn_e : FEnt := ⟨15, [.cell 2 true 3], [], [(.agg, cc12)], ⟨17, [⟨2, .box, [.dat kI, .dat .bool, .own true kI]⟩]⟩, laws_toTurn⟩
theorem laws_toTurn_ok : FnOk Tryz.prog 130 laws_toTurn_e := fnOk_mk (tb := []) (c := (Tryz.f130.body).getD .skip) mixed Tryz.func130 (bC laws_toIntS_ok bN) (by kernel_rfl) (by kernel_rfl) (by kernel_rfl) trivial (by intro d; kernel_rfl)


/-! laws.toTurnS -/
def laws_toTurnS_s58 : t32 → Option (t32 ⊕ List (Int × Bool × List Int))
  | (a, b, c) => bif decide (c < (ln a)) then ix c a.length ((some (gx a c (0, false, []))).bind fun (d, e, f) => (laws_toTurn (d, e, f)).bind fun (g, h, i) => ix c b.length (lx c b.length (some (.inl (a, sx b c (g, h, i), w64 (c + 1)))))) else some (.inr b)
def laws_toTurnS_n58 : NEnt := ⟨⟨25, [⟨0, .one, [.dat kk8]⟩, ⟨3, .one, [.own true kk9]⟩, ⟨4, .one, [.dat kI]⟩]⟩, [(.exit 0, ⟨25, [⟨3, .one, [.own true kk9]⟩]⟩)], lp laws_toTurnS_s58⟩
def laws_toTurnS : List (Int × Bool × List Int) → Option (List (Int × Bool × List Int))
  | a => chk (decide (((ln a).toNat ≤ (ln a).toNat) ∧ (((ln a).toNat ≤ 4294967296) ∧ (((ln a).toNat * 40) ≤ 140737488355328)))) ((lp laws_toTurnS_s58 (a, List.replicate (ln a).toNat (0, false, []), 0)).bind fun b => some b)
def laws_toTurnS_e : FEnt := ⟨23, [.tmp 2], [], [(.one, [.dat kk8])], ⟨25, [⟨2, .one, [.own true kk9]⟩]⟩, laws_toTurnS⟩
theorem laws_toTurnS_ok : FnOk Tryz.prog 64 laws_toTurnS_e := fnOk_mk (tb := [(58, laws_toTurnS_n58)]) (c := (Tryz.f64.body).getD .skip) mixed Tryz.func64 (bC laws_toTurn_ok bN) (by kernel_rfl) (by kernel_rfl) (by kernel_rfl) ⟨nodeLoop (by kernel_rfl) laws_toTurnS_s58 (by kernel_rfl) (by intro d; kernel_rfl), trivial⟩ (by intro d; kernel_rfl)


/-! laws.toOut -/
def laws_toOut : t39 → Option t39
  | (a, b, c, d, e, f, g, h, i, j, k) => (laws_toEntry (b, c, d, e, f, g, h, i, j, k)).bind fun (l, m, n, o, p, q, r, s, t, u) => some (a, l, m, n, o, p, q, r, s, t, u)
def laws_toOut_e : FEnt := ⟨12, [.cell 2 true 11], [], [(.agg, cc3)], ⟨14, [⟨2, .box, [.dat kI, .dat kI, .dat kI, .own true (.pair kI kI), .dat kI, .dat kI, .dat kI, .dat kI, .own true kI, .own true kI, .own true (.list kI)]⟩]⟩, laws_toOut⟩
theorem laws_toOut_ok : FnOk Tryz.prog 131 laws_toOut_e := fnOk_mk (tb := []) (c := (Tryz.f131.body).getD .skip) mixed Tryz.func131 (bC laws_toEntry_ok bN) (by kernel_rfl) (by kernel_rfl) (by kernel_rfl) trivial (by intro d; kernel_rfl)


/-! laws.toOutS -/
def laws_toOutS_s58 : List t39 × t45 → Option (List t39 × t45 ⊕ List t39)
  | (a, b, c) => (some (decide (c < (ln a)))).bind fun d => bif d then ix c a.length ((some (gx a c (0, 0, 0, [], 0, 0, 0, 0, [], [], []))).bind fun (e, f, g, h, i, j, k, l, m, n, o) => (laws_toOut (e, f, g, h, i, j, k, l, m, n, o)).bind fun (p, q, r, s, t, u, v, w, x, y, z) => ix c b.length (lx c b.length ((some (sx b c (p, q, r, s, t, u, v, w, x, y, z))).bind fun a1 => some (.inl (a, a1, w64 (c + 1)))))) else some (.inr b)
def laws_toOutS_n58 : NEnt := ⟨⟨25, [⟨0, .one, [.dat kk1]⟩, ⟨3, .one, [.own true kk3]⟩, ⟨4, .one, [.dat kI]⟩]⟩, [(.exit 0, ⟨25, [⟨3, .one, [.own true kk3]⟩]⟩)], lp laws_toOutS_s58⟩
def laws_toOutS : List t39 → Option (List t39)
  | a => chk (decide (((ln a).toNat ≤ (ln a).toNat) ∧ (((ln a).toNat ≤ 4294967296) ∧ (((ln a).toNat * 152) ≤ 140737488355328)))) ((some (List.replicate (ln a).toNat (0, 0, 0, [], 0, 0, 0, 0, [], [], []))).bind fun b => (lp laws_toOutS_s58 (a, b, 0)).bind fun c => some c)
def laws_toOutS_e : FEnt := ⟨23, [.tmp 2], [], [(.one, [.dat kk1])], ⟨25, [⟨2, .one, [.own true kk3]⟩]⟩, laws_toOutS⟩
theorem laws_toOutS_ok : FnOk Tryz.prog 65 laws_toOutS_e := fnOk_mk (tb := [(58, laws_toOutS_n58)]) (c := (Tryz.f65.body).getD .skip) mixed Tryz.func65 (bC laws_toOut_ok bN) (by kernel_rfl) (by kernel_rfl) (by kernel_rfl) ⟨nodeLoop (by kernel_rfl) laws_toOutS_s58 (by kernel_rfl) (by intro d; kernel_rfl), trivial⟩ (by intro d; kernel_rfl)


/-! laws.toHouse -/
def laws_toHouse : t77 → Option t77
  | (a, b, c, d, e, f, g, h, i, j, k, l, m, n, o, p) => (laws_toConf (a, b, c, d, e, f, g, h)).bind fun (q, r, s, t, u, v, w, x) => (laws_toSeatS k).bind fun y => (laws_toRowSS l).bind fun z => (laws_toTurnS m).bind fun a1 => (laws_toEntryS o).bind fun b1 => (laws_toOutS p).bind fun c1 => some (q, r, s, t, u, v, w, x, i, j, y, z, a1, n, b1, c1)
def laws_toHouse_e : FEnt := ⟨38, [.cell 2 true 16], [], [(.agg, cc1)], ⟨40, [⟨2, .box, cc0⟩]⟩, laws_toHouse⟩
theorem laws_toHouse_ok : FnOk Tryz.prog 20 laws_toHouse_e := fnOk_mk (tb := []) (c := (Tryz.f20.body).getD .skip) mixed Tryz.func20 (bC laws_toConf_ok (bC laws_toSeatS_ok (bC laws_toRowSS_ok (bC laws_toTurnS_ok (bC laws_toEntryS_ok (bC laws_toOutS_ok bN)))))) (by kernel_rfl) (by kernel_rfl) (by kernel_rfl) trivial (by intro d; kernel_rfl)


/-! spec.l11Nums -/
def spec_l11Nums_s58 : List Int × Int × Int × Int → Option (List Int × Int × Int × Int ⊕ Bool ⊕ Unit)
  | (a, b, c, d) => bif decide (d < (ln a)) then ix d a.length ((spec_l1In (gx a d 0, b, c)).bind fun e => bif !e then some (.inr (.inl false)) else some (.inl (a, b, c, w64 (d + 1)))) else some (.inr (.inr ()))
def spec_l11Nums_n58 : NEnt := ⟨⟨31, [⟨0, .one, [.dat (.list kI)]⟩, ⟨1, .one, [.dat kI]⟩, ⟨2, .one, [.dat kI]⟩, ⟨7, .one, [.dat kI]⟩]⟩, [(.ret, ⟨31, [⟨6, .one, [.dat .bool]⟩]⟩), (.exit 0, ⟨31, []⟩)], lp spec_l11Nums_s58⟩
def spec_l11Nums : List Int × Int × Int → Option Bool
  | (a, b, c) => bif (ln a) != 3 then some false else bx (lp spec_l11Nums_s58 (a, b, c, 0)) (fun d => some d) fun _ => some true
def spec_l11Nums_e : FEnt := ⟨25, [.tmp 6], [], [(.one, [.dat (.list kI)]), (.one, [.dat kI]), (.one, [.dat kI])], ⟨31, [⟨6, .one, [.dat .bool]⟩]⟩, spec_l11Nums⟩
theorem spec_l11Nums_ok : FnOk Tryz.prog 177 spec_l11Nums_e := fnOk_mk (tb := [(58, spec_l11Nums_n58)]) (c := (Tryz.f177.body).getD .skip) mixed Tryz.func177 (bC spec_l1In_ok bN) (by kernel_rfl) (by kernel_rfl) (by kernel_rfl) ⟨nodeLoop (by kernel_rfl) spec_l11Nums_s58 (by kernel_rfl) (by intro d; kernel_rfl), trivial⟩ (by intro d; kernel_rfl)


/-! spec.ConfOk -/
def spec_ConfOk : t27 → Option Bool
  | (a, b, c, d, e, f, g, h) => (spec_l1In (a, 1, 8)).bind fun i => bif i then (spec_l1In (b, 1, 60)).bind fun j => bif j then (spec_l1In (c, 1, 10)).bind fun k => bif k then (spec_l11Nums (d, 1, 4)).bind fun l => bif l then (spec_l1In (e, 1, 100)).bind fun m => bif m then (spec_l1In (f, 1, 20)).bind fun n => bif n then (spec_l1In (g, 0, 20)).bind fun o => bif o then (spec_l1In (h, 1, 50)).bind fun p => some p else some false else some false else some false else some false else some false else some false else some false
def spec_ConfOk_e : FEnt := ⟨41, [.tmp 2], [], [(.agg, cc7)], ⟨43, [⟨2, .one, [.dat .bool]⟩]⟩, spec_ConfOk⟩
theorem spec_ConfOk_ok : FnOk Tryz.prog 120 spec_ConfOk_e := fnOk_mk (tb := []) (c := (Tryz.f120.body).getD .skip) mixed Tryz.func120 (bC spec_l1In_ok (bC spec_l11Nums_ok bN)) (by kernel_rfl) (by kernel_rfl) (by kernel_rfl) trivial (by intro d; kernel_rfl)


/-! spec.l8Below -/
def spec_l8Below_s58 : t7 → Option (t7 ⊕ Bool ⊕ Unit)
  | (a, b, c) => bif decide (c < (ln a)) then ix c a.length ((some (gx a c (0, 0))).bind fun (d, e) => bif decide (d < 1) then some (.inr (.inl false)) else ix c a.length ((some (gx a c (0, 0))).bind fun (f, g) => bif decide (g > b) then some (.inr (.inl false)) else some (.inl (a, b, w64 (c + 1))))) else some (.inr (.inr ()))
def spec_l8Below_n58 : NEnt := ⟨⟨34, [⟨0, .one, [.dat kk10]⟩, ⟨1, .one, [.dat kI]⟩, ⟨5, .one, [.dat kI]⟩]⟩, [(.ret, ⟨34, [⟨4, .one, [.dat .bool]⟩]⟩), (.exit 0, ⟨34, []⟩)], lp spec_l8Below_s58⟩
def spec_l8Below : t0 → Option Bool
  | (a, b) => (spec_SetOk a).bind fun c => bif !c then some false else bx (lp spec_l8Below_s58 (a, b, 0)) (fun d => some d) fun _ => some true
def spec_l8Below_e : FEnt := ⟨30, [.tmp 4], [], [(.one, [.dat kk10]), (.one, [.dat kI])], ⟨34, [⟨4, .one, [.dat .bool]⟩]⟩, spec_l8Below⟩
theorem spec_l8Below_ok : FnOk Tryz.prog 203 spec_l8Below_e := fnOk_mk (tb := [(58, spec_l8Below_n58)]) (c := (Tryz.f203.body).getD .skip) mixed Tryz.func203 (bC spec_SetOk_ok bN) (by kernel_rfl) (by kernel_rfl) (by kernel_rfl) ⟨nodeLoop (by kernel_rfl) spec_l8Below_s58 (by kernel_rfl) (by intro d; kernel_rfl), trivial⟩ (by intro d; kernel_rfl)


/-! spec.SetSize -/
def spec_SetSize_s122 : t7 → Option (t7 ⊕ Int)
  | (a, b, c) => bif decide (c < (ln a)) then ix c a.length ((some (gx a c (0, 0))).bind fun (d, e) => ix c a.length ((some (gx a c (0, 0))).bind fun (f, g) => some (.inl (a, w64 ((w64 ((w64 (b + e)) - f)) + 1), w64 (c + 1))))) else some (.inr b)
def spec_SetSize_n122 : NEnt := ⟨⟨32, [⟨0, .one, [.dat kk10]⟩, ⟨3, .one, [.dat kI]⟩, ⟨4, .one, [.dat kI]⟩]⟩, [(.exit 0, ⟨32, [⟨3, .one, [.dat kI]⟩]⟩)], lp spec_SetSize_s122⟩
def spec_SetSize : List (Int × Int) → Option Int
  | a => (spec_SetOk a).bind fun b => bif !b then some 0 else (lp spec_SetSize_s122 (a, 0, 0)).bind fun c => some c
def spec_SetSize_e : FEnt := ⟨30, [.tmp 2], [], [(.one, [.dat kk10])], ⟨32, [⟨2, .one, [.dat kI]⟩]⟩, spec_SetSize⟩
theorem spec_SetSize_ok : FnOk Tryz.prog 82 spec_SetSize_e := fnOk_mk (tb := [(122, spec_SetSize_n122)]) (c := (Tryz.f82.body).getD .skip) mixed Tryz.func82 (bC spec_SetOk_ok bN) (by kernel_rfl) (by kernel_rfl) (by kernel_rfl) ⟨nodeLoop (by kernel_rfl) spec_SetSize_s122 (by kernel_rfl) (by intro d; kernel_rfl), trivial⟩ (by intro d; kernel_rfl)


/-! spec.SeatOk -/
def spec_SeatOk : t19 × Int → Option Bool
  | ((a, b, c, d, e), f) => (spec_l1In (f, 1, 8)).bind fun g => bif g then (spec_l1In (a, 0, 1000)).bind fun h => bif h then (spec_l1In (b, 0, 60)).bind fun i => bif i then (spec_l8Below (c, b)).bind fun j => bif j then (spec_SetSize c).bind fun k => (spec_l1In (d, 0, k)).bind fun l => bif l then bif decide (b ≤ (w64 (d + f))) then (spec_l1In (e, 0, 1000000)).bind fun m => some m else some false else some false else some false else some false else some false else some false
def spec_SeatOk_e : FEnt := ⟨46, [.tmp 4], [], [(.agg, cc11), (.one, [.dat kI])], ⟨50, [⟨4, .one, [.dat .bool]⟩]⟩, spec_SeatOk⟩
theorem spec_SeatOk_ok : FnOk Tryz.prog 178 spec_SeatOk_e := fnOk_mk (tb := []) (c := (Tryz.f178.body).getD .skip) mixed Tryz.func178 (bC spec_l1In_ok (bC spec_l8Below_ok (bC spec_SetSize_ok bN))) (by kernel_rfl) (by kernel_rfl) (by kernel_rfl) trivial (by intro d; kernel_rfl)


/-! spec.RowIds -/
def spec_RowIds_s122 : List t37 × t0 → Option (List t37 × t0 ⊕ List (Int × Int))
  | (a, b, c) => (some (decide (c < (ln a)))).bind fun d => bif d then ix c a.length ((some (gx a c (0, 0, [], 0, 0, 0, 0, [], [], []))).bind fun (e, f, g, h, i, j, k, l, m, n) => (spec_l5Join (b, g)).bind fun o => some (.inl (a, o, w64 (c + 1)))) else some (.inr b)
def spec_RowIds_n122 : NEnt := ⟨⟨28, [⟨1, .box, [.dat kk4]⟩, ⟨3, .one, cc14⟩, ⟨4, .one, [.dat kI]⟩]⟩, [(.exit 0, ⟨28, [⟨3, .one, cc14⟩]⟩)], lp spec_RowIds_s122⟩
def spec_RowIds : List t37 → Option (List (Int × Int))
  | a => (spec_RowOk a).bind fun b => bif !b then some [] else (lp spec_RowIds_s122 (a, [], 0)).bind fun c => some c
def spec_RowIds_e : FEnt := ⟨26, [.tmp 2], [], [(.agg, [.dat kk4])], ⟨28, [⟨2, .one, cc14⟩]⟩, spec_RowIds⟩
theorem spec_RowIds_ok : FnOk Tryz.prog 179 spec_RowIds_e := fnOk_mk (tb := [(122, spec_RowIds_n122)]) (c := (Tryz.f179.body).getD .skip) mixed Tryz.func179 (bC spec_RowOk_ok (bC spec_l5Join_ok bN)) (by kernel_rfl) (by kernel_rfl) (by kernel_rfl) ⟨nodeLoop (by kernel_rfl) spec_RowIds_s122 (by kernel_rfl) (by intro d; kernel_rfl), trivial⟩ (by intro d; kernel_rfl)


/-! spec.l12Of -/
def spec_l12Of_s58 : List (Int × Int) × Int × Int × Int → Option (List (Int × Int) × Int × Int × Int ⊕ Int)
  | (a, b, c, d) => bif decide (d < (ln a)) then ix d a.length ((some (gx a d (0, 0))).bind fun (e, f) => (spec_l1Max (e, w64 ((w64 (100 * b)) + 1))).bind fun g => ix d a.length ((some (gx a d (0, 0))).bind fun (h, i) => (spec_l1Min (i, w64 ((w64 (100 * b)) + 60))).bind fun j => (spec_l1Max (w64 ((w64 (j - g)) + 1), 0)).bind fun k => some (.inl (a, b, w64 (c + k), w64 (d + 1))))) else some (.inr c)
def spec_l12Of_n58 : NEnt := ⟨⟨45, [⟨0, .one, [.dat kk10]⟩, ⟨1, .one, [.dat kI]⟩, ⟨5, .one, [.dat kI]⟩, ⟨6, .one, [.dat kI]⟩]⟩, [(.exit 0, ⟨45, [⟨5, .one, [.dat kI]⟩]⟩)], lp spec_l12Of_s58⟩
def spec_l12Of : t0 → Option Int
  | (a, b) => (lp spec_l12Of_s58 (a, b, 0, 0)).bind fun c => some c
def spec_l12Of_e : FEnt := ⟨41, [.tmp 4], [], [(.one, [.dat kk10]), (.one, [.dat kI])], ⟨45, [⟨4, .one, [.dat kI]⟩]⟩, spec_l12Of⟩
theorem spec_l12Of_ok : FnOk Tryz.prog 126 spec_l12Of_e := fnOk_mk (tb := [(58, spec_l12Of_n58)]) (c := (Tryz.f126.body).getD .skip) mixed Tryz.func126 (bC spec_l1Max_ok (bC spec_l1Min_ok bN)) (by kernel_rfl) (by kernel_rfl) (by kernel_rfl) ⟨nodeLoop (by kernel_rfl) spec_l12Of_s58 (by kernel_rfl) (by intro d; kernel_rfl), trivial⟩ (by intro d; kernel_rfl)


/-! spec.l6Agent -/
def spec_l6Agent : Int → Option Bool
  | a => (spec_l1In (a, 0, 2)).bind fun b => some b
def spec_l6Agent_e : FEnt := ⟨5, [.tmp 2], [], [(.one, [.dat kI])], ⟨7, [⟨2, .one, [.dat .bool]⟩]⟩, spec_l6Agent⟩
theorem spec_l6Agent_ok : FnOk Tryz.prog 204 spec_l6Agent_e := fnOk_mk (tb := []) (c := (Tryz.f204.body).getD .skip) mixed Tryz.func204 (bC spec_l1In_ok bN) (by kernel_rfl) (by kernel_rfl) (by kernel_rfl) trivial (by intro d; kernel_rfl)


/-! spec.TurnOk -/
def spec_TurnOk : Int × Bool × List Int → Option Bool
  | (a, b, c) => (spec_l6Agent a).bind fun d => bif d then (spec_l11Nums (c, 0, 1000)).bind fun e => some e else some false
def spec_TurnOk_e : FEnt := ⟨11, [.tmp 2], [], [(.agg, cc12)], ⟨13, [⟨2, .one, [.dat .bool]⟩]⟩, spec_TurnOk⟩
theorem spec_TurnOk_ok : FnOk Tryz.prog 180 spec_TurnOk_e := fnOk_mk (tb := []) (c := (Tryz.f180.body).getD .skip) mixed Tryz.func180 (bC spec_l6Agent_ok (bC spec_l11Nums_ok bN)) (by kernel_rfl) (by kernel_rfl) (by kernel_rfl) trivial (by intro d; kernel_rfl)


/-! spec.l12Parts -/
def spec_l12Parts_s7462 : t77 × Int × Int × Unit × t65 → Option (t77 × Int × Int × Unit × t65 ⊕ Bool ⊕ t77 × Int × Unit × t65)
  | ((a, b, c, d, e, f, g, h, i, j, k, l, m, n, o, p), q, r, _, s, t, (u, _), v, w, x) => bif decide (r < 2) then ix q l.length ((some (gx l q [])).bind fun y => ix r y.length ((some (gx y r [])).bind fun z => (spec_RowIds z).bind fun a1 => ix q l.length ((some (gx l q [])).bind fun b1 => ix r b1.length ((some (gx b1 r [])).bind fun c1 => (spec_RowOk c1).bind fun d1 => bif !d1 then some (.inr (.inl false)) else (spec_l12Of (a1, q)).bind fun e1 => (spec_SetSize a1).bind fun f1 => bif e1 != f1 then some (.inr (.inl false)) else some (.inl ((a, b, c, d, e, f, g, h, i, j, k, l, m, n, o, p), q, w64 (r + 1), (), s, t, (u, ()), v, w, x)))))) else some (.inr (.inr ((a, b, c, d, e, f, g, h, i, j, k, l, m, n, o, p), q, (), s, t, (u, ()), v, w, x)))
def spec_l12Parts_n7462 : NEnt := ⟨⟨102, [⟨1, .box, cc1⟩, ⟨3, .one, [.dat kI]⟩, ⟨4, .one, [.dat kI]⟩, ⟨50, .one, [.bptr 1 11]⟩, ⟨51, .one, [.dat kk0]⟩, ⟨52, .one, [.dat kI]⟩, ⟨53, .one, [.pim [kk2] 0]⟩, ⟨54, .one, [.dat kk2]⟩, ⟨55, .one, [.dat kI]⟩, ⟨56, .one, [.dat .bool]⟩]⟩, [(.ret, ⟨102, [⟨2, .one, [.dat .bool]⟩]⟩), (.exit 2, ⟨102, [⟨1, .box, cc1⟩, ⟨3, .one, [.dat kI]⟩, ⟨50, .one, [.bptr 1 11]⟩, ⟨51, .one, [.dat kk0]⟩, ⟨52, .one, [.dat kI]⟩, ⟨53, .one, [.pim [kk2] 0]⟩, ⟨54, .one, [.dat kk2]⟩, ⟨55, .one, [.dat kI]⟩, ⟨56, .one, [.dat .bool]⟩]⟩)], lp spec_l12Parts_s7462⟩
def spec_l12Parts_s58 : t78 → Option (t78 ⊕ Bool ⊕ t77)
  | ((a, b, c, d, e, f, g, h, i, j, k, l, m, n, o, p), q) => bif decide (q < 3) then ix q k.length ((some (gx k q (0, 0, [], 0, 0))).bind fun (r, s, t, u, v) => (spec_SeatOk ((r, s, t, u, v), a)).bind fun w => bif !w then some (.inr (.inl false)) else ix q l.length ((some (gx l q [])).bind fun x => bif (ln x) != 2 then some (.inr (.inl false)) else bx (lp spec_l12Parts_s7462 ((a, b, c, d, e, f, g, h, i, j, k, l, m, n, o, p), q, 0, (), l, q, (gx l q [], ()), x, ln x, (ln x) != 2)) (fun y => some (.inr (.inl y))) fun ((y, z, a1, b1, c1, d1, e1, f1, g1, h1, i1, j1, k1, l1, m1, n1), o1, _, p1, q1, (r1, _), s1, t1, u1) => some (.inl ((y, z, a1, b1, c1, d1, e1, f1, g1, h1, i1, j1, k1, l1, m1, n1), w64 (o1 + 1))))) else some (.inr (.inr (a, b, c, d, e, f, g, h, i, j, k, l, m, n, o, p)))
def spec_l12Parts_n58 : NEnt := ⟨⟨102, [⟨1, .box, cc1⟩, ⟨3, .one, [.dat kI]⟩]⟩, [(.ret, ⟨102, [⟨2, .one, [.dat .bool]⟩]⟩), (.exit 0, ⟨102, [⟨1, .box, cc1⟩]⟩)], lp spec_l12Parts_s58⟩
def spec_l12Parts_s122 : t78 → Option (t78 ⊕ Bool ⊕ Unit)
  | ((a, b, c, d, e, f, g, h, i, j, k, l, m, n, o, p), q) => bif decide (q < 2) then ix q m.length ((some (gx m q (0, false, []))).bind fun (r, s, t) => (spec_TurnOk (r, s, t)).bind fun u => bif !u then some (.inr (.inl false)) else some (.inl ((a, b, c, d, e, f, g, h, i, j, k, l, m, n, o, p), w64 (q + 1)))) else some (.inr (.inr ()))
def spec_l12Parts_n122 : NEnt := ⟨⟨102, [⟨1, .box, cc1⟩, ⟨6, .one, [.dat kI]⟩]⟩, [(.ret, ⟨102, [⟨2, .one, [.dat .bool]⟩]⟩), (.exit 4, ⟨102, []⟩)], lp spec_l12Parts_s122⟩
def spec_l12Parts : t77 → Option Bool
  | (a, b, c, d, e, f, g, h, i, j, k, l, m, n, o, p) => bif (ln k) != 3 then some false else bif (ln l) != 3 then some false else bif (ln m) != 2 then some false else (spec_l1In (n, 0, 1000)).bind fun q => bif !q then some false else (spec_l1In (i, 0, 100000)).bind fun r => bif !r then some false else bx (lp spec_l12Parts_s58 ((a, b, c, d, e, f, g, h, i, j, k, l, m, n, o, p), 0)) (fun s => some s) fun (s, t, u, v, w, x, y, z, a1, b1, c1, d1, e1, f1, g1, h1) => bx (lp spec_l12Parts_s122 ((s, t, u, v, w, x, y, z, a1, b1, c1, d1, e1, f1, g1, h1), 0)) (fun i1 => some i1) fun _ => some true
def spec_l12Parts_e : FEnt := ⟨100, [.tmp 2], [], [(.agg, cc1)], ⟨102, [⟨2, .one, [.dat .bool]⟩]⟩, spec_l12Parts⟩
theorem spec_l12Parts_ok : FnOk Tryz.prog 121 spec_l12Parts_e := fnOk_mk (tb := [(122, spec_l12Parts_n122), (7462, spec_l12Parts_n7462), (58, spec_l12Parts_n58)]) (c := (Tryz.f121.body).getD .skip) mixed Tryz.func121 (bC spec_l1In_ok (bC spec_SeatOk_ok (bC spec_RowIds_ok (bC spec_RowOk_ok (bC spec_l12Of_ok (bC spec_SetSize_ok (bC spec_TurnOk_ok bN))))))) (by kernel_rfl) (by kernel_rfl) (by kernel_rfl) ⟨nodeLoop (by kernel_rfl) spec_l12Parts_s122 (by kernel_rfl) (by intro d; kernel_rfl), nodeLoop (by kernel_rfl) spec_l12Parts_s7462 (by kernel_rfl) (by intro d; kernel_rfl), nodeLoop (by kernel_rfl) spec_l12Parts_s58 (by kernel_rfl) (by intro d; kernel_rfl), trivial⟩ (by intro d; kernel_rfl)


/-! spec.l1Bit -/
def spec_l1Bit : Bool → Option Int
  | a => bif a then some 1 else some 0
def spec_l1Bit_e : FEnt := ⟨4, [.tmp 2], [], [(.one, [.dat .bool])], ⟨6, [⟨2, .one, [.dat kI]⟩]⟩, spec_l1Bit⟩
theorem spec_l1Bit_ok : FnOk Tryz.prog 60 spec_l1Bit_e := fnOk_mk (tb := []) (c := (Tryz.f60.body).getD .skip) mixed Tryz.func60 bN (by kernel_rfl) (by kernel_rfl) (by kernel_rfl) trivial (by intro d; kernel_rfl)


/-! spec.l12Gen -/
def spec_l12Gen_s58 : List t39 × Int × Int × Int × Int → Option (List t39 × Int × Int × Int × Int ⊕ Int)
  | (a, b, c, d, e) => (some (decide (e < (ln a)))).bind fun f => bif f then ix e a.length ((some (gx a e (0, 0, 0, [], 0, 0, 0, 0, [], [], []))).bind fun (g, h, i, j, k, l, m, n, o, p, q) => bif h == b then ix e a.length ((some (gx a e (0, 0, 0, [], 0, 0, 0, 0, [], [], []))).bind fun (r, s, t, u, v, w, x, y, z, a1, b1) => (spec_l1Bit (t == c)).bind fun c1 => some (.inl (a, b, c, w64 (d + c1), w64 (e + 1)))) else (spec_l1Bit false).bind fun r => some (.inl (a, b, c, w64 (d + r), w64 (e + 1)))) else some (.inr d)
def spec_l12Gen_n58 : NEnt := ⟨⟨43, [⟨0, .one, [.dat kk1]⟩, ⟨1, .one, [.dat kI]⟩, ⟨2, .one, [.dat kI]⟩, ⟨7, .one, [.dat kI]⟩, ⟨8, .one, [.dat kI]⟩]⟩, [(.exit 0, ⟨43, [⟨7, .one, [.dat kI]⟩]⟩)], lp spec_l12Gen_s58⟩
def spec_l12Gen : t49 → Option Int
  | (a, b, c) => (lp spec_l12Gen_s58 (a, b, c, 0, 0)).bind fun d => some d
def spec_l12Gen_e : FEnt := ⟨37, [.tmp 6], [], [(.one, [.dat kk1]), (.one, [.dat kI]), (.one, [.dat kI])], ⟨43, [⟨6, .one, [.dat kI]⟩]⟩, spec_l12Gen⟩
theorem spec_l12Gen_ok : FnOk Tryz.prog 181 spec_l12Gen_e := fnOk_mk (tb := [(58, spec_l12Gen_n58)]) (c := (Tryz.f181.body).getD .skip) mixed Tryz.func181 (bC spec_l1Bit_ok bN) (by kernel_rfl) (by kernel_rfl) (by kernel_rfl) ⟨nodeLoop (by kernel_rfl) spec_l12Gen_s58 (by kernel_rfl) (by intro d; kernel_rfl), trivial⟩ (by intro d; kernel_rfl)


/-! spec.l12Root -/
def spec_l12Root_s26 : t78 → Option (t78 ⊕ Bool ⊕ t77)
  | ((a, b, c, d, e, f, g, h, i, j, k, l, m, n, o, p), q) => (some (decide (q < (ln o)))).bind fun r => bif r then ix q o.length ((some (gx o q (0, 0, [], 0, 0, 0, 0, [], [], []))).bind fun (s, t, u, v, w, x, y, z, a1, b1) => (spec_EntryOk (s, t, u, v, w, x, y, z, a1, b1)).bind fun c1 => bif !c1 then some (.inr (.inl false)) else bif decide (q > 0) then ix (w64 (q - 1)) o.length ((some (gx o (w64 (q - 1)) (0, 0, [], 0, 0, 0, 0, [], [], []))).bind fun (d1, e1, f1, g1, h1, i1, j1, k1, l1, m1) => bif decide (s < d1) then some (.inr (.inl false)) else ix (w64 (q - 1)) o.length ((some (gx o (w64 (q - 1)) (0, 0, [], 0, 0, 0, 0, [], [], []))).bind fun (n1, o1, p1, q1, r1, s1, t1, u1, v1, w1) => bif s == n1 then ix (w64 (q - 1)) o.length ((some (gx o (w64 (q - 1)) (0, 0, [], 0, 0, 0, 0, [], [], []))).bind fun (x1, y1, z1, a2, b2, c2, d2, e2, f2, g2) => bif decide (t ≤ y1) then some (.inr (.inl false)) else some (.inl ((a, b, c, d, e, f, g, h, i, j, k, l, m, n, o, p), w64 (q + 1)))) else some (.inl ((a, b, c, d, e, f, g, h, i, j, k, l, m, n, o, p), w64 (q + 1))))) else some (.inl ((a, b, c, d, e, f, g, h, i, j, k, l, m, n, o, p), w64 (q + 1)))) else some (.inr (.inr (a, b, c, d, e, f, g, h, i, j, k, l, m, n, o, p)))
def spec_l12Root_n26 : NEnt := ⟨⟨104, [⟨1, .box, cc1⟩, ⟨3, .one, [.dat kI]⟩]⟩, [(.ret, ⟨104, [⟨2, .one, [.dat .bool]⟩]⟩), (.exit 0, ⟨104, [⟨1, .box, cc1⟩]⟩)], lp spec_l12Root_s26⟩
def spec_l12Root_s58 : t78 → Option (t78 ⊕ Bool ⊕ Unit)
  | ((a, b, c, d, e, f, g, h, i, j, k, l, m, n, o, p), q) => (some (decide (q < (ln p)))).bind fun r => bif r then ix q p.length ((some (gx p q (0, 0, 0, [], 0, 0, 0, 0, [], [], []))).bind fun (s, t, u, v, w, x, y, z, a1, b1, c1) => (spec_EntryOk (t, u, v, w, x, y, z, a1, b1, c1)).bind fun d1 => bif !d1 then some (.inr (.inl false)) else ix q p.length ((some (gx p q (0, 0, 0, [], 0, 0, 0, 0, [], [], []))).bind fun (e1, f1, g1, h1, i1, j1, k1, l1, m1, n1, o1) => g0 q (chk (decide ((0 ≤ q.toNat) ∧ (q.toNat ≤ p.length))) (ix q p.length ((some (gx p q (0, 0, 0, [], 0, 0, 0, 0, [], [], []))).bind fun (p1, q1, r1, s1, t1, u1, v1, w1, x1, y1, z1) => ix q p.length ((some (gx p q (0, 0, 0, [], 0, 0, 0, 0, [], [], []))).bind fun (a2, b2, c2, d2, e2, f2, g2, h2, i2, j2, k2) => (spec_l12Gen (List.take q.toNat p, q1, c2)).bind fun l2 => bif e1 != l2 then some (.inr (.inl false)) else some (.inl ((a, b, c, d, e, f, g, h, i, j, k, l, m, n, o, p), w64 (q + 1))))))))) else some (.inr (.inr ()))
def spec_l12Root_n58 : NEnt := ⟨⟨104, [⟨1, .box, cc1⟩, ⟨5, .one, [.dat kI]⟩]⟩, [(.ret, ⟨104, [⟨2, .one, [.dat .bool]⟩]⟩), (.exit 2, ⟨104, []⟩)], lp spec_l12Root_s58⟩
def spec_l12Root : t77 → Option Bool
  | (a, b, c, d, e, f, g, h, i, j, k, l, m, n, o, p) => bx (lp spec_l12Root_s26 ((a, b, c, d, e, f, g, h, i, j, k, l, m, n, o, p), 0)) (fun q => some q) fun (q, r, s, t, u, v, w, x, y, z, a1, b1, c1, d1, e1, f1) => bx (lp spec_l12Root_s58 ((q, r, s, t, u, v, w, x, y, z, a1, b1, c1, d1, e1, f1), 0)) (fun g1 => some g1) fun _ => some true
def spec_l12Root_e : FEnt := ⟨102, [.tmp 2], [], [(.agg, cc1)], ⟨104, [⟨2, .one, [.dat .bool]⟩]⟩, spec_l12Root⟩
theorem spec_l12Root_ok : FnOk Tryz.prog 122 spec_l12Root_e := fnOk_mk (tb := [(58, spec_l12Root_n58), (26, spec_l12Root_n26)]) (c := (Tryz.f122.body).getD .skip) mixed Tryz.func122 (bC spec_EntryOk_ok (bC spec_l12Gen_ok bN)) (by kernel_rfl) (by kernel_rfl) (by kernel_rfl) ⟨nodeLoop (by kernel_rfl) spec_l12Root_s58 (by kernel_rfl) (by intro d; kernel_rfl), nodeLoop (by kernel_rfl) spec_l12Root_s26 (by kernel_rfl) (by intro d; kernel_rfl), trivial⟩ (by intro d; kernel_rfl)


/-! spec.l12All -/
def spec_l12All_s3730 : t77 × t44 → Option (t77 × t44 ⊕ t77 × t40)
  | ((a, b, c, d, e, f, g, h, i, j, k, l, m, n, o, p), q, r, s) => ix r l.length ((some (gx l r [])).bind fun t => (some (decide (s < (ln t)))).bind fun u => bif u then ix r l.length ((some (gx l r [])).bind fun v => ix s v.length ((some (gx v s [])).bind fun w => chk (fits (q.length + w.length) 144) ((some (q ++ w)).bind fun x => some (.inl ((a, b, c, d, e, f, g, h, i, j, k, l, m, n, o, p), x, r, w64 (s + 1)))))) else some (.inr ((a, b, c, d, e, f, g, h, i, j, k, l, m, n, o, p), q, r)))
def spec_l12All_n3730 : NEnt := ⟨⟨59, [⟨1, .box, cc1⟩, ⟨3, .one, [.own false kk5]⟩, ⟨4, .one, [.dat kI]⟩, ⟨5, .one, [.dat kI]⟩]⟩, [(.exit 2, ⟨59, [⟨1, .box, cc1⟩, ⟨3, .one, [.own false kk5]⟩, ⟨4, .one, [.dat kI]⟩]⟩)], lp spec_l12All_s3730⟩
def spec_l12All_s58 : t77 × t40 → Option (t77 × t40 ⊕ t77 × List t37)
  | ((a, b, c, d, e, f, g, h, i, j, k, l, m, n, o, p), q, r) => (some (decide (r < (ln l)))).bind fun s => bif s then (lp spec_l12All_s3730 ((a, b, c, d, e, f, g, h, i, j, k, l, m, n, o, p), q, r, 0)).bind fun ((t, u, v, w, x, y, z, a1, b1, c1, d1, e1, f1, g1, h1, i1), j1, k1) => some (.inl ((t, u, v, w, x, y, z, a1, b1, c1, d1, e1, f1, g1, h1, i1), j1, w64 (k1 + 1))) else some (.inr ((a, b, c, d, e, f, g, h, i, j, k, l, m, n, o, p), q))
def spec_l12All_n58 : NEnt := ⟨⟨59, [⟨1, .box, cc1⟩, ⟨3, .one, [.own false kk5]⟩, ⟨4, .one, [.dat kI]⟩]⟩, [(.exit 0, ⟨59, [⟨1, .box, cc1⟩, ⟨3, .one, [.own false kk5]⟩]⟩)], lp spec_l12All_s58⟩
def spec_l12All_s250 : t77 × t40 → Option (t77 × t40 ⊕ List t37)
  | ((a, b, c, d, e, f, g, h, i, j, k, l, m, n, o, p), q, r) => (some (decide (r < (ln p)))).bind fun s => bif s then ix r p.length ((some (gx p r (0, 0, 0, [], 0, 0, 0, 0, [], [], []))).bind fun (t, u, v, w, x, y, z, a1, b1, c1, d1) => (some [(u, v, w, x, y, z, a1, b1, c1, d1)]).bind fun e1 => chk (fits (q.length + e1.length) 144) ((some (q ++ e1)).bind fun f1 => some (.inl ((a, b, c, d, e, f, g, h, i, j, k, l, m, n, o, p), f1, w64 (r + 1))))) else some (.inr q)
def spec_l12All_n250 : NEnt := ⟨⟨59, [⟨1, .box, cc1⟩, ⟨3, .one, [.own false kk5]⟩, ⟨6, .one, [.dat kI]⟩]⟩, [(.exit 4, ⟨59, [⟨3, .one, [.own false kk5]⟩]⟩)], lp spec_l12All_s250⟩
def spec_l12All : t77 → Option (List t37)
  | (a, b, c, d, e, f, g, h, i, j, k, l, m, n, o, p) => (lp spec_l12All_s58 ((a, b, c, d, e, f, g, h, i, j, k, l, m, n, o, p), [], 0)).bind fun ((q, r, s, t, u, v, w, x, y, z, a1, b1, c1, d1, e1, f1), g1) => chk (fits (g1.length + e1.length) 144) ((some (g1 ++ e1)).bind fun h1 => (lp spec_l12All_s250 ((q, r, s, t, u, v, w, x, y, z, a1, b1, c1, d1, e1, f1), h1, 0)).bind fun i1 => some i1)
def spec_l12All_e : FEnt := ⟨57, [.tmp 2], [], [(.agg, cc1)], ⟨59, [⟨2, .one, [.own false kk5]⟩]⟩, spec_l12All⟩
theorem spec_l12All_ok : FnOk Tryz.prog 72 spec_l12All_e := fnOk_mk (tb := [(250, spec_l12All_n250), (3730, spec_l12All_n3730), (58, spec_l12All_n58)]) (c := (Tryz.f72.body).getD .skip) mixed Tryz.func72 bN (by kernel_rfl) (by kernel_rfl) (by kernel_rfl) ⟨nodeLoop (by kernel_rfl) spec_l12All_s250 (by kernel_rfl) (by intro d; kernel_rfl), nodeLoop (by kernel_rfl) spec_l12All_s3730 (by kernel_rfl) (by intro d; kernel_rfl), nodeLoop (by kernel_rfl) spec_l12All_s58 (by kernel_rfl) (by intro d; kernel_rfl), trivial⟩ (by intro d; kernel_rfl)


/-! spec.l12Taken -/
def spec_l12Taken_s3730 : t77 × t7 → Option (t77 × t7 ⊕ t77 × t0)
  | ((a, b, c, d, e, f, g, h, i, j, k, l, m, n, o, p), q, r, s) => ix r k.length ((some (gx k r (0, 0, [], 0, 0))).bind fun (t, u, v, w, x) => bif decide (s < (ln v)) then ix r k.length ((some (gx k r (0, 0, [], 0, 0))).bind fun (y, z, a1, b1, c1) => ix s a1.length ((some (gx a1 s (0, 0))).bind fun (d1, e1) => (spec_l5Put (q, w64 ((w64 (100 * r)) + d1), w64 ((w64 (100 * r)) + e1))).bind fun f1 => some (.inl ((a, b, c, d, e, f, g, h, i, j, k, l, m, n, o, p), f1, r, w64 (s + 1))))) else some (.inr ((a, b, c, d, e, f, g, h, i, j, k, l, m, n, o, p), q, r)))
def spec_l12Taken_n3730 : NEnt := ⟨⟨51, [⟨1, .box, cc1⟩, ⟨3, .one, cc14⟩, ⟨4, .one, [.dat kI]⟩, ⟨5, .one, [.dat kI]⟩]⟩, [(.exit 2, ⟨51, [⟨1, .box, cc1⟩, ⟨3, .one, cc14⟩, ⟨4, .one, [.dat kI]⟩]⟩)], lp spec_l12Taken_s3730⟩
def spec_l12Taken_s58 : t77 × t0 → Option (t77 × t0 ⊕ List (Int × Int))
  | ((a, b, c, d, e, f, g, h, i, j, k, l, m, n, o, p), q, r) => bif decide (r < (ln k)) then (lp spec_l12Taken_s3730 ((a, b, c, d, e, f, g, h, i, j, k, l, m, n, o, p), q, r, 0)).bind fun ((s, t, u, v, w, x, y, z, a1, b1, c1, d1, e1, f1, g1, h1), i1, j1) => some (.inl ((s, t, u, v, w, x, y, z, a1, b1, c1, d1, e1, f1, g1, h1), i1, w64 (j1 + 1))) else some (.inr q)
def spec_l12Taken_n58 : NEnt := ⟨⟨51, [⟨1, .box, cc1⟩, ⟨3, .one, cc14⟩, ⟨4, .one, [.dat kI]⟩]⟩, [(.exit 0, ⟨51, [⟨3, .one, cc14⟩]⟩)], lp spec_l12Taken_s58⟩
def spec_l12Taken : t77 → Option (List (Int × Int))
  | (a, b, c, d, e, f, g, h, i, j, k, l, m, n, o, p) => (lp spec_l12Taken_s58 ((a, b, c, d, e, f, g, h, i, j, k, l, m, n, o, p), [], 0)).bind fun q => some q
def spec_l12Taken_e : FEnt := ⟨49, [.tmp 2], [], [(.agg, cc1)], ⟨51, [⟨2, .one, cc14⟩]⟩, spec_l12Taken⟩
theorem spec_l12Taken_ok : FnOk Tryz.prog 125 spec_l12Taken_e := fnOk_mk (tb := [(3730, spec_l12Taken_n3730), (58, spec_l12Taken_n58)]) (c := (Tryz.f125.body).getD .skip) mixed Tryz.func125 (bC spec_l5Put_ok bN) (by kernel_rfl) (by kernel_rfl) (by kernel_rfl) ⟨nodeLoop (by kernel_rfl) spec_l12Taken_s3730 (by kernel_rfl) (by intro d; kernel_rfl), nodeLoop (by kernel_rfl) spec_l12Taken_s58 (by kernel_rfl) (by intro d; kernel_rfl), trivial⟩ (by intro d; kernel_rfl)


/-! spec.l5Same -/
def spec_l5Same_s58 : t21 → Option (t21 ⊕ Bool ⊕ Unit)
  | (a, b, c) => bif decide (c < (ln a)) then ix c a.length ((some (gx a c (0, 0))).bind fun (d, e) => ix c b.length ((some (gx b c (0, 0))).bind fun (f, g) => bif !((d == f) && ((e == g) && true)) then some (.inr (.inl false)) else some (.inl (a, b, w64 (c + 1))))) else some (.inr (.inr ()))
def spec_l5Same_n58 : NEnt := ⟨⟨30, [⟨0, .one, [.dat kk10]⟩, ⟨1, .one, [.dat kk10]⟩, ⟨5, .one, [.dat kI]⟩]⟩, [(.ret, ⟨30, [⟨4, .one, [.dat .bool]⟩]⟩), (.exit 0, ⟨30, []⟩)], lp spec_l5Same_s58⟩
def spec_l5Same : t14 → Option Bool
  | (a, b) => bif (ln a) != (ln b) then some false else bx (lp spec_l5Same_s58 (a, b, 0)) (fun c => some c) fun _ => some true
def spec_l5Same_e : FEnt := ⟨26, [.tmp 4], [], [(.one, [.dat kk10]), (.one, [.dat kk10])], ⟨30, [⟨4, .one, [.dat .bool]⟩]⟩, spec_l5Same⟩
theorem spec_l5Same_ok : FnOk Tryz.prog 124 spec_l5Same_e := fnOk_mk (tb := [(58, spec_l5Same_n58)]) (c := (Tryz.f124.body).getD .skip) mixed Tryz.func124 bN (by kernel_rfl) (by kernel_rfl) (by kernel_rfl) ⟨nodeLoop (by kernel_rfl) spec_l5Same_s58 (by kernel_rfl) (by intro d; kernel_rfl), trivial⟩ (by intro d; kernel_rfl)


/-! spec.HouseOk -/
def spec_HouseOk_s250 : t77 × t55 → Option (t77 × t55 ⊕ Bool ⊕ t77 × List (Int × Int))
  | ((a, b, c, d, e, f, g, h, i, j, k, l, m, n, o, p), q, r, s) => (some (decide (s < (ln r)))).bind fun t => bif t then ix s r.length (lx s r.length ((some (gx r s (0, 0, [], 0, 0, 0, 0, [], [], []))).bind fun (u, v, w, x, y, z, a1, b1, c1, d1) => (spec_SetApart (q, w)).bind fun e1 => bif !e1 then some (.inr (.inl false)) else ix s r.length (lx s r.length ((some (gx r s (0, 0, [], 0, 0, 0, 0, [], [], []))).bind fun (f1, g1, h1, i1, j1, k1, l1, m1, n1, o1) => (spec_l5Join (q, h1)).bind fun p1 => some (.inl ((a, b, c, d, e, f, g, h, i, j, k, l, m, n, o, p), p1, r, w64 (s + 1))))))) else some (.inr (.inr ((a, b, c, d, e, f, g, h, i, j, k, l, m, n, o, p), q)))
def spec_HouseOk_n250 : NEnt := ⟨⟨102, [⟨1, .box, cc1⟩, ⟨3, .one, cc14⟩, ⟨4, .one, [.own false kk5]⟩, ⟨5, .one, [.dat kI]⟩]⟩, [(.ret, ⟨102, [⟨2, .one, [.dat .bool]⟩]⟩), (.exit 0, ⟨102, [⟨1, .box, cc1⟩, ⟨3, .one, cc14⟩]⟩)], lp spec_HouseOk_s250⟩
def spec_HouseOk_s260682 : t80 → Option (t80 ⊕ t79)
  | ((a, b, c, d, e, f, g, h, i, j, k, l, m, n, o, p), q, r, s) => (some (decide (s < (ln o)))).bind fun t => bif t then ix s o.length ((some (gx o s (0, 0, [], 0, 0, 0, 0, [], [], []))).bind fun (u, v, w, x, y, z, a1, b1, c1, d1) => (spec_l12Of (w, q)).bind fun e1 => some (.inl ((a, b, c, d, e, f, g, h, i, j, k, l, m, n, o, p), q, w64 (r + e1), w64 (s + 1)))) else some (.inr ((a, b, c, d, e, f, g, h, i, j, k, l, m, n, o, p), q, r))
def spec_HouseOk_n260682 : NEnt := ⟨⟨102, [⟨1, .box, cc1⟩, ⟨6, .one, [.dat kI]⟩, ⟨7, .one, [.dat kI]⟩, ⟨8, .one, [.dat kI]⟩]⟩, [(.exit 4, ⟨102, [⟨1, .box, cc1⟩, ⟨6, .one, [.dat kI]⟩, ⟨7, .one, [.dat kI]⟩]⟩)], lp spec_HouseOk_s260682⟩
def spec_HouseOk_s521370 : t80 → Option (t80 ⊕ t79)
  | ((a, b, c, d, e, f, g, h, i, j, k, l, m, n, o, p), q, r, s) => (some (decide (s < (ln p)))).bind fun t => bif t then ix s p.length ((some (gx p s (0, 0, 0, [], 0, 0, 0, 0, [], [], []))).bind fun (u, v, w, x, y, z, a1, b1, c1, d1, e1) => (spec_l12Of (x, q)).bind fun f1 => some (.inl ((a, b, c, d, e, f, g, h, i, j, k, l, m, n, o, p), q, w64 (r + f1), w64 (s + 1)))) else some (.inr ((a, b, c, d, e, f, g, h, i, j, k, l, m, n, o, p), q, r))
def spec_HouseOk_n521370 : NEnt := ⟨⟨102, [⟨1, .box, cc1⟩, ⟨6, .one, [.dat kI]⟩, ⟨7, .one, [.dat kI]⟩, ⟨9, .one, [.dat kI]⟩]⟩, [(.exit 6, ⟨102, [⟨1, .box, cc1⟩, ⟨6, .one, [.dat kI]⟩, ⟨7, .one, [.dat kI]⟩]⟩)], lp spec_HouseOk_s521370⟩
def spec_HouseOk_s1018 : t78 → Option (t78 ⊕ Bool ⊕ Unit)
  | ((a, b, c, d, e, f, g, h, i, j, k, l, m, n, o, p), q) => bif decide (q < 3) then (lp spec_HouseOk_s260682 ((a, b, c, d, e, f, g, h, i, j, k, l, m, n, o, p), q, 0, 0)).bind fun ((r, s, t, u, v, w, x, y, z, a1, b1, c1, d1, e1, f1, g1), h1, i1) => (lp spec_HouseOk_s521370 ((r, s, t, u, v, w, x, y, z, a1, b1, c1, d1, e1, f1, g1), h1, i1, 0)).bind fun ((j1, k1, l1, m1, n1, o1, p1, q1, r1, s1, t1, u1, v1, w1, x1, y1), z1, a2) => ix z1 t1.length ((some (gx t1 z1 (0, 0, [], 0, 0))).bind fun (b2, c2, d2, e2, f2) => bif a2 != e2 then some (.inr (.inl false)) else some (.inl ((j1, k1, l1, m1, n1, o1, p1, q1, r1, s1, t1, u1, v1, w1, x1, y1), w64 (z1 + 1)))) else some (.inr (.inr ()))
def spec_HouseOk_n1018 : NEnt := ⟨⟨102, [⟨1, .box, cc1⟩, ⟨6, .one, [.dat kI]⟩]⟩, [(.ret, ⟨102, [⟨2, .one, [.dat .bool]⟩]⟩), (.exit 2, ⟨102, []⟩)], lp spec_HouseOk_s1018⟩
def spec_HouseOk : t77 → Option Bool
  | (a, b, c, d, e, f, g, h, i, j, k, l, m, n, o, p) => (spec_ConfOk (a, b, c, d, e, f, g, h)).bind fun q => bif !q then some false else (spec_l12Parts (a, b, c, d, e, f, g, h, i, j, k, l, m, n, o, p)).bind fun r => bif !r then some false else (spec_l12Root (a, b, c, d, e, f, g, h, i, j, k, l, m, n, o, p)).bind fun s => bif !s then some false else (spec_l12All (a, b, c, d, e, f, g, h, i, j, k, l, m, n, o, p)).bind fun t => bx (lp spec_HouseOk_s250 ((a, b, c, d, e, f, g, h, i, j, k, l, m, n, o, p), [], t, 0)) (fun u => some u) fun ((u, v, w, x, y, z, a1, b1, c1, d1, e1, f1, g1, h1, i1, j1), k1) => (spec_l12Taken (u, v, w, x, y, z, a1, b1, c1, d1, e1, f1, g1, h1, i1, j1)).bind fun l1 => (spec_l5Same (k1, l1)).bind fun m1 => bif !m1 then some false else bx (lp spec_HouseOk_s1018 ((u, v, w, x, y, z, a1, b1, c1, d1, e1, f1, g1, h1, i1, j1), 0)) (fun n1 => some n1) fun _ => some true
def spec_HouseOk_e : FEnt := ⟨100, [.tmp 2], [], [(.agg, cc1)], ⟨102, [⟨2, .one, [.dat .bool]⟩]⟩, spec_HouseOk⟩
theorem spec_HouseOk_ok : FnOk Tryz.prog 59 spec_HouseOk_e := fnOk_mk (tb := [(521370, spec_HouseOk_n521370), (260682, spec_HouseOk_n260682), (1018, spec_HouseOk_n1018), (250, spec_HouseOk_n250)]) (c := (Tryz.f59.body).getD .skip) mixed Tryz.func59 (bC spec_ConfOk_ok (bC spec_l12Parts_ok (bC spec_l12Root_ok (bC spec_l12All_ok (bC spec_SetApart_ok (bC spec_l5Join_ok (bC spec_l12Taken_ok (bC spec_l5Same_ok (bC spec_l12Of_ok bN))))))))) (by kernel_rfl) (by kernel_rfl) (by kernel_rfl) ⟨nodeLoop (by kernel_rfl) spec_HouseOk_s521370 (by kernel_rfl) (by intro d; kernel_rfl), nodeLoop (by kernel_rfl) spec_HouseOk_s260682 (by kernel_rfl) (by intro d; kernel_rfl), nodeLoop (by kernel_rfl) spec_HouseOk_s1018 (by kernel_rfl) (by intro d; kernel_rfl), nodeLoop (by kernel_rfl) spec_HouseOk_s250 (by kernel_rfl) (by intro d; kernel_rfl), trivial⟩ (by intro d; kernel_rfl)


/-! spec.Late -/
def spec_Late_s122 : t79 → Option (t79 ⊕ Int)
  | ((a, b, c, d, e, f, g, h, i, j, k, l, m, n, o, p), q, r) => (some (decide (r < (ln p)))).bind fun s => bif s then ix r p.length ((some (gx p r (0, 0, 0, [], 0, 0, 0, 0, [], [], []))).bind fun (t, u, v, w, x, y, z, a1, b1, c1, d1) => (spec_l1Bit (decide (t > 0))).bind fun e1 => some (.inl ((a, b, c, d, e, f, g, h, i, j, k, l, m, n, o, p), w64 (q + e1), w64 (r + 1)))) else some (.inr q)
def spec_Late_n122 : NEnt := ⟨⟨29, [⟨1, .box, cc1⟩, ⟨3, .one, [.dat kI]⟩, ⟨4, .one, [.dat kI]⟩]⟩, [(.exit 0, ⟨29, [⟨3, .one, [.dat kI]⟩]⟩)], lp spec_Late_s122⟩
def spec_Late : t77 → Option Int
  | (a, b, c, d, e, f, g, h, i, j, k, l, m, n, o, p) => (spec_HouseOk (a, b, c, d, e, f, g, h, i, j, k, l, m, n, o, p)).bind fun q => bif !q then some 0 else (lp spec_Late_s122 ((a, b, c, d, e, f, g, h, i, j, k, l, m, n, o, p), 0, 0)).bind fun r => some r
def spec_Late_e : FEnt := ⟨27, [.tmp 2], [], [(.agg, cc1)], ⟨29, [⟨2, .one, [.dat kI]⟩]⟩, spec_Late⟩
theorem spec_Late_ok : FnOk Tryz.prog 19 spec_Late_e := fnOk_mk (tb := [(122, spec_Late_n122)]) (c := (Tryz.f19.body).getD .skip) mixed Tryz.func19 (bC spec_HouseOk_ok (bC spec_l1Bit_ok bN)) (by kernel_rfl) (by kernel_rfl) (by kernel_rfl) ⟨nodeLoop (by kernel_rfl) spec_Late_s122 (by kernel_rfl) (by intro d; kernel_rfl), trivial⟩ (by intro d; kernel_rfl)


/-! impl.allWithin -/
def impl_allWithin_s26 : List Int × Int × Int × t5 → Option (List Int × Int × Int × t5 ⊕ Bool ⊕ List Int × Int)
  | (a, b, c, d, e, f, g) => bif decide (g < f) then ix g e.length ((impl_within (gx e g 0, c, d)).bind fun h => bif !h then some (.inr (.inl false)) else some (.inl (a, b, c, d, e, f, w64 (g + 1)))) else some (.inr (.inr (a, b)))
def impl_allWithin_n26 : NEnt := ⟨⟨35, [⟨0, .one, [.dat (.list kI)]⟩, ⟨1, .one, [.dat kI]⟩, ⟨2, .one, [.dat kI]⟩, ⟨3, .one, [.dat kI]⟩, ⟨11, .one, [.dat (.list kI)]⟩, ⟨12, .one, [.dat kI]⟩, ⟨13, .one, [.dat kI]⟩]⟩, [(.ret, ⟨35, [⟨8, .one, [.dat .bool]⟩]⟩), (.exit 0, ⟨35, [⟨0, .one, [.dat (.list kI)]⟩, ⟨1, .one, [.dat kI]⟩]⟩)], lp impl_allWithin_s26⟩
def impl_allWithin : List Int × Int × Int × Int → Option Bool
  | (a, b, c, d) => bx (lp impl_allWithin_s26 (a, b, c, d, a, ln a, 0)) (fun e => some e) fun (e, f) => some ((ln e) == f)
def impl_allWithin_e : FEnt := ⟨27, [.tmp 8], [], [(.one, [.dat (.list kI)]), (.one, [.dat kI]), (.one, [.dat kI]), (.one, [.dat kI])], ⟨35, [⟨8, .one, [.dat .bool]⟩]⟩, impl_allWithin⟩
theorem impl_allWithin_ok : FnOk Tryz.prog 205 impl_allWithin_e := fnOk_mk (tb := [(26, impl_allWithin_n26)]) (c := (Tryz.f205.body).getD .skip) mixed Tryz.func205 (bC impl_within_ok bN) (by kernel_rfl) (by kernel_rfl) (by kernel_rfl) ⟨nodeLoop (by kernel_rfl) impl_allWithin_s26 (by kernel_rfl) (by intro d; kernel_rfl), trivial⟩ (by intro d; kernel_rfl)


/-! impl.ConfOk -/
def impl_ConfOk : t27 → Option Bool
  | (a, b, c, d, e, f, g, h) => (impl_within (a, 1, 8)).bind fun i => bif i then (impl_within (b, 1, 60)).bind fun j => bif j then (impl_within (c, 1, 10)).bind fun k => bif k then (impl_allWithin (d, 3, 1, 4)).bind fun l => bif l then (impl_within (e, 1, 100)).bind fun m => bif m then (impl_within (f, 1, 20)).bind fun n => bif n then (impl_within (g, 0, 20)).bind fun o => bif o then (impl_within (h, 1, 50)).bind fun p => some p else some false else some false else some false else some false else some false else some false else some false
def impl_ConfOk_e : FEnt := ⟨41, [.tmp 2], [], [(.agg, cc7)], ⟨43, [⟨2, .one, [.dat .bool]⟩]⟩, impl_ConfOk⟩
theorem impl_ConfOk_ok : FnOk Tryz.prog 183 impl_ConfOk_e := fnOk_mk (tb := []) (c := (Tryz.f183.body).getD .skip) mixed Tryz.func183 (bC impl_within_ok (bC impl_allWithin_ok bN)) (by kernel_rfl) (by kernel_rfl) (by kernel_rfl) trivial (by intro d; kernel_rfl)


/-! impl.allIn -/
def impl_allIn : t7 → Option Bool
  | (a, b, c) => (impl_SetOk a).bind fun d => bif d then bif (ln a) == 0 then some true else chk (decide (0 < a.length)) ((some (List.getD a 0 (0, 0))).bind fun (e, f) => bif decide (e ≥ b) then ix (w64 ((ln a) - 1)) a.length ((some (gx a (w64 ((ln a) - 1)) (0, 0))).bind fun (g, h) => some (decide (h ≤ c))) else some false) else some false
def impl_allIn_e : FEnt := ⟨33, [.tmp 6], [], [(.one, [.dat kk10]), (.one, [.dat kI]), (.one, [.dat kI])], ⟨39, [⟨6, .one, [.dat .bool]⟩]⟩, impl_allIn⟩
theorem impl_allIn_ok : FnOk Tryz.prog 185 impl_allIn_e := fnOk_mk (tb := []) (c := (Tryz.f185.body).getD .skip) mixed Tryz.func185 (bC impl_SetOk_ok bN) (by kernel_rfl) (by kernel_rfl) (by kernel_rfl) trivial (by intro d; kernel_rfl)


/-! impl.SetSize -/
def impl_SetSize_s122 : t10 → Option (t10 ⊕ Int)
  | (a, b, c, d) => bif decide (d < c) then ix d b.length ((some (gx b d (0, 0))).bind fun (e, f) => some (.inl (w64 (a + (w64 ((w64 (f - e)) + 1))), b, c, w64 (d + 1)))) else some (.inr a)
def impl_SetSize_n122 : NEnt := ⟨⟨27, [⟨3, .one, [.dat kI]⟩, ⟨9, .one, [.dat kk10]⟩, ⟨10, .one, [.dat kI]⟩, ⟨11, .one, [.dat kI]⟩]⟩, [(.exit 0, ⟨27, [⟨3, .one, [.dat kI]⟩]⟩)], lp impl_SetSize_s122⟩
def impl_SetSize : List (Int × Int) → Option Int
  | a => (impl_SetOk a).bind fun b => bif !b then some 0 else (lp impl_SetSize_s122 (0, a, ln a, 0)).bind fun c => some c
def impl_SetSize_e : FEnt := ⟨25, [.tmp 2], [], [(.one, [.dat kk10])], ⟨27, [⟨2, .one, [.dat kI]⟩]⟩, impl_SetSize⟩
theorem impl_SetSize_ok : FnOk Tryz.prog 84 impl_SetSize_e := fnOk_mk (tb := [(122, impl_SetSize_n122)]) (c := (Tryz.f84.body).getD .skip) mixed Tryz.func84 (bC impl_SetOk_ok bN) (by kernel_rfl) (by kernel_rfl) (by kernel_rfl) ⟨nodeLoop (by kernel_rfl) impl_SetSize_s122 (by kernel_rfl) (by intro d; kernel_rfl), trivial⟩ (by intro d; kernel_rfl)


/-! impl.SeatOk -/
def impl_SeatOk : t19 × Int → Option Bool
  | ((a, b, c, d, e), f) => (impl_within (f, 1, 8)).bind fun g => bif g then (impl_within (a, 0, 1000)).bind fun h => bif h then (impl_within (b, 0, 60)).bind fun i => bif i then (impl_allIn (c, 1, b)).bind fun j => bif j then (impl_SetSize c).bind fun k => (impl_within (d, 0, k)).bind fun l => bif l then bif decide (b ≤ (w64 (d + f))) then (impl_within (e, 0, 1000000)).bind fun m => some m else some false else some false else some false else some false else some false else some false
def impl_SeatOk_e : FEnt := ⟨46, [.tmp 4], [], [(.agg, cc11), (.one, [.dat kI])], ⟨50, [⟨4, .one, [.dat .bool]⟩]⟩, impl_SeatOk⟩
theorem impl_SeatOk_ok : FnOk Tryz.prog 184 impl_SeatOk_e := fnOk_mk (tb := []) (c := (Tryz.f184.body).getD .skip) mixed Tryz.func184 (bC impl_within_ok (bC impl_allIn_ok (bC impl_SetSize_ok bN))) (by kernel_rfl) (by kernel_rfl) (by kernel_rfl) trivial (by intro d; kernel_rfl)


/-! impl.idsOf -/
def impl_idsOf_s58 : List (Int × Int) × t44 → Option (List (Int × Int) × t44 ⊕ List (Int × Int))
  | (a, b, c, d) => bif decide (d < c) then ix d b.length ((some (gx b d (0, 0, [], 0, 0, 0, 0, [], [], []))).bind fun (e, f, g, h, i, j, k, l, m, n) => chk (fits (a.length + g.length) 16) (some (.inl (a ++ g, b, c, w64 (d + 1))))) else some (.inr a)
def impl_idsOf_n58 : NEnt := ⟨⟨21, [⟨3, .one, cc14⟩, ⟨6, .one, [.dat kk4]⟩, ⟨7, .one, [.dat kI]⟩, ⟨8, .one, [.dat kI]⟩]⟩, [(.exit 0, ⟨21, [⟨3, .one, cc14⟩]⟩)], lp impl_idsOf_s58⟩
def impl_idsOf : List t37 → Option (List (Int × Int))
  | a => (lp impl_idsOf_s58 ([], a, ln a, 0)).bind fun b => (impl_union b).bind fun c => some c
def impl_idsOf_e : FEnt := ⟨19, [.tmp 2], [], [(.one, [.dat kk4])], ⟨21, [⟨2, .one, cc14⟩]⟩, impl_idsOf⟩
theorem impl_idsOf_ok : FnOk Tryz.prog 133 impl_idsOf_e := fnOk_mk (tb := [(58, impl_idsOf_n58)]) (c := (Tryz.f133.body).getD .skip) mixed Tryz.func133 (bC impl_union_ok bN) (by kernel_rfl) (by kernel_rfl) (by kernel_rfl) ⟨nodeLoop (by kernel_rfl) impl_idsOf_s58 (by kernel_rfl) (by intro d; kernel_rfl), trivial⟩ (by intro d; kernel_rfl)


/-! impl.RowIds -/
def impl_RowIds : List t37 → Option (List (Int × Int))
  | a => (impl_RowOk a).bind fun b => bif !b then some [] else (impl_idsOf a).bind fun c => some c
def impl_RowIds_e : FEnt := ⟨9, [.tmp 2], [], [(.agg, [.dat kk4])], ⟨11, [⟨2, .one, cc14⟩]⟩, impl_RowIds⟩
theorem impl_RowIds_ok : FnOk Tryz.prog 186 impl_RowIds_e := fnOk_mk (tb := []) (c := (Tryz.f186.body).getD .skip) mixed Tryz.func186 (bC impl_RowOk_ok (bC impl_idsOf_ok bN)) (by kernel_rfl) (by kernel_rfl) (by kernel_rfl) trivial (by intro d; kernel_rfl)


/-! impl.IdOf -/
def impl_IdOf : Int × Int → Option Int
  | (a, b) => (impl_within (a, 0, 2)).bind fun c => bif !c then some (-1) else (impl_within (b, 1, 60)).bind fun d => bif !d then some (-1) else some (w64 ((w64 (100 * a)) + b))
def impl_IdOf_e : FEnt := ⟨17, [.tmp 4], [], [(.one, [.dat kI]), (.one, [.dat kI])], ⟨21, [⟨4, .one, [.dat kI]⟩]⟩, impl_IdOf⟩
theorem impl_IdOf_ok : FnOk Tryz.prog 135 impl_IdOf_e := fnOk_mk (tb := []) (c := (Tryz.f135.body).getD .skip) mixed Tryz.func135 (bC impl_within_ok bN) (by kernel_rfl) (by kernel_rfl) (by kernel_rfl) trivial (by intro d; kernel_rfl)


/-! impl.TurnOk -/
def impl_TurnOk : Int × Bool × List Int → Option Bool
  | (a, b, c) => (impl_within (a, 0, 2)).bind fun d => bif d then (impl_allWithin (c, 3, 0, 1000)).bind fun e => some e else some false
def impl_TurnOk_e : FEnt := ⟨11, [.tmp 2], [], [(.agg, cc12)], ⟨13, [⟨2, .one, [.dat .bool]⟩]⟩, impl_TurnOk⟩
theorem impl_TurnOk_ok : FnOk Tryz.prog 187 impl_TurnOk_e := fnOk_mk (tb := []) (c := (Tryz.f187.body).getD .skip) mixed Tryz.func187 (bC impl_within_ok (bC impl_allWithin_ok bN)) (by kernel_rfl) (by kernel_rfl) (by kernel_rfl) trivial (by intro d; kernel_rfl)


/-! impl.ahead -/
def impl_ahead : t37 × t37 → Option Bool
  | ((a, b, c, d, e, f, g, h, i, j), k, l, m, n, o, p, q, r, s, t) => bif decide (a < k) then some true else bif a == k then some (decide (b < l)) else some false
def impl_ahead_e : FEnt := ⟨24, [.tmp 4], [], [(.agg, cc4), (.agg, cc4)], ⟨28, [⟨4, .one, [.dat .bool]⟩]⟩, impl_ahead⟩
theorem impl_ahead_ok : FnOk Tryz.prog 188 impl_ahead_e := fnOk_mk (tb := []) (c := (Tryz.f188.body).getD .skip) mixed Tryz.func188 bN (by kernel_rfl) (by kernel_rfl) (by kernel_rfl) trivial (by intro d; kernel_rfl)


/-! impl.partsOk -/
def impl_partsOk_s29902 : t77 × Int × List t19 × Int × Int × Unit × List (List (List t37)) × Int × t48 × List (List t37) × Int × Bool × t50 → Option (t77 × Int × List t19 × Int × Int × Unit × List (List (List t37)) × Int × t48 × List (List t37) × Int × Bool × t50 ⊕ Bool ⊕ t77 × List t19 × Int × Int × Unit × t65)
  | ((a, b, c, d, e, f, g, h, i, j, k, l, m, n, o, p), q, r, s, t, _, u, v, (w, _), x, y, z, a1, b1, c1) => bif decide (c1 < b1) then ix c1 a1.length ((some (gx a1 c1 [])).bind fun d1 => (impl_RowOk d1).bind fun e1 => bif !e1 then some (.inr (.inl false)) else (impl_RowIds d1).bind fun f1 => (impl_IdOf (q, 1)).bind fun g1 => (impl_IdOf (q, 60)).bind fun h1 => (impl_allIn (f1, g1, h1)).bind fun i1 => bif !i1 then some (.inr (.inl false)) else some (.inl ((a, b, c, d, e, f, g, h, i, j, k, l, m, n, o, p), q, r, s, t, (), u, v, (w, ()), x, y, z, a1, b1, w64 (c1 + 1)))) else some (.inr (.inr ((a, b, c, d, e, f, g, h, i, j, k, l, m, n, o, p), r, s, t, (), u, v, (w, ()), x, y, z)))
def impl_partsOk_n29902 : NEnt := ⟨⟨128, [⟨1, .box, cc1⟩, ⟨3, .one, [.dat kI]⟩, ⟨46, .one, [.dat kk6]⟩, ⟨47, .one, [.dat kI]⟩, ⟨48, .one, [.dat kI]⟩, ⟨60, .one, [.bptr 1 11]⟩, ⟨61, .one, [.dat kk0]⟩, ⟨62, .one, [.dat kI]⟩, ⟨63, .one, [.pim [kk2] 0]⟩, ⟨64, .one, [.dat kk2]⟩, ⟨65, .one, [.dat kI]⟩, ⟨66, .one, [.dat .bool]⟩, ⟨72, .one, [.dat kk2]⟩, ⟨73, .one, [.dat kI]⟩, ⟨74, .one, [.dat kI]⟩]⟩, [(.ret, ⟨128, [⟨2, .one, [.dat .bool]⟩]⟩), (.exit 2, ⟨128, [⟨1, .box, cc1⟩, ⟨46, .one, [.dat kk6]⟩, ⟨47, .one, [.dat kI]⟩, ⟨48, .one, [.dat kI]⟩, ⟨60, .one, [.bptr 1 11]⟩, ⟨61, .one, [.dat kk0]⟩, ⟨62, .one, [.dat kI]⟩, ⟨63, .one, [.pim [kk2] 0]⟩, ⟨64, .one, [.dat kk2]⟩, ⟨65, .one, [.dat kI]⟩, ⟨66, .one, [.dat .bool]⟩]⟩)], lp impl_partsOk_s29902⟩
def impl_partsOk_s58 : t77 × t30 → Option (t77 × t30 ⊕ Bool ⊕ t77)
  | ((a, b, c, d, e, f, g, h, i, j, k, l, m, n, o, p), q, r, s) => bif decide (s < r) then ix s q.length ((some (gx q s (0, 0, [], 0, 0))).bind fun (t, u, v, w, x) => (impl_SeatOk ((t, u, v, w, x), a)).bind fun y => bif !y then some (.inr (.inl false)) else ix s l.length ((some (gx l s [])).bind fun z => bif (ln z) != 2 then some (.inr (.inl false)) else ix s l.length ((some (gx l s [])).bind fun a1 => bx (lp impl_partsOk_s29902 ((a, b, c, d, e, f, g, h, i, j, k, l, m, n, o, p), s, q, r, s, (), l, s, (gx l s [], ()), z, ln z, (ln z) != 2, a1, ln a1, 0)) (fun b1 => some (.inr (.inl b1))) fun ((b1, c1, d1, e1, f1, g1, h1, i1, j1, k1, l1, m1, n1, o1, p1, q1), r1, s1, t1, _, u1, v1, (w1, _), x1, y1, z1) => some (.inl ((b1, c1, d1, e1, f1, g1, h1, i1, j1, k1, l1, m1, n1, o1, p1, q1), r1, s1, w64 (t1 + 1)))))) else some (.inr (.inr (a, b, c, d, e, f, g, h, i, j, k, l, m, n, o, p)))
def impl_partsOk_n58 : NEnt := ⟨⟨128, [⟨1, .box, cc1⟩, ⟨46, .one, [.dat kk6]⟩, ⟨47, .one, [.dat kI]⟩, ⟨48, .one, [.dat kI]⟩]⟩, [(.ret, ⟨128, [⟨2, .one, [.dat .bool]⟩]⟩), (.exit 0, ⟨128, [⟨1, .box, cc1⟩]⟩)], lp impl_partsOk_s58⟩
def impl_partsOk_s122 : t77 × t20 → Option (t77 × t20 ⊕ Bool ⊕ t77)
  | ((a, b, c, d, e, f, g, h, i, j, k, l, m, n, o, p), q, r, s) => bif decide (s < r) then ix s q.length ((some (gx q s (0, false, []))).bind fun (t, u, v) => (impl_TurnOk (t, u, v)).bind fun w => bif !w then some (.inr (.inl false)) else some (.inl ((a, b, c, d, e, f, g, h, i, j, k, l, m, n, o, p), q, r, w64 (s + 1)))) else some (.inr (.inr (a, b, c, d, e, f, g, h, i, j, k, l, m, n, o, p)))
def impl_partsOk_n122 : NEnt := ⟨⟨128, [⟨1, .box, cc1⟩, ⟨94, .one, [.dat kk8]⟩, ⟨95, .one, [.dat kI]⟩, ⟨96, .one, [.dat kI]⟩]⟩, [(.ret, ⟨128, [⟨2, .one, [.dat .bool]⟩]⟩), (.exit 4, ⟨128, [⟨1, .box, cc1⟩]⟩)], lp impl_partsOk_s122⟩
def impl_partsOk_s250 : t77 × t44 → Option (t77 × t44 ⊕ Bool ⊕ Unit)
  | ((a, b, c, d, e, f, g, h, i, j, k, l, m, n, o, p), q, r, s) => bif decide (s < r) then ix s q.length ((some (gx q s (0, 0, [], 0, 0, 0, 0, [], [], []))).bind fun (t, u, v, w, x, y, z, a1, b1, c1) => bif decide (s > 0) then ix (w64 (s - 1)) o.length ((some (gx o (w64 (s - 1)) (0, 0, [], 0, 0, 0, 0, [], [], []))).bind fun (d1, e1, f1, g1, h1, i1, j1, k1, l1, m1) => (impl_ahead ((d1, e1, f1, g1, h1, i1, j1, k1, l1, m1), t, u, v, w, x, y, z, a1, b1, c1)).bind fun n1 => bif !n1 then some (.inr (.inl false)) else some (.inl ((a, b, c, d, e, f, g, h, i, j, k, l, m, n, o, p), q, r, w64 (s + 1)))) else some (.inl ((a, b, c, d, e, f, g, h, i, j, k, l, m, n, o, p), q, r, w64 (s + 1)))) else some (.inr (.inr ()))
def impl_partsOk_n250 : NEnt := ⟨⟨128, [⟨1, .box, cc1⟩, ⟨105, .one, [.dat kk4]⟩, ⟨106, .one, [.dat kI]⟩, ⟨107, .one, [.dat kI]⟩]⟩, [(.ret, ⟨128, [⟨2, .one, [.dat .bool]⟩]⟩), (.exit 6, ⟨128, []⟩)], lp impl_partsOk_s250⟩
def impl_partsOk : t77 → Option Bool
  | (a, b, c, d, e, f, g, h, i, j, k, l, m, n, o, p) => (impl_ConfOk (a, b, c, d, e, f, g, h)).bind fun q => bif !q then some false else (impl_within (i, 0, 100000)).bind fun r => bif !r then some false else bif (ln k) != 3 then some false else bif (ln l) != 3 then some false else bif (ln m) != 2 then some false else (impl_within (n, 0, 1000)).bind fun s => bif !s then some false else bx (lp impl_partsOk_s58 ((a, b, c, d, e, f, g, h, i, j, k, l, m, n, o, p), k, ln k, 0)) (fun t => some t) fun (t, u, v, w, x, y, z, a1, b1, c1, d1, e1, f1, g1, h1, i1) => bx (lp impl_partsOk_s122 ((t, u, v, w, x, y, z, a1, b1, c1, d1, e1, f1, g1, h1, i1), f1, ln f1, 0)) (fun j1 => some j1) fun (j1, k1, l1, m1, n1, o1, p1, q1, r1, s1, t1, u1, v1, w1, x1, y1) => bx (lp impl_partsOk_s250 ((j1, k1, l1, m1, n1, o1, p1, q1, r1, s1, t1, u1, v1, w1, x1, y1), x1, ln x1, 0)) (fun z1 => some z1) fun _ => some true
def impl_partsOk_e : FEnt := ⟨126, [.tmp 2], [], [(.agg, cc1)], ⟨128, [⟨2, .one, [.dat .bool]⟩]⟩, impl_partsOk⟩
theorem impl_partsOk_ok : FnOk Tryz.prog 132 impl_partsOk_e := fnOk_mk (tb := [(250, impl_partsOk_n250), (122, impl_partsOk_n122), (29902, impl_partsOk_n29902), (58, impl_partsOk_n58)]) (c := (Tryz.f132.body).getD .skip) mixed Tryz.func132 (bC impl_ConfOk_ok (bC impl_within_ok (bC impl_SeatOk_ok (bC impl_RowOk_ok (bC impl_RowIds_ok (bC impl_IdOf_ok (bC impl_allIn_ok (bC impl_TurnOk_ok (bC impl_ahead_ok bN))))))))) (by kernel_rfl) (by kernel_rfl) (by kernel_rfl) ⟨nodeLoop (by kernel_rfl) impl_partsOk_s250 (by kernel_rfl) (by intro d; kernel_rfl), nodeLoop (by kernel_rfl) impl_partsOk_s122 (by kernel_rfl) (by intro d; kernel_rfl), nodeLoop (by kernel_rfl) impl_partsOk_s29902 (by kernel_rfl) (by intro d; kernel_rfl), nodeLoop (by kernel_rfl) impl_partsOk_s58 (by kernel_rfl) (by intro d; kernel_rfl), trivial⟩ (by intro d; kernel_rfl)


/-! impl.rowEntries -/
def impl_rowEntries_s14950 : List t37 × List (List (List t37)) × Int × Int × t50 → Option (List t37 × List (List (List t37)) × Int × Int × t50 ⊕ List t37 × t56)
  | (a, b, c, d, e, f, g) => bif decide (g < f) then ix g e.length ((some (gx e g [])).bind fun h => chk (fits (a.length + h.length) 144) ((some (a ++ h)).bind fun i => some (.inl (i, b, c, d, e, f, w64 (g + 1))))) else some (.inr (a, b, c, d))
def impl_rowEntries_n14950 : NEnt := ⟨⟨30, [⟨3, .one, [.own false kk5]⟩, ⟨9, .one, [.dat kk0]⟩, ⟨10, .one, [.dat kI]⟩, ⟨11, .one, [.dat kI]⟩, ⟨15, .one, [.dat kk2]⟩, ⟨16, .one, [.dat kI]⟩, ⟨17, .one, [.dat kI]⟩]⟩, [(.exit 2, ⟨30, [⟨3, .one, [.own false kk5]⟩, ⟨9, .one, [.dat kk0]⟩, ⟨10, .one, [.dat kI]⟩, ⟨11, .one, [.dat kI]⟩]⟩)], lp impl_rowEntries_s14950⟩
def impl_rowEntries_s58 : List t37 × t56 → Option (List t37 × t56 ⊕ List t37)
  | (a, b, c, d) => bif decide (d < c) then ix d b.length ((some (gx b d [])).bind fun e => (lp impl_rowEntries_s14950 (a, b, c, d, e, ln e, 0)).bind fun (f, g, h, i) => some (.inl (f, g, h, w64 (i + 1)))) else some (.inr a)
def impl_rowEntries_n58 : NEnt := ⟨⟨30, [⟨3, .one, [.own false kk5]⟩, ⟨9, .one, [.dat kk0]⟩, ⟨10, .one, [.dat kI]⟩, ⟨11, .one, [.dat kI]⟩]⟩, [(.exit 0, ⟨30, [⟨3, .one, [.own false kk5]⟩]⟩)], lp impl_rowEntries_s58⟩
def impl_rowEntries : t77 → Option (List t37)
  | (a, b, c, d, e, f, g, h, i, j, k, l, m, n, o, p) => (lp impl_rowEntries_s58 ([], l, ln l, 0)).bind fun q => some q
def impl_rowEntries_e : FEnt := ⟨28, [.tmp 2], [], [(.agg, cc1)], ⟨30, [⟨2, .one, [.own false kk5]⟩]⟩, impl_rowEntries⟩
theorem impl_rowEntries_ok : FnOk Tryz.prog 73 impl_rowEntries_e := fnOk_mk (tb := [(14950, impl_rowEntries_n14950), (58, impl_rowEntries_n58)]) (c := (Tryz.f73.body).getD .skip) mixed Tryz.func73 bN (by kernel_rfl) (by kernel_rfl) (by kernel_rfl) ⟨nodeLoop (by kernel_rfl) impl_rowEntries_s14950 (by kernel_rfl) (by intro d; kernel_rfl), nodeLoop (by kernel_rfl) impl_rowEntries_s58 (by kernel_rfl) (by intro d; kernel_rfl), trivial⟩ (by intro d; kernel_rfl)


/-! impl.added -/
def impl_added_s58 : List t37 × t49 → Option (List t37 × t49 ⊕ List t37)
  | (a, b, c, d) => bif decide (d < c) then ix d b.length ((some (gx b d (0, 0, 0, [], 0, 0, 0, 0, [], [], []))).bind fun (e, f, g, h, i, j, k, l, m, n, o) => (some [(f, g, h, i, j, k, l, m, n, o)]).bind fun p => chk (fits (a.length + p.length) 144) ((some (a ++ p)).bind fun q => some (.inl (q, b, c, w64 (d + 1))))) else some (.inr a)
def impl_added_n58 : NEnt := ⟨⟨25, [⟨3, .one, [.own false kk5]⟩, ⟨10, .one, [.dat kk1]⟩, ⟨11, .one, [.dat kI]⟩, ⟨12, .one, [.dat kI]⟩]⟩, [(.exit 0, ⟨25, [⟨3, .one, [.own false kk5]⟩]⟩)], lp impl_added_s58⟩
def impl_added : t77 → Option (List t37)
  | (a, b, c, d, e, f, g, h, i, j, k, l, m, n, o, p) => chk (fits o.length 144) ((lp impl_added_s58 (o, p, ln p, 0)).bind fun q => some q)
def impl_added_e : FEnt := ⟨23, [.tmp 2], [], [(.agg, cc1)], ⟨25, [⟨2, .one, [.own false kk5]⟩]⟩, impl_added⟩
theorem impl_added_ok : FnOk Tryz.prog 74 impl_added_e := fnOk_mk (tb := [(58, impl_added_n58)]) (c := (Tryz.f74.body).getD .skip) mixed Tryz.func74 bN (by kernel_rfl) (by kernel_rfl) (by kernel_rfl) ⟨nodeLoop (by kernel_rfl) impl_added_s58 (by kernel_rfl) (by intro d; kernel_rfl), trivial⟩ (by intro d; kernel_rfl)


/-! impl.SetHas$1 -/
def impl_SetHas_1 : (Int × Int) × Int × Unit → Option Bool
  | ((a, b), c, _) => (impl_within (c, a, b)).bind fun d => some d
def impl_SetHas_1_e : FEnt := ⟨10, [.tmp 3], [], [(.agg, cc17), (.one, [.pim [kI] 0])], ⟨14, [⟨3, .one, [.dat .bool]⟩]⟩, impl_SetHas_1⟩
theorem impl_SetHas_1_ok : FnOk Tryz.prog 190 impl_SetHas_1_e := fnOk_mk (tb := []) (c := (Tryz.f190.body).getD .skip) mixed Tryz.func190 (bC impl_within_ok bN) (by kernel_rfl) (by kernel_rfl) (by kernel_rfl) trivial (by intro d; kernel_rfl)


/-! impl.Span] -/
def impl_Span__s26 : List (Int × Int) × ((Int × Unit) × Unit) × Int × Int → Option (List (Int × Int) × ((Int × Unit) × Unit) × Int × Int ⊕ Int ⊕ Unit)
  | (a, ((b, _), _), c, d) => bif decide (d < c) then ix d a.length ((some (gx a d (0, 0))).bind fun (e, f) => (impl_SetHas_1 ((e, f), b, ())).bind fun g => bif g then some (.inr (.inl d)) else some (.inl (a, ((b, ()), ()), c, w64 (d + 1)))) else some (.inr (.inr ()))
def impl_Span__n26 : NEnt := ⟨⟨23, [⟨0, .one, [.dat kk10]⟩, ⟨1, .one, cc15⟩, ⟨7, .one, [.dat kI]⟩, ⟨8, .one, [.dat kI]⟩]⟩, [(.ret, ⟨23, [⟨4, .one, [.dat kI]⟩]⟩), (.exit 0, ⟨23, []⟩)], lp impl_Span__s26⟩
def impl_Span_ : List (Int × Int) × (Int × Unit) × Unit → Option Int
  | (a, (b, _), _) => bx (lp impl_Span__s26 (a, ((b, ()), ()), ln a, 0)) (fun c => some c) fun _ => some (-1)
def impl_Span__e : FEnt := ⟨19, [.tmp 4], [], [(.one, [.dat kk10]), (.one, cc15)], ⟨23, [⟨4, .one, [.dat kI]⟩]⟩, impl_Span_⟩
theorem impl_Span__ok : FnOk Tryz.prog 206 impl_Span__e := fnOk_mk (tb := [(26, impl_Span__n26)]) (c := (Tryz.f206.body).getD .skip) mixed Tryz.func206 (bC impl_SetHas_1_ok bN) (by kernel_rfl) (by kernel_rfl) (by kernel_rfl) ⟨nodeLoop (by kernel_rfl) impl_Span__s26 (by kernel_rfl) (by intro d; kernel_rfl), trivial⟩ (by intro d; kernel_rfl)


/-! impl.Span] -/
def impl_Span__189 : List (Int × Int) × (Int × Unit) × Unit → Option Bool
  | (a, (b, _), _) => (impl_Span_ (a, (b, ()), ())).bind fun c => some (decide (c ≥ 0))
def impl_Span__189_e : FEnt := ⟨9, [.tmp 4], [], [(.one, [.dat kk10]), (.one, cc15)], ⟨13, [⟨4, .one, [.dat .bool]⟩]⟩, impl_Span__189⟩
theorem impl_Span__189_ok : FnOk Tryz.prog 189 impl_Span__189_e := fnOk_mk (tb := []) (c := (Tryz.f189.body).getD .skip) mixed Tryz.func189 (bC impl_Span__ok bN) (by kernel_rfl) (by kernel_rfl) (by kernel_rfl) trivial (by intro d; kernel_rfl)


/-! impl.SetHas -/
def impl_SetHas : t0 → Option Bool
  | (a, b) => (impl_Span__189 (a, (b, ()), ())).bind fun c => some c
def impl_SetHas_e : FEnt := ⟨8, [.tmp 4], [], [(.one, [.dat kk10]), (.one, [.dat kI])], ⟨12, [⟨4, .one, [.dat .bool]⟩]⟩, impl_SetHas⟩
theorem impl_SetHas_ok : FnOk Tryz.prog 134 impl_SetHas_e := fnOk_mk (tb := []) (c := (Tryz.f134.body).getD .skip) mixed Tryz.func134 (bC impl_Span__189_ok bN) (by kernel_rfl) (by kernel_rfl) (by kernel_rfl) trivial (by intro d; kernel_rfl)


/-! impl.Span] -/
def impl_Span__136_s58 : t25 → Option (t25 ⊕ Bool ⊕ Unit)
  | (a, b, c, d) => bif decide (d < c) then ix d a.length ((some (gx a d (0, 0))).bind fun (e, f) => ix d b.length ((some (gx b d (0, 0))).bind fun (g, h) => bif !((e == g) && ((f == h) && true)) then some (.inr (.inl false)) else some (.inl (a, b, c, w64 (d + 1))))) else some (.inr (.inr ()))
def impl_Span__136_n58 : NEnt := ⟨⟨30, [⟨0, .one, [.dat kk10]⟩, ⟨1, .one, [.dat kk10]⟩, ⟨12, .one, [.dat kI]⟩, ⟨13, .one, [.dat kI]⟩]⟩, [(.ret, ⟨30, [⟨4, .one, [.dat .bool]⟩]⟩), (.exit 0, ⟨30, []⟩)], lp impl_Span__136_s58⟩
def impl_Span__136 : t14 → Option Bool
  | (a, b) => bif (ln a) != (ln b) then some false else bx (lp impl_Span__136_s58 (a, b, ln a, 0)) (fun c => some c) fun _ => some true
def impl_Span__136_e : FEnt := ⟨26, [.tmp 4], [], [(.one, [.dat kk10]), (.one, [.dat kk10])], ⟨30, [⟨4, .one, [.dat .bool]⟩]⟩, impl_Span__136⟩
theorem impl_Span__136_ok : FnOk Tryz.prog 136 impl_Span__136_e := fnOk_mk (tb := [(58, impl_Span__136_n58)]) (c := (Tryz.f136.body).getD .skip) mixed Tryz.func136 bN (by kernel_rfl) (by kernel_rfl) (by kernel_rfl) ⟨nodeLoop (by kernel_rfl) impl_Span__136_s58 (by kernel_rfl) (by intro d; kernel_rfl), trivial⟩ (by intro d; kernel_rfl)


/-! impl.told -/
def impl_told_s58 : Int × Int × Int × t49 → Option (Int × Int × Int × t49 ⊕ Int)
  | (a, b, c, d, e, f) => bif decide (f < e) then ix f d.length ((some (gx d f (0, 0, 0, [], 0, 0, 0, 0, [], [], []))).bind fun (g, h, i, j, k, l, m, n, o, p, q) => bif h == a then bif i == b then some (.inl (a, b, w64 (c + 1), d, e, w64 (f + 1))) else some (.inl (a, b, c, d, e, w64 (f + 1))) else some (.inl (a, b, c, d, e, w64 (f + 1)))) else some (.inr c)
def impl_told_n58 : NEnt := ⟨⟨38, [⟨1, .one, [.dat kI]⟩, ⟨2, .one, [.dat kI]⟩, ⟨7, .one, [.dat kI]⟩, ⟨10, .one, [.dat kk1]⟩, ⟨11, .one, [.dat kI]⟩, ⟨12, .one, [.dat kI]⟩]⟩, [(.exit 0, ⟨38, [⟨7, .one, [.dat kI]⟩]⟩)], lp impl_told_s58⟩
def impl_told : t49 → Option Int
  | (a, b, c) => (lp impl_told_s58 (b, c, 0, a, ln a, 0)).bind fun d => some d
def impl_told_e : FEnt := ⟨32, [.tmp 6], [], [(.one, [.dat kk1]), (.one, [.dat kI]), (.one, [.dat kI])], ⟨38, [⟨6, .one, [.dat kI]⟩]⟩, impl_told⟩
theorem impl_told_ok : FnOk Tryz.prog 138 impl_told_e := fnOk_mk (tb := [(58, impl_told_n58)]) (c := (Tryz.f138.body).getD .skip) mixed Tryz.func138 bN (by kernel_rfl) (by kernel_rfl) (by kernel_rfl) ⟨nodeLoop (by kernel_rfl) impl_told_s58 (by kernel_rfl) (by intro d; kernel_rfl), trivial⟩ (by intro d; kernel_rfl)


/-! impl.HouseOk -/
def impl_HouseOk_s256410 : t77 × List (Int × Int) × List (Int × Int) × Int × t19 × Int × Int × t30 → Option (t77 × List (Int × Int) × List (Int × Int) × Int × t19 × Int × Int × t30 ⊕ t77 × List (Int × Int) × List (Int × Int) × Int × t19 × Int × t30)
  | ((a, b, c, d, e, f, g, h, i, j, k, l, m, n, o, p), q, r, s, (t, u, v, w, x), y, z, a1, b1, c1) => bif decide (z ≤ 60) then (impl_IdOf (s, z)).bind fun d1 => (impl_SetHas (r, d1)).bind fun e1 => bif e1 then some (.inl ((a, b, c, d, e, f, g, h, i, j, k, l, m, n, o, p), q, r, s, (t, u, v, w, x), w64 (y + 1), w64 (z + 1), a1, b1, c1)) else some (.inl ((a, b, c, d, e, f, g, h, i, j, k, l, m, n, o, p), q, r, s, (t, u, v, w, x), y, w64 (z + 1), a1, b1, c1)) else some (.inr ((a, b, c, d, e, f, g, h, i, j, k, l, m, n, o, p), q, r, s, (t, u, v, w, x), y, a1, b1, c1))
def impl_HouseOk_n256410 : NEnt := ⟨⟨107, [⟨1, .box, cc1⟩, ⟨3, .one, cc14⟩, ⟨4, .one, cc14⟩, ⟨5, .one, [.dat kI]⟩, ⟨6, .box, cc11⟩, ⟨7, .one, [.dat kI]⟩, ⟨8, .one, [.dat kI]⟩, ⟨29, .one, [.dat kk6]⟩, ⟨30, .one, [.dat kI]⟩, ⟨31, .one, [.dat kI]⟩]⟩, [(.exit 2, ⟨107, [⟨1, .box, cc1⟩, ⟨3, .one, cc14⟩, ⟨4, .one, cc14⟩, ⟨5, .one, [.dat kI]⟩, ⟨6, .box, cc11⟩, ⟨7, .one, [.dat kI]⟩, ⟨29, .one, [.dat kk6]⟩, ⟨30, .one, [.dat kI]⟩, ⟨31, .one, [.dat kI]⟩]⟩)], lp impl_HouseOk_s256410⟩
def impl_HouseOk_s512830 : t77 × List (Int × Int) × List (Int × Int) × Int × List t19 × t19 → Option (t77 × List (Int × Int) × List (Int × Int) × Int × List t19 × t19 ⊕ t77 × t38)
  | ((a, b, c, d, e, f, g, h, i, j, k, l, m, n, o, p), q, r, s, t, u, v, w, x, y) => bif decide (y < x) then ix y w.length ((some (gx w y (0, 0))).bind fun (z, a1) => (impl_IdOf (s, z)).bind fun b1 => (impl_IdOf (s, a1)).bind fun c1 => chk (fits (q.length + [(b1, c1)].length) 16) (some (.inl ((a, b, c, d, e, f, g, h, i, j, k, l, m, n, o, p), q ++ [(b1, c1)], r, s, t, u, v, w, x, w64 (y + 1))))) else some (.inr ((a, b, c, d, e, f, g, h, i, j, k, l, m, n, o, p), q, r, t, u, v))
def impl_HouseOk_n512830 : NEnt := ⟨⟨107, [⟨1, .box, cc1⟩, ⟨3, .one, cc14⟩, ⟨4, .one, cc14⟩, ⟨5, .one, [.dat kI]⟩, ⟨29, .one, [.dat kk6]⟩, ⟨30, .one, [.dat kI]⟩, ⟨31, .one, [.dat kI]⟩, ⟨52, .one, [.dat kk10]⟩, ⟨53, .one, [.dat kI]⟩, ⟨54, .one, [.dat kI]⟩]⟩, [(.exit 4, ⟨107, [⟨1, .box, cc1⟩, ⟨3, .one, cc14⟩, ⟨4, .one, cc14⟩, ⟨29, .one, [.dat kk6]⟩, ⟨30, .one, [.dat kI]⟩, ⟨31, .one, [.dat kI]⟩]⟩)], lp impl_HouseOk_s512830⟩
def impl_HouseOk_s250 : t77 × t38 → Option (t77 × t38 ⊕ Bool ⊕ t77 × List (Int × Int))
  | ((a, b, c, d, e, f, g, h, i, j, k, l, m, n, o, p), q, r, s, t, u) => bif decide (u < t) then ix u s.length ((some (gx s u (0, 0, [], 0, 0))).bind fun (v, w, x, y, z) => (lp impl_HouseOk_s256410 ((a, b, c, d, e, f, g, h, i, j, k, l, m, n, o, p), q, r, u, (v, w, x, y, z), 0, 1, s, t, u)).bind fun ((a1, b1, c1, d1, e1, f1, g1, h1, i1, j1, k1, l1, m1, n1, o1, p1), q1, r1, s1, (t1, u1, v1, w1, x1), y1, z1, a2, b2) => bif y1 != w1 then some (.inr (.inl false)) else (lp impl_HouseOk_s512830 ((a1, b1, c1, d1, e1, f1, g1, h1, i1, j1, k1, l1, m1, n1, o1, p1), q1, r1, s1, z1, a2, b2, v1, ln v1, 0)).bind fun ((c2, d2, e2, f2, g2, h2, i2, j2, k2, l2, m2, n2, o2, p2, q2, r2), s2, t2, u2, v2, w2) => some (.inl ((c2, d2, e2, f2, g2, h2, i2, j2, k2, l2, m2, n2, o2, p2, q2, r2), s2, t2, u2, v2, w64 (w2 + 1)))) else some (.inr (.inr ((a, b, c, d, e, f, g, h, i, j, k, l, m, n, o, p), q)))
def impl_HouseOk_n250 : NEnt := ⟨⟨107, [⟨1, .box, cc1⟩, ⟨3, .one, cc14⟩, ⟨4, .one, cc14⟩, ⟨29, .one, [.dat kk6]⟩, ⟨30, .one, [.dat kI]⟩, ⟨31, .one, [.dat kI]⟩]⟩, [(.ret, ⟨107, [⟨2, .one, [.dat .bool]⟩]⟩), (.exit 0, ⟨107, [⟨1, .box, cc1⟩, ⟨3, .one, cc14⟩]⟩)], lp impl_HouseOk_s250⟩
def impl_HouseOk_s1018 : t77 × t49 → Option (t77 × t49 ⊕ Bool ⊕ Unit)
  | ((a, b, c, d, e, f, g, h, i, j, k, l, m, n, o, p), q, r, s) => bif decide (s < r) then ix s q.length ((some (gx q s (0, 0, 0, [], 0, 0, 0, 0, [], [], []))).bind fun (t, u, v, w, x, y, z, a1, b1, c1, d1) => g0 s (chk (decide ((0 ≤ s.toNat) ∧ (s.toNat ≤ p.length))) ((impl_told (List.take s.toNat p, u, v)).bind fun e1 => bif t != e1 then some (.inr (.inl false)) else some (.inl ((a, b, c, d, e, f, g, h, i, j, k, l, m, n, o, p), q, r, w64 (s + 1)))))) else some (.inr (.inr ()))
def impl_HouseOk_n1018 : NEnt := ⟨⟨107, [⟨1, .box, cc1⟩, ⟨83, .one, [.dat kk1]⟩, ⟨84, .one, [.dat kI]⟩, ⟨85, .one, [.dat kI]⟩]⟩, [(.ret, ⟨107, [⟨2, .one, [.dat .bool]⟩]⟩), (.exit 6, ⟨107, []⟩)], lp impl_HouseOk_s1018⟩
def impl_HouseOk : t77 → Option Bool
  | (a, b, c, d, e, f, g, h, i, j, k, l, m, n, o, p) => (impl_partsOk (a, b, c, d, e, f, g, h, i, j, k, l, m, n, o, p)).bind fun q => bif !q then some false else (impl_rowEntries (a, b, c, d, e, f, g, h, i, j, k, l, m, n, o, p)).bind fun r => (impl_added (a, b, c, d, e, f, g, h, i, j, k, l, m, n, o, p)).bind fun s => chk (fits (r.length + s.length) 144) ((some (r ++ s)).bind fun t => (impl_apart t).bind fun u => bif !u then some false else (impl_added (a, b, c, d, e, f, g, h, i, j, k, l, m, n, o, p)).bind fun v => (impl_idsOf v).bind fun w => bx (lp impl_HouseOk_s250 ((a, b, c, d, e, f, g, h, i, j, k, l, m, n, o, p), [], w, k, ln k, 0)) (fun x => some x) fun ((x, y, z, a1, b1, c1, d1, e1, f1, g1, h1, i1, j1, k1, l1, m1), n1) => (impl_union n1).bind fun o1 => (impl_rowEntries (x, y, z, a1, b1, c1, d1, e1, f1, g1, h1, i1, j1, k1, l1, m1)).bind fun p1 => (impl_added (x, y, z, a1, b1, c1, d1, e1, f1, g1, h1, i1, j1, k1, l1, m1)).bind fun q1 => chk (fits (p1.length + q1.length) 144) ((some (p1 ++ q1)).bind fun r1 => (impl_idsOf r1).bind fun s1 => (impl_Span__136 (o1, s1)).bind fun t1 => bif !t1 then some false else bx (lp impl_HouseOk_s1018 ((x, y, z, a1, b1, c1, d1, e1, f1, g1, h1, i1, j1, k1, l1, m1), m1, ln m1, 0)) (fun u1 => some u1) fun _ => some true))
def impl_HouseOk_e : FEnt := ⟨105, [.tmp 2], [], [(.agg, cc1)], ⟨107, [⟨2, .one, [.dat .bool]⟩]⟩, impl_HouseOk⟩
theorem impl_HouseOk_ok : FnOk Tryz.prog 66 impl_HouseOk_e := fnOk_mk (tb := [(1018, impl_HouseOk_n1018), (512830, impl_HouseOk_n512830), (256410, impl_HouseOk_n256410), (250, impl_HouseOk_n250)]) (c := (Tryz.f66.body).getD .skip) mixed Tryz.func66 (bC impl_partsOk_ok (bC impl_rowEntries_ok (bC impl_added_ok (bC impl_apart_ok (bC impl_idsOf_ok (bC impl_IdOf_ok (bC impl_SetHas_ok (bC impl_union_ok (bC impl_Span__136_ok (bC impl_told_ok bN)))))))))) (by kernel_rfl) (by kernel_rfl) (by kernel_rfl) ⟨nodeLoop (by kernel_rfl) impl_HouseOk_s1018 (by kernel_rfl) (by intro d; kernel_rfl), nodeLoop (by kernel_rfl) impl_HouseOk_s512830 (by kernel_rfl) (by intro d; kernel_rfl), nodeLoop (by kernel_rfl) impl_HouseOk_s256410 (by kernel_rfl) (by intro d; kernel_rfl), nodeLoop (by kernel_rfl) impl_HouseOk_s250 (by kernel_rfl) (by intro d; kernel_rfl), trivial⟩ (by intro d; kernel_rfl)


/-! impl.Late -/
def impl_Late_s234 : Int × t49 → Option (Int × t49 ⊕ Int)
  | (a, b, c, d) => bif decide (d < c) then ix d b.length ((some (gx b d (0, 0, 0, [], 0, 0, 0, 0, [], [], []))).bind fun (e, f, g, h, i, j, k, l, m, n, o) => bif decide (e > 0) then some (.inl (w64 (a + 1), b, c, w64 (d + 1))) else some (.inl (a, b, c, w64 (d + 1)))) else some (.inr a)
def impl_Late_n234 : NEnt := ⟨⟨24, [⟨3, .one, [.dat kI]⟩, ⟨9, .one, [.dat kk1]⟩, ⟨10, .one, [.dat kI]⟩, ⟨11, .one, [.dat kI]⟩]⟩, [(.exit 0, ⟨24, [⟨3, .one, [.dat kI]⟩]⟩)], lp impl_Late_s234⟩
def impl_Late : t77 → Option Int
  | (a, b, c, d, e, f, g, h, i, j, k, l, m, n, o, p) => (impl_HouseOk (a, b, c, d, e, f, g, h, i, j, k, l, m, n, o, p)).bind fun q => bif q then (lp impl_Late_s234 (0, p, ln p, 0)).bind fun r => some r else some 0
def impl_Late_e : FEnt := ⟨22, [.tmp 2], [], [(.agg, cc1)], ⟨24, [⟨2, .one, [.dat kI]⟩]⟩, impl_Late⟩
theorem impl_Late_ok : FnOk Tryz.prog 21 impl_Late_e := fnOk_mk (tb := [(234, impl_Late_n234)]) (c := (Tryz.f21.body).getD .skip) mixed Tryz.func21 (bC impl_HouseOk_ok bN) (by kernel_rfl) (by kernel_rfl) (by kernel_rfl) ⟨nodeLoop (by kernel_rfl) impl_Late_s234 (by kernel_rfl) (by intro d; kernel_rfl), trivial⟩ (by intro d; kernel_rfl)


/-! laws.eqConf -/
def laws_eqConf : t27 × t27 → Option Bool
  | ((a, b, c, d, e, f, g, h), i, j, k, l, m, n, o, p) => bif a != i then some false else bif b != j then some false else bif c != k then some false else (laws_eqIntS (d, l)).bind fun q => bif !q then some false else bif e != m then some false else bif f != n then some false else bif g != o then some false else bif h != p then some false else some true
def laws_eqConf_e : FEnt := ⟨46, [.tmp 4], [], [(.agg, cc7), (.agg, cc7)], ⟨50, [⟨4, .one, [.dat .bool]⟩]⟩, laws_eqConf⟩
theorem laws_eqConf_ok : FnOk Tryz.prog 67 laws_eqConf_e := fnOk_mk (tb := []) (c := (Tryz.f67.body).getD .skip) mixed Tryz.func67 (bC laws_eqIntS_ok bN) (by kernel_rfl) (by kernel_rfl) (by kernel_rfl) trivial (by intro d; kernel_rfl)


/-! laws.eqSeat -/
def laws_eqSeat : t19 × t19 → Option Bool
  | ((a, b, c, d, e), f, g, h, i, j) => bif a != f then some false else bif b != g then some false else (laws_eqSpanS (c, h)).bind fun k => bif !k then some false else bif d != i then some false else bif e != j then some false else some true
def laws_eqSeat_e : FEnt := ⟨31, [.tmp 4], [], [(.agg, cc11), (.agg, cc11)], ⟨35, [⟨4, .one, [.dat .bool]⟩]⟩, laws_eqSeat⟩
theorem laws_eqSeat_ok : FnOk Tryz.prog 139 laws_eqSeat_e := fnOk_mk (tb := []) (c := (Tryz.f139.body).getD .skip) mixed Tryz.func139 (bC laws_eqSpanS_ok bN) (by kernel_rfl) (by kernel_rfl) (by kernel_rfl) trivial (by intro d; kernel_rfl)


/-! laws.eqSeatS -/
def laws_eqSeatS_s58 : List t19 × t28 → Option (List t19 × t28 ⊕ Bool ⊕ Unit)
  | (a, b, c) => bif decide (c < (ln a)) then ix c a.length ((some (gx a c (0, 0, [], 0, 0))).bind fun (d, e, f, g, h) => ix c b.length ((some (gx b c (0, 0, [], 0, 0))).bind fun (i, j, k, l, m) => (laws_eqSeat ((d, e, f, g, h), i, j, k, l, m)).bind fun n => bif !n then some (.inr (.inl false)) else some (.inl (a, b, w64 (c + 1))))) else some (.inr (.inr ()))
def laws_eqSeatS_n58 : NEnt := ⟨⟨31, [⟨0, .one, [.dat kk6]⟩, ⟨1, .one, [.dat kk6]⟩, ⟨5, .one, [.dat kI]⟩]⟩, [(.ret, ⟨31, [⟨4, .one, [.dat .bool]⟩]⟩), (.exit 0, ⟨31, []⟩)], lp laws_eqSeatS_s58⟩
def laws_eqSeatS : List t19 × List t19 → Option Bool
  | (a, b) => bif (ln a) != (ln b) then some false else bx (lp laws_eqSeatS_s58 (a, b, 0)) (fun c => some c) fun _ => some true
def laws_eqSeatS_e : FEnt := ⟨27, [.tmp 4], [], [(.one, [.dat kk6]), (.one, [.dat kk6])], ⟨31, [⟨4, .one, [.dat .bool]⟩]⟩, laws_eqSeatS⟩
theorem laws_eqSeatS_ok : FnOk Tryz.prog 68 laws_eqSeatS_e := fnOk_mk (tb := [(58, laws_eqSeatS_n58)]) (c := (Tryz.f68.body).getD .skip) mixed Tryz.func68 (bC laws_eqSeat_ok bN) (by kernel_rfl) (by kernel_rfl) (by kernel_rfl) ⟨nodeLoop (by kernel_rfl) laws_eqSeatS_s58 (by kernel_rfl) (by intro d; kernel_rfl), trivial⟩ (by intro d; kernel_rfl)


/-! laws.eqRowS -/
def laws_eqRowS_s58 : t62 → Option (t62 ⊕ Bool ⊕ Unit)
  | (a, b, c) => (some (decide (c < (ln a)))).bind fun d => bif d then ix c a.length ((some (gx a c [])).bind fun e => ix c b.length ((some (gx b c [])).bind fun f => (laws_eqRow (e, f)).bind fun g => bif !g then some (.inr (.inl false)) else some (.inl (a, b, w64 (c + 1))))) else some (.inr (.inr ()))
def laws_eqRowS_n58 : NEnt := ⟨⟨31, [⟨0, .one, [.dat kk2]⟩, ⟨1, .one, [.dat kk2]⟩, ⟨5, .one, [.dat kI]⟩]⟩, [(.ret, ⟨31, [⟨4, .one, [.dat .bool]⟩]⟩), (.exit 0, ⟨31, []⟩)], lp laws_eqRowS_s58⟩
def laws_eqRowS : List (List t37) × List (List t37) → Option Bool
  | (a, b) => (some ((ln a) != (ln b))).bind fun c => bif c then some false else bx (lp laws_eqRowS_s58 (a, b, 0)) (fun d => some d) fun _ => some true
def laws_eqRowS_e : FEnt := ⟨27, [.tmp 4], [], [(.one, [.dat kk2]), (.one, [.dat kk2])], ⟨31, [⟨4, .one, [.dat .bool]⟩]⟩, laws_eqRowS⟩
theorem laws_eqRowS_ok : FnOk Tryz.prog 140 laws_eqRowS_e := fnOk_mk (tb := [(58, laws_eqRowS_n58)]) (c := (Tryz.f140.body).getD .skip) mixed Tryz.func140 (bC laws_eqRow_ok bN) (by kernel_rfl) (by kernel_rfl) (by kernel_rfl) ⟨nodeLoop (by kernel_rfl) laws_eqRowS_s58 (by kernel_rfl) (by intro d; kernel_rfl), trivial⟩ (by intro d; kernel_rfl)


/-! laws.eqRowSS -/
def laws_eqRowSS_s58 : t63 → Option (t63 ⊕ Bool ⊕ Unit)
  | (a, b, c) => (some (decide (c < (ln a)))).bind fun d => bif d then ix c a.length ((some (gx a c [])).bind fun e => ix c b.length ((some (gx b c [])).bind fun f => (laws_eqRowS (e, f)).bind fun g => bif !g then some (.inr (.inl false)) else some (.inl (a, b, w64 (c + 1))))) else some (.inr (.inr ()))
def laws_eqRowSS_n58 : NEnt := ⟨⟨31, [⟨0, .one, [.dat kk0]⟩, ⟨1, .one, [.dat kk0]⟩, ⟨5, .one, [.dat kI]⟩]⟩, [(.ret, ⟨31, [⟨4, .one, [.dat .bool]⟩]⟩), (.exit 0, ⟨31, []⟩)], lp laws_eqRowSS_s58⟩
def laws_eqRowSS : List (List (List t37)) × List (List (List t37)) → Option Bool
  | (a, b) => (some ((ln a) != (ln b))).bind fun c => bif c then some false else bx (lp laws_eqRowSS_s58 (a, b, 0)) (fun d => some d) fun _ => some true
def laws_eqRowSS_e : FEnt := ⟨27, [.tmp 4], [], [(.one, [.dat kk0]), (.one, [.dat kk0])], ⟨31, [⟨4, .one, [.dat .bool]⟩]⟩, laws_eqRowSS⟩
theorem laws_eqRowSS_ok : FnOk Tryz.prog 69 laws_eqRowSS_e := fnOk_mk (tb := [(58, laws_eqRowSS_n58)]) (c := (Tryz.f69.body).getD .skip) mixed Tryz.func69 (bC laws_eqRowS_ok bN) (by kernel_rfl) (by kernel_rfl) (by kernel_rfl) ⟨nodeLoop (by kernel_rfl) laws_eqRowSS_s58 (by kernel_rfl) (by intro d; kernel_rfl), trivial⟩ (by intro d; kernel_rfl)


/-! laws.eqTurn -/
def laws_eqTurn : (Int × Bool × List Int) × Int × Bool × List Int → Option Bool
  | ((a, b, c), d, e, f) => bif a != d then some false else bif !(b == e) then some false else (laws_eqIntS (c, f)).bind fun g => bif !g then some false else some true
def laws_eqTurn_e : FEnt := ⟨21, [.tmp 4], [], [(.agg, cc12), (.agg, cc12)], ⟨25, [⟨4, .one, [.dat .bool]⟩]⟩, laws_eqTurn⟩
theorem laws_eqTurn_ok : FnOk Tryz.prog 141 laws_eqTurn_e := fnOk_mk (tb := []) (c := (Tryz.f141.body).getD .skip) mixed Tryz.func141 (bC laws_eqIntS_ok bN) (by kernel_rfl) (by kernel_rfl) (by kernel_rfl) trivial (by intro d; kernel_rfl)


/-! laws.eqTurnS -/
def laws_eqTurnS_s58 : t32 → Option (t32 ⊕ Bool ⊕ Unit)
  | (a, b, c) => bif decide (c < (ln a)) then ix c a.length ((some (gx a c (0, false, []))).bind fun (d, e, f) => ix c b.length ((some (gx b c (0, false, []))).bind fun (g, h, i) => (laws_eqTurn ((d, e, f), g, h, i)).bind fun j => bif !j then some (.inr (.inl false)) else some (.inl (a, b, w64 (c + 1))))) else some (.inr (.inr ()))
def laws_eqTurnS_n58 : NEnt := ⟨⟨31, [⟨0, .one, [.dat kk8]⟩, ⟨1, .one, [.dat kk8]⟩, ⟨5, .one, [.dat kI]⟩]⟩, [(.ret, ⟨31, [⟨4, .one, [.dat .bool]⟩]⟩), (.exit 0, ⟨31, []⟩)], lp laws_eqTurnS_s58⟩
def laws_eqTurnS : List (Int × Bool × List Int) × List (Int × Bool × List Int) → Option Bool
  | (a, b) => bif (ln a) != (ln b) then some false else bx (lp laws_eqTurnS_s58 (a, b, 0)) (fun c => some c) fun _ => some true
def laws_eqTurnS_e : FEnt := ⟨27, [.tmp 4], [], [(.one, [.dat kk8]), (.one, [.dat kk8])], ⟨31, [⟨4, .one, [.dat .bool]⟩]⟩, laws_eqTurnS⟩
theorem laws_eqTurnS_ok : FnOk Tryz.prog 70 laws_eqTurnS_e := fnOk_mk (tb := [(58, laws_eqTurnS_n58)]) (c := (Tryz.f70.body).getD .skip) mixed Tryz.func70 (bC laws_eqTurn_ok bN) (by kernel_rfl) (by kernel_rfl) (by kernel_rfl) ⟨nodeLoop (by kernel_rfl) laws_eqTurnS_s58 (by kernel_rfl) (by intro d; kernel_rfl), trivial⟩ (by intro d; kernel_rfl)


/-! laws.eqOut -/
def laws_eqOut : t39 × t39 → Option Bool
  | ((a, b, c, d, e, f, g, h, i, j, k), l, m, n, o, p, q, r, s, t, u, v) => bif a != l then some false else (laws_eqEntry ((b, c, d, e, f, g, h, i, j, k), m, n, o, p, q, r, s, t, u, v)).bind fun w => bif !w then some false else some true
def laws_eqOut_e : FEnt := ⟨16, [.tmp 4], [], [(.agg, cc3), (.agg, cc3)], ⟨20, [⟨4, .one, [.dat .bool]⟩]⟩, laws_eqOut⟩
theorem laws_eqOut_ok : FnOk Tryz.prog 142 laws_eqOut_e := fnOk_mk (tb := []) (c := (Tryz.f142.body).getD .skip) mixed Tryz.func142 (bC laws_eqEntry_ok bN) (by kernel_rfl) (by kernel_rfl) (by kernel_rfl) trivial (by intro d; kernel_rfl)


/-! laws.eqOutS -/
def laws_eqOutS_s58 : List t39 × t45 → Option (List t39 × t45 ⊕ Bool ⊕ Unit)
  | (a, b, c) => (some (decide (c < (ln a)))).bind fun d => bif d then ix c a.length ((some (gx a c (0, 0, 0, [], 0, 0, 0, 0, [], [], []))).bind fun (e, f, g, h, i, j, k, l, m, n, o) => ix c b.length ((some (gx b c (0, 0, 0, [], 0, 0, 0, 0, [], [], []))).bind fun (p, q, r, s, t, u, v, w, x, y, z) => (laws_eqOut ((e, f, g, h, i, j, k, l, m, n, o), p, q, r, s, t, u, v, w, x, y, z)).bind fun a1 => bif !a1 then some (.inr (.inl false)) else some (.inl (a, b, w64 (c + 1))))) else some (.inr (.inr ()))
def laws_eqOutS_n58 : NEnt := ⟨⟨31, [⟨0, .one, [.dat kk1]⟩, ⟨1, .one, [.dat kk1]⟩, ⟨5, .one, [.dat kI]⟩]⟩, [(.ret, ⟨31, [⟨4, .one, [.dat .bool]⟩]⟩), (.exit 0, ⟨31, []⟩)], lp laws_eqOutS_s58⟩
def laws_eqOutS : List t39 × List t39 → Option Bool
  | (a, b) => (some ((ln a) != (ln b))).bind fun c => bif c then some false else bx (lp laws_eqOutS_s58 (a, b, 0)) (fun d => some d) fun _ => some true
def laws_eqOutS_e : FEnt := ⟨27, [.tmp 4], [], [(.one, [.dat kk1]), (.one, [.dat kk1])], ⟨31, [⟨4, .one, [.dat .bool]⟩]⟩, laws_eqOutS⟩
theorem laws_eqOutS_ok : FnOk Tryz.prog 71 laws_eqOutS_e := fnOk_mk (tb := [(58, laws_eqOutS_n58)]) (c := (Tryz.f71.body).getD .skip) mixed Tryz.func71 (bC laws_eqOut_ok bN) (by kernel_rfl) (by kernel_rfl) (by kernel_rfl) ⟨nodeLoop (by kernel_rfl) laws_eqOutS_s58 (by kernel_rfl) (by intro d; kernel_rfl), trivial⟩ (by intro d; kernel_rfl)


/-! laws.eqHouse -/
def laws_eqHouse : t77 × t77 → Option Bool
  | ((a, b, c, d, e, f, g, h, i, j, k, l, m, n, o, p), q, r, s, t, u, v, w, x, y, z, a1, b1, c1, d1, e1, f1) => (laws_eqConf ((a, b, c, d, e, f, g, h), q, r, s, t, u, v, w, x)).bind fun g1 => bif !g1 then some false else bif i != y then some false else bif !(j == z) then some false else (laws_eqSeatS (k, a1)).bind fun h1 => bif !h1 then some false else (laws_eqRowSS (l, b1)).bind fun i1 => bif !i1 then some false else (laws_eqTurnS (m, c1)).bind fun j1 => bif !j1 then some false else bif n != d1 then some false else (laws_eqEntryS (o, e1)).bind fun k1 => bif !k1 then some false else (laws_eqOutS (p, f1)).bind fun l1 => bif !l1 then some false else some true
def laws_eqHouse_e : FEnt := ⟨56, [.tmp 4], [], [(.agg, cc1), (.agg, cc1)], ⟨60, [⟨4, .one, [.dat .bool]⟩]⟩, laws_eqHouse⟩
theorem laws_eqHouse_ok : FnOk Tryz.prog 22 laws_eqHouse_e := fnOk_mk (tb := []) (c := (Tryz.f22.body).getD .skip) mixed Tryz.func22 (bC laws_eqConf_ok (bC laws_eqSeatS_ok (bC laws_eqRowSS_ok (bC laws_eqTurnS_ok (bC laws_eqEntryS_ok (bC laws_eqOutS_ok bN)))))) (by kernel_rfl) (by kernel_rfl) (by kernel_rfl) trivial (by intro d; kernel_rfl)


/-! laws.FnExactLate -/
def laws_FnExactLate : t77 → Option Bool
  | (a, b, c, d, e, f, g, h, i, j, k, l, m, n, o, p) => (laws_szHouse ((a, b, c, d, e, f, g, h, i, j, k, l, m, n, o, p), 1048576)).bind fun q => bif decide (q < 0) then some true else (laws_toHouse (a, b, c, d, e, f, g, h, i, j, k, l, m, n, o, p)).bind fun (r, s, t, u, v, w, x, y, z, a1, b1, c1, d1, e1, f1, g1) => (spec_Late (r, s, t, u, v, w, x, y, z, a1, b1, c1, d1, e1, f1, g1)).bind fun h1 => (laws_toHouse (a, b, c, d, e, f, g, h, i, j, k, l, m, n, o, p)).bind fun (i1, j1, k1, l1, m1, n1, o1, p1, q1, r1, s1, t1, u1, v1, w1, x1) => (impl_Late (i1, j1, k1, l1, m1, n1, o1, p1, q1, r1, s1, t1, u1, v1, w1, x1)).bind fun y1 => bif y1 != h1 then some false else (laws_toHouse (a, b, c, d, e, f, g, h, i, j, k, l, m, n, o, p)).bind fun (z1, a2, b2, c2, d2, e2, f2, g2, h2, i2, j2, k2, l2, m2, n2, o2) => (laws_eqHouse ((i1, j1, k1, l1, m1, n1, o1, p1, q1, r1, s1, t1, u1, v1, w1, x1), z1, a2, b2, c2, d2, e2, f2, g2, h2, i2, j2, k2, l2, m2, n2, o2)).bind fun p2 => bif !p2 then some false else some true
def laws_FnExactLate_e : FEnt := ⟨27, [.tmp 2], [], [(.agg, cc1)], ⟨29, [⟨2, .one, [.dat .bool]⟩]⟩, laws_FnExactLate⟩
theorem laws_FnExactLate_ok : FnOk Tryz.prog 4 laws_FnExactLate_e := fnOk_mk (tb := []) (c := (Tryz.f4.body).getD .skip) mixed Tryz.func4 (bC laws_szHouse_ok (bC laws_toHouse_ok (bC spec_Late_ok (bC impl_Late_ok (bC laws_eqHouse_ok bN))))) (by kernel_rfl) (by kernel_rfl) (by kernel_rfl) trivial (by intro d; kernel_rfl)


/-! spec.Items -/
def spec_Items_s3730 : t80 → Option (t80 ⊕ t79)
  | ((a, b, c, d, e, f, g, h, i, j, k, l, m, n, o, p), q, r, s) => ix r l.length ((some (gx l r [])).bind fun t => (some (decide (s < (ln t)))).bind fun u => bif u then ix r l.length ((some (gx l r [])).bind fun v => ix s v.length ((some (gx v s [])).bind fun w => some (.inl ((a, b, c, d, e, f, g, h, i, j, k, l, m, n, o, p), w64 (q + (ln w)), r, w64 (s + 1))))) else some (.inr ((a, b, c, d, e, f, g, h, i, j, k, l, m, n, o, p), q, r)))
def spec_Items_n3730 : NEnt := ⟨⟨38, [⟨1, .box, cc1⟩, ⟨3, .one, [.dat kI]⟩, ⟨4, .one, [.dat kI]⟩, ⟨5, .one, [.dat kI]⟩]⟩, [(.exit 2, ⟨38, [⟨1, .box, cc1⟩, ⟨3, .one, [.dat kI]⟩, ⟨4, .one, [.dat kI]⟩]⟩)], lp spec_Items_s3730⟩
def spec_Items_s58 : t79 → Option (t79 ⊕ Int)
  | ((a, b, c, d, e, f, g, h, i, j, k, l, m, n, o, p), q, r) => (some (decide (r < (ln l)))).bind fun s => bif s then (lp spec_Items_s3730 ((a, b, c, d, e, f, g, h, i, j, k, l, m, n, o, p), q, r, 0)).bind fun ((t, u, v, w, x, y, z, a1, b1, c1, d1, e1, f1, g1, h1, i1), j1, k1) => some (.inl ((t, u, v, w, x, y, z, a1, b1, c1, d1, e1, f1, g1, h1, i1), j1, w64 (k1 + 1))) else some (.inr q)
def spec_Items_n58 : NEnt := ⟨⟨38, [⟨1, .box, cc1⟩, ⟨3, .one, [.dat kI]⟩, ⟨4, .one, [.dat kI]⟩]⟩, [(.exit 0, ⟨38, [⟨3, .one, [.dat kI]⟩]⟩)], lp spec_Items_s58⟩
def spec_Items : t77 → Option Int
  | (a, b, c, d, e, f, g, h, i, j, k, l, m, n, o, p) => (lp spec_Items_s58 ((a, b, c, d, e, f, g, h, i, j, k, l, m, n, o, p), 0, 0)).bind fun q => some q
def spec_Items_e : FEnt := ⟨36, [.tmp 2], [], [(.agg, cc1)], ⟨38, [⟨2, .one, [.dat kI]⟩]⟩, spec_Items⟩
theorem spec_Items_ok : FnOk Tryz.prog 81 spec_Items_e := fnOk_mk (tb := [(3730, spec_Items_n3730), (58, spec_Items_n58)]) (c := (Tryz.f81.body).getD .skip) mixed Tryz.func81 bN (by kernel_rfl) (by kernel_rfl) (by kernel_rfl) ⟨nodeLoop (by kernel_rfl) spec_Items_s3730 (by kernel_rfl) (by intro d; kernel_rfl), nodeLoop (by kernel_rfl) spec_Items_s58 (by kernel_rfl) (by intro d; kernel_rfl), trivial⟩ (by intro d; kernel_rfl)


/-! spec.Stats -/
def spec_Stats_s122 : t77 × List Int × Int → Option (t77 × List Int × Int ⊕ List Int)
  | ((a, b, c, d, e, f, g, h, i, j, k, l, m, n, o, p), q, r) => bif decide (r < 3) then ix r k.length ((some (gx k r (0, 0, [], 0, 0))).bind fun (s, t, u, v, w) => (spec_SetSize u).bind fun x => ix r k.length ((some (gx k r (0, 0, [], 0, 0))).bind fun (y, z, a1, b1, c1) => chk (fits (q.length + [x, b1].length) 8) (some (.inl ((a, b, c, d, e, f, g, h, i, j, k, l, m, n, o, p), q ++ [x, b1], w64 (r + 1)))))) else some (.inr q)
def spec_Stats_n122 : NEnt := ⟨⟨43, [⟨1, .box, cc1⟩, ⟨3, .one, [.own true kI]⟩, ⟨4, .one, [.dat kI]⟩]⟩, [(.exit 0, ⟨43, [⟨3, .one, [.own true kI]⟩]⟩)], lp spec_Stats_s122⟩
def spec_Stats : t77 → Option (List Int)
  | (a, b, c, d, e, f, g, h, i, j, k, l, m, n, o, p) => (spec_HouseOk (a, b, c, d, e, f, g, h, i, j, k, l, m, n, o, p)).bind fun q => bif !q then some [] else (spec_Items (a, b, c, d, e, f, g, h, i, j, k, l, m, n, o, p)).bind fun r => (spec_Late (a, b, c, d, e, f, g, h, i, j, k, l, m, n, o, p)).bind fun s => (some [r, ln o, ln p, s]).bind fun t => (lp spec_Stats_s122 ((a, b, c, d, e, f, g, h, i, j, k, l, m, n, o, p), t, 0)).bind fun u => some u
def spec_Stats_e : FEnt := ⟨41, [.tmp 2], [], [(.agg, cc1)], ⟨43, [⟨2, .one, [.own true kI]⟩]⟩, spec_Stats⟩
theorem spec_Stats_ok : FnOk Tryz.prog 31 spec_Stats_e := fnOk_mk (tb := [(122, spec_Stats_n122)]) (c := (Tryz.f31.body).getD .skip) mixed Tryz.func31 (bC spec_HouseOk_ok (bC spec_Items_ok (bC spec_Late_ok (bC spec_SetSize_ok bN)))) (by kernel_rfl) (by kernel_rfl) (by kernel_rfl) ⟨nodeLoop (by kernel_rfl) spec_Stats_s122 (by kernel_rfl) (by intro d; kernel_rfl), trivial⟩ (by intro d; kernel_rfl)


/-! impl.Items -/
def impl_Items : t77 → Option Int
  | (a, b, c, d, e, f, g, h, i, j, k, l, m, n, o, p) => (impl_rowEntries (a, b, c, d, e, f, g, h, i, j, k, l, m, n, o, p)).bind fun q => some (ln q)
def impl_Items_e : FEnt := ⟨6, [.tmp 2], [], [(.agg, cc1)], ⟨8, [⟨2, .one, [.dat kI]⟩]⟩, impl_Items⟩
theorem impl_Items_ok : FnOk Tryz.prog 83 impl_Items_e := fnOk_mk (tb := []) (c := (Tryz.f83.body).getD .skip) mixed Tryz.func83 (bC impl_rowEntries_ok bN) (by kernel_rfl) (by kernel_rfl) (by kernel_rfl) trivial (by intro d; kernel_rfl)


/-! impl.Stats -/
def impl_Stats_s122 : List Int × t30 → Option (List Int × t30 ⊕ List Int)
  | (a, b, c, d) => bif decide (d < c) then ix d b.length ((some (gx b d (0, 0, [], 0, 0))).bind fun (e, f, g, h, i) => (impl_SetSize g).bind fun j => chk (fits (a.length + [j, h].length) 8) (some (.inl (a ++ [j, h], b, c, w64 (d + 1))))) else some (.inr a)
def impl_Stats_n122 : NEnt := ⟨⟨39, [⟨3, .one, [.own true kI]⟩, ⟨21, .one, [.dat kk6]⟩, ⟨22, .one, [.dat kI]⟩, ⟨23, .one, [.dat kI]⟩]⟩, [(.exit 0, ⟨39, [⟨3, .one, [.own true kI]⟩]⟩)], lp impl_Stats_s122⟩
def impl_Stats : t77 → Option (List Int)
  | (a, b, c, d, e, f, g, h, i, j, k, l, m, n, o, p) => (impl_HouseOk (a, b, c, d, e, f, g, h, i, j, k, l, m, n, o, p)).bind fun q => bif !q then some [] else (impl_Items (a, b, c, d, e, f, g, h, i, j, k, l, m, n, o, p)).bind fun r => (impl_Late (a, b, c, d, e, f, g, h, i, j, k, l, m, n, o, p)).bind fun s => (some [r, ln o, ln p, s]).bind fun t => (lp impl_Stats_s122 (t, k, ln k, 0)).bind fun u => some u
def impl_Stats_e : FEnt := ⟨37, [.tmp 2], [], [(.agg, cc1)], ⟨39, [⟨2, .one, [.own true kI]⟩]⟩, impl_Stats⟩
theorem impl_Stats_ok : FnOk Tryz.prog 32 impl_Stats_e := fnOk_mk (tb := [(122, impl_Stats_n122)]) (c := (Tryz.f32.body).getD .skip) mixed Tryz.func32 (bC impl_HouseOk_ok (bC impl_Items_ok (bC impl_Late_ok (bC impl_SetSize_ok bN)))) (by kernel_rfl) (by kernel_rfl) (by kernel_rfl) ⟨nodeLoop (by kernel_rfl) impl_Stats_s122 (by kernel_rfl) (by intro d; kernel_rfl), trivial⟩ (by intro d; kernel_rfl)


/-! laws.markConf -/
def laws_markConf : t27 × Int → Option (Int × t27)
  | ((a, b, c, d, e, f, g, h), i) => (laws_markIntS (d, i)).bind fun (j, k) => some (j, a, b, c, k, e, f, g, h)
def laws_markConf_e : FEnt := ⟨10, [.tmp 4], [true, false], [(.agg, cc9), (.one, [.dat kI])], ⟨14, [⟨4, .one, [.dat kI]⟩, ⟨10, .agg, cc9⟩]⟩, laws_markConf⟩
theorem laws_markConf_ok : FnOk Tryz.prog 76 laws_markConf_e := fnOk_mk (tb := []) (c := (Tryz.f76.body).getD .skip) mixed Tryz.func76 (bC laws_markIntS_ok bN) (by kernel_rfl) (by kernel_rfl) (by kernel_rfl) trivial (by intro d; kernel_rfl)


/-! laws.markSeatS -/
def laws_markSeatS_s26 : (Unit × Unit × Unit) × Int × Int × List t19 → Option ((Unit × Unit × Unit) × Int × Int × List t19 ⊕ Int × List t19)
  | ((_, _, _), a, b, c) => bif decide (b < (ln c)) then ix b c.length (lx b c.length ((some (sx c b (a, (gx c b (0, 0, [], 0, 0)).2))).bind fun d => ix b d.length (lx b d.length ((some (sx d b ((gx d b (0, 0, [], 0, 0)).1, w64 (a + 1), (gx d b (0, 0, [], 0, 0)).2.2))).bind fun e => ix b e.length (lx b e.length ((laws_markSpanS ((gx e b (0, 0, [], 0, 0)).2.2.1, w64 ((w64 (a + 1)) + 1))).bind fun (f, g) => (some (sx e b ((gx e b (0, 0, [], 0, 0)).1, (gx e b (0, 0, [], 0, 0)).2.1, g, (gx e b (0, 0, [], 0, 0)).2.2.2))).bind fun h => ix b h.length (lx b h.length ((some (sx h b ((gx h b (0, 0, [], 0, 0)).1, (gx h b (0, 0, [], 0, 0)).2.1, (gx h b (0, 0, [], 0, 0)).2.2.1, f, (gx h b (0, 0, [], 0, 0)).2.2.2.2))).bind fun i => ix b i.length (lx b i.length ((some (sx i b ((gx i b (0, 0, [], 0, 0)).1, (gx i b (0, 0, [], 0, 0)).2.1, (gx i b (0, 0, [], 0, 0)).2.2.1, (gx i b (0, 0, [], 0, 0)).2.2.2.1, w64 (f + 1)))).bind fun j => some (.inl (((), (), ()), w64 ((w64 (f + 1)) + 1), w64 (b + 1), j)))))))))))) else some (.inr (a, c))
def laws_markSeatS_n26 : NEnt := ⟨⟨52, [⟨0, .one, [.ref 48 0 [] false false kk7]⟩, ⟨1, .one, [.dat kI]⟩, ⟨5, .one, [.dat kI]⟩, ⟨48, .agg, [.own true kk7]⟩]⟩, [(.exit 0, ⟨52, [⟨1, .one, [.dat kI]⟩, ⟨48, .agg, [.own true kk7]⟩]⟩)], lp laws_markSeatS_s26⟩
def laws_markSeatS : t28 → Option (Int × List t19)
  | (a, b) => (lp laws_markSeatS_s26 (((), (), ()), b, 0, a)).bind fun (c, d) => some (c, d)
def laws_markSeatS_e : FEnt := ⟨48, [.tmp 4], [true, false], [(.one, [.own true kk7]), (.one, [.dat kI])], ⟨52, [⟨4, .one, [.dat kI]⟩, ⟨48, .agg, [.own true kk7]⟩]⟩, laws_markSeatS⟩
theorem laws_markSeatS_ok : FnOk Tryz.prog 77 laws_markSeatS_e := fnOk_mk (tb := [(26, laws_markSeatS_n26)]) (c := (Tryz.f77.body).getD .skip) mixed Tryz.func77 (bC laws_markSpanS_ok bN) (by kernel_rfl) (by kernel_rfl) (by kernel_rfl) ⟨nodeLoop (by kernel_rfl) laws_markSeatS_s26 (by kernel_rfl) (by intro d; kernel_rfl), trivial⟩ (by intro d; kernel_rfl)


/-! laws.markRowS -/
def laws_markRowS_s26 : (Unit × Unit × Unit) × Int × t47 → Option ((Unit × Unit × Unit) × Int × t47 ⊕ t47)
  | ((_, _, _), a, b, c) => (some (decide (b < (ln c)))).bind fun d => bif d then ix b c.length (lx b c.length ((laws_markEntryS (gx c b [], a)).bind fun (e, f) => some (.inl (((), (), ()), e, w64 (b + 1), sx c b f)))) else some (.inr (a, c))
def laws_markRowS_n26 : NEnt := ⟨⟨24, [⟨0, .one, [.ref 20 0 [] false false kk4]⟩, ⟨1, .one, [.dat kI]⟩, ⟨5, .one, [.dat kI]⟩, ⟨20, .agg, [.own true kk4]⟩]⟩, [(.exit 0, ⟨24, [⟨1, .one, [.dat kI]⟩, ⟨20, .agg, [.own true kk4]⟩]⟩)], lp laws_markRowS_s26⟩
def laws_markRowS : t46 → Option t47
  | (a, b) => (lp laws_markRowS_s26 (((), (), ()), b, 0, a)).bind fun (c, d) => some (c, d)
def laws_markRowS_e : FEnt := ⟨20, [.tmp 4], [true, false], [(.one, [.own true kk4]), (.one, [.dat kI])], ⟨24, [⟨4, .one, [.dat kI]⟩, ⟨20, .agg, [.own true kk4]⟩]⟩, laws_markRowS⟩
theorem laws_markRowS_ok : FnOk Tryz.prog 145 laws_markRowS_e := fnOk_mk (tb := [(26, laws_markRowS_n26)]) (c := (Tryz.f145.body).getD .skip) mixed Tryz.func145 (bC laws_markEntryS_ok bN) (by kernel_rfl) (by kernel_rfl) (by kernel_rfl) ⟨nodeLoop (by kernel_rfl) laws_markRowS_s26 (by kernel_rfl) (by intro d; kernel_rfl), trivial⟩ (by intro d; kernel_rfl)


/-! laws.markRowSS -/
def laws_markRowSS_s26 : (Unit × Unit × Unit) × Int × t53 → Option ((Unit × Unit × Unit) × Int × t53 ⊕ t53)
  | ((_, _, _), a, b, c) => (some (decide (b < (ln c)))).bind fun d => bif d then ix b c.length (lx b c.length ((laws_markRowS (gx c b [], a)).bind fun (e, f) => some (.inl (((), (), ()), e, w64 (b + 1), sx c b f)))) else some (.inr (a, c))
def laws_markRowSS_n26 : NEnt := ⟨⟨23, [⟨0, .one, [.ref 19 0 [] false false kk2]⟩, ⟨1, .one, [.dat kI]⟩, ⟨5, .one, [.dat kI]⟩, ⟨19, .agg, [.own true kk2]⟩]⟩, [(.exit 0, ⟨23, [⟨1, .one, [.dat kI]⟩, ⟨19, .agg, [.own true kk2]⟩]⟩)], lp laws_markRowSS_s26⟩
def laws_markRowSS : t51 → Option t53
  | (a, b) => (lp laws_markRowSS_s26 (((), (), ()), b, 0, a)).bind fun (c, d) => some (c, d)
def laws_markRowSS_e : FEnt := ⟨19, [.tmp 4], [true, false], [(.one, [.own true kk2]), (.one, [.dat kI])], ⟨23, [⟨4, .one, [.dat kI]⟩, ⟨19, .agg, [.own true kk2]⟩]⟩, laws_markRowSS⟩
theorem laws_markRowSS_ok : FnOk Tryz.prog 78 laws_markRowSS_e := fnOk_mk (tb := [(26, laws_markRowSS_n26)]) (c := (Tryz.f78.body).getD .skip) mixed Tryz.func78 (bC laws_markRowS_ok bN) (by kernel_rfl) (by kernel_rfl) (by kernel_rfl) ⟨nodeLoop (by kernel_rfl) laws_markRowSS_s26 (by kernel_rfl) (by intro d; kernel_rfl), trivial⟩ (by intro d; kernel_rfl)


/-! laws.markTurnS -/
def laws_markTurnS_s26 : (Unit × Unit × Unit) × Int × t13 → Option ((Unit × Unit × Unit) × Int × t13 ⊕ t13)
  | ((_, _, _), a, b, c) => bif decide (b < (ln c)) then ix b c.length (lx b c.length ((some (sx c b (a, (gx c b (0, false, [])).2))).bind fun d => ix b d.length (lx b d.length ((some (sx d b ((gx d b (0, false, [])).1, (Int.tmod (w64 (a + 1)) 3) == 0, (gx d b (0, false, [])).2.2))).bind fun e => ix b e.length (lx b e.length ((laws_markIntS ((gx e b (0, false, [])).2.2, w64 ((w64 (a + 1)) + 1))).bind fun (f, g) => (some (sx e b ((gx e b (0, false, [])).1, (gx e b (0, false, [])).2.1, g))).bind fun h => some (.inl (((), (), ()), f, w64 (b + 1), h)))))))) else some (.inr (a, c))
def laws_markTurnS_n26 : NEnt := ⟨⟨40, [⟨0, .one, [.ref 36 0 [] false false kk9]⟩, ⟨1, .one, [.dat kI]⟩, ⟨5, .one, [.dat kI]⟩, ⟨36, .agg, [.own true kk9]⟩]⟩, [(.exit 0, ⟨40, [⟨1, .one, [.dat kI]⟩, ⟨36, .agg, [.own true kk9]⟩]⟩)], lp laws_markTurnS_s26⟩
def laws_markTurnS : t12 → Option t13
  | (a, b) => (lp laws_markTurnS_s26 (((), (), ()), b, 0, a)).bind fun (c, d) => some (c, d)
def laws_markTurnS_e : FEnt := ⟨36, [.tmp 4], [true, false], [(.one, [.own true kk9]), (.one, [.dat kI])], ⟨40, [⟨4, .one, [.dat kI]⟩, ⟨36, .agg, [.own true kk9]⟩]⟩, laws_markTurnS⟩
theorem laws_markTurnS_ok : FnOk Tryz.prog 79 laws_markTurnS_e := fnOk_mk (tb := [(26, laws_markTurnS_n26)]) (c := (Tryz.f79.body).getD .skip) mixed Tryz.func79 (bC laws_markIntS_ok bN) (by kernel_rfl) (by kernel_rfl) (by kernel_rfl) ⟨nodeLoop (by kernel_rfl) laws_markTurnS_s26 (by kernel_rfl) (by intro d; kernel_rfl), trivial⟩ (by intro d; kernel_rfl)


/-! laws.markOutS -/
def laws_markOutS_s26 : (Unit × Unit × Unit) × Int × Int × List t39 → Option ((Unit × Unit × Unit) × Int × Int × List t39 ⊕ Int × List t39)
  | ((_, _, _), a, b, c) => (some (decide (b < (ln c)))).bind fun d => bif d then ix b c.length (lx b c.length ((some (sx c b (a, (gx c b (0, 0, 0, [], 0, 0, 0, 0, [], [], [])).2))).bind fun e => ix b e.length (lx b e.length ((some (sx e b ((gx e b (0, 0, 0, [], 0, 0, 0, 0, [], [], [])).1, w64 (a + 1), (gx e b (0, 0, 0, [], 0, 0, 0, 0, [], [], [])).2.2))).bind fun f => ix b f.length (lx b f.length ((some (sx f b ((gx f b (0, 0, 0, [], 0, 0, 0, 0, [], [], [])).1, (gx f b (0, 0, 0, [], 0, 0, 0, 0, [], [], [])).2.1, w64 ((w64 (a + 1)) + 1), (gx f b (0, 0, 0, [], 0, 0, 0, 0, [], [], [])).2.2.2))).bind fun g => ix b g.length (lx b g.length ((laws_markSpanS ((gx g b (0, 0, 0, [], 0, 0, 0, 0, [], [], [])).2.2.2.1, w64 ((w64 ((w64 (a + 1)) + 1)) + 1))).bind fun (h, i) => (some (sx g b ((gx g b (0, 0, 0, [], 0, 0, 0, 0, [], [], [])).1, (gx g b (0, 0, 0, [], 0, 0, 0, 0, [], [], [])).2.1, (gx g b (0, 0, 0, [], 0, 0, 0, 0, [], [], [])).2.2.1, i, (gx g b (0, 0, 0, [], 0, 0, 0, 0, [], [], [])).2.2.2.2))).bind fun j => ix b j.length (lx b j.length ((some (sx j b ((gx j b (0, 0, 0, [], 0, 0, 0, 0, [], [], [])).1, (gx j b (0, 0, 0, [], 0, 0, 0, 0, [], [], [])).2.1, (gx j b (0, 0, 0, [], 0, 0, 0, 0, [], [], [])).2.2.1, (gx j b (0, 0, 0, [], 0, 0, 0, 0, [], [], [])).2.2.2.1, h, (gx j b (0, 0, 0, [], 0, 0, 0, 0, [], [], [])).2.2.2.2.2))).bind fun k => ix b k.length (lx b k.length ((some (sx k b ((gx k b (0, 0, 0, [], 0, 0, 0, 0, [], [], [])).1, (gx k b (0, 0, 0, [], 0, 0, 0, 0, [], [], [])).2.1, (gx k b (0, 0, 0, [], 0, 0, 0, 0, [], [], [])).2.2.1, (gx k b (0, 0, 0, [], 0, 0, 0, 0, [], [], [])).2.2.2.1, (gx k b (0, 0, 0, [], 0, 0, 0, 0, [], [], [])).2.2.2.2.1, w64 (h + 1), (gx k b (0, 0, 0, [], 0, 0, 0, 0, [], [], [])).2.2.2.2.2.2))).bind fun l => ix b l.length (lx b l.length ((some (sx l b ((gx l b (0, 0, 0, [], 0, 0, 0, 0, [], [], [])).1, (gx l b (0, 0, 0, [], 0, 0, 0, 0, [], [], [])).2.1, (gx l b (0, 0, 0, [], 0, 0, 0, 0, [], [], [])).2.2.1, (gx l b (0, 0, 0, [], 0, 0, 0, 0, [], [], [])).2.2.2.1, (gx l b (0, 0, 0, [], 0, 0, 0, 0, [], [], [])).2.2.2.2.1, (gx l b (0, 0, 0, [], 0, 0, 0, 0, [], [], [])).2.2.2.2.2.1, w64 ((w64 (h + 1)) + 1), (gx l b (0, 0, 0, [], 0, 0, 0, 0, [], [], [])).2.2.2.2.2.2.2))).bind fun m => ix b m.length (lx b m.length ((some (sx m b ((gx m b (0, 0, 0, [], 0, 0, 0, 0, [], [], [])).1, (gx m b (0, 0, 0, [], 0, 0, 0, 0, [], [], [])).2.1, (gx m b (0, 0, 0, [], 0, 0, 0, 0, [], [], [])).2.2.1, (gx m b (0, 0, 0, [], 0, 0, 0, 0, [], [], [])).2.2.2.1, (gx m b (0, 0, 0, [], 0, 0, 0, 0, [], [], [])).2.2.2.2.1, (gx m b (0, 0, 0, [], 0, 0, 0, 0, [], [], [])).2.2.2.2.2.1, (gx m b (0, 0, 0, [], 0, 0, 0, 0, [], [], [])).2.2.2.2.2.2.1, w64 ((w64 ((w64 (h + 1)) + 1)) + 1), (gx m b (0, 0, 0, [], 0, 0, 0, 0, [], [], [])).2.2.2.2.2.2.2.2))).bind fun n => (some (w64 ((w64 ((w64 ((w64 (h + 1)) + 1)) + 1)) + 1))).bind fun o => ix b n.length (lx b n.length ((laws_markIntS ((gx n b (0, 0, 0, [], 0, 0, 0, 0, [], [], [])).2.2.2.2.2.2.2.2.1, o)).bind fun (p, q) => (some (sx n b ((gx n b (0, 0, 0, [], 0, 0, 0, 0, [], [], [])).1, (gx n b (0, 0, 0, [], 0, 0, 0, 0, [], [], [])).2.1, (gx n b (0, 0, 0, [], 0, 0, 0, 0, [], [], [])).2.2.1, (gx n b (0, 0, 0, [], 0, 0, 0, 0, [], [], [])).2.2.2.1, (gx n b (0, 0, 0, [], 0, 0, 0, 0, [], [], [])).2.2.2.2.1, (gx n b (0, 0, 0, [], 0, 0, 0, 0, [], [], [])).2.2.2.2.2.1, (gx n b (0, 0, 0, [], 0, 0, 0, 0, [], [], [])).2.2.2.2.2.2.1, (gx n b (0, 0, 0, [], 0, 0, 0, 0, [], [], [])).2.2.2.2.2.2.2.1, q, (gx n b (0, 0, 0, [], 0, 0, 0, 0, [], [], [])).2.2.2.2.2.2.2.2.2))).bind fun r => ix b r.length (lx b r.length ((laws_markIntS ((gx r b (0, 0, 0, [], 0, 0, 0, 0, [], [], [])).2.2.2.2.2.2.2.2.2.1, p)).bind fun (s, t) => (some (sx r b ((gx r b (0, 0, 0, [], 0, 0, 0, 0, [], [], [])).1, (gx r b (0, 0, 0, [], 0, 0, 0, 0, [], [], [])).2.1, (gx r b (0, 0, 0, [], 0, 0, 0, 0, [], [], [])).2.2.1, (gx r b (0, 0, 0, [], 0, 0, 0, 0, [], [], [])).2.2.2.1, (gx r b (0, 0, 0, [], 0, 0, 0, 0, [], [], [])).2.2.2.2.1, (gx r b (0, 0, 0, [], 0, 0, 0, 0, [], [], [])).2.2.2.2.2.1, (gx r b (0, 0, 0, [], 0, 0, 0, 0, [], [], [])).2.2.2.2.2.2.1, (gx r b (0, 0, 0, [], 0, 0, 0, 0, [], [], [])).2.2.2.2.2.2.2.1, (gx r b (0, 0, 0, [], 0, 0, 0, 0, [], [], [])).2.2.2.2.2.2.2.2.1, t, (gx r b (0, 0, 0, [], 0, 0, 0, 0, [], [], [])).2.2.2.2.2.2.2.2.2.2))).bind fun u => ix b u.length (lx b u.length ((laws_markIntSS ((gx u b (0, 0, 0, [], 0, 0, 0, 0, [], [], [])).2.2.2.2.2.2.2.2.2.2, s)).bind fun (v, w) => (some (sx u b ((gx u b (0, 0, 0, [], 0, 0, 0, 0, [], [], [])).1, (gx u b (0, 0, 0, [], 0, 0, 0, 0, [], [], [])).2.1, (gx u b (0, 0, 0, [], 0, 0, 0, 0, [], [], [])).2.2.1, (gx u b (0, 0, 0, [], 0, 0, 0, 0, [], [], [])).2.2.2.1, (gx u b (0, 0, 0, [], 0, 0, 0, 0, [], [], [])).2.2.2.2.1, (gx u b (0, 0, 0, [], 0, 0, 0, 0, [], [], [])).2.2.2.2.2.1, (gx u b (0, 0, 0, [], 0, 0, 0, 0, [], [], [])).2.2.2.2.2.2.1, (gx u b (0, 0, 0, [], 0, 0, 0, 0, [], [], [])).2.2.2.2.2.2.2.1, (gx u b (0, 0, 0, [], 0, 0, 0, 0, [], [], [])).2.2.2.2.2.2.2.2.1, (gx u b (0, 0, 0, [], 0, 0, 0, 0, [], [], [])).2.2.2.2.2.2.2.2.2.1, w))).bind fun x => some (.inl (((), (), ()), v, w64 (b + 1), x)))))))))))))))))))))))) else some (.inr (a, c))
def laws_markOutS_n26 : NEnt := ⟨⟨111, [⟨0, .one, [.ref 107 0 [] false false kk3]⟩, ⟨1, .one, [.dat kI]⟩, ⟨5, .one, [.dat kI]⟩, ⟨107, .agg, [.own true kk3]⟩]⟩, [(.exit 0, ⟨111, [⟨1, .one, [.dat kI]⟩, ⟨107, .agg, [.own true kk3]⟩]⟩)], lp laws_markOutS_s26⟩
def laws_markOutS : t45 → Option (Int × List t39)
  | (a, b) => (lp laws_markOutS_s26 (((), (), ()), b, 0, a)).bind fun (c, d) => some (c, d)
def laws_markOutS_e : FEnt := ⟨107, [.tmp 4], [true, false], [(.one, [.own true kk3]), (.one, [.dat kI])], ⟨111, [⟨4, .one, [.dat kI]⟩, ⟨107, .agg, [.own true kk3]⟩]⟩, laws_markOutS⟩
theorem laws_markOutS_ok : FnOk Tryz.prog 80 laws_markOutS_e := fnOk_mk (tb := [(26, laws_markOutS_n26)]) (c := (Tryz.f80.body).getD .skip) mixed Tryz.func80 (bC laws_markSpanS_ok (bC laws_markIntS_ok (bC laws_markIntSS_ok bN))) (by kernel_rfl) (by kernel_rfl) (by kernel_rfl) ⟨nodeLoop (by kernel_rfl) laws_markOutS_s26 (by kernel_rfl) (by intro d; kernel_rfl), trivial⟩ (by intro d; kernel_rfl)


/-! laws.markHouse -/
def laws_markHouse : t78 → Option (Int × t77)
  | ((a, b, c, d, e, f, g, h, i, j, k, l, m, n, o, p), q) => (laws_markConf ((a, b, c, d, e, f, g, h), q)).bind fun (r, s, t, u, v, w, x, y, z) => (laws_markSeatS (k, r)).bind fun (a1, b1) => (laws_markRowSS (l, a1)).bind fun (c1, d1) => (laws_markTurnS (m, c1)).bind fun (e1, f1) => (laws_markEntryS (o, e1)).bind fun (g1, h1) => (laws_markOutS (p, g1)).bind fun (i1, j1) => some (i1, a, b, c, v, e, f, g, h, i, j, b1, d1, f1, n, h1, j1)
def laws_markHouse_e : FEnt := ⟨30, [.tmp 4], [true, false], [(.agg, cc0), (.one, [.dat kI])], ⟨34, [⟨4, .one, [.dat kI]⟩, ⟨30, .agg, cc0⟩]⟩, laws_markHouse⟩
theorem laws_markHouse_ok : FnOk Tryz.prog 28 laws_markHouse_e := fnOk_mk (tb := []) (c := (Tryz.f28.body).getD .skip) mixed Tryz.func28 (bC laws_markConf_ok (bC laws_markSeatS_ok (bC laws_markRowSS_ok (bC laws_markTurnS_ok (bC laws_markEntryS_ok (bC laws_markOutS_ok bN)))))) (by kernel_rfl) (by kernel_rfl) (by kernel_rfl) trivial (by intro d; kernel_rfl)


/-! laws.FnExactStats -/
def laws_FnExactStats : t77 → Option Bool
  | (a, b, c, d, e, f, g, h, i, j, k, l, m, n, o, p) => (laws_szHouse ((a, b, c, d, e, f, g, h, i, j, k, l, m, n, o, p), 1048576)).bind fun q => bif decide (q < 0) then some true else (laws_toHouse (a, b, c, d, e, f, g, h, i, j, k, l, m, n, o, p)).bind fun (r, s, t, u, v, w, x, y, z, a1, b1, c1, d1, e1, f1, g1) => (spec_Stats (r, s, t, u, v, w, x, y, z, a1, b1, c1, d1, e1, f1, g1)).bind fun h1 => (laws_toHouse (a, b, c, d, e, f, g, h, i, j, k, l, m, n, o, p)).bind fun (i1, j1, k1, l1, m1, n1, o1, p1, q1, r1, s1, t1, u1, v1, w1, x1) => (impl_Stats (i1, j1, k1, l1, m1, n1, o1, p1, q1, r1, s1, t1, u1, v1, w1, x1)).bind fun y1 => (laws_eqIntS (y1, h1)).bind fun z1 => bif !z1 then some false else (laws_toHouse (a, b, c, d, e, f, g, h, i, j, k, l, m, n, o, p)).bind fun (a2, b2, c2, d2, e2, f2, g2, h2, i2, j2, k2, l2, m2, n2, o2, p2) => (laws_eqHouse ((i1, j1, k1, l1, m1, n1, o1, p1, q1, r1, s1, t1, u1, v1, w1, x1), a2, b2, c2, d2, e2, f2, g2, h2, i2, j2, k2, l2, m2, n2, o2, p2)).bind fun q2 => bif !q2 then some false else (laws_markHouse ((i1, j1, k1, l1, m1, n1, o1, p1, q1, r1, s1, t1, u1, v1, w1, x1), 1)).bind fun (r2, s2, t2, u2, v2, w2, x2, y2, z2, a3, b3, c3, d3, e3, f3, g3, h3) => bif decide (r2 < 0) then some false else (laws_eqIntS (y1, h1)).bind fun i3 => bif !i3 then some false else (laws_markIntS (y1, 1)).bind fun (j3, k3) => (laws_heldIntS (k3, 1)).bind fun l3 => bif decide (l3 < 0) then some false else bif l3 != j3 then some false else (laws_toHouse (a, b, c, d, e, f, g, h, i, j, k, l, m, n, o, p)).bind fun (m3, n3, o3, p3, q3, r3, s3, t3, u3, v3, w3, x3, y3, z3, a4, b4) => (impl_Stats (m3, n3, o3, p3, q3, r3, s3, t3, u3, v3, w3, x3, y3, z3, a4, b4)).bind fun c4 => (laws_eqIntS (c4, h1)).bind fun d4 => bif !d4 then some false else (laws_heldIntS (k3, 1)).bind fun e4 => bif decide (e4 < 0) then some false else bif e4 != j3 then some false else some true
def laws_FnExactStats_e : FEnt := ⟨69, [.tmp 2], [], [(.agg, cc1)], ⟨71, [⟨2, .one, [.dat .bool]⟩]⟩, laws_FnExactStats⟩
theorem laws_FnExactStats_ok : FnOk Tryz.prog 7 laws_FnExactStats_e := fnOk_mk (tb := []) (c := (Tryz.f7.body).getD .skip) mixed Tryz.func7 (bC laws_szHouse_ok (bC laws_toHouse_ok (bC spec_Stats_ok (bC impl_Stats_ok (bC laws_eqIntS_ok (bC laws_eqHouse_ok (bC laws_markHouse_ok (bC laws_markIntS_ok (bC laws_heldIntS_ok bN))))))))) (by kernel_rfl) (by kernel_rfl) (by kernel_rfl) trivial (by intro d; kernel_rfl)


/-! spec.Windows -/
def spec_Windows_s64074 : Int × List Int × List t37 × Int × Bool × Int → Option (Int × List Int × List t37 × Int × Bool × Int ⊕ Int × List Int × List t37 × Int × Bool)
  | (a, b, c, d, e, f) => (some (decide (f < (ln c)))).bind fun g => bif g then bif e then some (.inl (a, b, c, d, true, w64 (f + 1))) else ix f c.length (lx f c.length ((some (gx c f (0, 0, [], 0, 0, 0, 0, [], [], []))).bind fun (h, i, j, k, l, m, n, o, p, q) => bif h == a then ix f c.length (lx f c.length ((some (gx c f (0, 0, [], 0, 0, 0, 0, [], [], []))).bind fun (r, s, t, u, v, w, x, y, z, a1) => some (.inl (a, b, c, d, s == d, w64 (f + 1))))) else some (.inl (a, b, c, d, false, w64 (f + 1))))) else some (.inr (a, b, c, d, e))
def spec_Windows_n64074 : NEnt := ⟨⟨56, [⟨1, .one, [.dat kI]⟩, ⟨5, .one, [.own true kI]⟩, ⟨6, .one, [.own false kk5]⟩, ⟨7, .one, [.dat kI]⟩, ⟨8, .one, [.dat .bool]⟩, ⟨9, .one, [.dat kI]⟩]⟩, [(.exit 2, ⟨56, [⟨1, .one, [.dat kI]⟩, ⟨5, .one, [.own true kI]⟩, ⟨6, .one, [.own false kk5]⟩, ⟨7, .one, [.dat kI]⟩, ⟨8, .one, [.dat .bool]⟩]⟩)], lp spec_Windows_s64074⟩
def spec_Windows_s250 : t54 → Option (t54 ⊕ List Int)
  | (a, b, c, d) => bif decide (d ≤ 20) then (lp spec_Windows_s64074 (a, b, c, d, false, 0)).bind fun (e, f, g, h, i) => bif i then chk (fits (f.length + [h].length) 8) (some (.inl (e, f ++ [h], g, w64 (h + 1)))) else some (.inl (e, f, g, w64 (h + 1))) else some (.inr b)
def spec_Windows_n250 : NEnt := ⟨⟨56, [⟨1, .one, [.dat kI]⟩, ⟨5, .one, [.own true kI]⟩, ⟨6, .one, [.own false kk5]⟩, ⟨7, .one, [.dat kI]⟩]⟩, [(.exit 0, ⟨56, [⟨5, .one, [.own true kI]⟩]⟩)], lp spec_Windows_s250⟩
def spec_Windows : t78 → Option (List Int)
  | ((a, b, c, d, e, f, g, h, i, j, k, l, m, n, o, p), q) => (spec_HouseOk (a, b, c, d, e, f, g, h, i, j, k, l, m, n, o, p)).bind fun r => bif !r then some [] else (spec_l12All (a, b, c, d, e, f, g, h, i, j, k, l, m, n, o, p)).bind fun s => (lp spec_Windows_s250 (q, [], s, 0)).bind fun t => some t
def spec_Windows_e : FEnt := ⟨52, [.tmp 4], [], [(.agg, cc1), (.one, [.dat kI])], ⟨56, [⟨4, .one, [.own true kI]⟩]⟩, spec_Windows⟩
theorem spec_Windows_ok : FnOk Tryz.prog 25 spec_Windows_e := fnOk_mk (tb := [(64074, spec_Windows_n64074), (250, spec_Windows_n250)]) (c := (Tryz.f25.body).getD .skip) mixed Tryz.func25 (bC spec_HouseOk_ok (bC spec_l12All_ok bN)) (by kernel_rfl) (by kernel_rfl) (by kernel_rfl) ⟨nodeLoop (by kernel_rfl) spec_Windows_s64074 (by kernel_rfl) (by intro d; kernel_rfl), nodeLoop (by kernel_rfl) spec_Windows_s250 (by kernel_rfl) (by intro d; kernel_rfl), trivial⟩ (by intro d; kernel_rfl)


/-! impl.Windows -/
def impl_Windows_s250 : t54 → Option (t54 ⊕ List Int)
  | (a, b, c, d) => bif decide (d ≤ 20) then (impl_placeOf (c, a, d)).bind fun e => bif decide (e ≥ 0) then chk (fits (b.length + [d].length) 8) (some (.inl (a, b ++ [d], c, w64 (d + 1)))) else some (.inl (a, b, c, w64 (d + 1))) else some (.inr b)
def impl_Windows_n250 : NEnt := ⟨⟨34, [⟨1, .one, [.dat kI]⟩, ⟨5, .one, [.own true kI]⟩, ⟨6, .one, [.own false kk5]⟩, ⟨7, .one, [.dat kI]⟩]⟩, [(.exit 0, ⟨34, [⟨5, .one, [.own true kI]⟩]⟩)], lp impl_Windows_s250⟩
def impl_Windows : t78 → Option (List Int)
  | ((a, b, c, d, e, f, g, h, i, j, k, l, m, n, o, p), q) => (impl_HouseOk (a, b, c, d, e, f, g, h, i, j, k, l, m, n, o, p)).bind fun r => bif !r then some [] else (impl_rowEntries (a, b, c, d, e, f, g, h, i, j, k, l, m, n, o, p)).bind fun s => (impl_added (a, b, c, d, e, f, g, h, i, j, k, l, m, n, o, p)).bind fun t => chk (fits (s.length + t.length) 144) ((some (s ++ t)).bind fun u => (lp impl_Windows_s250 (q, [], u, 0)).bind fun v => some v)
def impl_Windows_e : FEnt := ⟨30, [.tmp 4], [], [(.agg, cc1), (.one, [.dat kI])], ⟨34, [⟨4, .one, [.own true kI]⟩]⟩, impl_Windows⟩
theorem impl_Windows_ok : FnOk Tryz.prog 26 impl_Windows_e := fnOk_mk (tb := [(250, impl_Windows_n250)]) (c := (Tryz.f26.body).getD .skip) mixed Tryz.func26 (bC impl_HouseOk_ok (bC impl_rowEntries_ok (bC impl_added_ok (bC impl_placeOf_ok bN)))) (by kernel_rfl) (by kernel_rfl) (by kernel_rfl) ⟨nodeLoop (by kernel_rfl) impl_Windows_s250 (by kernel_rfl) (by intro d; kernel_rfl), trivial⟩ (by intro d; kernel_rfl)


/-! laws.FnExactWindows -/
def laws_FnExactWindows : t78 → Option Bool
  | ((a, b, c, d, e, f, g, h, i, j, k, l, m, n, o, p), q) => (laws_szHouse ((a, b, c, d, e, f, g, h, i, j, k, l, m, n, o, p), 1048576)).bind fun r => bif decide (r < 0) then some true else (laws_toHouse (a, b, c, d, e, f, g, h, i, j, k, l, m, n, o, p)).bind fun (s, t, u, v, w, x, y, z, a1, b1, c1, d1, e1, f1, g1, h1) => (spec_Windows ((s, t, u, v, w, x, y, z, a1, b1, c1, d1, e1, f1, g1, h1), q)).bind fun i1 => (laws_toHouse (a, b, c, d, e, f, g, h, i, j, k, l, m, n, o, p)).bind fun (j1, k1, l1, m1, n1, o1, p1, q1, r1, s1, t1, u1, v1, w1, x1, y1) => (impl_Windows ((j1, k1, l1, m1, n1, o1, p1, q1, r1, s1, t1, u1, v1, w1, x1, y1), q)).bind fun z1 => (laws_eqIntS (z1, i1)).bind fun a2 => bif !a2 then some false else (laws_toHouse (a, b, c, d, e, f, g, h, i, j, k, l, m, n, o, p)).bind fun (b2, c2, d2, e2, f2, g2, h2, i2, j2, k2, l2, m2, n2, o2, p2, q2) => (laws_eqHouse ((j1, k1, l1, m1, n1, o1, p1, q1, r1, s1, t1, u1, v1, w1, x1, y1), b2, c2, d2, e2, f2, g2, h2, i2, j2, k2, l2, m2, n2, o2, p2, q2)).bind fun r2 => bif !r2 then some false else (laws_markHouse ((j1, k1, l1, m1, n1, o1, p1, q1, r1, s1, t1, u1, v1, w1, x1, y1), 1)).bind fun (s2, t2, u2, v2, w2, x2, y2, z2, a3, b3, c3, d3, e3, f3, g3, h3, i3) => bif decide (s2 < 0) then some false else (laws_eqIntS (z1, i1)).bind fun j3 => bif !j3 then some false else (laws_markIntS (z1, 1)).bind fun (k3, l3) => (laws_heldIntS (l3, 1)).bind fun m3 => bif decide (m3 < 0) then some false else bif m3 != k3 then some false else (laws_toHouse (a, b, c, d, e, f, g, h, i, j, k, l, m, n, o, p)).bind fun (n3, o3, p3, q3, r3, s3, t3, u3, v3, w3, x3, y3, z3, a4, b4, c4) => (impl_Windows ((n3, o3, p3, q3, r3, s3, t3, u3, v3, w3, x3, y3, z3, a4, b4, c4), q)).bind fun d4 => (laws_eqIntS (d4, i1)).bind fun e4 => bif !e4 then some false else (laws_heldIntS (l3, 1)).bind fun f4 => bif decide (f4 < 0) then some false else bif f4 != k3 then some false else some true
def laws_FnExactWindows_e : FEnt := ⟨74, [.tmp 4], [], [(.agg, cc1), (.one, [.dat kI])], ⟨78, [⟨4, .one, [.dat .bool]⟩]⟩, laws_FnExactWindows⟩
theorem laws_FnExactWindows_ok : FnOk Tryz.prog 6 laws_FnExactWindows_e := fnOk_mk (tb := []) (c := (Tryz.f6.body).getD .skip) mixed Tryz.func6 (bC laws_szHouse_ok (bC laws_toHouse_ok (bC spec_Windows_ok (bC impl_Windows_ok (bC laws_eqIntS_ok (bC laws_eqHouse_ok (bC laws_markHouse_ok (bC laws_markIntS_ok (bC laws_heldIntS_ok bN))))))))) (by kernel_rfl) (by kernel_rfl) (by kernel_rfl) trivial (by intro d; kernel_rfl)

end Go.Proofs.YtkegollaleklaaaGreat.Tw
