/- Printed by print.lean: typed twins of functions and their proofs. No condition. -/
import Derived.Test.YtkdmpinokekdaaaV
import Derived.Test.YtkdmpinokekdaaaProg
import Derived.KernelRfl
namespace Go.Proofs.Ytkdmpinokekdaaa.Tw
open Go.Mach
set_option linter.unusedVariables false
set_option maxRecDepth 100000
abbrev kI : K := .int .i64
abbrev kB : K := .int .u8
instance tabs : Tabs Try.prog := ⟨[]⟩
abbrev t0 : Type := List Int × List Int × Int
abbrev t1 : Type := List (List Int) × Int × Int
abbrev t2 : Type := Int × Int × Bool × List Int
abbrev t3 : Type := (Int × Bool × List Int) × Int
abbrev t4 : Type := List (List Int) × List Int × Int × Int
abbrev t5 : Type := List (List Int) × List (List Int) × Int
abbrev t6 : Type := (Int × Bool × Unit) × Int × Bool × List Int
abbrev t7 : Type := List Int × Int × t6
abbrev t8 : Type := List Int × t7
abbrev kk0 : K := (.list (.list kI))
abbrev cc0 : List PC := [.dat kI, .dat .bool, .dat (.list kI)]
abbrev cc1 : List PC := [.dat kI, .dat .bool, .own true kI]
abbrev cc2 : List PC := [.dat kI, .dat .bool, .nil]
abbrev cc3 : List PC := [.own true (.list kI)]
theorem mixed : Try.prog.follows .mixedOrders = true := by kernel_rfl

/-! laws.szIntS -/
def laws_szIntS : List Int × Int → Option Int
  | (a, b) => (some (decide ((w64 (b - (ln a))) < 0))).bind fun c => bif c then some (-1) else some (w64 (b - (ln a)))
def laws_szIntS_e : FEnt := ⟨12, [.tmp 4], [], [(.one, [.dat (.list kI)]), (.one, [.dat kI])], ⟨16, [⟨4, .one, [.dat kI]⟩]⟩, laws_szIntS⟩
theorem laws_szIntS_ok : FnOk Try.prog 37 laws_szIntS_e := fnOk_mk (tb := []) (c := (Try.f37.body).getD .skip) mixed Try.func37 bN (by kernel_rfl) (by kernel_rfl) (by kernel_rfl) trivial (by intro d; kernel_rfl)


/-! laws.szIntSS -/
def laws_szIntSS_s122 : t1 → Option (t1 ⊕ Int ⊕ Int)
  | (a, b, c) => bif decide (c < (ln a)) then ix c a.length ((laws_szIntS (gx a c [], b)).bind fun d => bif decide (d < 0) then some (.inr (.inl (-1))) else some (.inl (a, d, w64 (c + 1)))) else some (.inr (.inr b))
def laws_szIntSS_n122 : NEnt := ⟨⟨31, [⟨0, .one, [.dat kk0]⟩, ⟨1, .one, [.dat kI]⟩, ⟨5, .one, [.dat kI]⟩]⟩, [(.ret, ⟨31, [⟨4, .one, [.dat kI]⟩]⟩), (.exit 0, ⟨31, [⟨1, .one, [.dat kI]⟩]⟩)], lp laws_szIntSS_s122⟩
def laws_szIntSS : List (List Int) × Int → Option Int
  | (a, b) => (some (decide ((w64 (b - (ln a))) < 0))).bind fun c => bif c then some (-1) else bx (lp laws_szIntSS_s122 (a, w64 (b - (ln a)), 0)) (fun d => some d) fun d => some d
def laws_szIntSS_e : FEnt := ⟨27, [.tmp 4], [], [(.one, [.dat kk0]), (.one, [.dat kI])], ⟨31, [⟨4, .one, [.dat kI]⟩]⟩, laws_szIntSS⟩
theorem laws_szIntSS_ok : FnOk Try.prog 16 laws_szIntSS_e := fnOk_mk (tb := [(122, laws_szIntSS_n122)]) (c := (Try.f16.body).getD .skip) mixed Try.func16 (bC laws_szIntS_ok bN) (by kernel_rfl) (by kernel_rfl) (by kernel_rfl) ⟨nodeLoop (by kernel_rfl) laws_szIntSS_s122 (by kernel_rfl) (by intro d; kernel_rfl), trivial⟩ (by intro d; kernel_rfl)


/-! laws.toIntS -/
def laws_toIntS_s58 : t0 → Option (t0 ⊕ List Int)
  | (a, b, c) => bif decide (c < (ln a)) then ix c a.length (ix c b.length (lx c b.length (some (.inl (a, sx b c (gx a c 0), w64 (c + 1)))))) else some (.inr b)
def laws_toIntS_n58 : NEnt := ⟨⟨24, [⟨0, .one, [.dat (.list kI)]⟩, ⟨3, .one, [.own true kI]⟩, ⟨4, .one, [.dat kI]⟩]⟩, [(.exit 0, ⟨24, [⟨3, .one, [.own true kI]⟩]⟩)], lp laws_toIntS_s58⟩
def laws_toIntS : List Int → Option (List Int)
  | a => chk (decide (((ln a).toNat ≤ (ln a).toNat) ∧ (((ln a).toNat ≤ 4294967296) ∧ (((ln a).toNat * 8) ≤ 140737488355328)))) ((lp laws_toIntS_s58 (a, List.replicate (ln a).toNat 0, 0)).bind fun b => some b)
def laws_toIntS_e : FEnt := ⟨22, [.tmp 2], [], [(.one, [.dat (.list kI)])], ⟨24, [⟨2, .one, [.own true kI]⟩]⟩, laws_toIntS⟩
theorem laws_toIntS_ok : FnOk Try.prog 13 laws_toIntS_e := fnOk_mk (tb := [(58, laws_toIntS_n58)]) (c := (Try.f13.body).getD .skip) mixed Try.func13 bN (by kernel_rfl) (by kernel_rfl) (by kernel_rfl) ⟨nodeLoop (by kernel_rfl) laws_toIntS_s58 (by kernel_rfl) (by intro d; kernel_rfl), trivial⟩ (by intro d; kernel_rfl)


/-! laws.toIntSS -/
def laws_toIntSS_s58 : t5 → Option (t5 ⊕ List (List Int))
  | (a, b, c) => bif decide (c < (ln a)) then ix c a.length ((laws_toIntS (gx a c [])).bind fun d => ix c b.length (lx c b.length (some (.inl (a, sx b c d, w64 (c + 1)))))) else some (.inr b)
def laws_toIntSS_n58 : NEnt := ⟨⟨25, [⟨0, .one, [.dat kk0]⟩, ⟨3, .one, cc3⟩, ⟨4, .one, [.dat kI]⟩]⟩, [(.exit 0, ⟨25, [⟨3, .one, cc3⟩]⟩)], lp laws_toIntSS_s58⟩
def laws_toIntSS : List (List Int) → Option (List (List Int))
  | a => chk (decide (((ln a).toNat ≤ (ln a).toNat) ∧ (((ln a).toNat ≤ 4294967296) ∧ (((ln a).toNat * 24) ≤ 140737488355328)))) ((lp laws_toIntSS_s58 (a, List.replicate (ln a).toNat [], 0)).bind fun b => some b)
def laws_toIntSS_e : FEnt := ⟨23, [.tmp 2], [], [(.one, [.dat kk0])], ⟨25, [⟨2, .one, cc3⟩]⟩, laws_toIntSS⟩
theorem laws_toIntSS_ok : FnOk Try.prog 18 laws_toIntSS_e := fnOk_mk (tb := [(58, laws_toIntSS_n58)]) (c := (Try.f18.body).getD .skip) mixed Try.func18 (bC laws_toIntS_ok bN) (by kernel_rfl) (by kernel_rfl) (by kernel_rfl) ⟨nodeLoop (by kernel_rfl) laws_toIntSS_s58 (by kernel_rfl) (by intro d; kernel_rfl), trivial⟩ (by intro d; kernel_rfl)


/-! spec.l1In -/
def spec_l1In : Int × Int × Int → Option Bool
  | (a, b, c) => bif decide (a ≥ b) then some (decide (a ≤ c)) else some false
def spec_l1In_e : FEnt := ⟨15, [.tmp 6], [], [(.one, [.dat kI]), (.one, [.dat kI]), (.one, [.dat kI])], ⟨21, [⟨6, .one, [.dat .bool]⟩]⟩, spec_l1In⟩
theorem spec_l1In_ok : FnOk Try.prog 32 spec_l1In_e := fnOk_mk (tb := []) (c := (Try.f32.body).getD .skip) mixed Try.func32 bN (by kernel_rfl) (by kernel_rfl) (by kernel_rfl) trivial (by intro d; kernel_rfl)


/-! spec.l21Ok -/
def spec_l21Ok_s7462 : t1 → Option (t1 ⊕ Bool ⊕ List (List Int) × Int)
  | (a, b, c) => ix b a.length (bif decide (c < (ln (gx a b []))) then ix b a.length (ix c (gx a b []).length ((spec_l1In (gx (gx a b []) c 0, 1, 200)).bind fun d => bif !d then some (.inr (.inl false)) else some (.inl (a, b, w64 (c + 1))))) else some (.inr (.inr (a, b))))
def spec_l21Ok_n7462 : NEnt := ⟨⟨40, [⟨0, .one, [.dat kk0]⟩, ⟨3, .one, [.dat kI]⟩, ⟨4, .one, [.dat kI]⟩]⟩, [(.ret, ⟨40, [⟨2, .one, [.dat .bool]⟩]⟩), (.exit 2, ⟨40, [⟨0, .one, [.dat kk0]⟩, ⟨3, .one, [.dat kI]⟩]⟩)], lp spec_l21Ok_s7462⟩
def spec_l21Ok_s58 : List (List Int) × Int → Option (List (List Int) × Int ⊕ Bool ⊕ Unit)
  | (a, b) => bif decide (b < (ln a)) then ix b a.length (bif decide ((ln (gx a b [])) > 40) then some (.inr (.inl false)) else bx (lp spec_l21Ok_s7462 (a, b, 0)) (fun c => some (.inr (.inl c))) fun (c, d) => some (.inl (c, w64 (d + 1)))) else some (.inr (.inr ()))
def spec_l21Ok_n58 : NEnt := ⟨⟨40, [⟨0, .one, [.dat kk0]⟩, ⟨3, .one, [.dat kI]⟩]⟩, [(.ret, ⟨40, [⟨2, .one, [.dat .bool]⟩]⟩), (.exit 0, ⟨40, []⟩)], lp spec_l21Ok_s58⟩
def spec_l21Ok : List (List Int) → Option Bool
  | a => bif (ln a) != 3 then some false else bx (lp spec_l21Ok_s58 (a, 0)) (fun b => some b) fun _ => some true
def spec_l21Ok_e : FEnt := ⟨38, [.tmp 2], [], [(.one, [.dat kk0])], ⟨40, [⟨2, .one, [.dat .bool]⟩]⟩, spec_l21Ok⟩
theorem spec_l21Ok_ok : FnOk Try.prog 38 spec_l21Ok_e := fnOk_mk (tb := [(7462, spec_l21Ok_n7462), (58, spec_l21Ok_n58)]) (c := (Try.f38.body).getD .skip) mixed Try.func38 (bC spec_l1In_ok bN) (by kernel_rfl) (by kernel_rfl) (by kernel_rfl) ⟨nodeLoop (by kernel_rfl) spec_l21Ok_s7462 (by kernel_rfl) (by intro d; kernel_rfl), nodeLoop (by kernel_rfl) spec_l21Ok_s58 (by kernel_rfl) (by intro d; kernel_rfl), trivial⟩ (by intro d; kernel_rfl)


/-! spec.l11Nums -/
def spec_l11Nums_s58 : List Int × Int × Int × Int → Option (List Int × Int × Int × Int ⊕ Bool ⊕ Unit)
  | (a, b, c, d) => bif decide (d < (ln a)) then ix d a.length ((spec_l1In (gx a d 0, b, c)).bind fun e => bif !e then some (.inr (.inl false)) else some (.inl (a, b, c, w64 (d + 1)))) else some (.inr (.inr ()))
def spec_l11Nums_n58 : NEnt := ⟨⟨31, [⟨0, .one, [.dat (.list kI)]⟩, ⟨1, .one, [.dat kI]⟩, ⟨2, .one, [.dat kI]⟩, ⟨7, .one, [.dat kI]⟩]⟩, [(.ret, ⟨31, [⟨6, .one, [.dat .bool]⟩]⟩), (.exit 0, ⟨31, []⟩)], lp spec_l11Nums_s58⟩
def spec_l11Nums : List Int × Int × Int → Option Bool
  | (a, b, c) => bif (ln a) != 3 then some false else bx (lp spec_l11Nums_s58 (a, b, c, 0)) (fun d => some d) fun _ => some true
def spec_l11Nums_e : FEnt := ⟨25, [.tmp 6], [], [(.one, [.dat (.list kI)]), (.one, [.dat kI]), (.one, [.dat kI])], ⟨31, [⟨6, .one, [.dat .bool]⟩]⟩, spec_l11Nums⟩
theorem spec_l11Nums_ok : FnOk Try.prog 48 spec_l11Nums_e := fnOk_mk (tb := [(58, spec_l11Nums_n58)]) (c := (Try.f48.body).getD .skip) mixed Try.func48 (bC spec_l1In_ok bN) (by kernel_rfl) (by kernel_rfl) (by kernel_rfl) ⟨nodeLoop (by kernel_rfl) spec_l11Nums_s58 (by kernel_rfl) (by intro d; kernel_rfl), trivial⟩ (by intro d; kernel_rfl)


/-! spec.l21Weights -/
def spec_l21Weights : List Int × Int → Option Bool
  | (a, b) => (spec_l11Nums (a, 1, 4)).bind fun c => bif c then (spec_l1In (b, 1, 60)).bind fun d => some d else some false
def spec_l21Weights_e : FEnt := ⟨11, [.tmp 4], [], [(.one, [.dat (.list kI)]), (.one, [.dat kI])], ⟨15, [⟨4, .one, [.dat .bool]⟩]⟩, spec_l21Weights⟩
theorem spec_l21Weights_ok : FnOk Try.prog 34 spec_l21Weights_e := fnOk_mk (tb := []) (c := (Try.f34.body).getD .skip) mixed Try.func34 (bC spec_l11Nums_ok (bC spec_l1In_ok bN)) (by kernel_rfl) (by kernel_rfl) (by kernel_rfl) trivial (by intro d; kernel_rfl)


/-! spec.TurnNew -/
def spec_TurnNew : Unit → Option (Int × Bool × List Int)
  | _ => some (0, true, List.replicate 3 0)
def spec_TurnNew_e : FEnt := ⟨3, [.cell 0 true 3], [], [], ⟨3, [⟨0, .box, cc1⟩]⟩, spec_TurnNew⟩
theorem spec_TurnNew_ok : FnOk Try.prog 42 spec_TurnNew_e := fnOk_mk (tb := []) (c := (Try.f42.body).getD .skip) mixed Try.func42 bN (by kernel_rfl) (by kernel_rfl) (by kernel_rfl) trivial (by intro d; kernel_rfl)


/-! spec.l11Copy -/
def spec_l11Copy : Int × Bool × List Int → Option (Int × Bool × List Int)
  | (a, b, c) => chk (fits (0 + c.length) 8) (some (a, b, [] ++ c))
def spec_l11Copy_e : FEnt := ⟨12, [.cell 2 true 3], [], [(.agg, cc0)], ⟨14, [⟨2, .box, cc1⟩]⟩, spec_l11Copy⟩
theorem spec_l11Copy_ok : FnOk Try.prog 50 spec_l11Copy_e := fnOk_mk (tb := []) (c := (Try.f50.body).getD .skip) mixed Try.func50 bN (by kernel_rfl) (by kernel_rfl) (by kernel_rfl) trivial (by intro d; kernel_rfl)


/-! spec.l6Agent -/
def spec_l6Agent : Int → Option Bool
  | a => (spec_l1In (a, 0, 2)).bind fun b => some b
def spec_l6Agent_e : FEnt := ⟨5, [.tmp 2], [], [(.one, [.dat kI])], ⟨7, [⟨2, .one, [.dat .bool]⟩]⟩, spec_l6Agent⟩
theorem spec_l6Agent_ok : FnOk Try.prog 35 spec_l6Agent_e := fnOk_mk (tb := []) (c := (Try.f35.body).getD .skip) mixed Try.func35 (bC spec_l1In_ok bN) (by kernel_rfl) (by kernel_rfl) (by kernel_rfl) trivial (by intro d; kernel_rfl)


/-! spec.TurnOk -/
def spec_TurnOk : Int × Bool × List Int → Option Bool
  | (a, b, c) => (spec_l6Agent a).bind fun d => bif d then (spec_l11Nums (c, 0, 1000)).bind fun e => some e else some false
def spec_TurnOk_e : FEnt := ⟨11, [.tmp 2], [], [(.agg, cc0)], ⟨13, [⟨2, .one, [.dat .bool]⟩]⟩, spec_TurnOk⟩
theorem spec_TurnOk_ok : FnOk Try.prog 51 spec_TurnOk_e := fnOk_mk (tb := []) (c := (Try.f51.body).getD .skip) mixed Try.func51 (bC spec_l6Agent_ok (bC spec_l11Nums_ok bN)) (by kernel_rfl) (by kernel_rfl) (by kernel_rfl) trivial (by intro d; kernel_rfl)


/-! spec.l11Next -/
def spec_l11Next : Int × Bool × List Int → Option ((Int × Bool × Unit × Unit × Unit) × Int × Bool × List Int)
  | (a, b, c) => some ((Int.tmod (w64 (a + 1)) 3, true, (), (), ()), a, b, c)
def spec_l11Next_e : FEnt := ⟨10, [.cell 2 true 3], [true], [(.agg, cc1)], ⟨12, [⟨2, .box, [.dat kI, .dat .bool, .ref 10 2 [] false false kI]⟩, ⟨10, .agg, cc1⟩]⟩, spec_l11Next⟩
theorem spec_l11Next_ok : FnOk Try.prog 52 spec_l11Next_e := fnOk_mk (tb := []) (c := (Try.f52.body).getD .skip) mixed Try.func52 bN (by kernel_rfl) (by kernel_rfl) (by kernel_rfl) trivial (by intro d; kernel_rfl)


/-! spec.l1Min -/
def spec_l1Min : Int × Int → Option Int
  | (a, b) => bif decide (a < b) then some a else some b
def spec_l1Min_e : FEnt := ⟨10, [.tmp 4], [], [(.one, [.dat kI]), (.one, [.dat kI])], ⟨14, [⟨4, .one, [.dat kI]⟩]⟩, spec_l1Min⟩
theorem spec_l1Min_ok : FnOk Try.prog 53 spec_l1Min_e := fnOk_mk (tb := []) (c := (Try.f53.body).getD .skip) mixed Try.func53 bN (by kernel_rfl) (by kernel_rfl) (by kernel_rfl) trivial (by intro d; kernel_rfl)


/-! spec.Pick -/
def spec_Pick_l995 : t8 → Option (t2 ⊕ t8)
  | (a, b, c, (d, e, _), f, g, h) => ix f a.length (ix f h.length (lx f h.length (bif decide ((gx a f 0) ≤ (gx h f 0)) then ix f h.length (lx f h.length (ix f a.length (ix f h.length (lx f h.length (some (.inl (f, f, g, sx h f (w64 ((gx h f 0) - (gx a f 0)))))))))) else (spec_l11Next (f, g, h)).bind fun ((i, j, _, _, _), k, l, m) => some (.inr (a, b, c, (d, e, ()), i, j, m)))))
def spec_Pick_n995 : NEnt := ⟨⟨113, [⟨0, .one, [.dat (.list kI)]⟩, ⟨1, .one, [.dat (.list kI)]⟩, ⟨2, .one, [.dat kI]⟩, ⟨9, .box, cc2⟩, ⟨10, .box, cc1⟩]⟩, [(.ret, ⟨113, [⟨8, .one, [.dat kI]⟩, ⟨9, .box, cc1⟩]⟩), (.normal, ⟨113, [⟨0, .one, [.dat (.list kI)]⟩, ⟨1, .one, [.dat (.list kI)]⟩, ⟨2, .one, [.dat kI]⟩, ⟨9, .box, cc2⟩, ⟨10, .box, cc1⟩]⟩)], spec_Pick_l995⟩
def spec_Pick_s62 : t8 → Option (t8 ⊕ t2)
  | (a, b, c, (d, e, _), f, g, h) => ix f a.length (bif (gx a f 0) == 0 then ix f h.length (lx f h.length ((spec_l11Next (f, g, sx h f 0)).bind fun ((i, j, _, _, _), k, l, m) => some (.inl (a, b, c, (d, e, ()), i, j, m)))) else bif g then ix f h.length (lx f h.length (ix f b.length ((spec_l1Min (w64 ((gx h f 0) + (w64 (c * (gx b f 0)))), 1000)).bind fun i => ix f h.length (lx f h.length (bx (spec_Pick_l995 (a, b, c, (d, e, ()), f, false, sx h f i)) (fun (j, k, l, m) => some (.inr (j, k, l, m))) fun (j, k, l, (m, n, _), o, p, q) => some (.inl (j, k, l, (m, n, ()), o, p, q))))))) else bx (spec_Pick_l995 (a, b, c, (d, e, ()), f, g, h)) (fun (i, j, k, l) => some (.inr (i, j, k, l))) fun (i, j, k, (l, m, _), n, o, p) => some (.inl (i, j, k, (l, m, ()), n, o, p)))
def spec_Pick_n62 : NEnt := ⟨⟨113, [⟨0, .one, [.dat (.list kI)]⟩, ⟨1, .one, [.dat (.list kI)]⟩, ⟨2, .one, [.dat kI]⟩, ⟨9, .box, cc2⟩, ⟨10, .box, cc1⟩]⟩, [(.ret, ⟨113, [⟨8, .one, [.dat kI]⟩, ⟨9, .box, cc1⟩]⟩)], lp spec_Pick_s62⟩
def spec_Pick : List Int × List Int × t2 → Option t2
  | (a, b, c, d, e, f) => (spec_l11Copy (d, e, f)).bind fun (g, h, i) => (spec_l11Nums (a, 0, 200)).bind fun j => bif !j then some ((-1), g, h, i) else (spec_l11Nums (b, 1, 4)).bind fun k => bif !k then some ((-1), g, h, i) else (spec_l1In (c, 1, 60)).bind fun l => bif !l then some ((-1), g, h, i) else (spec_TurnOk (d, e, f)).bind fun m => bif !m then some ((-1), g, h, i) else (spec_l11Nums (a, 0, 0)).bind fun n => bif n then (spec_TurnNew ()).bind fun (o, p, q) => some ((-1), o, p, q) else (lp spec_Pick_s62 (a, b, c, (0, false, ()), g, h, i)).bind fun (o, p, q, r) => some (o, p, q, r)
def spec_Pick_e : FEnt := ⟨105, [.tmp 8, .cell 9 true 3], [], [(.one, [.dat (.list kI)]), (.one, [.dat (.list kI)]), (.one, [.dat kI]), (.agg, cc0)], ⟨113, [⟨8, .one, [.dat kI]⟩, ⟨9, .box, cc1⟩]⟩, spec_Pick⟩
theorem spec_Pick_ok : FnOk Try.prog 43 spec_Pick_e := fnOk_mk (tb := [(995, spec_Pick_n995), (62, spec_Pick_n62)]) (c := (Try.f43.body).getD .skip) mixed Try.func43 (bC spec_l11Copy_ok (bC spec_l11Nums_ok (bC spec_l1In_ok (bC spec_TurnOk_ok (bC spec_TurnNew_ok (bC spec_l11Next_ok (bC spec_l1Min_ok bN))))))) (by kernel_rfl) (by kernel_rfl) (by kernel_rfl) ⟨nodeJoin (by kernel_rfl) (by intro d; kernel_rfl), nodeLoop (by kernel_rfl) spec_Pick_s62 (by kernel_rfl) (by intro d; kernel_rfl), trivial⟩ (by intro d; kernel_rfl)


/-! spec.Hand -/
def spec_Hand_s129610 : List (List Int) × List Int × Int × Int × List Int × List Int × (Int × Bool × List Int) × Int × List Int × Int × Int × Bool → Option (List (List Int) × List Int × Int × Int × List Int × List Int × (Int × Bool × List Int) × Int × List Int × Int × Int × Bool ⊕ List (List Int) × List Int × Int × Int × List Int × List Int × (Int × Bool × List Int) × Int × List Int × Int × Bool)
  | (a, b, c, d, e, f, (g, h, i), j, k, l, m, n) => bif decide (l < 3) then ix l f.length (lx l f.length (ix l a.length ((some (decide ((gx f l 0) < (ln (gx a l []))))).bind fun o => bif o then ix l a.length (ix l f.length (lx l f.length (ix (gx f l 0) (gx a l []).length (ix l k.length (lx l k.length (some (.inl (a, b, c, d, e, f, (g, h, i), j, sx k l (gx (gx a l []) (gx f l 0) 0), w64 (l + 1), m, n)))))))) else some (.inl (a, b, c, d, e, f, (g, h, i), j, k, w64 (l + 1), m, n))))) else some (.inr (a, b, c, d, e, f, (g, h, i), j, k, m, n))
def spec_Hand_n129610 : NEnt := ⟨⟨100, [⟨0, .one, [.dat kk0]⟩, ⟨1, .one, [.dat (.list kI)]⟩, ⟨2, .one, [.dat kI]⟩, ⟨3, .one, [.dat kI]⟩, ⟨9, .one, [.own true kI]⟩, ⟨10, .one, [.own true kI]⟩, ⟨11, .box, cc1⟩, ⟨12, .one, [.dat kI]⟩, ⟨13, .one, [.own true kI]⟩, ⟨14, .one, [.dat kI]⟩, ⟨34, .one, [.dat kI]⟩, ⟨35, .one, [.dat .bool]⟩]⟩, [(.exit 2, ⟨100, [⟨0, .one, [.dat kk0]⟩, ⟨1, .one, [.dat (.list kI)]⟩, ⟨2, .one, [.dat kI]⟩, ⟨3, .one, [.dat kI]⟩, ⟨9, .one, [.own true kI]⟩, ⟨10, .one, [.own true kI]⟩, ⟨11, .box, cc1⟩, ⟨12, .one, [.dat kI]⟩, ⟨13, .one, [.own true kI]⟩, ⟨34, .one, [.dat kI]⟩, ⟨35, .one, [.dat .bool]⟩]⟩)], lp spec_Hand_s129610⟩
def spec_Hand_s506 : List (List Int) × List Int × Int × Int × List Int × List Int × t3 → Option (List (List Int) × List Int × Int × Int × List Int × List Int × t3 ⊕ List Int ⊕ List Int)
  | (a, b, c, d, e, f, (g, h, i), j) => bif decide (j < d) then bif decide (j < 200) then (lp spec_Hand_s129610 (a, b, c, d, e, f, (g, h, i), j, List.replicate 3 0, 0, j, decide (j < 200))).bind fun (k, l, m, n, o, p, (q, r, s), t, u, v, w) => (spec_Pick (u, l, m, q, r, s)).bind fun (x, y, z, a1) => bif decide (x < 0) then some (.inr (.inl o)) else ix x p.length (lx x p.length (ix x p.length (lx x p.length (chk (fits (o.length + [x].length) 8) (some (.inl (k, l, m, n, o ++ [x], sx p x (w64 ((gx p x 0) + 1)), (y, z, a1), w64 (t + 1)))))))) else some (.inr (.inr e)) else some (.inr (.inr e))
def spec_Hand_n506 : NEnt := ⟨⟨100, [⟨0, .one, [.dat kk0]⟩, ⟨1, .one, [.dat (.list kI)]⟩, ⟨2, .one, [.dat kI]⟩, ⟨3, .one, [.dat kI]⟩, ⟨9, .one, [.own true kI]⟩, ⟨10, .one, [.own true kI]⟩, ⟨11, .box, cc1⟩, ⟨12, .one, [.dat kI]⟩]⟩, [(.ret, ⟨100, [⟨8, .one, [.own true kI]⟩]⟩), (.exit 0, ⟨100, [⟨9, .one, [.own true kI]⟩]⟩)], lp spec_Hand_s506⟩
def spec_Hand : t4 → Option (List Int)
  | (a, b, c, d) => (spec_l21Ok a).bind fun e => bif !e then some [] else (spec_l21Weights (b, c)).bind fun f => bif !f then some [] else (spec_TurnNew ()).bind fun (g, h, i) => bx (lp spec_Hand_s506 (a, b, c, d, [], List.replicate 3 0, (g, h, i), 0)) (fun j => some j) fun j => some j
def spec_Hand_e : FEnt := ⟨92, [.tmp 8], [], [(.one, [.dat kk0]), (.one, [.dat (.list kI)]), (.one, [.dat kI]), (.one, [.dat kI])], ⟨100, [⟨8, .one, [.own true kI]⟩]⟩, spec_Hand⟩
theorem spec_Hand_ok : FnOk Try.prog 26 spec_Hand_e := fnOk_mk (tb := [(129610, spec_Hand_n129610), (506, spec_Hand_n506)]) (c := (Try.f26.body).getD .skip) mixed Try.func26 (bC spec_l21Ok_ok (bC spec_l21Weights_ok (bC spec_TurnNew_ok (bC spec_Pick_ok bN)))) (by kernel_rfl) (by kernel_rfl) (by kernel_rfl) ⟨nodeLoop (by kernel_rfl) spec_Hand_s129610 (by kernel_rfl) (by intro d; kernel_rfl), nodeLoop (by kernel_rfl) spec_Hand_s506 (by kernel_rfl) (by intro d; kernel_rfl), trivial⟩ (by intro d; kernel_rfl)


/-! impl.within -/
def impl_within : Int × Int × Int → Option Bool
  | (a, b, c) => bif decide (a ≥ b) then some (decide (a ≤ c)) else some false
def impl_within_e : FEnt := ⟨15, [.tmp 6], [], [(.one, [.dat kI]), (.one, [.dat kI]), (.one, [.dat kI])], ⟨21, [⟨6, .one, [.dat .bool]⟩]⟩, impl_within⟩
theorem impl_within_ok : FnOk Try.prog 33 impl_within_e := fnOk_mk (tb := []) (c := (Try.f33.body).getD .skip) mixed Try.func33 bN (by kernel_rfl) (by kernel_rfl) (by kernel_rfl) trivial (by intro d; kernel_rfl)


/-! impl.allWithin -/
def impl_allWithin_s26 : List Int × Int × Int × Int × List Int × Int × Int → Option (List Int × Int × Int × Int × List Int × Int × Int ⊕ Bool ⊕ List Int × Int)
  | (a, b, c, d, e, f, g) => bif decide (g < f) then ix g e.length ((impl_within (gx e g 0, c, d)).bind fun h => bif !h then some (.inr (.inl false)) else some (.inl (a, b, c, d, e, f, w64 (g + 1)))) else some (.inr (.inr (a, b)))
def impl_allWithin_n26 : NEnt := ⟨⟨35, [⟨0, .one, [.dat (.list kI)]⟩, ⟨1, .one, [.dat kI]⟩, ⟨2, .one, [.dat kI]⟩, ⟨3, .one, [.dat kI]⟩, ⟨11, .one, [.dat (.list kI)]⟩, ⟨12, .one, [.dat kI]⟩, ⟨13, .one, [.dat kI]⟩]⟩, [(.ret, ⟨35, [⟨8, .one, [.dat .bool]⟩]⟩), (.exit 0, ⟨35, [⟨0, .one, [.dat (.list kI)]⟩, ⟨1, .one, [.dat kI]⟩]⟩)], lp impl_allWithin_s26⟩
def impl_allWithin : List Int × Int × Int × Int → Option Bool
  | (a, b, c, d) => bx (lp impl_allWithin_s26 (a, b, c, d, a, ln a, 0)) (fun e => some e) fun (e, f) => some ((ln e) == f)
def impl_allWithin_e : FEnt := ⟨27, [.tmp 8], [], [(.one, [.dat (.list kI)]), (.one, [.dat kI]), (.one, [.dat kI]), (.one, [.dat kI])], ⟨35, [⟨8, .one, [.dat .bool]⟩]⟩, impl_allWithin⟩
theorem impl_allWithin_ok : FnOk Try.prog 36 impl_allWithin_e := fnOk_mk (tb := [(26, impl_allWithin_n26)]) (c := (Try.f36.body).getD .skip) mixed Try.func36 (bC impl_within_ok bN) (by kernel_rfl) (by kernel_rfl) (by kernel_rfl) ⟨nodeLoop (by kernel_rfl) impl_allWithin_s26 (by kernel_rfl) (by intro d; kernel_rfl), trivial⟩ (by intro d; kernel_rfl)


/-! impl.loadsOk -/
def impl_loadsOk_s26 : List (List Int) × t1 → Option (List (List Int) × t1 ⊕ Bool ⊕ List (List Int))
  | (a, b, c, d) => bif decide (d < c) then ix d b.length (bif decide ((ln (gx b d [])) > 40) then some (.inr (.inl false)) else (impl_allWithin (gx b d [], ln (gx b d []), 1, 200)).bind fun e => bif !e then some (.inr (.inl false)) else some (.inl (a, b, c, w64 (d + 1)))) else some (.inr (.inr a))
def impl_loadsOk_n26 : NEnt := ⟨⟨27, [⟨0, .one, [.dat kk0]⟩, ⟨5, .one, [.dat kk0]⟩, ⟨6, .one, [.dat kI]⟩, ⟨7, .one, [.dat kI]⟩]⟩, [(.ret, ⟨27, [⟨2, .one, [.dat .bool]⟩]⟩), (.exit 0, ⟨27, [⟨0, .one, [.dat kk0]⟩]⟩)], lp impl_loadsOk_s26⟩
def impl_loadsOk : List (List Int) → Option Bool
  | a => bx (lp impl_loadsOk_s26 (a, a, ln a, 0)) (fun b => some b) fun b => some ((ln b) == 3)
def impl_loadsOk_e : FEnt := ⟨25, [.tmp 2], [], [(.one, [.dat kk0])], ⟨27, [⟨2, .one, [.dat .bool]⟩]⟩, impl_loadsOk⟩
theorem impl_loadsOk_ok : FnOk Try.prog 40 impl_loadsOk_e := fnOk_mk (tb := [(26, impl_loadsOk_n26)]) (c := (Try.f40.body).getD .skip) mixed Try.func40 (bC impl_allWithin_ok bN) (by kernel_rfl) (by kernel_rfl) (by kernel_rfl) ⟨nodeLoop (by kernel_rfl) impl_loadsOk_s26 (by kernel_rfl) (by intro d; kernel_rfl), trivial⟩ (by intro d; kernel_rfl)


/-! impl.TurnNew -/
def impl_TurnNew : Unit → Option (Int × Bool × List Int)
  | _ => some (0, true, List.replicate 3 0)
def impl_TurnNew_e : FEnt := ⟨3, [.cell 0 true 3], [], [], ⟨3, [⟨0, .box, cc1⟩]⟩, impl_TurnNew⟩
theorem impl_TurnNew_ok : FnOk Try.prog 44 impl_TurnNew_e := fnOk_mk (tb := []) (c := (Try.f44.body).getD .skip) mixed Try.func44 bN (by kernel_rfl) (by kernel_rfl) (by kernel_rfl) trivial (by intro d; kernel_rfl)


/-! impl.limited -/
def impl_limited : Int × Int × Int → Option Int
  | (a, b, c) => some (if c < if b > a then b else a then c else if b > a then b else a)
def impl_limited_e : FEnt := ⟨12, [.tmp 6], [], [(.one, [.dat kI]), (.one, [.dat kI]), (.one, [.dat kI])], ⟨18, [⟨6, .one, [.dat kI]⟩]⟩, impl_limited⟩
theorem impl_limited_ok : FnOk Try.prog 45 impl_limited_e := fnOk_mk (tb := []) (c := (Try.f45.body).getD .skip) mixed Try.func45 bN (by kernel_rfl) (by kernel_rfl) (by kernel_rfl) trivial (by intro d; kernel_rfl)


/-! impl.copyInts -/
def impl_copyInts : List Int → Option (List Int)
  | a => chk (fits a.length 8) (some a)
def impl_copyInts_e : FEnt := ⟨5, [.tmp 2], [], [(.one, [.dat (.list kI)])], ⟨7, [⟨2, .one, [.own true kI]⟩]⟩, impl_copyInts⟩
theorem impl_copyInts_ok : FnOk Try.prog 62 impl_copyInts_e := fnOk_mk (tb := []) (c := (Try.f62.body).getD .skip) mixed Try.func62 bN (by kernel_rfl) (by kernel_rfl) (by kernel_rfl) trivial (by intro d; kernel_rfl)


/-! impl.copyTurn -/
def impl_copyTurn : Int × Bool × List Int → Option (Int × Bool × List Int)
  | (a, b, c) => (impl_copyInts c).bind fun d => some (a, b, d)
def impl_copyTurn_e : FEnt := ⟨8, [.cell 2 true 3], [], [(.agg, cc0)], ⟨10, [⟨2, .box, cc1⟩]⟩, impl_copyTurn⟩
theorem impl_copyTurn_ok : FnOk Try.prog 54 impl_copyTurn_e := fnOk_mk (tb := []) (c := (Try.f54.body).getD .skip) mixed Try.func54 (bC impl_copyInts_ok bN) (by kernel_rfl) (by kernel_rfl) (by kernel_rfl) trivial (by intro d; kernel_rfl)


/-! impl.TurnOk -/
def impl_TurnOk : Int × Bool × List Int → Option Bool
  | (a, b, c) => (impl_within (a, 0, 2)).bind fun d => bif d then (impl_allWithin (c, 3, 0, 1000)).bind fun e => some e else some false
def impl_TurnOk_e : FEnt := ⟨11, [.tmp 2], [], [(.agg, cc0)], ⟨13, [⟨2, .one, [.dat .bool]⟩]⟩, impl_TurnOk⟩
theorem impl_TurnOk_ok : FnOk Try.prog 55 impl_TurnOk_e := fnOk_mk (tb := []) (c := (Try.f55.body).getD .skip) mixed Try.func55 (bC impl_within_ok (bC impl_allWithin_ok bN)) (by kernel_rfl) (by kernel_rfl) (by kernel_rfl) trivial (by intro d; kernel_rfl)


/-! slices.Max[[]int,int] -/
def slices_Max___int_int__s122 : List Int × Int × Int → Option (List Int × Int × Int ⊕ Int)
  | (a, b, c) => bif decide (c < (ln a)) then ix c a.length (some (.inl (a, if List.getD a (Int.toNat c) (0 : Int) > b then List.getD a (Int.toNat c) (0 : Int) else b, w64 (c + 1)))) else some (.inr b)
def slices_Max___int_int__n122 : NEnt := ⟨⟨27, [⟨0, .one, [.dat (.list kI)]⟩, ⟨3, .one, [.dat kI]⟩, ⟨4, .one, [.dat kI]⟩]⟩, [(.exit 0, ⟨27, [⟨3, .one, [.dat kI]⟩]⟩)], lp slices_Max___int_int__s122⟩
def slices_Max___int_int_ : List Int → Option Int
  | a => bif decide ((ln a) < 1) then none else chk (decide (0 < a.length)) ((lp slices_Max___int_int__s122 (a, List.getD a 0 0, 1)).bind fun b => some b)
def slices_Max___int_int__e : FEnt := ⟨25, [.tmp 2], [], [(.one, [.dat (.list kI)])], ⟨27, [⟨2, .one, [.dat kI]⟩]⟩, slices_Max___int_int_⟩
theorem slices_Max___int_int__ok : FnOk Try.prog 56 slices_Max___int_int__e := fnOk_mk (tb := [(122, slices_Max___int_int__n122)]) (c := (Try.f56.body).getD .skip) mixed Try.func56 bN (by kernel_rfl) (by kernel_rfl) (by kernel_rfl) ⟨nodeLoop (by kernel_rfl) slices_Max___int_int__s122 (by kernel_rfl) (by intro d; kernel_rfl), trivial⟩ (by intro d; kernel_rfl)


/-! impl.Pick -/
def impl_Pick_l7959 : List Int × List Int × Int × (Int × Bool × Unit) × t3 → Option (t2 ⊕ List Int × List Int × Int × (Int × Bool × Unit) × t3)
  | (a, b, c, (d, e, _), (f, g, h), i) => ix i a.length (ix i h.length (lx i h.length (bif decide ((gx a i 0) ≤ (gx h i 0)) then ix i h.length (lx i h.length (ix i a.length (ix i h.length (lx i h.length (some (.inl (i, f, g, sx h i (w64 ((gx h i 0) - (gx a i 0)))))))))) else some (.inr (a, b, c, (d, e, ()), (f, g, h), i)))))
def impl_Pick_n7959 : NEnt := ⟨⟨104, [⟨0, .one, [.dat (.list kI)]⟩, ⟨1, .one, [.dat (.list kI)]⟩, ⟨2, .one, [.dat kI]⟩, ⟨9, .box, cc2⟩, ⟨10, .box, cc1⟩, ⟨11, .one, [.dat kI]⟩]⟩, [(.ret, ⟨104, [⟨8, .one, [.dat kI]⟩, ⟨9, .box, cc1⟩]⟩), (.normal, ⟨104, [⟨0, .one, [.dat (.list kI)]⟩, ⟨1, .one, [.dat (.list kI)]⟩, ⟨2, .one, [.dat kI]⟩, ⟨9, .box, cc2⟩, ⟨10, .box, cc1⟩, ⟨11, .one, [.dat kI]⟩]⟩)], impl_Pick_l7959⟩
def impl_Pick_s62 : t8 → Option (t8 ⊕ t2)
  | (a, b, c, (d, e, _), f, g, h) => ix f a.length (bif (gx a f 0) == 0 then ix f h.length (lx f h.length (some (.inl (a, b, c, (d, e, ()), Int.tmod (w64 (f + 1)) 3, true, sx h f 0)))) else bif g then ix f h.length (lx f h.length (ix f b.length ((some (if IntKind.wrap IntKind.i64 (List.getD h (Int.toNat f) (0 : Int) + IntKind.wrap IntKind.i64 (c * List.getD b (Int.toNat f) (0 : Int))) < (1000 : Int) then IntKind.wrap IntKind.i64 (List.getD h (Int.toNat f) (0 : Int) + IntKind.wrap IntKind.i64 (c * List.getD b (Int.toNat f) (0 : Int))) else (1000 : Int))).bind fun i => ix f h.length (lx f h.length (bx (impl_Pick_l7959 (a, b, c, (d, e, ()), (f, false, sx h f i), f)) (fun (j, k, l, m) => some (.inr (j, k, l, m))) fun (j, k, l, (m, n, _), (o, p, q), r) => some (.inl (j, k, l, (m, n, ()), Int.tmod (w64 (r + 1)) 3, true, q))))))) else bx (impl_Pick_l7959 (a, b, c, (d, e, ()), (f, g, h), f)) (fun (i, j, k, l) => some (.inr (i, j, k, l))) fun (i, j, k, (l, m, _), (n, o, p), q) => some (.inl (i, j, k, (l, m, ()), Int.tmod (w64 (q + 1)) 3, true, p)))
def impl_Pick_n62 : NEnt := ⟨⟨104, [⟨0, .one, [.dat (.list kI)]⟩, ⟨1, .one, [.dat (.list kI)]⟩, ⟨2, .one, [.dat kI]⟩, ⟨9, .box, cc2⟩, ⟨10, .box, cc1⟩]⟩, [(.ret, ⟨104, [⟨8, .one, [.dat kI]⟩, ⟨9, .box, cc1⟩]⟩)], lp impl_Pick_s62⟩
def impl_Pick : List Int × List Int × t2 → Option t2
  | (a, b, c, d, e, f) => (impl_copyTurn (d, e, f)).bind fun (g, h, i) => (impl_allWithin (a, 3, 0, 200)).bind fun j => bif !j then some ((-1), g, h, i) else (impl_allWithin (b, 3, 1, 4)).bind fun k => bif !k then some ((-1), g, h, i) else (impl_within (c, 1, 60)).bind fun l => bif !l then some ((-1), g, h, i) else (impl_TurnOk (d, e, f)).bind fun m => bif !m then some ((-1), g, h, i) else (slices_Max___int_int_ a).bind fun n => bif n == 0 then (impl_TurnNew ()).bind fun (o, p, q) => some ((-1), o, p, q) else (lp impl_Pick_s62 (a, b, c, (0, false, ()), g, h, i)).bind fun (o, p, q, r) => some (o, p, q, r)
def impl_Pick_e : FEnt := ⟨96, [.tmp 8, .cell 9 true 3], [], [(.one, [.dat (.list kI)]), (.one, [.dat (.list kI)]), (.one, [.dat kI]), (.agg, cc0)], ⟨104, [⟨8, .one, [.dat kI]⟩, ⟨9, .box, cc1⟩]⟩, impl_Pick⟩
theorem impl_Pick_ok : FnOk Try.prog 46 impl_Pick_e := fnOk_mk (tb := [(7959, impl_Pick_n7959), (62, impl_Pick_n62)]) (c := (Try.f46.body).getD .skip) mixed Try.func46 (bC impl_copyTurn_ok (bC impl_allWithin_ok (bC impl_within_ok (bC impl_TurnOk_ok (bC slices_Max___int_int__ok (bC impl_TurnNew_ok bN)))))) (by kernel_rfl) (by kernel_rfl) (by kernel_rfl) ⟨nodeJoin (by kernel_rfl) (by intro d; kernel_rfl), nodeLoop (by kernel_rfl) impl_Pick_s62 (by kernel_rfl) (by intro d; kernel_rfl), trivial⟩ (by intro d; kernel_rfl)


/-! impl.Hand -/
def impl_Hand_s129610 : List (List Int) × List Int × Int × Int × List Int × (Int × Bool × List Int) × List Int × Int × List Int × t1 → Option (List (List Int) × List Int × Int × Int × List Int × (Int × Bool × List Int) × List Int × Int × List Int × t1 ⊕ List (List Int) × List Int × Int × Int × List Int × (Int × Bool × List Int) × List Int × Int × List Int)
  | (a, b, c, d, e, (f, g, h), i, j, k, l, m, n) => bif decide (n < m) then ix n l.length (ix n e.length (lx n e.length ((some (decide ((gx e n 0) < (ln (gx l n []))))).bind fun o => bif o then ix n e.length (lx n e.length (ix (gx e n 0) (gx l n []).length (ix n k.length (lx n k.length (some (.inl (a, b, c, d, e, (f, g, h), i, j, sx k n (gx (gx l n []) (gx e n 0) 0), l, m, w64 (n + 1)))))))) else some (.inl (a, b, c, d, e, (f, g, h), i, j, k, l, m, w64 (n + 1)))))) else some (.inr (a, b, c, d, e, (f, g, h), i, j, k))
def impl_Hand_n129610 : NEnt := ⟨⟨95, [⟨0, .one, [.dat kk0]⟩, ⟨1, .one, [.dat (.list kI)]⟩, ⟨2, .one, [.dat kI]⟩, ⟨3, .one, [.dat kI]⟩, ⟨9, .one, [.own true kI]⟩, ⟨10, .box, cc1⟩, ⟨11, .one, [.own true kI]⟩, ⟨12, .one, [.dat kI]⟩, ⟨13, .one, [.own true kI]⟩, ⟨40, .one, [.dat kk0]⟩, ⟨41, .one, [.dat kI]⟩, ⟨42, .one, [.dat kI]⟩]⟩, [(.exit 2, ⟨95, [⟨0, .one, [.dat kk0]⟩, ⟨1, .one, [.dat (.list kI)]⟩, ⟨2, .one, [.dat kI]⟩, ⟨3, .one, [.dat kI]⟩, ⟨9, .one, [.own true kI]⟩, ⟨10, .box, cc1⟩, ⟨11, .one, [.own true kI]⟩, ⟨12, .one, [.dat kI]⟩, ⟨13, .one, [.own true kI]⟩]⟩)], lp impl_Hand_s129610⟩
def impl_Hand_s506 : List (List Int) × List Int × Int × Int × List Int × (Int × Bool × List Int) × List Int × Int → Option (List (List Int) × List Int × Int × Int × List Int × (Int × Bool × List Int) × List Int × Int ⊕ List Int)
  | (a, b, c, d, e, (f, g, h), i, j) => (impl_limited (d, 0, 200)).bind fun k => bif decide (j < k) then (lp impl_Hand_s129610 (a, b, c, d, e, (f, g, h), i, j, List.replicate 3 0, a, ln a, 0)).bind fun (l, m, n, o, p, (q, r, s), t, u, v) => (impl_Pick (v, m, n, q, r, s)).bind fun (w, x, y, z) => bif decide (w < 0) then some (.inr t) else ix w p.length (lx w p.length (ix w p.length (lx w p.length (chk (fits (t.length + [w].length) 8) (some (.inl (l, m, n, o, sx p w (w64 ((gx p w 0) + 1)), (x, y, z), t ++ [w], w64 (u + 1)))))))) else some (.inr i)
def impl_Hand_n506 : NEnt := ⟨⟨95, [⟨0, .one, [.dat kk0]⟩, ⟨1, .one, [.dat (.list kI)]⟩, ⟨2, .one, [.dat kI]⟩, ⟨3, .one, [.dat kI]⟩, ⟨9, .one, [.own true kI]⟩, ⟨10, .box, cc1⟩, ⟨11, .one, [.own true kI]⟩, ⟨12, .one, [.dat kI]⟩]⟩, [(.exit 0, ⟨95, [⟨11, .one, [.own true kI]⟩]⟩)], lp impl_Hand_s506⟩
def impl_Hand : t4 → Option (List Int)
  | (a, b, c, d) => (impl_loadsOk a).bind fun e => bif !e then some [] else (impl_allWithin (b, 3, 1, 4)).bind fun f => bif !f then some [] else (impl_within (c, 1, 60)).bind fun g => bif !g then some [] else (impl_TurnNew ()).bind fun (h, i, j) => (lp impl_Hand_s506 (a, b, c, d, List.replicate 3 0, (h, i, j), [], 0)).bind fun k => some k
def impl_Hand_e : FEnt := ⟨87, [.tmp 8], [], [(.one, [.dat kk0]), (.one, [.dat (.list kI)]), (.one, [.dat kI]), (.one, [.dat kI])], ⟨95, [⟨8, .one, [.own true kI]⟩]⟩, impl_Hand⟩
theorem impl_Hand_ok : FnOk Try.prog 27 impl_Hand_e := fnOk_mk (tb := [(129610, impl_Hand_n129610), (506, impl_Hand_n506)]) (c := (Try.f27.body).getD .skip) mixed Try.func27 (bC impl_loadsOk_ok (bC impl_allWithin_ok (bC impl_within_ok (bC impl_TurnNew_ok (bC impl_limited_ok (bC impl_Pick_ok bN)))))) (by kernel_rfl) (by kernel_rfl) (by kernel_rfl) ⟨nodeLoop (by kernel_rfl) impl_Hand_s129610 (by kernel_rfl) (by intro d; kernel_rfl), nodeLoop (by kernel_rfl) impl_Hand_s506 (by kernel_rfl) (by intro d; kernel_rfl), trivial⟩ (by intro d; kernel_rfl)


/-! laws.eqIntS -/
def laws_eqIntS_s58 : t0 → Option (t0 ⊕ Bool ⊕ Unit)
  | (a, b, c) => bif decide (c < (ln a)) then ix c a.length (ix c b.length (bif (gx a c 0) != (gx b c 0) then some (.inr (.inl false)) else some (.inl (a, b, w64 (c + 1))))) else some (.inr (.inr ()))
def laws_eqIntS_n58 : NEnt := ⟨⟨30, [⟨0, .one, [.dat (.list kI)]⟩, ⟨1, .one, [.dat (.list kI)]⟩, ⟨5, .one, [.dat kI]⟩]⟩, [(.ret, ⟨30, [⟨4, .one, [.dat .bool]⟩]⟩), (.exit 0, ⟨30, []⟩)], lp laws_eqIntS_s58⟩
def laws_eqIntS : List Int × List Int → Option Bool
  | (a, b) => bif (ln a) != (ln b) then some false else bx (lp laws_eqIntS_s58 (a, b, 0)) (fun c => some c) fun _ => some true
def laws_eqIntS_e : FEnt := ⟨26, [.tmp 4], [], [(.one, [.dat (.list kI)]), (.one, [.dat (.list kI)])], ⟨30, [⟨4, .one, [.dat .bool]⟩]⟩, laws_eqIntS⟩
theorem laws_eqIntS_ok : FnOk Try.prog 15 laws_eqIntS_e := fnOk_mk (tb := [(58, laws_eqIntS_n58)]) (c := (Try.f15.body).getD .skip) mixed Try.func15 bN (by kernel_rfl) (by kernel_rfl) (by kernel_rfl) ⟨nodeLoop (by kernel_rfl) laws_eqIntS_s58 (by kernel_rfl) (by intro d; kernel_rfl), trivial⟩ (by intro d; kernel_rfl)


/-! laws.eqIntSS -/
def laws_eqIntSS_s58 : t5 → Option (t5 ⊕ Bool ⊕ Unit)
  | (a, b, c) => bif decide (c < (ln a)) then ix c a.length (ix c b.length ((laws_eqIntS (gx a c [], gx b c [])).bind fun d => bif !d then some (.inr (.inl false)) else some (.inl (a, b, w64 (c + 1))))) else some (.inr (.inr ()))
def laws_eqIntSS_n58 : NEnt := ⟨⟨31, [⟨0, .one, [.dat kk0]⟩, ⟨1, .one, [.dat kk0]⟩, ⟨5, .one, [.dat kI]⟩]⟩, [(.ret, ⟨31, [⟨4, .one, [.dat .bool]⟩]⟩), (.exit 0, ⟨31, []⟩)], lp laws_eqIntSS_s58⟩
def laws_eqIntSS : List (List Int) × List (List Int) → Option Bool
  | (a, b) => bif (ln a) != (ln b) then some false else bx (lp laws_eqIntSS_s58 (a, b, 0)) (fun c => some c) fun _ => some true
def laws_eqIntSS_e : FEnt := ⟨27, [.tmp 4], [], [(.one, [.dat kk0]), (.one, [.dat kk0])], ⟨31, [⟨4, .one, [.dat .bool]⟩]⟩, laws_eqIntSS⟩
theorem laws_eqIntSS_ok : FnOk Try.prog 20 laws_eqIntSS_e := fnOk_mk (tb := [(58, laws_eqIntSS_n58)]) (c := (Try.f20.body).getD .skip) mixed Try.func20 (bC laws_eqIntS_ok bN) (by kernel_rfl) (by kernel_rfl) (by kernel_rfl) ⟨nodeLoop (by kernel_rfl) laws_eqIntSS_s58 (by kernel_rfl) (by intro d; kernel_rfl), trivial⟩ (by intro d; kernel_rfl)


/-! laws.markIntS -/
def laws_markIntS_s26 : (Unit × Unit × Unit) × Int × Int × List Int → Option ((Unit × Unit × Unit) × Int × Int × List Int ⊕ Int × List Int)
  | ((_, _, _), a, b, c) => bif decide (b < (ln c)) then ix b c.length (lx b c.length (some (.inl (((), (), ()), w64 (a + 1), w64 (b + 1), sx c b a)))) else some (.inr (a, c))
def laws_markIntS_n26 : NEnt := ⟨⟨23, [⟨0, .one, [.ref 19 0 [] false false kI]⟩, ⟨1, .one, [.dat kI]⟩, ⟨5, .one, [.dat kI]⟩, ⟨19, .agg, [.own true kI]⟩]⟩, [(.exit 0, ⟨23, [⟨1, .one, [.dat kI]⟩, ⟨19, .agg, [.own true kI]⟩]⟩)], lp laws_markIntS_s26⟩
def laws_markIntS : List Int × Int → Option (Int × List Int)
  | (a, b) => (lp laws_markIntS_s26 (((), (), ()), b, 0, a)).bind fun (c, d) => some (c, d)
def laws_markIntS_e : FEnt := ⟨19, [.tmp 4], [true, false], [(.one, [.own true kI]), (.one, [.dat kI])], ⟨23, [⟨4, .one, [.dat kI]⟩, ⟨19, .agg, [.own true kI]⟩]⟩, laws_markIntS⟩
theorem laws_markIntS_ok : FnOk Try.prog 24 laws_markIntS_e := fnOk_mk (tb := [(26, laws_markIntS_n26)]) (c := (Try.f24.body).getD .skip) mixed Try.func24 bN (by kernel_rfl) (by kernel_rfl) (by kernel_rfl) ⟨nodeLoop (by kernel_rfl) laws_markIntS_s26 (by kernel_rfl) (by intro d; kernel_rfl), trivial⟩ (by intro d; kernel_rfl)


/-! laws.markIntSS -/
def laws_markIntSS_s26 : (Unit × Unit × Unit) × Int × Int × List (List Int) → Option ((Unit × Unit × Unit) × Int × Int × List (List Int) ⊕ Int × List (List Int))
  | ((_, _, _), a, b, c) => bif decide (b < (ln c)) then ix b c.length (lx b c.length ((laws_markIntS (gx c b [], a)).bind fun (d, e) => some (.inl (((), (), ()), d, w64 (b + 1), sx c b e)))) else some (.inr (a, c))
def laws_markIntSS_n26 : NEnt := ⟨⟨23, [⟨0, .one, [.ref 19 0 [] false false (.list kI)]⟩, ⟨1, .one, [.dat kI]⟩, ⟨5, .one, [.dat kI]⟩, ⟨19, .agg, cc3⟩]⟩, [(.exit 0, ⟨23, [⟨1, .one, [.dat kI]⟩, ⟨19, .agg, cc3⟩]⟩)], lp laws_markIntSS_s26⟩
def laws_markIntSS : List (List Int) × Int → Option (Int × List (List Int))
  | (a, b) => (lp laws_markIntSS_s26 (((), (), ()), b, 0, a)).bind fun (c, d) => some (c, d)
def laws_markIntSS_e : FEnt := ⟨19, [.tmp 4], [true, false], [(.one, cc3), (.one, [.dat kI])], ⟨23, [⟨4, .one, [.dat kI]⟩, ⟨19, .agg, cc3⟩]⟩, laws_markIntSS⟩
theorem laws_markIntSS_ok : FnOk Try.prog 23 laws_markIntSS_e := fnOk_mk (tb := [(26, laws_markIntSS_n26)]) (c := (Try.f23.body).getD .skip) mixed Try.func23 (bC laws_markIntS_ok bN) (by kernel_rfl) (by kernel_rfl) (by kernel_rfl) ⟨nodeLoop (by kernel_rfl) laws_markIntSS_s26 (by kernel_rfl) (by intro d; kernel_rfl), trivial⟩ (by intro d; kernel_rfl)


/-! laws.heldIntS -/
def laws_heldIntS_s26 : List Int × Int × Int → Option (List Int × Int × Int ⊕ Int ⊕ Int)
  | (a, b, c) => bif decide (c < (ln a)) then ix c a.length (bif (gx a c 0) != b then some (.inr (.inl (-1))) else some (.inl (a, w64 (b + 1), w64 (c + 1)))) else some (.inr (.inr b))
def laws_heldIntS_n26 : NEnt := ⟨⟨25, [⟨0, .one, [.dat (.list kI)]⟩, ⟨1, .one, [.dat kI]⟩, ⟨5, .one, [.dat kI]⟩]⟩, [(.ret, ⟨25, [⟨4, .one, [.dat kI]⟩]⟩), (.exit 0, ⟨25, [⟨1, .one, [.dat kI]⟩]⟩)], lp laws_heldIntS_s26⟩
def laws_heldIntS : List Int × Int → Option Int
  | (a, b) => bx (lp laws_heldIntS_s26 (a, b, 0)) (fun c => some c) fun c => some c
def laws_heldIntS_e : FEnt := ⟨21, [.tmp 4], [], [(.one, [.dat (.list kI)]), (.one, [.dat kI])], ⟨25, [⟨4, .one, [.dat kI]⟩]⟩, laws_heldIntS⟩
theorem laws_heldIntS_ok : FnOk Try.prog 25 laws_heldIntS_e := fnOk_mk (tb := [(26, laws_heldIntS_n26)]) (c := (Try.f25.body).getD .skip) mixed Try.func25 bN (by kernel_rfl) (by kernel_rfl) (by kernel_rfl) ⟨nodeLoop (by kernel_rfl) laws_heldIntS_s26 (by kernel_rfl) (by intro d; kernel_rfl), trivial⟩ (by intro d; kernel_rfl)


/-! laws.FnExactHand -/
def laws_FnExactHand : t4 → Option Bool
  | (a, b, c, d) => bif decide ((ln b) > 1048576) then some true else (laws_szIntSS (a, 1048576)).bind fun e => bif decide (e < 0) then some true else (laws_toIntSS a).bind fun f => (laws_toIntS b).bind fun g => (spec_Hand (f, g, c, d)).bind fun h => (laws_toIntSS a).bind fun i => (laws_toIntS b).bind fun j => (impl_Hand (i, j, c, d)).bind fun k => (laws_eqIntS (k, h)).bind fun l => bif !l then some false else (laws_toIntSS a).bind fun m => (laws_eqIntSS (i, m)).bind fun n => bif !n then some false else (laws_toIntS b).bind fun o => (laws_eqIntS (j, o)).bind fun p => bif !p then some false else (laws_markIntSS (i, 1)).bind fun (q, r) => (laws_markIntS (j, q)).bind fun (s, t) => bif decide (s < 0) then some false else (laws_eqIntS (k, h)).bind fun u => bif !u then some false else (laws_markIntS (k, 1)).bind fun (v, w) => (laws_heldIntS (w, 1)).bind fun x => bif decide (x < 0) then some false else bif x != v then some false else (laws_toIntSS a).bind fun y => (laws_toIntS b).bind fun z => (impl_Hand (y, z, c, d)).bind fun a1 => (laws_eqIntS (a1, h)).bind fun b1 => bif !b1 then some false else (laws_heldIntS (w, 1)).bind fun c1 => bif decide (c1 < 0) then some false else bif c1 != v then some false else some true
def laws_FnExactHand_e : FEnt := ⟨100, [.tmp 8], [], [(.one, [.dat kk0]), (.one, [.dat (.list kI)]), (.one, [.dat kI]), (.one, [.dat kI])], ⟨108, [⟨8, .one, [.dat .bool]⟩]⟩, laws_FnExactHand⟩
theorem laws_FnExactHand_ok : FnOk Try.prog 7 laws_FnExactHand_e := fnOk_mk (tb := []) (c := (Try.f7.body).getD .skip) mixed Try.func7 (bC laws_szIntSS_ok (bC laws_toIntSS_ok (bC laws_toIntS_ok (bC spec_Hand_ok (bC impl_Hand_ok (bC laws_eqIntS_ok (bC laws_eqIntSS_ok (bC laws_markIntSS_ok (bC laws_markIntS_ok (bC laws_heldIntS_ok bN)))))))))) (by kernel_rfl) (by kernel_rfl) (by kernel_rfl) trivial (by intro d; kernel_rfl)

end Go.Proofs.Ytkdmpinokekdaaa.Tw
