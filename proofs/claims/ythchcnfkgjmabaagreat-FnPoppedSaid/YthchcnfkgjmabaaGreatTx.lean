/- Twins that plain texts speak of, by definitions alone. No condition: definitions. -/
import Derived.Test.YthchcnfkgjmabaaGreatTwP
namespace Go.Proofs.YthchcnfkgjmabaaGreat.Tw
open Go.Mach
set_option linter.unusedVariables false
abbrev ut0 : Type := List (Int × Int) × Int
abbrev ut1 : Type := Int × List (Int × Int)
abbrev ut2 : Type := Int × Unit × Unit × Unit
abbrev ut3 : Type := Unit × Int × Unit × Unit
abbrev ut4 : Type := List Int × List Int × Int
abbrev ut5 : Type := List Int × List (List Int)
abbrev ut8 : Type := List (List Int) × Int × Int
abbrev ut9 : Type := List (Int × Int) × Int × Int
abbrev ut16 : Type := (Int × Unit) × (Int × Unit) × Unit
abbrev ut18 : Type := List (Int × Int) × List (Int × Int)
abbrev ut20 : Type := List Int × ut5
abbrev ut23 : Type := List (List Int) × List (List Int) × Int
abbrev ut26 : Type := List (Int × Int) × ut0
abbrev ut28 : Type := Int × ut20
abbrev ut33 : Type := Int × ut28
abbrev ut37 : Type := Int × ut33
abbrev ut40 : Type := Int × ut37
abbrev ut43 : Type := ut40 × Int
abbrev ut46 : Type := List (Int × Int) × ut40
abbrev ut48 : Type := Int × ut46
abbrev ut51 : Type := Int × ut48
abbrev ut57 : Type := List ut51 × Int
abbrev ut58 : Type := Unit × List ut51
abbrev ut60 : Type := List ut51 × Int × Int
abbrev ut80 : Type := List ut51 × ut60
abbrev ut81 : Type := List ut51 × Unit × ut57
def laws_szIntS : List Int × Int → Option Int
  | (a, b) => (some (decide ((w64 (b - (ln a))) < 0))).bind fun c => bif c then some (-1) else some (w64 (b - (ln a)))
def laws_szSpanS : ut0 → Option Int
  | (a, b) => (some (decide ((w64 (b - (ln a))) < 0))).bind fun c => bif c then some (-1) else some (w64 (b - (ln a)))
def laws_szIntSS_s122 : ut8 → Option (ut8 ⊕ Int ⊕ Int)
  | (a, b, c) => bif decide (c < (ln a)) then ix c a.length ((laws_szIntS (gx a c [], b)).bind fun d => bif decide (d < 0) then some (.inr (.inl (-1))) else some (.inl (a, d, w64 (c + 1)))) else some (.inr (.inr b))
def laws_szIntSS : List (List Int) × Int → Option Int
  | (a, b) => (some (decide ((w64 (b - (ln a))) < 0))).bind fun c => bif c then some (-1) else bx (lp laws_szIntSS_s122 (a, w64 (b - (ln a)), 0)) (fun d => some d) fun d => some d
def laws_szSketch : ut43 → Option Int
  | ((a, b, c, d, e, f, g), h) => (laws_szIntS (e, h)).bind fun i => bif decide (i < 0) then some (-1) else (laws_szIntS (f, i)).bind fun j => bif decide (j < 0) then some (-1) else (laws_szIntSS (g, j)).bind fun k => bif decide (k < 0) then some (-1) else some k
def laws_szEntry : ut51 × Int → Option Int
  | ((a, b, c, d, e, f, g, h, i, j), k) => (laws_szSpanS (c, k)).bind fun l => bif decide (l < 0) then some (-1) else (laws_szSketch ((d, e, f, g, h, i, j), l)).bind fun m => bif decide (m < 0) then some (-1) else some m
def laws_szEntryS_s122 : ut60 → Option (ut60 ⊕ Int ⊕ Int)
  | (a, b, c) => (some (decide (c < (ln a)))).bind fun d => bif d then ix c a.length ((some (gx a c (0, 0, [], 0, 0, 0, 0, [], [], []))).bind fun (e, f, g, h, i, j, k, l, m, n) => (laws_szEntry ((e, f, g, h, i, j, k, l, m, n), b)).bind fun o => bif decide (o < 0) then some (.inr (.inl (-1))) else some (.inl (a, o, w64 (c + 1)))) else some (.inr (.inr b))
def laws_szEntryS : ut57 → Option Int
  | (a, b) => (some (decide ((w64 (b - (ln a))) < 0))).bind fun c => bif c then some (-1) else bx (lp laws_szEntryS_s122 (a, w64 (b - (ln a)), 0)) (fun d => some d) fun d => some d
def laws_toIntS_s58 : ut4 → Option (ut4 ⊕ List Int)
  | (a, b, c) => bif decide (c < (ln a)) then ix c a.length (ix c b.length (lx c b.length (some (.inl (a, sx b c (gx a c 0), w64 (c + 1)))))) else some (.inr b)
def laws_toIntS : List Int → Option (List Int)
  | a => chk (decide (((ln a).toNat ≤ (ln a).toNat) ∧ (((ln a).toNat ≤ 4294967296) ∧ (((ln a).toNat * 8) ≤ 140737488355328)))) ((lp laws_toIntS_s58 (a, List.replicate (ln a).toNat 0, 0)).bind fun b => some b)
def laws_toSpan : Int × Int → Option (Int × Int)
  | (a, b) => some (a, b)
def laws_toSpanS_s58 : ut26 → Option (ut26 ⊕ List (Int × Int))
  | (a, b, c) => bif decide (c < (ln a)) then ix c a.length ((some (gx a c (0, 0))).bind fun (d, e) => (laws_toSpan (d, e)).bind fun (f, g) => ix c b.length (lx c b.length (some (.inl (a, sx b c (f, g), w64 (c + 1)))))) else some (.inr b)
def laws_toSpanS : List (Int × Int) → Option (List (Int × Int))
  | a => chk (decide (((ln a).toNat ≤ (ln a).toNat) ∧ (((ln a).toNat ≤ 4294967296) ∧ (((ln a).toNat * 16) ≤ 140737488355328)))) ((lp laws_toSpanS_s58 (a, List.replicate (ln a).toNat (0, 0), 0)).bind fun b => some b)
def laws_toIntSS_s58 : ut23 → Option (ut23 ⊕ List (List Int))
  | (a, b, c) => bif decide (c < (ln a)) then ix c a.length ((laws_toIntS (gx a c [])).bind fun d => ix c b.length (lx c b.length (some (.inl (a, sx b c d, w64 (c + 1)))))) else some (.inr b)
def laws_toIntSS : List (List Int) → Option (List (List Int))
  | a => chk (decide (((ln a).toNat ≤ (ln a).toNat) ∧ (((ln a).toNat ≤ 4294967296) ∧ (((ln a).toNat * 24) ≤ 140737488355328)))) ((lp laws_toIntSS_s58 (a, List.replicate (ln a).toNat [], 0)).bind fun b => some b)
def laws_toSketch : ut40 → Option ut40
  | (a, b, c, d, e, f, g) => (laws_toIntS e).bind fun h => (laws_toIntS f).bind fun i => (laws_toIntSS g).bind fun j => some (a, b, c, d, h, i, j)
def laws_toEntry : ut51 → Option ut51
  | (a, b, c, d, e, f, g, h, i, j) => (laws_toSpanS c).bind fun k => (laws_toSketch (d, e, f, g, h, i, j)).bind fun (l, m, n, o, p, q, r) => some (a, b, k, l, m, n, o, p, q, r)
def laws_toEntryS_s58 : List ut51 × ut57 → Option (List ut51 × ut57 ⊕ List ut51)
  | (a, b, c) => (some (decide (c < (ln a)))).bind fun d => bif d then ix c a.length ((some (gx a c (0, 0, [], 0, 0, 0, 0, [], [], []))).bind fun (e, f, g, h, i, j, k, l, m, n) => (laws_toEntry (e, f, g, h, i, j, k, l, m, n)).bind fun (o, p, q, r, s, t, u, v, w, x) => ix c b.length (lx c b.length ((some (sx b c (o, p, q, r, s, t, u, v, w, x))).bind fun y => some (.inl (a, y, w64 (c + 1)))))) else some (.inr b)
def laws_toEntryS : List ut51 → Option (List ut51)
  | a => chk (decide (((ln a).toNat ≤ (ln a).toNat) ∧ (((ln a).toNat ≤ 4294967296) ∧ (((ln a).toNat * 144) ≤ 140737488355328)))) ((some (List.replicate (ln a).toNat (0, 0, [], 0, 0, 0, 0, [], [], []))).bind fun b => (lp laws_toEntryS_s58 (a, b, 0)).bind fun c => some c)
def spec_JoinRow_s122 : ut81 → Option (ut81 ⊕ ut58)
  | (a, _, b, c) => (some (decide (c < (ln a)))).bind fun d => bif d then ix c a.length ((some (gx a c (0, 0, [], 0, 0, 0, 0, [], [], []))).bind fun (e, f, g, h, i, j, k, l, m, n) => (spec_RowPush (b, (e, f, g, h, i, j, k, l, m, n), true)).bind fun (o, p) => some (.inl (a, (), o, w64 (c + 1)))) else some (.inr ((), b))
def spec_JoinRow : List ut51 → Option (List ut51)
  | a => (spec_RowOk a).bind fun b => bif !b then (spec_l10Copy a).bind fun c => some c else (lp spec_JoinRow_s122 (a, (), [], 0)).bind fun (_, c) => some c
def impl_placeOf_1 : ut51 × (Int × Unit) × Int × Unit → Option Bool
  | ((a, b, c, d, e, f, g, h, i, j), (k, _), l, _) => bif a == k then some (b == l) else some false
def impl_Entry__s26 : List ut51 × ut16 × Int × Int → Option (List ut51 × ut16 × Int × Int ⊕ Int ⊕ Unit)
  | (a, ((b, _), (c, _), _), d, e) => bif decide (e < d) then ix e a.length ((some (gx a e (0, 0, [], 0, 0, 0, 0, [], [], []))).bind fun (f, g, h, i, j, k, l, m, n, o) => (impl_placeOf_1 ((f, g, h, i, j, k, l, m, n, o), (b, ()), c, ())).bind fun p => bif p then some (.inr (.inl e)) else some (.inl (a, ((b, ()), (c, ()), ()), d, w64 (e + 1)))) else some (.inr (.inr ()))
def impl_Entry_ : List ut51 × ut16 → Option Int
  | (a, (b, _), (c, _), _) => bx (lp impl_Entry__s26 (a, ((b, ()), (c, ()), ()), ln a, 0)) (fun d => some d) fun _ => some (-1)
def impl_placeOf : ut60 → Option Int
  | (a, b, c) => (impl_Entry_ (a, (b, ()), (c, ()), ())).bind fun d => some d
def impl_SetJoin : ut18 → Option (List (Int × Int) × Bool)
  | (a, b) => (impl_SetOk a).bind fun c => bif !c then some ([], false) else (impl_SetOk b).bind fun d => bif !d then some ([], false) else (impl_copySet a).bind fun e => chk (fits (e.length + b.length) 16) ((impl_union (e ++ b)).bind fun f => some (f, true))
def impl_EntryAdd : ut51 × ut51 → Option (ut51 × Bool)
  | ((a, b, c, d, e, f, g, h, i, j), k, l, m, n, o, p, q, r, s, t) => (impl_EntryOk (a, b, c, d, e, f, g, h, i, j)).bind fun u => bif !u then some ((0, 0, [], 0, 0, 0, 0, [], [], []), false) else (impl_EntryOk (k, l, m, n, o, p, q, r, s, t)).bind fun v => bif !v then some ((0, 0, [], 0, 0, 0, 0, [], [], []), false) else bif a != k then some ((0, 0, [], 0, 0, 0, 0, [], [], []), false) else bif b != l then some ((0, 0, [], 0, 0, 0, 0, [], [], []), false) else (impl_SetApart (c, m)).bind fun w => bif !w then some ((0, 0, [], 0, 0, 0, 0, [], [], []), false) else (impl_SetJoin (c, m)).bind fun (x, y) => (impl_Merge ((d, e, f, g, h, i, j), n, o, p, q, r, s, t)).bind fun ((z, a1, b1, c1, d1, e1, f1), g1) => some ((a, b, x, z, a1, b1, c1, d1, e1, f1), true)
def impl_RowPush_l125 : List ut51 × ut51 × Unit × List ut51 × Int × Bool → Option (List ut51 × Bool ⊕ List ut51 × ut58)
  | (a, (b, c, d, e, f, g, h, i, j, k), _, l, m, n) => bif n then ix m a.length ((some (gx a m (0, 0, [], 0, 0, 0, 0, [], [], []))).bind fun (o, p, q, r, s, t, u, v, w, x) => (impl_EntryAdd ((o, p, q, r, s, t, u, v, w, x), b, c, d, e, f, g, h, i, j, k)).bind fun ((y, z, a1, b1, c1, d1, e1, f1, g1, h1), i1) => bif !i1 then some (.inl (l, false)) else ix m l.length (lx m l.length ((some (sx l m (y, z, a1, b1, c1, d1, e1, f1, g1, h1))).bind fun j1 => some (.inr (a, (), j1))))) else (impl_copyEntry (b, c, d, e, f, g, h, i, j, k)).bind fun (o, p, q, r, s, t, u, v, w, x) => (some [(o, p, q, r, s, t, u, v, w, x)]).bind fun y => chk (fits (l.length + y.length) 144) ((some (l ++ y)).bind fun z => some (.inr (a, (), z)))
def impl_RowPush : List ut51 × ut51 × Bool → Option (List ut51 × Bool)
  | (a, (b, c, d, e, f, g, h, i, j, k), l) => (impl_RowOk a).bind fun m => bif !m then (impl_copyRow a).bind fun n => some (n, false) else (impl_EntryOk (b, c, d, e, f, g, h, i, j, k)).bind fun n => bif !n then (impl_copyRow a).bind fun o => some (o, false) else (impl_copyRow a).bind fun o => (impl_placeOf (a, b, c)).bind fun p => bif l then bx (impl_RowPush_l125 (a, (b, c, d, e, f, g, h, i, j, k), (), o, p, decide (p ≥ 0))) (fun (q, r) => some (q, r)) fun (q, _, r) => (impl_RowOk r).bind fun s => bif !s then (impl_copyRow q).bind fun t => some (t, false) else some (r, true) else bx (impl_RowPush_l125 (a, (b, c, d, e, f, g, h, i, j, k), (), o, p, false)) (fun (q, r) => some (q, r)) fun (q, _, r) => (impl_RowOk r).bind fun s => bif !s then (impl_copyRow q).bind fun t => some (t, false) else some (r, true)
def impl_JoinRow_s122 : Unit × ut80 → Option (Unit × ut80 ⊕ ut58)
  | (_, a, b, c, d) => bif decide (d < c) then ix d b.length ((some (gx b d (0, 0, [], 0, 0, 0, 0, [], [], []))).bind fun (e, f, g, h, i, j, k, l, m, n) => (impl_RowPush (a, (e, f, g, h, i, j, k, l, m, n), true)).bind fun (o, p) => some (.inl ((), o, b, c, w64 (d + 1)))) else some (.inr ((), a))
def impl_JoinRow : List ut51 → Option (List ut51)
  | a => (impl_RowOk a).bind fun b => bif !b then (impl_copyRow a).bind fun c => some c else (lp impl_JoinRow_s122 ((), [], a, ln a, 0)).bind fun (_, c) => some c
def laws_eqIntS_s58 : ut4 → Option (ut4 ⊕ Bool ⊕ Unit)
  | (a, b, c) => bif decide (c < (ln a)) then ix c a.length (ix c b.length (bif (gx a c 0) != (gx b c 0) then some (.inr (.inl false)) else some (.inl (a, b, w64 (c + 1))))) else some (.inr (.inr ()))
def laws_eqIntS : List Int × List Int → Option Bool
  | (a, b) => bif (ln a) != (ln b) then some false else bx (lp laws_eqIntS_s58 (a, b, 0)) (fun c => some c) fun _ => some true
def laws_eqSpan : (Int × Int) × Int × Int → Option Bool
  | ((a, b), c, d) => bif a != c then some false else bif b != d then some false else some true
def laws_eqSpanS_s58 : ut26 → Option (ut26 ⊕ Bool ⊕ Unit)
  | (a, b, c) => bif decide (c < (ln a)) then ix c a.length ((some (gx a c (0, 0))).bind fun (d, e) => ix c b.length ((some (gx b c (0, 0))).bind fun (f, g) => (laws_eqSpan ((d, e), f, g)).bind fun h => bif !h then some (.inr (.inl false)) else some (.inl (a, b, w64 (c + 1))))) else some (.inr (.inr ()))
def laws_eqSpanS : ut18 → Option Bool
  | (a, b) => bif (ln a) != (ln b) then some false else bx (lp laws_eqSpanS_s58 (a, b, 0)) (fun c => some c) fun _ => some true
def laws_eqIntSS_s58 : ut23 → Option (ut23 ⊕ Bool ⊕ Unit)
  | (a, b, c) => bif decide (c < (ln a)) then ix c a.length (ix c b.length ((laws_eqIntS (gx a c [], gx b c [])).bind fun d => bif !d then some (.inr (.inl false)) else some (.inl (a, b, w64 (c + 1))))) else some (.inr (.inr ()))
def laws_eqIntSS : List (List Int) × List (List Int) → Option Bool
  | (a, b) => bif (ln a) != (ln b) then some false else bx (lp laws_eqIntSS_s58 (a, b, 0)) (fun c => some c) fun _ => some true
def laws_eqSketch : ut40 × ut40 → Option Bool
  | ((a, b, c, d, e, f, g), h, i, j, k, l, m, n) => bif a != h then some false else bif b != i then some false else bif c != j then some false else bif d != k then some false else (laws_eqIntS (e, l)).bind fun o => bif !o then some false else (laws_eqIntS (f, m)).bind fun p => bif !p then some false else (laws_eqIntSS (g, n)).bind fun q => bif !q then some false else some true
def laws_eqEntry : ut51 × ut51 → Option Bool
  | ((a, b, c, d, e, f, g, h, i, j), k, l, m, n, o, p, q, r, s, t) => bif a != k then some false else bif b != l then some false else (laws_eqSpanS (c, m)).bind fun u => bif !u then some false else (laws_eqSketch ((d, e, f, g, h, i, j), n, o, p, q, r, s, t)).bind fun v => bif !v then some false else some true
def laws_eqEntryS_s58 : List ut51 × ut57 → Option (List ut51 × ut57 ⊕ Bool ⊕ Unit)
  | (a, b, c) => (some (decide (c < (ln a)))).bind fun d => bif d then ix c a.length ((some (gx a c (0, 0, [], 0, 0, 0, 0, [], [], []))).bind fun (e, f, g, h, i, j, k, l, m, n) => ix c b.length ((some (gx b c (0, 0, [], 0, 0, 0, 0, [], [], []))).bind fun (o, p, q, r, s, t, u, v, w, x) => (laws_eqEntry ((e, f, g, h, i, j, k, l, m, n), o, p, q, r, s, t, u, v, w, x)).bind fun y => bif !y then some (.inr (.inl false)) else some (.inl (a, b, w64 (c + 1))))) else some (.inr (.inr ()))
def laws_eqEntryS : List ut51 × List ut51 → Option Bool
  | (a, b) => (some ((ln a) != (ln b))).bind fun c => bif c then some false else bx (lp laws_eqEntryS_s58 (a, b, 0)) (fun d => some d) fun _ => some true
def laws_markIntS_s26 : (Unit × Unit × Unit) × Int × Int × List Int → Option ((Unit × Unit × Unit) × Int × Int × List Int ⊕ Int × List Int)
  | ((_, _, _), a, b, c) => bif decide (b < (ln c)) then ix b c.length (lx b c.length (some (.inl (((), (), ()), w64 (a + 1), w64 (b + 1), sx c b a)))) else some (.inr (a, c))
def laws_markIntS : List Int × Int → Option (Int × List Int)
  | (a, b) => (lp laws_markIntS_s26 (((), (), ()), b, 0, a)).bind fun (c, d) => some (c, d)
def laws_markSpanS_s26 : (Unit × Unit × Unit) × Int × ut1 → Option ((Unit × Unit × Unit) × Int × ut1 ⊕ ut1)
  | ((_, _, _), a, b, c) => bif decide (b < (ln c)) then ix b c.length (lx b c.length (ix b (sx c b (a, (gx c b (0, 0)).2)).length (lx b (sx c b (a, (gx c b (0, 0)).2)).length ((some (sx (sx c b (a, (gx c b (0, 0)).2)) b ((gx (sx c b (a, (gx c b (0, 0)).2)) b (0, 0)).1, w64 (a + 1)))).bind fun d => some (.inl (((), (), ()), w64 ((w64 (a + 1)) + 1), w64 (b + 1), d)))))) else some (.inr (a, c))
def laws_markSpanS : ut0 → Option ut1
  | (a, b) => (lp laws_markSpanS_s26 (((), (), ()), b, 0, a)).bind fun (c, d) => some (c, d)
def laws_markIntSS_s26 : (Unit × Unit × Unit) × Int × Int × List (List Int) → Option ((Unit × Unit × Unit) × Int × Int × List (List Int) ⊕ Int × List (List Int))
  | ((_, _, _), a, b, c) => bif decide (b < (ln c)) then ix b c.length (lx b c.length ((laws_markIntS (gx c b [], a)).bind fun (d, e) => some (.inl (((), (), ()), d, w64 (b + 1), sx c b e)))) else some (.inr (a, c))
def laws_markIntSS : List (List Int) × Int → Option (Int × List (List Int))
  | (a, b) => (lp laws_markIntSS_s26 (((), (), ()), b, 0, a)).bind fun (c, d) => some (c, d)
def laws_markEntryS_s26 : (Unit × Unit × Unit) × Int × Int × List ut51 → Option ((Unit × Unit × Unit) × Int × Int × List ut51 ⊕ Int × List ut51)
  | ((_, _, _), a, b, c) => (some (decide (b < (ln c)))).bind fun d => bif d then ix b c.length (lx b c.length ((some (sx c b (a, (gx c b (0, 0, [], 0, 0, 0, 0, [], [], [])).2))).bind fun e => ix b e.length (lx b e.length ((some (sx e b ((gx e b (0, 0, [], 0, 0, 0, 0, [], [], [])).1, w64 (a + 1), (gx e b (0, 0, [], 0, 0, 0, 0, [], [], [])).2.2))).bind fun f => ix b f.length (lx b f.length ((laws_markSpanS ((gx f b (0, 0, [], 0, 0, 0, 0, [], [], [])).2.2.1, w64 ((w64 (a + 1)) + 1))).bind fun (g, h) => (some (sx f b ((gx f b (0, 0, [], 0, 0, 0, 0, [], [], [])).1, (gx f b (0, 0, [], 0, 0, 0, 0, [], [], [])).2.1, h, (gx f b (0, 0, [], 0, 0, 0, 0, [], [], [])).2.2.2))).bind fun i => ix b i.length (lx b i.length ((some (sx i b ((gx i b (0, 0, [], 0, 0, 0, 0, [], [], [])).1, (gx i b (0, 0, [], 0, 0, 0, 0, [], [], [])).2.1, (gx i b (0, 0, [], 0, 0, 0, 0, [], [], [])).2.2.1, g, (gx i b (0, 0, [], 0, 0, 0, 0, [], [], [])).2.2.2.2))).bind fun j => ix b j.length (lx b j.length ((some (sx j b ((gx j b (0, 0, [], 0, 0, 0, 0, [], [], [])).1, (gx j b (0, 0, [], 0, 0, 0, 0, [], [], [])).2.1, (gx j b (0, 0, [], 0, 0, 0, 0, [], [], [])).2.2.1, (gx j b (0, 0, [], 0, 0, 0, 0, [], [], [])).2.2.2.1, w64 (g + 1), (gx j b (0, 0, [], 0, 0, 0, 0, [], [], [])).2.2.2.2.2))).bind fun k => ix b k.length (lx b k.length ((some (sx k b ((gx k b (0, 0, [], 0, 0, 0, 0, [], [], [])).1, (gx k b (0, 0, [], 0, 0, 0, 0, [], [], [])).2.1, (gx k b (0, 0, [], 0, 0, 0, 0, [], [], [])).2.2.1, (gx k b (0, 0, [], 0, 0, 0, 0, [], [], [])).2.2.2.1, (gx k b (0, 0, [], 0, 0, 0, 0, [], [], [])).2.2.2.2.1, w64 ((w64 (g + 1)) + 1), (gx k b (0, 0, [], 0, 0, 0, 0, [], [], [])).2.2.2.2.2.2))).bind fun l => ix b l.length (lx b l.length ((some (sx l b ((gx l b (0, 0, [], 0, 0, 0, 0, [], [], [])).1, (gx l b (0, 0, [], 0, 0, 0, 0, [], [], [])).2.1, (gx l b (0, 0, [], 0, 0, 0, 0, [], [], [])).2.2.1, (gx l b (0, 0, [], 0, 0, 0, 0, [], [], [])).2.2.2.1, (gx l b (0, 0, [], 0, 0, 0, 0, [], [], [])).2.2.2.2.1, (gx l b (0, 0, [], 0, 0, 0, 0, [], [], [])).2.2.2.2.2.1, w64 ((w64 ((w64 (g + 1)) + 1)) + 1), (gx l b (0, 0, [], 0, 0, 0, 0, [], [], [])).2.2.2.2.2.2.2))).bind fun m => (some (w64 ((w64 ((w64 ((w64 (g + 1)) + 1)) + 1)) + 1))).bind fun n => ix b m.length (lx b m.length ((laws_markIntS ((gx m b (0, 0, [], 0, 0, 0, 0, [], [], [])).2.2.2.2.2.2.2.1, n)).bind fun (o, p) => (some (sx m b ((gx m b (0, 0, [], 0, 0, 0, 0, [], [], [])).1, (gx m b (0, 0, [], 0, 0, 0, 0, [], [], [])).2.1, (gx m b (0, 0, [], 0, 0, 0, 0, [], [], [])).2.2.1, (gx m b (0, 0, [], 0, 0, 0, 0, [], [], [])).2.2.2.1, (gx m b (0, 0, [], 0, 0, 0, 0, [], [], [])).2.2.2.2.1, (gx m b (0, 0, [], 0, 0, 0, 0, [], [], [])).2.2.2.2.2.1, (gx m b (0, 0, [], 0, 0, 0, 0, [], [], [])).2.2.2.2.2.2.1, p, (gx m b (0, 0, [], 0, 0, 0, 0, [], [], [])).2.2.2.2.2.2.2.2))).bind fun q => ix b q.length (lx b q.length ((laws_markIntS ((gx q b (0, 0, [], 0, 0, 0, 0, [], [], [])).2.2.2.2.2.2.2.2.1, o)).bind fun (r, s) => (some (sx q b ((gx q b (0, 0, [], 0, 0, 0, 0, [], [], [])).1, (gx q b (0, 0, [], 0, 0, 0, 0, [], [], [])).2.1, (gx q b (0, 0, [], 0, 0, 0, 0, [], [], [])).2.2.1, (gx q b (0, 0, [], 0, 0, 0, 0, [], [], [])).2.2.2.1, (gx q b (0, 0, [], 0, 0, 0, 0, [], [], [])).2.2.2.2.1, (gx q b (0, 0, [], 0, 0, 0, 0, [], [], [])).2.2.2.2.2.1, (gx q b (0, 0, [], 0, 0, 0, 0, [], [], [])).2.2.2.2.2.2.1, (gx q b (0, 0, [], 0, 0, 0, 0, [], [], [])).2.2.2.2.2.2.2.1, s, (gx q b (0, 0, [], 0, 0, 0, 0, [], [], [])).2.2.2.2.2.2.2.2.2))).bind fun t => ix b t.length (lx b t.length ((laws_markIntSS ((gx t b (0, 0, [], 0, 0, 0, 0, [], [], [])).2.2.2.2.2.2.2.2.2, r)).bind fun (u, v) => (some (sx t b ((gx t b (0, 0, [], 0, 0, 0, 0, [], [], [])).1, (gx t b (0, 0, [], 0, 0, 0, 0, [], [], [])).2.1, (gx t b (0, 0, [], 0, 0, 0, 0, [], [], [])).2.2.1, (gx t b (0, 0, [], 0, 0, 0, 0, [], [], [])).2.2.2.1, (gx t b (0, 0, [], 0, 0, 0, 0, [], [], [])).2.2.2.2.1, (gx t b (0, 0, [], 0, 0, 0, 0, [], [], [])).2.2.2.2.2.1, (gx t b (0, 0, [], 0, 0, 0, 0, [], [], [])).2.2.2.2.2.2.1, (gx t b (0, 0, [], 0, 0, 0, 0, [], [], [])).2.2.2.2.2.2.2.1, (gx t b (0, 0, [], 0, 0, 0, 0, [], [], [])).2.2.2.2.2.2.2.2.1, v))).bind fun w => some (.inl (((), (), ()), u, w64 (b + 1), w)))))))))))))))))))))) else some (.inr (a, c))
def laws_markEntryS : ut57 → Option (Int × List ut51)
  | (a, b) => (lp laws_markEntryS_s26 (((), (), ()), b, 0, a)).bind fun (c, d) => some (c, d)
def laws_heldIntS_s26 : List Int × Int × Int → Option (List Int × Int × Int ⊕ Int ⊕ Int)
  | (a, b, c) => bif decide (c < (ln a)) then ix c a.length (bif (gx a c 0) != b then some (.inr (.inl (-1))) else some (.inl (a, w64 (b + 1), w64 (c + 1)))) else some (.inr (.inr b))
def laws_heldIntS : List Int × Int → Option Int
  | (a, b) => bx (lp laws_heldIntS_s26 (a, b, 0)) (fun c => some c) fun c => some c
def laws_heldSpanS_s26 : ut9 → Option (ut9 ⊕ Int ⊕ Int)
  | (a, b, c) => bif decide (c < (ln a)) then ix c a.length ((some (gx a c (0, 0))).bind fun (d, e) => bif d != b then some (.inr (.inl (-1))) else ix c a.length ((some (gx a c (0, 0))).bind fun (f, g) => bif g != (w64 (b + 1)) then some (.inr (.inl (-1))) else some (.inl (a, w64 ((w64 (b + 1)) + 1), w64 (c + 1))))) else some (.inr (.inr b))
def laws_heldSpanS : ut0 → Option Int
  | (a, b) => bx (lp laws_heldSpanS_s26 (a, b, 0)) (fun c => some c) fun c => some c
def laws_heldIntSS_s26 : ut8 → Option (ut8 ⊕ Int ⊕ Int)
  | (a, b, c) => bif decide (c < (ln a)) then ix c a.length ((laws_heldIntS (gx a c [], b)).bind fun d => bif decide (d < 0) then some (.inr (.inl (-1))) else some (.inl (a, d, w64 (c + 1)))) else some (.inr (.inr b))
def laws_heldIntSS : List (List Int) × Int → Option Int
  | (a, b) => bx (lp laws_heldIntSS_s26 (a, b, 0)) (fun c => some c) fun c => some c
def laws_heldEntryS_s26 : ut60 → Option (ut60 ⊕ Int ⊕ Int)
  | (a, b, c) => (some (decide (c < (ln a)))).bind fun d => bif d then ix c a.length ((some (gx a c (0, 0, [], 0, 0, 0, 0, [], [], []))).bind fun (e, f, g, h, i, j, k, l, m, n) => bif e != b then some (.inr (.inl (-1))) else ix c a.length ((some (gx a c (0, 0, [], 0, 0, 0, 0, [], [], []))).bind fun (o, p, q, r, s, t, u, v, w, x) => bif p != (w64 (b + 1)) then some (.inr (.inl (-1))) else ix c a.length ((some (gx a c (0, 0, [], 0, 0, 0, 0, [], [], []))).bind fun (y, z, a1, b1, c1, d1, e1, f1, g1, h1) => (laws_heldSpanS (a1, w64 ((w64 (b + 1)) + 1))).bind fun i1 => bif decide (i1 < 0) then some (.inr (.inl (-1))) else ix c a.length ((some (gx a c (0, 0, [], 0, 0, 0, 0, [], [], []))).bind fun (j1, k1, l1, m1, n1, o1, p1, q1, r1, s1) => bif m1 != i1 then some (.inr (.inl (-1))) else ix c a.length ((some (gx a c (0, 0, [], 0, 0, 0, 0, [], [], []))).bind fun (ut1, u1, v1, w1, x1, y1, z1, a2, b2, c2) => bif x1 != (w64 (i1 + 1)) then some (.inr (.inl (-1))) else ix c a.length ((some (gx a c (0, 0, [], 0, 0, 0, 0, [], [], []))).bind fun (d2, e2, f2, g2, h2, i2, j2, k2, l2, m2) => bif i2 != (w64 ((w64 (i1 + 1)) + 1)) then some (.inr (.inl (-1))) else ix c a.length ((some (gx a c (0, 0, [], 0, 0, 0, 0, [], [], []))).bind fun (n2, o2, p2, q2, r2, s2, ut2, u2, v2, w2) => (some (ut2 != (w64 ((w64 ((w64 (i1 + 1)) + 1)) + 1)))).bind fun x2 => bif x2 then some (.inr (.inl (-1))) else (some (w64 ((w64 ((w64 ((w64 (i1 + 1)) + 1)) + 1)) + 1))).bind fun y2 => ix c a.length ((some (gx a c (0, 0, [], 0, 0, 0, 0, [], [], []))).bind fun (z2, a3, b3, c3, d3, e3, f3, g3, h3, i3) => (laws_heldIntS (g3, y2)).bind fun j3 => bif decide (j3 < 0) then some (.inr (.inl (-1))) else ix c a.length ((some (gx a c (0, 0, [], 0, 0, 0, 0, [], [], []))).bind fun (k3, l3, m3, n3, o3, p3, q3, r3, s3, ut3) => (laws_heldIntS (s3, j3)).bind fun u3 => bif decide (u3 < 0) then some (.inr (.inl (-1))) else ix c a.length ((some (gx a c (0, 0, [], 0, 0, 0, 0, [], [], []))).bind fun (v3, w3, x3, y3, z3, a4, b4, c4, d4, e4) => (laws_heldIntSS (e4, u3)).bind fun f4 => bif decide (f4 < 0) then some (.inr (.inl (-1))) else some (.inl (a, f4, w64 (c + 1))))))))))))) else some (.inr (.inr b))
def laws_heldEntryS : ut57 → Option Int
  | (a, b) => bx (lp laws_heldEntryS_s26 (a, b, 0)) (fun c => some c) fun c => some c
end Go.Proofs.YthchcnfkgjmabaaGreat.Tw
