/- Twins that plain texts speak of, by definitions alone. No condition: definitions. -/
import Derived.Test.YtmlbgldofgobnaaDoorTwF
namespace Go.Proofs.YtmlbgldofgobnaaDoor.Tw
open Go.Mach
set_option linter.unusedVariables false
abbrev ut2 : Type := Int × Int × Int × List Int
abbrev ut4 : Type := Int × ut2
abbrev ut6 : Type := Int × ut4
def laws_eqIntS_s58 : List Int × List Int × Int → Option (List Int × List Int × Int ⊕ Bool ⊕ Unit)
  | (a, b, c) => bif decide (c < (ln a)) then ix c a.length (ix c b.length (bif (gx a c 0) != (gx b c 0) then some (.inr (.inl false)) else some (.inl (a, b, w64 (c + 1))))) else some (.inr (.inr ()))
def laws_eqIntS : List Int × List Int → Option Bool
  | (a, b) => bif (ln a) != (ln b) then some false else bx (lp laws_eqIntS_s58 (a, b, 0)) (fun c => some c) fun _ => some true
def laws_eqDeed : ut6 × ut6 → Option Bool
  | ((a, b, c, d, e, f), g, h, i, j, k, l) => bif a != g then some false else bif b != h then some false else bif c != i then some false else bif d != j then some false else bif e != k then some false else (laws_eqIntS (f, l)).bind fun m => bif !m then some false else some true
def laws_markIntS_s26 : (Unit × Unit × Unit) × Int × Int × List Int → Option ((Unit × Unit × Unit) × Int × Int × List Int ⊕ Int × List Int)
  | ((_, _, _), a, b, c) => bif decide (b < (ln c)) then ix b c.length (lx b c.length (some (.inl (((), (), ()), w64 (a + 1), w64 (b + 1), sx c b a)))) else some (.inr (a, c))
def laws_markIntS : List Int × Int → Option (Int × List Int)
  | (a, b) => (lp laws_markIntS_s26 (((), (), ()), b, 0, a)).bind fun (c, d) => some (c, d)
def laws_markDeed : ut6 × Int → Option (Int × ut6)
  | ((a, b, c, d, e, f), g) => (laws_markIntS (f, g)).bind fun (h, i) => some (h, a, b, c, d, e, i)
def laws_heldIntS_s26 : List Int × Int × Int → Option (List Int × Int × Int ⊕ Int ⊕ Int)
  | (a, b, c) => bif decide (c < (ln a)) then ix c a.length (bif (gx a c 0) != b then some (.inr (.inl (-1))) else some (.inl (a, w64 (b + 1), w64 (c + 1)))) else some (.inr (.inr b))
def laws_heldIntS : List Int × Int → Option Int
  | (a, b) => bx (lp laws_heldIntS_s26 (a, b, 0)) (fun c => some c) fun c => some c
def laws_heldDeed : ut6 × Int → Option Int
  | ((a, b, c, d, e, f), g) => (laws_heldIntS (f, g)).bind fun h => bif decide (h < 0) then some (-1) else some h
def laws_FnExactDeedOf : List UInt8 → Option Bool
  | a => bif decide ((ln a) > 1048576) then some true else (spec_DeedOf a).bind fun ((b, c, d, e, f, g), h) => (impl_DeedOf a).bind fun ((i, j, k, l, m, n), o) => (laws_eqDeed ((i, j, k, l, m, n), b, c, d, e, f, g)).bind fun p => bif !p then some false else bif !(o == h) then some false else (laws_markDeed ((i, j, k, l, m, n), 1)).bind fun (q, r, s, t, u, v, w) => (laws_heldDeed ((i, j, k, l, m, w), 1)).bind fun x => bif decide (x < 0) then some false else bif x != q then some false else (impl_DeedOf a).bind fun ((y, z, a1, b1, c1, d1), e1) => (laws_eqDeed ((y, z, a1, b1, c1, d1), b, c, d, e, f, g)).bind fun f1 => bif !f1 then some false else bif !(e1 == h) then some false else (laws_heldDeed ((i, j, k, l, m, w), 1)).bind fun g1 => bif decide (g1 < 0) then some false else bif g1 != q then some false else some true
def spec_DeedsOf_s250 : List ut6 × List (List UInt8) × Int → Option (List ut6 × List (List UInt8) × Int ⊕ List ut6 × Bool ⊕ List ut6)
  | (a, b, c) => (some (decide (c < (w64 ((ln b) - 1))))).bind fun d => bif d then ix c b.length (lx c b.length ((spec_DeedOf (gx b c [])).bind fun ((e, f, g, h, i, j), k) => bif !k then some (.inr (.inl ([], false))) else (some [(e, f, g, h, i, j)]).bind fun l => chk (fits (a.length + l.length) 64) ((some (a ++ l)).bind fun m => some (.inl (m, b, w64 (c + 1)))))) else some (.inr (.inr a))
def spec_DeedsOf : List UInt8 → Option (List ut6 × Bool)
  | a => (spec_Parts (a, 10)).bind fun b => ix (w64 ((ln b) - 1)) b.length (lx (w64 ((ln b) - 1)) b.length (bif !((gx b (w64 ((ln b) - 1)) []) == (Array.toList (ByteArray.data { data := #[] }))) then some ([], false) else bx (lp spec_DeedsOf_s250 ([], b, 0)) (fun (c, d) => some (c, d)) fun c => some (c, true)))
def laws_eqDeedS_s58 : List ut6 × List ut6 × Int → Option (List ut6 × List ut6 × Int ⊕ Bool ⊕ Unit)
  | (a, b, c) => bif decide (c < (ln a)) then ix c a.length ((some (gx a c (0, 0, 0, 0, 0, []))).bind fun (d, e, f, g, h, i) => ix c b.length ((some (gx b c (0, 0, 0, 0, 0, []))).bind fun (j, k, l, m, n, o) => (laws_eqDeed ((d, e, f, g, h, i), j, k, l, m, n, o)).bind fun p => bif !p then some (.inr (.inl false)) else some (.inl (a, b, w64 (c + 1))))) else some (.inr (.inr ()))
def laws_eqDeedS : List ut6 × List ut6 → Option Bool
  | (a, b) => bif (ln a) != (ln b) then some false else bx (lp laws_eqDeedS_s58 (a, b, 0)) (fun c => some c) fun _ => some true
def laws_markDeedS_s26 : (Unit × Unit × Unit) × Int × Int × List ut6 → Option ((Unit × Unit × Unit) × Int × Int × List ut6 ⊕ Int × List ut6)
  | ((_, _, _), a, b, c) => bif decide (b < (ln c)) then ix b c.length (lx b c.length ((some (sx c b (a, (gx c b (0, 0, 0, 0, 0, [])).2))).bind fun d => ix b d.length (lx b d.length ((some (sx d b ((gx d b (0, 0, 0, 0, 0, [])).1, w64 (a + 1), (gx d b (0, 0, 0, 0, 0, [])).2.2))).bind fun e => ix b e.length (lx b e.length ((some (sx e b ((gx e b (0, 0, 0, 0, 0, [])).1, (gx e b (0, 0, 0, 0, 0, [])).2.1, w64 ((w64 (a + 1)) + 1), (gx e b (0, 0, 0, 0, 0, [])).2.2.2))).bind fun f => ix b f.length (lx b f.length ((some (sx f b ((gx f b (0, 0, 0, 0, 0, [])).1, (gx f b (0, 0, 0, 0, 0, [])).2.1, (gx f b (0, 0, 0, 0, 0, [])).2.2.1, w64 ((w64 ((w64 (a + 1)) + 1)) + 1), (gx f b (0, 0, 0, 0, 0, [])).2.2.2.2))).bind fun g => (some (w64 ((w64 ((w64 ((w64 (a + 1)) + 1)) + 1)) + 1))).bind fun h => ix b g.length (lx b g.length ((some (sx g b ((gx g b (0, 0, 0, 0, 0, [])).1, (gx g b (0, 0, 0, 0, 0, [])).2.1, (gx g b (0, 0, 0, 0, 0, [])).2.2.1, (gx g b (0, 0, 0, 0, 0, [])).2.2.2.1, h, (gx g b (0, 0, 0, 0, 0, [])).2.2.2.2.2))).bind fun i => ix b i.length (lx b i.length ((laws_markIntS ((gx i b (0, 0, 0, 0, 0, [])).2.2.2.2.2, w64 (h + 1))).bind fun (j, k) => (some (sx i b ((gx i b (0, 0, 0, 0, 0, [])).1, (gx i b (0, 0, 0, 0, 0, [])).2.1, (gx i b (0, 0, 0, 0, 0, [])).2.2.1, (gx i b (0, 0, 0, 0, 0, [])).2.2.2.1, (gx i b (0, 0, 0, 0, 0, [])).2.2.2.2.1, k))).bind fun l => some (.inl (((), (), ()), j, w64 (b + 1), l)))))))))))))) else some (.inr (a, c))
def laws_markDeedS : List ut6 × Int → Option (Int × List ut6)
  | (a, b) => (lp laws_markDeedS_s26 (((), (), ()), b, 0, a)).bind fun (c, d) => some (c, d)
def laws_heldDeedS_s26 : List ut6 × Int × Int → Option (List ut6 × Int × Int ⊕ Int ⊕ Int)
  | (a, b, c) => bif decide (c < (ln a)) then ix c a.length ((some (gx a c (0, 0, 0, 0, 0, []))).bind fun (d, e, f, g, h, i) => bif d != b then some (.inr (.inl (-1))) else ix c a.length ((some (gx a c (0, 0, 0, 0, 0, []))).bind fun (j, k, l, m, n, o) => bif k != (w64 (b + 1)) then some (.inr (.inl (-1))) else ix c a.length ((some (gx a c (0, 0, 0, 0, 0, []))).bind fun (p, q, r, s, t, u) => bif r != (w64 ((w64 (b + 1)) + 1)) then some (.inr (.inl (-1))) else ix c a.length ((some (gx a c (0, 0, 0, 0, 0, []))).bind fun (v, w, x, y, z, a1) => (some (y != (w64 ((w64 ((w64 (b + 1)) + 1)) + 1)))).bind fun b1 => bif b1 then some (.inr (.inl (-1))) else (some (w64 ((w64 ((w64 ((w64 (b + 1)) + 1)) + 1)) + 1))).bind fun c1 => ix c a.length ((some (gx a c (0, 0, 0, 0, 0, []))).bind fun (d1, e1, f1, g1, h1, i1) => bif h1 != c1 then some (.inr (.inl (-1))) else ix c a.length ((some (gx a c (0, 0, 0, 0, 0, []))).bind fun (j1, k1, l1, m1, n1, o1) => (laws_heldIntS (o1, w64 (c1 + 1))).bind fun p1 => bif decide (p1 < 0) then some (.inr (.inl (-1))) else some (.inl (a, p1, w64 (c + 1))))))))) else some (.inr (.inr b))
def laws_heldDeedS : List ut6 × Int → Option Int
  | (a, b) => bx (lp laws_heldDeedS_s26 (a, b, 0)) (fun c => some c) fun c => some c
def laws_FnExactDeedsOf : List UInt8 → Option Bool
  | a => bif decide ((ln a) > 1048576) then some true else (spec_DeedsOf a).bind fun (b, c) => (impl_DeedsOf a).bind fun (d, e) => (laws_eqDeedS (d, b)).bind fun f => bif !f then some false else bif !(e == c) then some false else (laws_markDeedS (d, 1)).bind fun (g, h) => (laws_heldDeedS (h, 1)).bind fun i => bif decide (i < 0) then some false else bif i != g then some false else (impl_DeedsOf a).bind fun (j, k) => (laws_eqDeedS (j, b)).bind fun l => bif !l then some false else bif !(k == c) then some false else (laws_heldDeedS (h, 1)).bind fun m => bif decide (m < 0) then some false else bif m != g then some false else some true
end Go.Proofs.YtmlbgldofgobnaaDoor.Tw
