/- Plain: outs: what is handed over is as it was; sizes; marks. No condition: lemmas. -/
import Derived.Test.YtkegollaleklaaaGreatHm
import Derived.Test.YtkegollaleklaaaGreatWf
import Derived.Test.YtkegollaleklaaaGreatHz
import Derived.Test.YtkegollaleklaaaGreatTwJH
namespace Go.Proofs.YtkegollaleklaaaGreat.Tw
open Go.Mach
set_option linter.unusedVariables false
set_option linter.unusedSimpArgs false
set_option maxRecDepth 20000
def nOut (e : OuT) : Nat := nEn e.2
def nOuts (l : List OuT) : Nat := l.length + sumL nOut l
theorem outsLe_of {l : List OuT} (h : nOuts l ≤ 1048576) : OutsLe 1048576 l := by
 unfold nOuts at h
 exact ⟨by omega, fun e he => enLe_of (by have h2 : nOut e ≤ sumL nOut l := sumL_mem (f := nOut) he; have h3 : nOut e = nEn e.2 := rfl; omega)⟩
theorem outs_of_wf {l : List OuT} (h : Wf (.list (.pair kI wEntry)) l) : OutsLe 9223372036854775807 l := ⟨h.1, fun e he => en_of_wf (h.2 e he).2⟩
theorem toOut_ok {e : OuT} (h : EnLe 1048576 e.2) : laws_toOut e = some e := by
 obtain ⟨o, a, b, c, s⟩ := e
 obtain ⟨d, e, f, g, i, j, k⟩ := s
 have := toEntry_ok h
 simp only at this
 simp only [laws_toOut, this, Option.bind_some]
theorem eqOut_ok {e : OuT} (h : EnLe 1048576 e.2) : laws_eqOut (e, e) = some true := by
 obtain ⟨o, a, b, c, s⟩ := e
 obtain ⟨d, e, f, g, i, j, k⟩ := s
 have := eqEntry_ok h
 simp only at this
 simp only [laws_eqOut, bne_self_eq_false, cond_false, this, Option.bind_some, Bool.not_true]
theorem szOut_ok : Sz laws_szOut (fun o => EnLe 9223372036854775807 o.2) nOut := by
 rintro ⟨o, a, b, c, s⟩ x hw h0 h1
 obtain ⟨d, e, f, g, i, j, k⟩ := s
 simp only [laws_szOut]
 exact sz_then (n := 0) (szEntry_ok (a, b, c, d, e, f, g, i, j, k) x hw h0 h1) fun u u0 u1 => sz_last u0
theorem toOutS_ok {l : List OuT} (h : OutsLe 1048576 l) : laws_toOutS l = some l := by
 obtain ⟨hl, hr⟩ := h
 have := copy_list (S := laws_toOutS_s58) (to := laws_toOut) ou0 hl (fun r hm => toOut_ok (hr r hm)) (fun i m hi hm => by
  simp only [laws_toOutS_s58, lnn, ltn hi, Option.bind_some, cond_true, ixn hi, hm, lxn hi, gxn, sxn, wsucc (show i ≤ 1048576 by omega)]) (fun m => by simp only [laws_toOutS_s58, lnn, ltF, Option.bind_some, cond_false])
 simp only [laws_toOutS, lnn, Int.toNat_natCast, Option.bind_some]
 rw [chkD (by omega), this]
 rfl
theorem eqOutS_ok {l : List OuT} (h : OutsLe 1048576 l) : laws_eqOutS (l, l) = some true := by
 obtain ⟨hl, hr⟩ := h
 have := same_list (S := laws_eqOutS_s58) (eq := laws_eqOut) (t := .inr ()) (e := .inl false) ou0 hl (fun r hm => eqOut_ok (hr r hm)) (fun i hi => by
  simp only [laws_eqOutS_s58, lnn, ltn hi, Option.bind_some, cond_true, ixn hi, gxn, bnot_cond, wsucc (show i ≤ 1048576 by omega)]) (by simp only [laws_eqOutS_s58, lnn, ltF, Option.bind_some, cond_false])
 simp only [laws_eqOutS, bne_self_eq_false, Option.bind_some, cond_false]
 rw [this]
 rfl
theorem szOutS_ok : Sz laws_szOutS (OutsLe 9223372036854775807) nOuts :=
 sz_list (S := laws_szOutS_s122) szOut_ok ou0 (fun l i a hl hi => by
  simp only [laws_szOutS_s122, lnn, ltn hi, Option.bind_some, cond_true, ixn hi, gxn, wsucc (show i ≤ 1048576 by omega)]) (fun l a => by simp only [laws_szOutS_s122, lnn, ltF, Option.bind_some, cond_false])
def markOu (p : OuT × Int) : Option (Int × OuT) := (markEn (p.1.2, w64 (p.2 + 1))).bind fun a => some (a.1, (p.2, a.2))
def heldOu (p : OuT × Int) : Option Int := bif p.1.1 != p.2 then some (-1) else heldEn (p.1.2, w64 (p.2 + 1))
theorem marksOu {e : OuT} (h : EnLe 1048576 e.2) : Marks markOu heldOu (1 + szEn e.2) e := by
 intro k k0 k1
 obtain ⟨a, a1, a2⟩ := marksEn h (k + 1) (by omega) (by omega)
 have e1 : w64 (k + 1) = k + 1 := w64_ok (by omega) (by omega)
 refine ⟨(k, a), ?_, ?_⟩
 ·simp only [markOu, e1, a1, Option.bind_some]
  congr 2
  omega
 ·simp only [heldOu, e1, a2, bne_self_eq_false, cond_false]
  congr 1
  omega
end Go.Proofs.YtkegollaleklaaaGreat.Tw
