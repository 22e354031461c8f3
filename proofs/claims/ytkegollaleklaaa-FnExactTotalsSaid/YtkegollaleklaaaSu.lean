/- Plain: the program's sums and the reference's, as the model has them. No condition: lemmas. -/
import Derived.Test.YtkegollaleklaaaSm
import Derived.Test.YtkegollaleklaaaHm
namespace Go.Proofs.Ytkegollaleklaaa.Tw
open Go.Mach
set_option linter.unusedVariables false
set_option linter.unusedSimpArgs false
set_option maxRecDepth 20000

/-! ### the reference -/
theorem l3Copy_eq {s : SkT} (h : SkLe 1048576 s) : spec_l3Copy s = some s := by
  obtain ⟨a, b, c, d, e, f, g⟩ := s
  obtain ⟨h1, h2, h3, h4⟩ := h
  simp only at h1 h2 h3 h4
  have := lp_det (S := spec_l3Copy_s506) (fun i => ((a, b, c, d, e, f, g), (0, 0, 0, 0, (), (), ()), (a, b, c, d, e, f, g.take i), (i : Int))) h3 (b := ((0, 0, 0, 0, (), (), ()), a, b, c, d, e, f, g)) (fun i hi => by
    have hm := h4 _ (getD_mem (d := []) hi)
    simp only [spec_l3Copy_s506, lnn, ltn hi, cond_true, ixn hi, gxn, List.nil_append, wsucc (show i ≤ 1048576 by omega)]
    rw [fitsC (by omega) (by omega), fitsC (by simp; omega) (by omega), Option.bind_some, take_snoc [] hi]) (by simp only [spec_l3Copy_s506, lnn, ltF, cond_false, List.take_length])
  rw [cast0, List.take_zero] at this
  simp only [spec_l3Copy, List.nil_append]
  rw [fitsC (by omega) (by omega), fitsC (by omega) (by omega), this]
  rfl
theorem l6Copy_eq {e : EnT} (h : EnLe 1048576 e) : spec_l6Copy e = some e := by
  obtain ⟨a, b, c, s⟩ := e
  obtain ⟨d, e, f, g, i, j, k⟩ := s
  have := l3Copy_eq h.2
  simp only at this
  simp only [spec_l6Copy, l5Copy_eq h.1, this, Option.bind_some]
theorem l6Add_eq {a b : EnT} (ha : EnOk a) (hb : EnOk b) : spec_l6Add (a, b) = some (addE a b) := by
  obtain ⟨a1, a2, a3, s⟩ := a
  obtain ⟨a4, a5, a6, a7, a8, a9, a10⟩ := s
  obtain ⟨b1, b2, b3, s⟩ := b
  obtain ⟨b4, b5, b6, b7, b8, b9, b10⟩ := s
  have la := ha.len
  have lb := hb.len
  have hj := join_eq (a := a3) (b := b3) (by simp only at la lb; omega) ha.ids (fun y hy => ⟨(ha.sml y hy).2.1, (ha.sml y hy).2.2⟩) hb.sml
  have hm := l3Merge_eq ha.sk hb.sk
  have hp : b3.foldl putS a3 = nrm (a3 ++ b3) := putsS_nrm ha.ids fun x hx => (hb.sml x hx).1
  simp only at hm
  simp only [spec_l6Add, hj, hm, Option.bind_some, hp, addE]

theorem l1865_eq {e : EnT} {m : List EnT} {k : Int} {i : Nat} (hi : i < m.length) :
    spec_l10Into_l1865 (((), (), ()), e, k, (i : Int), m) = some (((), (), ()), e, (if gtE (m.getD i en0) e then (i : Int) else k), (i : Int), m) := by
  obtain ⟨a, b, s⟩ := e
  simp only [spec_l10Into_l1865, ixn hi, lxn hi, gxn, Option.bind_some]
  generalize hz : m.getD i (0, 0, [], 0, 0, 0, 0, [], [], []) = z
  obtain ⟨z1, z2, z3⟩ := z
  simp only [bif_dec, beq_cond]
  by_cases h1 : z1 > a
  · rw [if_pos h1, if_pos (show gtE (z1, z2, z3) (a, b, s) from .inl h1)]
  · rw [if_neg h1]
    by_cases h2 : z1 = a
    · rw [if_pos h2]
      by_cases h3 : z2 > b
      · rw [if_pos h3, if_pos (show gtE (z1, z2, z3) (a, b, s) from .inr ⟨h2, h3⟩)]
      · rw [if_neg h3, if_neg (show ¬ gtE (z1, z2, z3) (a, b, s) by unfold gtE; simp only; omega)]
    · rw [if_neg h2, if_neg (show ¬ gtE (z1, z2, z3) (a, b, s) by unfold gtE; simp only; omega)]

theorem into_step {e : EnT} {m : List EnT} {k : Int} {i : Nat} (hi : i < m.length) (hs : i ≤ 1048576) (he : EnOk e) (hm : EnsOk m) :
    spec_l10Into_s58 (((), (), ()), e, k, (i : Int), m) = some (if same (m.getD i en0) e then .inr (.inl (m.set i (addE (m.getD i en0) e), ())) else .inl (((), (), ()), e, (if gtE (m.getD i en0) e then (i : Int) else k), (i : Int) - 1, m)) := by
  have hj := l1865_eq (e := e) (k := k) hi
  have hadd := l6Add_eq (hm _ (getD_mem (d := en0) hi)) he
  have hw : w64 ((i : Int) - 1) = (i : Int) - 1 := w64_ok (by omega) (by omega)
  obtain ⟨a, b, c, s⟩ := e
  obtain ⟨e1, e2, e3, e4, e5, e6, e7⟩ := s
  simp only [spec_l10Into_s58, dT (show (i : Int) ≥ 0 by omega), cond_true, ixn hi, lxn hi, gxn, sxn, Option.bind_some, hj, hw]
  generalize hz : m.getD i (0, 0, [], 0, 0, 0, 0, [], [], []) = z
  obtain ⟨z1, z2, z3, z4, z5, z6, z7, z8, z9, z10⟩ := z
  have hz' : m.getD i en0 = (z1, z2, z3, z4, z5, z6, z7, z8, z9, z10) := hz
  rw [hz'] at hadd
  simp only [hadd, Option.bind_some, beq_cond]
  by_cases h1 : z1 = a
  · rw [if_pos h1]
    by_cases h2 : z2 = b
    · rw [if_pos h2, if_pos (show same (z1, z2, z3, z4, z5, z6, z7, z8, z9, z10) (a, b, c, e1, e2, e3, e4, e5, e6, e7) from ⟨h1, h2⟩)]
    · rw [if_neg h2, if_neg (show ¬ same (z1, z2, z3, z4, z5, z6, z7, z8, z9, z10) (a, b, c, e1, e2, e3, e4, e5, e6, e7) from fun q => h2 q.2)]
  · rw [if_neg h1, if_neg (show ¬ same (z1, z2, z3, z4, z5, z6, z7, z8, z9, z10) (a, b, c, e1, e2, e3, e4, e5, e6, e7) from fun q => h1 q.1)]

theorem into_loop {e : EnT} (he : EnOk e) : ∀ (q r : List EnT) (f : Nat) (m : List EnT), m = q.reverse ++ r → EnsOk m → m.length ≤ 1048576 → q.length < f →
    iter spec_l10Into_s58 f (((), (), ()), e, ((q.length + fg e r : Nat) : Int), (q.length : Int) - 1, m) = some (match back e q r with | .inl x => .inl (x, ()) | .inr x => .inr (((), (), ()), e, ((fg e x : Nat) : Int), x))
  | [], r, f, m, hm, _, _, hf => by
    cases f with
    | zero => simp at hf
    | succ f =>
      obtain ⟨e1, e2, e3, e4, e5, e6, e7, e8, e9, e10⟩ := e
      have : m = r := by simpa using hm
      subst this
      simp only [iter, back, List.length_nil, Nat.zero_add]
      simp only [spec_l10Into_s58]
      rw [dF (by simp), cond_false]
  | z :: q, r, f, m, hm, hok, hl, hf => by
    cases f with
    | zero => simp at hf
    | succ f =>
      have hlen : m.length = q.length + (1 + r.length) := by rw [hm]; simp; omega
      have hi : q.length < m.length := by omega
      have hg : m.getD q.length en0 = z := by
        rw [hm]
        simp [List.getD_eq_getElem?_getD]
      have hidx : (((z :: q).length : Nat) : Int) - 1 = (q.length : Int) := by simp
      simp only [iter]
      rw [hidx, into_step hi (by omega) he hok, hg]
      simp only [back]
      by_cases hs : same z e
      · rw [if_pos hs, if_pos hs]
        simp only
        congr 3
        rw [hm]
        simp
      · rw [if_neg hs, if_neg hs]
        simp only
        have ih := into_loop he q (z :: r) f m (by rw [hm]; simp) hok hl (by simp at hf; omega)
        rw [← ih]
        congr 5
        simp only [fg, List.length_cons]
        split <;> simp <;> omega

theorem into_eq {l : List EnT} {e : EnT} (hl : EnsOk l) (he : EnOk e) (hn : l.length ≤ 1000000) (hs : l.Pairwise (fun a b => gtE b a)) : spec_l10Into (l, e) = some (ins l e, ()) := by
  have h := into_loop he l.reverse [] bigN l (by simp) hl (by omega) (by simp only [bigN, List.length_reverse]; omega)
  have hb := back_ins (e := e) hs
  rw [List.length_reverse] at h
  simp only [fg, Nat.add_zero] at h
  have h' : lp spec_l10Into_s58 (((), (), ()), e, (l.length : Int), (l.length : Int) - 1, l) = _ := h
  have hw : w64 ((l.length : Int) - 1) = (l.length : Int) - 1 := w64_ok (by omega) (by omega)
  have hcp := l6Copy_eq (he.toLe.mono (by omega : 5001 ≤ 1048576))
  obtain ⟨e1, e2, e3, e4, e5, e6, e7, e8, e9, e10⟩ := e
  simp only [spec_l10Into, lnn, hw, h']
  cases hk : back (e1, e2, e3, e4, e5, e6, e7, e8, e9, e10) l.reverse [] with
  | inl x =>
    rw [hk] at hb
    simp only at hb
    simp only [bx_inl, hb]
  | inr x =>
    rw [hk] at hb
    simp only at hb
    obtain ⟨hx, _⟩ := back_inr hk
    simp only [List.reverse_reverse, List.append_nil] at hx
    subst hx
    have hle := fg_le (e1, e2, e3, e4, e5, e6, e7, e8, e9, e10) x
    generalize hv : fg (e1, e2, e3, e4, e5, e6, e7, e8, e9, e10) x = v at hb hle
    have hb' : List.take v x ++ [(e1, e2, e3, e4, e5, e6, e7, e8, e9, e10)] ++ List.drop v x = ins x (e1, e2, e3, e4, e5, e6, e7, e8, e9, e10) := by rw [← hb]; simp
    simp only [bx_inr]
    have key : g0 (v : Int) (chk (decide ((0 ≤ (v : Int).toNat) ∧ ((v : Int).toNat ≤ x.length))) (chk (fits (0 + (List.take (v : Int).toNat x).length) 144) ((some ([] ++ (List.take (v : Int).toNat x))).bind fun x_1 => (spec_l6Copy (e1, e2, e3, e4, e5, e6, e7, e8, e9, e10)).bind fun z => (some [z]).bind fun i1 => chk (fits (x_1.length + i1.length) 144) ((some (x_1 ++ i1)).bind fun j1 => g0 (v : Int) (chk (decide (((v : Int).toNat ≤ x.length) ∧ (x.length ≤ x.length))) (chk (fits (j1.length + (List.drop (v : Int).toNat x).length) 144) ((some (j1 ++ (List.drop (v : Int).toNat x))).bind fun k1 => some (k1, ())))))))) = some (ins x (e1, e2, e3, e4, e5, e6, e7, e8, e9, e10), ()) := by
      simp only [Int.toNat_natCast, hcp, Option.bind_some, List.nil_append]
      rw [g0_ok (by omega), chkD (by omega), fitsC (by simp; omega) (by omega), fitsC (by simp; omega) (by omega), g0_ok (by omega), chkD (by omega), fitsC (by simp; omega) (by omega), hb']
    rw [hv]
    exact key

theorem l24Sum_eq {l : List EnT} (hl : EnsOk l) (hn : l.length ≤ 1048576) : spec_l24Sum l = some (sumsM l) := by
  have h := lp_det (S := spec_l24Sum_s58) (fun i => (l, sumsM (l.take i), (i : Int))) hn (b := sumsM l) (fun i hi => by
    have h1 : EnsOk (l.take i) := fun x hx => hl x (List.mem_of_mem_take hx)
    have h2 := hl _ (getD_mem (d := en0) hi)
    have := into_eq (sumsM_ok h1) h2 (by have := sumsM_length (l.take i); omega) (sumsM_sorted h1)
    simp only [spec_l24Sum_s58, lnn, ltn hi, Option.bind_some, cond_true, ixn hi, gxn, wsucc (show i ≤ 1048576 by omega)]
    rw [take_snoc en0 hi, sumsM_snoc h1 h2]
    generalize hx : l.getD i (0, 0, [], 0, 0, 0, 0, [], [], []) = x
    have hx' : l.getD i en0 = x := hx
    rw [hx'] at this
    obtain ⟨x1, x2, x3, x4, x5, x6, x7, x8, x9, x10⟩ := x
    simp only [this, Option.bind_some]) (by
    simp only [spec_l24Sum_s58, lnn, ltF, Option.bind_some, cond_false, List.take_length])
  rw [cast0, List.take_zero] at h
  have e : sumsM [] = [] := by decide +kernel
  rw [e] at h
  simp only [spec_l24Sum, h, Option.bind_some]

end Go.Proofs.Ytkegollaleklaaa.Tw
