/- The machine, part nk: a call of a function to which nothing is lent, done. No condition: lemmas. -/
import Derived.Test.YtcdkpfcfcjnooaaNj
namespace Go.Mach
set_option linter.unusedVariables false
set_option linter.unusedSimpArgs false

/-! ### Behind the call -/
/-- Blocks behind a call: results' blocks, what is given up, the rest as it was. -/
def owOut (G : Gh) (H rt : List Nat) (gv : Bool) (len b : Nat) : Option Nat :=
  if b ∈ H then some len else match G.ow b with
    | none => none
    | some s => if gv && rt.contains s then none else some s

def giveS (z : Slot) : Slot := match z.sh with
  | .box _ => { z with sh := .dead, cs := [] }
  | _ => { z with cs := z.cs.map C.give }

theorem give_noOwn (c : C) : c.give.isOwn = false := by cases c <;> rfl

theorem give_idem (c : C) : c.give.give = c.give := by cases c <;> rfl

theorem giveS_idem (z : Slot) : giveS (giveS z) = giveS z := by
  unfold giveS
  cases h : z.sh <;> simp [h, give_idem]

/-- What is given, slot by slot. -/
theorem give_env {e0 : Env} : ∀ {rt : List Nat} {t : Tr} {e : Env}, TrOk e0 t e → (∀ s ∈ rt, s < e.length ∧ t.at s = e.get s) →
    ∃ e', TrOk e0 (t.give rt) e' ∧ e'.length = e.length ∧ (t.give rt).d = t.d ∧ ∀ s, e'.get s = if s ∈ rt then giveS (e.get s) else e.get s
  | [], t, e, h, _ => ⟨e, h, rfl, rfl, fun s => by simp⟩
  | s :: r, t, e, h, hs => by
    obtain ⟨hl, hat⟩ := hs s (by simp)
    have hput := h.put (giveS (e.get s)) hl
    have hgive : t.give (s :: r) = (t.put s (giveS (e.get s))).give r := by
      simp only [Tr.give, hat]
      rfl
    obtain ⟨e', h1, h2, h3, h4⟩ := give_env (rt := r) hput (fun s' hs' => by
      obtain ⟨q1, q2⟩ := hs s' (by simp [hs'])
      refine ⟨by simpa using q1, ?_⟩
      by_cases g : s' = s
      · subst g; rw [at_put_self, get_set_self hl]
      · rw [at_put_ne t _ g, get_set_ne g]; exact q2)
    refine ⟨e', by rw [hgive]; exact h1, by simpa using h2, by rw [hgive]; exact h3, fun s' => ?_⟩
    rw [h4 s']
    by_cases g : s' = s
    · subst g
      rw [get_set_self hl]
      simp only [List.mem_cons, true_or, if_true]
      split
      · exact giveS_idem _
      · rfl
    · rw [get_set_ne g]
      simp only [List.mem_cons, g, false_or]

section back
variable {n : Nat} {e : Env} {tm : Array Value} {w w1 : World} {G : Gh}

/-- The caller's slots behind a call. -/
theorem back_inv (h : Inv n e tm w G) {H rt : List Nat} {gv : Bool} {e3 : Env} (he : e3.length = e.length) (hget : ∀ s, e3.get s = if gv = true ∧ s ∈ rt then giveS (e.get s) else e.get s)
    (hsize : w.heap.size ≤ w1.heap.size) (hrt : ∀ s ∈ rt, s < e.length) (hsame : ∀ b : Nat, w.heap[b]? ≠ none → w1.heap[b]? = w.heap[b]?) (hH : ∀ b ∈ H, w.heap[b]? = none ∧ b < w1.heap.size) :
    Inv n e3 tm w1 { G with ow := owOut G H rt gv e.length } ∧ Held n e.length w w1 G { G with ow := owOut G H rt gv e.length } := by
  have hthere : ∀ b s, G.ow b = some s → w.heap[b]? ≠ none := fun b s q => by
    have := h.lt b s q
    simp [this]
  have hnH : ∀ b s, G.ow b = some s → b ∉ H := fun b s q hb => hthere b s q (hH b hb).1
  have how : ∀ b s, G.ow b = some s → ¬ (gv = true ∧ s ∈ rt) → owOut G H rt gv e.length b = some s := by
    intro b s q hns
    simp only [owOut, if_neg (hnH b s q), q]
    rw [if_neg]
    simpa using hns
  have hnone : ∀ b, G.ow b = none → w.heap[b]? ≠ none → owOut G H rt gv e.length b = none := by
    intro b q hb
    have : b ∉ H := fun hm => hb (hH b hm).1
    simp [owOut, this, q]
  have hst : Still w w1 G.ow (owOut G H rt gv e.length) := fun b q hb => ⟨hsame b hb, hnone b q hb⟩
  have hTM : ∀ t, TM e e3 G { G with ow := owOut G H rt gv e.length } t := by
    intro t
    by_cases hg : gv = true ∧ t ∈ rt
    · have hq : e3.get t = giveS (e.get t) := by rw [hget, if_pos hg]
      refine ⟨?_, fun j rv sv d k l hc => ?_, fun bv hb => ?_⟩
      · rw [hq]; unfold giveS; cases (e.get t).sh <;> exact Nat.le_refl _
      · exfalso
        rw [hq] at hc
        have h1 := some_of_getD hc (by simp)
        unfold giveS at h1
        have : ∃ c ∈ (e.get t).cs, c.give = .own rv sv d k l := by
          revert h1
          cases (e.get t).sh <;> intro h1 <;> first
            | (simp at h1; done)
            | (simp only [List.getElem?_map] at h1
               cases hc0 : (e.get t).cs[j]? with
               | none => rw [hc0] at h1; simp at h1
               | some c0 =>
                 rw [hc0] at h1
                 simp only [Option.map_some, Option.some.injEq] at h1
                 exact ⟨c0, List.mem_of_getElem? hc0, h1⟩)
        obtain ⟨c, _, hc⟩ := this
        have := give_noOwn c
        rw [hc] at this
        simp [C.isOwn] at this
      · exfalso
        rw [hq] at hb
        unfold giveS at hb
        cases hs : (e.get t).sh <;> rw [hs] at hb <;> simp_all
    · exact TM.refl (by rw [hget, if_neg hg]) (fun _ => rfl) rfl
  refine ⟨⟨h.size, by rw [he]; exact h.elen, fun s => ?_, fun b s hb => ?_⟩, ⟨hst, fun s _ => ⟨rfl, fun _ => rfl⟩, fun b t q1 q2 q3 => ⟨hsame b q3, how b t q1 fun q => by have := hrt t q.2; omega⟩⟩⟩
  · by_cases hg : gv = true ∧ s ∈ rt
    · have hq : e3.get s = giveS (e.get s) := by rw [hget, if_pos hg]
      have hs := h.slot s
      by_cases hbox : ∃ bv, (e.get s).sh = .box bv
      · obtain ⟨bv, hbox⟩ := hbox
        have hq' : e3.get s = { e.get s with sh := .dead, cs := [] } := by rw [hq]; unfold giveS; rw [hbox]
        refine ⟨fun _ => ?_, fun bv hb => ?_, fun hd => ?_, fun hd => ?_, fun hd => ?_, ?_, ?_, fun _ => ?_⟩
        · rw [hq']; trivial
        · rw [hq'] at hb; simp at hb
        · rw [hq'] at hd; simp at hd
        · rw [hq'] at hd; simp at hd
        · rw [hq'] at hd; simp at hd
        · rw [hq']; simp [fpS]
        · rw [hq']; simp [fpS]
        · rw [hq']
      · have hq' : e3.get s = { e.get s with cs := (e.get s).cs.map C.give } := by
          rw [hq]; unfold giveS
          split
          · rename_i bv hsh; exact absurd ⟨bv, hsh⟩ hbox
          · rfl
        have hfp : ∀ G', fpS G' s (e3.get s) = [] := by
          intro G'
          have key : ∀ (cs : List C) (i : Nat), fpCells (G'.lt s) i (cs.map C.give) = [] := by
            intro cs
            induction cs with
            | nil => intro i; rfl
            | cons c cs ih => intro i; simp only [List.map_cons, fpCells, noOwn_ownB (give_noOwn c), ih]; rfl
          rw [hq']
          simp only [fpS, key]
          cases hsh : (e.get s).sh <;> first | rfl | (rename_i bv; exact absurd ⟨bv, hsh⟩ hbox)
        have hsh : (e3.get s).sh = (e.get s).sh := by rw [hq']
        refine ⟨fun hn => ?_, fun bv hb => ?_, fun hd => ?_, fun hd j c v hc hv => ?_, fun hd j rv sv d k l hc => ?_, by rw [hfp]; simp, by rw [hfp]; simp, fun hd => ?_⟩
        · rw [hsh]; exact hs.form hn
        · rw [hsh] at hb; exact absurd ⟨bv, hb⟩ hbox
        · rw [hq']; simp only [List.length_map]; exact hs.len (by rw [← hsh]; exact hd)
        · rw [hq'] at hc
          simp only [List.getElem?_map] at hc
          cases hc0 : (e.get s).cs[j]? with
          | none => rw [hc0] at hc; simp at hc
          | some c0 =>
            rw [hc0] at hc
            simp only [Option.map_some, Option.some.injEq] at hc
            subst hc
            have hok := hs.cells (by rw [← hsh]; exact hd) j c0 v hc0 hv
            cases hown : c0.isOwn with
            | false =>
              have : c0.give = c0 := by cases c0 <;> first | rfl | simp [C.isOwn] at hown
              rw [this]
              exact hok.frame hTM hst (fun b hb => by simp [noOwn_ownB hown] at hb)
            | true =>
              cases c0 with
              | own rv sv d k l =>
                simp only [C.give]
                obtain ⟨k1, k2⟩ := hok
                obtain ⟨o1, o2, o3⟩ := h.ownBlocks hc0
                have hall : ∀ b ∈ fp (.list k) (G.lt s j), G.ow b = some s ∨ G.ow b = none := by
                  intro b hb
                  cases d with
                  | true => exact .inl (o1 b hb)
                  | false =>
                    rw [fp_list, List.mem_append] at hb
                    rcases hb with q | q
                    · exact .inl (o1 b q)
                    · exact .inr (o2 rfl b q)
                have hin : ∀ b ∈ fp (.list k) (G.lt s j), w.heap[b]? ≠ none := k1.there
                refine ⟨(k1.same fun b hb => hsame b (hin b hb)).rep, fun b hb => ?_⟩
                rcases hall b hb with q | q
                · simp only [owOut, if_neg (hnH b s q), q]
                  rw [if_pos]
                  simpa using hg
                · exact hnone b q (hin b hb)
              | _ => simp [C.isOwn] at hown
        · rw [hq'] at hc
          simp only [List.getElem?_map] at hc
          cases hc0 : (e.get s).cs[j]? with
          | none => rw [hc0] at hc; simp at hc
          | some c0 =>
            rw [hc0] at hc
            simp only [Option.map_some, Option.some.injEq] at hc
            have := give_noOwn c0
            rw [hc] at this
            simp [C.isOwn] at this
        · rw [hsh] at hd
          rw [hq', hs.dead hd]; rfl
    · have hq : e3.get s = e.get s := by rw [hget, if_neg hg]
      exact (h.slot s).frame hq (fun _ => rfl) rfl (fun _ => rfl) rfl hTM hst (fun b hb => by
        have hb' := (h.slot s).own b hb
        exact ⟨hsame b (hthere b s hb'), how b s hb' hg⟩)
  · simp only [owOut] at hb
    split at hb
    · rename_i hm; exact (hH b hm).2
    · split at hb
      · simp at hb
      · rename_i s' hs'
        exact Nat.lt_of_lt_of_le (h.lt b s' hs') hsize

/-- A new value, laid. -/
theorem lay_res {e0 e : Env} {a : Act} {w : World} {G0 G : Gh} {t : Tr} (h : Inv n e a.tmps w G) (ht : TrOk e0 t e) {w0 : World} (hst : Held n e0.length w0 w G0 G) {v : Val} {vs : List Value} {Ls : Nat → LT} {H : List Nat}
    (hH : ∀ b ∈ H, Loose e G b ∧ G.ow b ≠ none ∧ b < w.heap.size ∧ (w0.heap[b]? = none)) (hlen : vs.length = v.2.length) (hcell : ∀ (j : Nat) c u, v.2[j]? = some c → vs[j]? = some u → NewOk e w G w H c u (Ls j))
    (hfp : fpCells Ls 0 v.2 = H) (hnd : H.Nodup) (halive : v.1 ≠ .dead) (hnobox : ∀ bv, v.1 ≠ .box bv) (hsize : w0.heap.size ≤ w.heap.size) (hn : ∀ b, G0.ow b = none → w0.heap[b]? ≠ none → b ∉ H) (hd : ∀ d, t.d = some d → d < n) (henv : SameEnv w0 w) :
    ∃ G', Post n (e0.puts (t.lay t.d v).ws) a w0 G0 (a.put t.d (form v.1 vs)) w G' := by
  cases hdd : t.d with
  | none =>
    simp only [Tr.lay, Act.put]
    rw [ht.puts]
    exact ⟨G, h, by rw [ht.length]; exact hst, hsize, rfl, henv⟩
  | some d =>
    have hdn := hd d hdd
    have hat := ht.dst d hdd
    have hlen' : d < e.length := Nat.lt_of_lt_of_le hdn h.elen
    simp only [Tr.lay]
    rw [(ht.put ((t.at d).lay v.1 v.2) hlen').puts, hat]
    have hnoB : boxB v.1 0 = [] := by
      cases hs : v.1 <;> simp_all [boxB]
    have := h.lay (w' := w) d v.1 v.2 vs Ls 0 H (Nat.le_refl _) (fun b _ _ => rfl) (fun b hb => ⟨(hH b hb).1, .inl (hH b hb).2.1, (hH b hb).2.2.1⟩) hlen hcell
      (by rw [hnoB, hfp]; simpa using hnd) (by rw [hnoB, hfp]; simp) (fun q => absurd q halive) (fun bv q => absurd q (hnobox bv)) (a.put (some d) (form v.1 vs)).tmps (by rw [put_size]; exact h.size)
      (fun t' ht' hn => by rw [put_tmps]; simp [Ne.symm ht'])
      (fun hn => by
        have hu : (a.put (some d) (form v.1 vs)).tmps[d]? = some (form v.1 vs) := by
          rw [put_tmps]
          simp [h.size, hdn]
        revert hu halive hnobox
        cases v.1 <;> simp [FormIs])
    refine ⟨_, this, ⟨fun b q1 q2 => ?_, fun s hs => ?_, fun b t' q1 q2 q3 => ?_⟩, hsize, put_defers _ _ _, henv⟩
    · have h1 := hst.still b q1 q2
      refine ⟨h1.1, ?_⟩
      simp only [Gh.lay]
      rw [if_neg (hn b q1 q2)]
      exact h1.2
    · rw [show (G.lay d vs Ls 0 H).vs s = G.vs s from upd_ne _ _ (by omega), show (G.lay d vs Ls 0 H).lt s = G.lt s from upd_ne _ _ (by omega)]
      exact hst.vs s hs
    · have hl : (e.set d ((e.get d).lay v.1 v.2)).length = e0.length := by rw [List.length_set, ht.length]
      have h1 := hst.out b t' q1 (by rw [← hl]; exact q2) q3
      refine ⟨h1.1, ?_⟩
      simp only [Gh.lay]
      rw [if_neg fun hb => q3 (hH b hb).2.2.2]
      exact h1.2

end back

/-- A function of the book. -/
theorem semD_ok {f : Nat} {md : List Bool} {vals : List Val} {P : Program} : ∀ {bk : Book} {r : Val × List (List C)}, BookOk P bk → semD f md vals some bk = some r →
    ∃ t, FnOk P f t ∧ t.md = md ∧ ∃ d b, decA t.n t.md 0 t.args vals = some d ∧ t.T d = some b ∧ retOf t.n t.results t.md (encA t.args d) (t.out.enc b) = some r
  | [], r, _, h => by simp [semD] at h
  | (g, t) :: bk, r, hb, h => by
    simp only [semD] at h
    split at h
    · rename_i d h1 h2 h3
      have hg := Nat.eq_of_beq_eq_true h1
      subst hg
      cases hT : t.T d with
      | none => rw [hT] at h; simp at h
      | some b =>
        rw [hT] at h
        simp only [Option.bind_some] at h
        have h' : retOf t.n t.results t.md (encA t.args d) (t.out.enc b) = some r := by
          cases hq : retOf t.n t.results t.md (encA t.args d) (t.out.enc b) with
          | none => rw [hq] at h; simp at h
          | some r' => rw [hq] at h; simpa using h
        exact ⟨t, hb.1, by simpa using h2, d, b, h3, hT, h'⟩
    · exact semD_ok hb.2 h

end Go.Mach
