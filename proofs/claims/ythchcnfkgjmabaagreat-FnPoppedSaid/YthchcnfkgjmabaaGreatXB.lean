/- The machine, parts Me Mf Mg Mh Mi. No condition: definitions and lemmas. -/
import Derived.Test.YthchcnfkgjmabaaGreatXA
/- The machine, part e: how slots may be turned. No condition: lemmas. -/
namespace Go.Mach
set_option linter.unusedVariables false

theorem get_set (e : Env) (s t : Nat) (x : Slot) : Env.get (e.set s x) t = if t = s ∧ s < e.length then x else e.get t := by
  simp only [Env.get, List.getD_eq_getElem?_getD, List.getElem?_set]
  by_cases h : s = t
  · subst h
    by_cases g : s < e.length
    · simp [g]
    · simp [g]
  · have : ¬ t = s := fun q => h q.symm
    simp [h, this]

theorem get_set_ne {e : Env} {s t : Nat} {x : Slot} (h : t ≠ s) : Env.get (e.set s x) t = e.get t := by
  rw [get_set, if_neg (fun g => h g.1)]

theorem get_set_self {e : Env} {s : Nat} {x : Slot} (h : s < e.length) : Env.get (e.set s x) s = x := by
  rw [get_set, if_pos ⟨rfl, h⟩]

theorem get_out {e : Env} {s : Nat} (h : ¬ s < e.length) : e.get s = {} := by
  simp [Env.get, List.getElem?_eq_none (Nat.le_of_not_lt h)]

theorem set_out {e : Env} {s : Nat} {x : Slot} (h : ¬ s < e.length) : e.set s x = e := by
  apply List.ext_getElem?
  intro i
  rw [List.getElem?_set]
  by_cases g : s = i
  · subst g; simp [h]
  · simp [g]

theorem fpCells_mem {lt : Nat → LT} {b : Nat} : ∀ {cs : List C} {i j : Nat} {c : C}, cs[j]? = some c → b ∈ ownB c (lt (i + j)) → b ∈ fpCells lt i cs
  | [], i, j, c, h, _ => by simp at h
  | a :: cs, i, 0, c, h, hb => by
    simp at h
    subst h
    simp only [fpCells, List.mem_append]
    exact .inl (by simpa using hb)
  | a :: cs, i, j + 1, c, h, hb => by
    simp at h
    simp only [fpCells, List.mem_append]
    exact .inr (fpCells_mem (i := i + 1) h (by rw [show i + 1 + j = i + (j + 1) by omega]; exact hb))

theorem fpCells_of {lt : Nat → LT} {b : Nat} : ∀ {cs : List C} {i : Nat}, b ∈ fpCells lt i cs → ∃ j c, cs[j]? = some c ∧ b ∈ ownB c (lt (i + j))
  | [], i, h => by simp [fpCells] at h
  | a :: cs, i, h => by
    simp only [fpCells, List.mem_append] at h
    rcases h with h | h
    · exact ⟨0, a, rfl, by simpa using h⟩
    · obtain ⟨j, c, h1, h2⟩ := fpCells_of h
      exact ⟨j + 1, c, by simpa using h1, by rw [show i + (j + 1) = i + 1 + j by omega]; exact h2⟩

theorem fpCells_congr {lt lt' : Nat → LT} : ∀ {cs cs' : List C} {i : Nat}, cs'.length = cs.length → (∀ (j : Nat) c c', cs[j]? = some c → cs'[j]? = some c' → ownB c' (lt' (i + j)) = ownB c (lt (i + j))) →
    fpCells lt' i cs' = fpCells lt i cs
  | [], [], _, _, _ => rfl
  | [], _ :: _, _, h, _ => by simp at h
  | _ :: _, [], _, h, _ => by simp at h
  | a :: cs, a' :: cs', i, hl, h => by
    simp only [fpCells]
    have h0 := h 0 a a' rfl rfl
    simp only [Nat.add_zero] at h0
    rw [h0, fpCells_congr (i := i + 1) (by simpa using hl) (fun j c c' hc hc' => by
      have := h (j + 1) c c' (by simpa using hc) (by simpa using hc')
      rw [show i + 1 + j = i + (j + 1) by omega]
      exact this)]

/-- One cell taken out of the sum. -/
theorem fpCells_perm {lt : Nat → LT} : ∀ {cs : List C} {i j : Nat} {c : C}, cs[j]? = some c →
    ∃ rest, (fpCells lt i cs).Perm (ownB c (lt (i + j)) ++ rest) ∧ ∀ (lt' : Nat → LT) (c' : C), (∀ m, m ≠ i + j → lt' m = lt m) → (fpCells lt' i (cs.set j c')).Perm (ownB c' (lt' (i + j)) ++ rest)
  | [], i, j, c, h => by simp at h
  | a :: cs, i, 0, c, h => by
    simp at h
    subst h
    refine ⟨fpCells lt (i + 1) cs, by simp [fpCells], fun lt' c' hl => ?_⟩
    simp only [List.set_cons_zero, fpCells, Nat.add_zero]
    rw [fpCells_congr (lt := lt) (lt' := lt') (cs := cs) (cs' := cs) rfl (fun j c c' hc hc' => by
      rw [hc] at hc'; simp at hc'; subst hc'; rw [hl _ (by omega)])]
  | a :: cs, i, j + 1, c, h => by
    simp at h
    obtain ⟨rest, p1, p2⟩ := fpCells_perm (lt := lt) (i := i + 1) h
    have e : i + 1 + j = i + (j + 1) := by omega
    rw [e] at p1 p2
    refine ⟨ownB a (lt i) ++ rest, ?_, fun lt' c' hl => ?_⟩
    · simp only [fpCells]
      refine (p1.append_left _).trans ?_
      rw [← List.append_assoc, ← List.append_assoc]
      exact List.perm_append_comm.append_right _
    · simp only [List.set_cons_succ, fpCells]
      rw [hl i (by omega)]
      refine ((p2 lt' c' hl).append_left _).trans ?_
      rw [← List.append_assoc, ← List.append_assoc]
      exact List.perm_append_comm.append_right _

theorem SlotOk.nothing {n : Nat} {e : Env} {tm : Array Value} {w : World} {G : Gh} {s : Nat} (h : e.get s = {}) : SlotOk n e tm w G s := by
  refine ⟨?_, ?_, ?_, ?_, ?_, ?_, ?_, ?_⟩ <;> rw [h]
  · intro _; trivial
  · intro bv hb; cases hb
  · intro hh; exact absurd rfl hh
  · intro hh; exact absurd rfl hh
  · intro hh; exact absurd rfl hh
  · simp [fpS]
  · simp [fpS]
  · intro _; rfl

/-- One slot turned. -/
theorem Inv.turn {n : Nat} {e : Env} {tm tm' : Array Value} {w w' : World} {G G' : Gh} (h : Inv n e tm w G) (s : Nat) (x : Slot) (hsz : tm'.size = n)
    (hG : ∀ t, t ≠ s → G'.vs t = G.vs t ∧ (∀ j, G'.lt t j = G.lt t j) ∧ G'.bk t = G.bk t) (htm : ∀ t, t ≠ s → t < n → tm'[t]? = tm[t]?)
    (hTM : s < e.length → TM e (e.set s x) G G' s) (hst : Still w w' G.ow G'.ow)
    (hown : ∀ t, t ≠ s → ∀ b ∈ fpS G t (e.get t), w'.heap[b]? = w.heap[b]? ∧ G'.ow b = some t)
    (hself : s < e.length → SlotOk n (e.set s x) tm' w' G' s) (hlt : ∀ b t, G'.ow b = some t → b < w'.heap.size) : Inv n (e.set s x) tm' w' G' := by
  by_cases hs : s < e.length
  · have ht : ∀ t, TM e (e.set s x) G G' t := fun t => by
      by_cases g : t = s
      · subst g; exact hTM hs
      · exact TM.refl (get_set_ne g) (hG t g).2.1 (hG t g).2.2
    refine ⟨hsz, by simpa using h.elen, fun t => ?_, hlt⟩
    by_cases g : t = s
    · subst g; exact hself hs
    · obtain ⟨g1, g2, g3⟩ := hG t g
      exact (h.slot t).frame (get_set_ne g) (htm t g) g1 g2 g3 ht hst (hown t g)
  · rw [set_out hs]
    have ht : ∀ t, TM e e G G' t := fun t => by
      by_cases g : t = s
      · subst g
        have := get_out hs
        refine TM.fresh (Nat.le_refl _) ?_ ?_
        · intro j rv sv d k l hh; rw [this] at hh; simp at hh
        · intro bv hh; rw [this] at hh; cases hh
      · exact TM.refl rfl (hG t g).2.1 (hG t g).2.2
    refine ⟨hsz, h.elen, fun t => ?_, hlt⟩
    by_cases g : t = s
    · subst g; exact SlotOk.nothing (get_out hs)
    · obtain ⟨g1, g2, g3⟩ := hG t g
      exact (h.slot t).frame rfl (htm t g) g1 g2 g3 ht hst (hown t g)

/-- Nobody's block, though somebody's by the book. -/
def Loose (e : Env) (G : Gh) (b : Nat) : Prop := ∀ t, b ∉ fpS G t (e.get t)

theorem still_refl {w : World} {ow : Nat → Option Nat} : Still w w ow ow := fun b h1 h2 => ⟨rfl, h1⟩

theorem getD_set_ne {cs : List C} {i j : Nat} {c d : C} (h : i ≠ j) : (cs.set j c).getD i d = cs.getD i d := by
  simp [List.getD_eq_getElem?_getD, Ne.symm h]

theorem getD_some {cs : List C} {j : Nat} {c : C} (h : cs[j]? = some c) (d : C) : cs.getD j d = c := by
  simp [List.getD_eq_getElem?_getD, h]

theorem some_of_getD {cs : List C} {j : Nat} {c : C} (h : cs.getD j .dead = c) (hc : c ≠ .dead) : cs[j]? = some c := by
  rw [List.getD_eq_getElem?_getD] at h
  cases g : cs[j]? with
  | none => rw [g] at h; exact absurd h.symm hc
  | some y => rw [g] at h; simp at h; rw [h]

/-- A cell given up. -/
theorem Inv.kill {n : Nat} {e : Env} {tm : Array Value} {w : World} {G : Gh} (h : Inv n e tm w G) (s j : Nat) : Inv n (e.set s ((e.get s).kill j)) tm w G := by
  have hk : ∀ i c, ((e.get s).kill j).cs[i]? = some c → c = .dead ∨ ((e.get s).cs[i]? = some c ∧ i ≠ j) := by
    intro i c hc
    simp only [Slot.kill, List.getElem?_set] at hc
    by_cases g : j = i
    · subst g
      simp at hc
      exact .inl hc.2.symm
    · rw [if_neg g] at hc
      exact .inr ⟨hc, fun q => g q.symm⟩
  have hs := h.slot s
  have hfp : (fpCells (G.lt s) 0 ((e.get s).kill j).cs).Sublist (fpCells (G.lt s) 0 (e.get s).cs) := by
    have key : ∀ (cs : List C) (i j : Nat), (fpCells (G.lt s) i (cs.set j .dead)).Sublist (fpCells (G.lt s) i cs) := by
      intro cs
      induction cs with
      | nil => intro i j; simp [fpCells]
      | cons a cs ih =>
        intro i j
        cases j with
        | zero => simp only [List.set_cons_zero, fpCells, ownB, List.nil_append]; exact List.sublist_append_right _ _
        | succ j => simp only [List.set_cons_succ, fpCells]; exact (ih (i + 1) j).append_left _
    exact key _ 0 j
  have hfpS : (fpS G s ((e.get s).kill j)).Sublist (fpS G s (e.get s)) := by
    simp only [fpS, Slot.kill] at hfp ⊢
    refine List.Sublist.append (List.Sublist.refl _) ?_
    cases (e.get s).sh <;> first | exact List.Sublist.refl _ | exact hfp
  refine h.turn s _ h.size (fun t _ => ⟨rfl, fun _ => rfl, rfl⟩) (fun t _ _ => rfl) (fun hlen => ?_) still_refl (fun t _ b hb => ⟨rfl, (h.slot t).own b hb⟩) (fun hlen => ?_) h.lt
  · refine ⟨by rw [get_set_self hlen]; exact Nat.le_refl _, ?_, ?_⟩
    · intro i rv sv d k l h1 h2
      rw [get_set_self hlen] at h1
      have h3 := hk i _ (some_of_getD h1 (by simp))
      rcases h3 with h3 | ⟨h3, _⟩
      · cases h3
      · exact ⟨sv, d, l, getD_some h3 _, fun _ _ _ q => q, fun hd _ _ _ _ ha => ⟨ha, hd, fun _ _ _ q => q⟩⟩
    · intro bv h1 _
      rw [get_set_self hlen] at h1
      exact ⟨h1, rfl⟩
  · have hT : ∀ t, TM e (e.set s ((e.get s).kill j)) G G t := fun t => by
      by_cases g : t = s
      · subst g
        refine ⟨by rw [get_set_self hlen]; exact Nat.le_refl _, ?_, ?_⟩
        · intro i rv sv d k l h1 h2
          rw [get_set_self hlen] at h1
          have h3 := hk i _ (some_of_getD h1 (by simp))
          rcases h3 with h3 | ⟨h3, _⟩
          · cases h3
          · exact ⟨sv, d, l, getD_some h3 _, fun _ _ _ q => q, fun hd _ _ _ _ ha => ⟨ha, hd, fun _ _ _ q => q⟩⟩
        · intro bv h1 _
          rw [get_set_self hlen] at h1
          exact ⟨h1, rfl⟩
      · exact TM.refl (get_set_ne g) (fun _ => rfl) rfl
    refine ⟨?_, ?_, ?_, ?_, ?_, ?_, ?_, ?_⟩ <;> rw [get_set_self hlen]
    · exact hs.form
    · exact hs.box
    · intro hh
      have := hs.len hh
      simpa [Slot.kill] using this
    · intro hh i c v hc hv
      rcases hk i c hc with rfl | ⟨hc, _⟩
      · trivial
      · exact (hs.cells hh i c v hc hv).frame hT still_refl fun b _ => rfl
    · intro hh i rv sv d k l hc
      rcases hk i _ hc with hc | ⟨hc, _⟩
      · cases hc
      · exact hs.vers hh i rv sv d k l hc
    · exact hs.nodup.sublist hfpS
    · exact fun b hb => hs.own b (hfpS.subset hb)
    · intro hh
      simp only [Slot.kill] at hh ⊢
      simp [hs.dead hh]

/-- What a cell that was given up owned is loose. -/
theorem Inv.loose {n : Nat} {e : Env} {tm : Array Value} {w : World} {G : Gh} (h : Inv n e tm w G) {s j : Nat} {c : C} (hc : (e.get s).cs[j]? = some c) {b : Nat} (hb : b ∈ ownB c (G.lt s j)) :
    G.ow b = some s ∧ Loose (e.set s ((e.get s).kill j)) G b := by
  have hs := h.slot s
  have hsh : (e.get s).sh ≠ .dead := fun q => by rw [hs.dead q] at hc; simp at hc
  have hlen : s < e.length := by
    rcases Nat.lt_or_ge s e.length with g | g
    · exact g
    · rw [get_out (by omega)] at hc; simp at hc
  have hmem : b ∈ fpS G s (e.get s) := by
    simp only [fpS, List.mem_append]
    right
    have := fpCells_mem (lt := G.lt s) (i := 0) hc (by simpa using hb)
    cases hh : (e.get s).sh <;> simp_all
  have how := hs.own b hmem
  refine ⟨how, fun t ht => ?_⟩
  by_cases g : t = s
  · subst g
    rw [get_set_self hlen] at ht
    obtain ⟨rest, p1, p2⟩ := fpCells_perm (lt := G.lt t) (i := 0) hc
    have p2 := p2 (G.lt t) .dead (fun _ _ => rfl)
    have hnd := hs.nodup
    simp only [fpS, List.mem_append] at ht hnd
    have key : ((match (e.get t).sh with | .box _ => [G.bk t] | _ => []) ++ fpCells (G.lt t) 0 (e.get t).cs).Nodup := by
      cases hh : (e.get t).sh <;> simp_all
    have hin : b ∈ (match (e.get t).sh with | .box _ => [G.bk t] | _ => []) ++ rest := by
      rcases ht with ht | ht
      · simp only [List.mem_append]; exact .inl ht
      · have : b ∈ fpCells (G.lt t) 0 ((e.get t).cs.set j .dead) := by
          simp only [Slot.kill] at ht
          cases hh : (e.get t).sh <;> simp_all
        have := p2.mem_iff.1 this
        simp only [ownB, List.nil_append] at this
        simp only [List.mem_append]; exact .inr this
    have hp : ((match (e.get t).sh with | .box _ => [G.bk t] | _ => []) ++ fpCells (G.lt t) 0 (e.get t).cs).Perm (ownB c (G.lt t (0 + j)) ++ ((match (e.get t).sh with | .box _ => [G.bk t] | _ => []) ++ rest)) := by
      refine (p1.append_left _).trans ?_
      rw [← List.append_assoc, ← List.append_assoc]
      exact List.perm_append_comm.append_right _
    have hnd2 := hp.nodup_iff.1 key
    rw [List.nodup_append] at hnd2
    exact hnd2.2.2 b (by simpa using hb) b hin rfl
  · rw [get_set_ne g] at ht
    have := (h.slot t).own b ht
    rw [how] at this
    simp at this
    exact g this.symm

/-- Where a new value is laid: its cells, but for what they own. -/
def layC (r : Nat) : C → C
  | .own _ _ d k l => .own r 0 d k l
  | c => c

theorem lay_cs (x : Slot) (sh : Sh) (cs : List C) : (x.lay sh cs).cs = cs.map (layC x.cnt) := by
  simp only [Slot.lay]
  congr 1

theorem ownB_lay (r : Nat) (c : C) (L : LT) : ownB (layC r c) L = ownB c L := by
  cases c with
  | own _ _ d k l => cases d <;> rfl
  | _ => rfl

def upd {α : Type} (f : Nat → α) (s : Nat) (a : α) : Nat → α := fun t => if t = s then a else f t

theorem upd_self {α : Type} (f : Nat → α) (s : Nat) (a : α) : upd f s a s = a := by simp [upd]
theorem upd_ne {α : Type} (f : Nat → α) {s t : Nat} (a : α) (h : t ≠ s) : upd f s a t = f t := by simp [upd, h]

/-- The ghost behind a new value in slot d, which takes the blocks H over. -/
def Gh.lay (G : Gh) (d : Nat) (vs : List Value) (lt : Nat → LT) (bk : Nat) (H : List Nat) : Gh :=
  { vs := upd G.vs d vs, lt := upd G.lt d lt, bk := upd G.bk d bk, ow := fun b => if b ∈ H then some d else G.ow b }

/-- A cell of a new value: what it owns lies in H. -/
def NewOk (e : Env) (w : World) (G : Gh) (w' : World) (H : List Nat) (c : C) (v : Value) (L : LT) : Prop :=
  match c with
  | .own _ _ d k l => RepL true w' k.size (Rep d w' k) l L v ∧ (d = false → ∀ b ∈ inner k L, G.ow b = none ∧ b ∉ H)
  | c => CellOk e w G c v L

def boxB (sh : Sh) (bk : Nat) : List Nat := match sh with
  | .box _ => [bk]
  | _ => []

theorem Inv.lay {n : Nat} {e : Env} {tm : Array Value} {w w' : World} {G : Gh} (h : Inv n e tm w G) (d : Nat) (sh : Sh) (cs : List C) (vs : List Value) (lt : Nat → LT) (bk : Nat) (H : List Nat)
    (hsize : w.heap.size ≤ w'.heap.size) (hsame : ∀ b, b ∉ H → w.heap[b]? ≠ none → w'.heap[b]? = w.heap[b]?)
    (hH : ∀ b ∈ H, Loose e G b ∧ (G.ow b ≠ none ∨ w.heap[b]? = none) ∧ b < w'.heap.size)
    (hlen : vs.length = cs.length) (hcell : ∀ (j : Nat) c v, cs[j]? = some c → vs[j]? = some v → NewOk e w G w' H c v (lt j))
    (hnd : (boxB sh bk ++ fpCells lt 0 cs).Nodup) (hsub : ∀ b ∈ boxB sh bk ++ fpCells lt 0 cs, b ∈ H)
    (hdead : sh = .dead → cs = [])
    (hbox : ∀ bv, sh = .box bv → ∃ ty, w'.heap[bk]? = some (.cells vs.toArray ty (0, 0)))
    (tm' : Array Value) (htsz : tm'.size = n) (htm : ∀ t, t ≠ d → t < n → tm'[t]? = tm[t]?)
    (hform : d < n → FormIs tm' d sh vs bk) :
    Inv n (e.set d ((e.get d).lay sh cs)) tm' w' (G.lay d vs lt bk H) := by
  have hst : Still w w' G.ow (G.lay d vs lt bk H).ow := fun b h1 h2 => by
    have : b ∉ H := fun hb => by
      rcases (hH b hb).2.1 with q | q
      · exact q h1
      · exact h2 q
    exact ⟨hsame b this h2, by simp [Gh.lay, this, h1]⟩
  have hTM : d < e.length → TM e (e.set d ((e.get d).lay sh cs)) G (G.lay d vs lt bk H) d := fun hl => by
    refine TM.fresh (by rw [get_set_self hl]; simp [Slot.lay]) ?_ ?_
    · intro j rv sv d' k l hh
      rw [get_set_self hl, lay_cs] at hh
      have := some_of_getD hh (by simp)
      rw [List.getElem?_map] at this
      cases g : cs[j]? with
      | none => rw [g] at this; simp at this
      | some c =>
        rw [g] at this
        simp only [Option.map_some, Option.some.injEq] at this
        cases c with
        | own _ _ _ _ _ => simp only [layC, C.own.injEq] at this; omega
        | _ => simp [layC] at this
    · intro bv hh
      rw [get_set_self hl] at hh
      cases sh <;> simp [Slot.lay] at hh
      omega
  have hT : d < e.length → ∀ t, TM e (e.set d ((e.get d).lay sh cs)) G (G.lay d vs lt bk H) t := fun hl t => by
    by_cases g : t = d
    · subst g; exact hTM hl
    · exact TM.refl (get_set_ne g) (fun j => by simp [Gh.lay, upd_ne _ _ g]) (by simp [Gh.lay, upd_ne _ _ g])
  refine h.turn d _ htsz (fun t g => ⟨by simp [Gh.lay, upd_ne _ _ g], fun j => by simp [Gh.lay, upd_ne _ _ g], by simp [Gh.lay, upd_ne _ _ g]⟩) htm hTM hst ?_ ?_ ?_
  · intro t g b hb
    have hbH : b ∉ H := fun q => (hH b q).1 t hb
    have how := (h.slot t).own b hb
    refine ⟨hsame b hbH ?_, by simp [Gh.lay, hbH, how]⟩
    have := h.lt b t how
    simp [Array.getElem?_eq_getElem this]
  · intro hl
    have hT := hT hl
    have hfp : fpCells lt 0 (cs.map (layC (e.get d).cnt)) = fpCells lt 0 cs := fpCells_congr (by simp) fun j c c' hc hc' => by
      rw [List.getElem?_map, hc] at hc'
      simp at hc'
      subst hc'
      exact ownB_lay _ _ _
    have hfpS : fpS (G.lay d vs lt bk H) d ((e.get d).lay sh cs) = boxB sh bk ++ fpCells lt 0 cs := by
      simp only [fpS, lay_cs]
      cases sh <;> simp_all [Slot.lay, Gh.lay, upd_self, boxB, fpCells]
    refine ⟨?_, ?_, ?_, ?_, ?_, ?_, ?_, ?_⟩ <;> rw [get_set_self hl]
    · intro hn
      have := hform hn
      cases sh <;> simp_all [FormIs, Slot.lay, Gh.lay, upd_self]
    · intro bv hb
      cases sh with
      | box b0 =>
        simp only [Slot.lay, Sh.box.injEq] at hb
        subst hb
        obtain ⟨ty, hty⟩ := hbox b0 rfl
        exact ⟨by simp [Slot.lay], ty, by simpa [Gh.lay, upd_self] using hty⟩
      | _ => simp [Slot.lay] at hb
    · intro _
      simp [lay_cs, Gh.lay, upd_self, hlen]
    · intro _ j c v hc hv
      rw [lay_cs, List.getElem?_map] at hc
      simp only [Gh.lay, upd_self] at hv
      cases g : cs[j]? with
      | none => rw [g] at hc; simp at hc
      | some c0 =>
        rw [g] at hc
        simp only [Option.map_some, Option.some.injEq] at hc
        have := hcell j c0 v g hv
        simp only [Gh.lay, upd_self]
        cases c0 with
        | own r1 r2 d' k l =>
          simp only [layC] at hc
          subst hc
          obtain ⟨a1, a2⟩ := this
          refine ⟨a1, fun hd b hb => ?_⟩
          have := a2 hd b hb
          simp [this.2, this.1]
        | dead => subst hc; trivial
        | nil => subst hc; exact (CellOk.frame (c := .nil) (v := v) (L := lt j) this hT hst fun b hb => by simp [ownB] at hb)
        | dat k x => subst hc; exact (CellOk.frame (c := .dat k x) this hT hst fun b hb => by simp [ownB] at hb)
        | ref _ _ _ _ _ _ _ _ => subst hc; exact (CellOk.frame (c := .ref ..) (v := v) (L := lt j) this hT hst fun b hb => by simp [ownB] at hb)
        | bptr _ _ _ => subst hc; exact (CellOk.frame (c := .bptr ..) (v := v) (L := lt j) this hT hst fun b hb => by simp [ownB] at hb)
        | aptr _ _ _ _ _ _ _ _ => subst hc; exact (CellOk.frame (c := .aptr ..) (v := v) (L := lt j) this hT hst fun b hb => by simp [ownB] at hb)
        | pim _ _ => subst hc; exact (CellOk.frame (c := .pim ..) (v := v) (L := lt j) this hT hst fun b hb => by simp [ownB] at hb)
        | fn _ _ => subst hc; exact (CellOk.frame (c := .fn ..) (v := v) (L := lt j) this hT hst fun b hb => by simp [ownB] at hb)
    · intro _ j rv sv d' k l hc
      rw [lay_cs, List.getElem?_map] at hc
      cases g : cs[j]? with
      | none => rw [g] at hc; simp at hc
      | some c0 =>
        rw [g] at hc
        simp only [Option.map_some, Option.some.injEq] at hc
        cases c0 with
        | own _ _ _ _ _ => simp only [layC, C.own.injEq] at hc; simp [Slot.lay]; omega
        | _ => simp [layC] at hc
    · rw [hfpS]; exact hnd
    · rw [hfpS]; intro b hb; simp [Gh.lay, hsub b hb]
    · intro hh
      cases sh <;> simp_all [Slot.lay]
  · intro b t hb
    simp only [Gh.lay] at hb
    by_cases q : b ∈ H
    · exact (hH b q).2.2
    · rw [if_neg q] at hb
      exact Nat.lt_of_lt_of_le (h.lt b t hb) hsize

/-- The ghost behind an owned list that was turned where it lies: blocks H come in, blocks F are frozen. -/
def Gh.turn (G : Gh) (s j : Nat) (L : LT) (H F : List Nat) : Gh :=
  { vs := G.vs, lt := upd G.lt s (upd (G.lt s) j L), bk := G.bk, ow := fun b => if b ∈ F then none else if b ∈ H then some s else G.ow b }

/-- An owned list, turned where it lies. -/
theorem Inv.own {n : Nat} {e : Env} {tm : Array Value} {w w' : World} {G : Gh} (h : Inv n e tm w G) {s j rv sv : Nat} {d : Bool} {k : K} {l : List k.T} {v : Value}
    (hc : (e.get s).cs[j]? = some (.own rv sv d k l)) (hv : (G.vs s)[j]? = some v) (sv' cnt' : Nat) (d' : Bool) (l' : List k.T) (L : LT) (H F : List Nat)
    (hsize : w.heap.size ≤ w'.heap.size) (hsame : ∀ b, b ∉ ownB (.own rv sv d k l) (G.lt s j) → b ∉ H → w.heap[b]? ≠ none → w'.heap[b]? = w.heap[b]?)
    (hH : ∀ b ∈ H, Loose e G b ∧ (G.ow b ≠ none ∨ w.heap[b]? = none) ∧ b < w'.heap.size)
    (hrep : RepL true w' k.size (Rep d' w' k) l' L v)
    (hsub : ∀ b ∈ ownB (.own rv sv' d' k l') L, b ∈ ownB (.own rv sv d k l) (G.lt s j) ∨ b ∈ H) (hnd : (ownB (.own rv sv' d' k l') L).Nodup)
    (hF : ∀ b ∈ F, (b ∈ ownB (.own rv sv d k l) (G.lt s j) ∨ b ∈ H) ∧ b ∉ ownB (.own rv sv' d' k l') L)
    (hin : d' = false → ∀ b ∈ inner k L, (G.ow b = none ∧ b ∉ H) ∨ b ∈ F)
    (hlen : l'.length = l.length) (hhd : hdOf L = hdOf (G.lt s j))
    (hvers : (sv' = sv ∧ cnt' = (e.get s).cnt ∧ (d' = true → d = true ∧ ∀ p k1 n hd, Loc k l (G.lt s j) p k1 n hd → Loc k l' L p k1 n hd)) ∨
      ((e.get s).cnt ≤ sv' ∧ sv' < cnt' ∧ ((e.get s).cnt / verM < sv' / verM ∨ (sv' / verM = sv / verM ∧ (d' = true → d = true ∧ ∀ q k1 n hd, Loc k l (G.lt s j) [q] k1 n hd → Loc k l' L [q] k1 n hd))))) :
    Inv n (e.set s { e.get s with cs := (e.get s).cs.set j (.own rv sv' d' k l'), cnt := cnt' }) tm w' (G.turn s j L H F) := by
  have hs := h.slot s
  have hsh : (e.get s).sh ≠ .dead := fun q => by rw [hs.dead q] at hc; simp at hc
  have hjl : j < (e.get s).cs.length := by
    rcases Nat.lt_or_ge j (e.get s).cs.length with g | g
    · exact g
    · rw [List.getElem?_eq_none g] at hc; simp at hc
  have hcnt : (e.get s).cnt ≤ cnt' := by rcases hvers with ⟨_, q, _⟩ | ⟨_, q, _⟩ <;> omega
  have hold : ∀ b ∈ ownB (.own rv sv d k l) (G.lt s j), b ∈ fpS G s (e.get s) := fun b hb => by
    simp only [fpS, List.mem_append]
    right
    have := fpCells_mem (lt := G.lt s) (i := 0) hc (by simpa using hb)
    cases hh : (e.get s).sh <;> simp_all
  have hst : Still w w' G.ow (G.turn s j L H F).ow := fun b h1 h2 => by
    have q1 : b ∉ ownB (.own rv sv d k l) (G.lt s j) := fun hb => by
      have := hs.own b (hold b hb); rw [h1] at this; simp at this
    have q2 : b ∉ H := fun hb => by
      rcases (hH b hb).2.1 with q | q
      · exact q h1
      · exact h2 q
    exact ⟨hsame b q1 q2 h2, by simp [Gh.turn, q2, h1]⟩
  have hvs := hs.vers hsh j rv sv d k l hc
  have hTM : s < e.length → TM e (e.set s { e.get s with cs := (e.get s).cs.set j (.own rv sv' d' k l'), cnt := cnt' }) G (G.turn s j L H F) s := fun hl => by
    refine ⟨by rw [get_set_self hl]; exact hcnt, ?_, ?_⟩
    · intro i rv1 sv1 d1 k1 l1 h1 h2
      rw [get_set_self hl] at h1
      by_cases g : i = j
      · subst g
        have : (((e.get s).cs.set i (.own rv sv' d' k l')).getD i .dead) = .own rv sv' d' k l' := getD_some (by simp [hjl]) _
        simp only at h1
        rw [this] at h1
        simp only [C.own.injEq] at h1
        obtain ⟨rfl, rfl, rfl, rfl, hll⟩ := h1
        have hll := eq_of_heq hll
        subst hll
        refine ⟨sv, d, l, getD_some hc _, ?_, ?_⟩
        · rintro k1 n1 hd ⟨a1, a2, a3, a4⟩
          exact ⟨trivial, a2, by simpa [getP, hlen] using a3, by simpa [subL, Gh.turn, upd_self, hhd] using a4⟩
        · intro hd' p1 a hp1 ha hok
          rcases hvers with ⟨q1, q2, q3⟩ | ⟨q1, q2, q3⟩
          · obtain ⟨q4, q5⟩ := q3 hd'
            exact ⟨by rw [← q1]; exact hok, q4, fun k1 n1 hd hh => by simpa [Gh.turn, upd_self] using q5 p1 k1 n1 hd hh⟩
          · match p1, hp1 with
            | [x], _ =>
              simp only [svOk, Nat.beq_eq] at hok
              rcases q3 with q3 | ⟨q3, q4⟩
              · have : a / verM ≤ (e.get s).cnt / verM := Nat.div_le_div_right (by omega)
                omega
              · obtain ⟨q5, q6⟩ := q4 hd'
                exact ⟨by simp only [svOk, Nat.beq_eq]; omega, q5, fun k1 n1 hd hh => by simpa [Gh.turn, upd_self] using q6 x k1 n1 hd hh⟩
            | x :: y :: r, _ =>
              simp only [svOk, Nat.beq_eq] at hok
              omega
      · simp only at h1
        rw [getD_set_ne g] at h1
        refine ⟨sv1, d1, l1, h1, fun k n hd hh => ?_, fun hd p a _ _ ha => ⟨ha, hd, fun k n hd hh => ?_⟩⟩
        · simpa [Gh.turn, upd_self, upd_ne _ _ g] using hh
        · simpa [Gh.turn, upd_self, upd_ne _ _ g] using hh
    · intro bv h1 _
      rw [get_set_self hl] at h1
      exact ⟨h1, rfl⟩
  have hT : s < e.length → ∀ t, TM e (e.set s { e.get s with cs := (e.get s).cs.set j (.own rv sv' d' k l'), cnt := cnt' }) G (G.turn s j L H F) t := fun hl t => by
    by_cases g : t = s
    · subst g; exact hTM hl
    · exact TM.refl (get_set_ne g) (fun j => by simp [Gh.turn, upd_ne _ _ g]) rfl
  have hfar : ∀ b, b ∉ ownB (.own rv sv d k l) (G.lt s j) → b ∉ H → ∀ t, G.ow b = some t → w'.heap[b]? = w.heap[b]? ∧ (G.turn s j L H F).ow b = some t := fun b q1 q2 t q3 => by
    have hF' : b ∉ F := fun q => by
      rcases (hF b q).1 with q | q
      · exact q1 q
      · exact q2 q
    refine ⟨hsame b q1 q2 ?_, by simp [Gh.turn, hF', q2, q3]⟩
    have := h.lt b t q3
    simp [Array.getElem?_eq_getElem this]
  obtain ⟨rest, p1, p2⟩ := fpCells_perm (lt := G.lt s) (i := 0) hc
  have p2 := p2 (upd (G.lt s) j L) (.own rv sv' d' k l') (fun m hm => upd_ne _ _ (by omega))
  simp only [Nat.zero_add, upd_self] at p1 p2
  have hnd0 : (boxB (e.get s).sh (G.bk s) ++ (ownB (.own rv sv d k l) (G.lt s j) ++ rest)).Nodup := by
    have := hs.nodup
    have q : (boxB (e.get s).sh (G.bk s) ++ fpCells (G.lt s) 0 (e.get s).cs).Nodup := by
      simp only [fpS] at this
      cases hh : (e.get s).sh <;> simp_all [boxB]
    exact ((p1.append_left _).nodup_iff).1 q
  have hown0 : ∀ b ∈ boxB (e.get s).sh (G.bk s) ++ (ownB (.own rv sv d k l) (G.lt s j) ++ rest), b ∈ fpS G s (e.get s) := by
    intro b hb
    have : b ∈ boxB (e.get s).sh (G.bk s) ++ fpCells (G.lt s) 0 (e.get s).cs := ((p1.append_left _).mem_iff).2 hb
    simp only [fpS]
    cases hh : (e.get s).sh <;> simp_all [boxB]
  have hrest : ∀ b ∈ boxB (e.get s).sh (G.bk s) ++ rest, b ∉ ownB (.own rv sv d k l) (G.lt s j) ∧ b ∉ H := by
    intro b hb
    constructor
    · intro q
      rw [List.mem_append] at hb
      rw [List.nodup_append] at hnd0
      rcases hb with hb | hb
      · exact hnd0.2.2 b hb b (by simp [q]) rfl
      · have := hnd0.2.1
        rw [List.nodup_append] at this
        exact this.2.2 b q b hb rfl
    · intro q
      exact (hH b q).1 s (hown0 b (by simp only [List.mem_append] at hb ⊢; rcases hb with hb | hb <;> simp [hb]))
  refine h.turn s _ h.size (fun t g => ⟨rfl, fun i => by simp [Gh.turn, upd_ne _ _ g], rfl⟩) (fun _ _ _ => rfl) hTM hst ?_ ?_ ?_
  · intro t g b hb
    have how := (h.slot t).own b hb
    refine hfar b (fun q => ?_) (fun q => (hH b q).1 t hb) t how
    have := hs.own b (hold b q)
    rw [how] at this
    simp at this
    exact g this
  · intro hl
    have hT := hT hl
    have hfpS : fpS (G.turn s j L H F) s { e.get s with cs := (e.get s).cs.set j (.own rv sv' d' k l'), cnt := cnt' } = boxB (e.get s).sh (G.bk s) ++ fpCells (upd (G.lt s) j L) 0 ((e.get s).cs.set j (.own rv sv' d' k l')) := by
      simp only [fpS, Gh.turn, upd_self]
      cases hh : (e.get s).sh <;> simp_all [boxB]
    refine ⟨?_, ?_, ?_, ?_, ?_, ?_, ?_, ?_⟩ <;> rw [get_set_self hl]
    · exact hs.form
    · intro bv hb
      obtain ⟨g1, ty, g2⟩ := hs.box bv hb
      refine ⟨by simp only; omega, ty, ?_⟩
      have hbm : G.bk s ∈ boxB (e.get s).sh (G.bk s) ++ rest := by simp only at hb; rw [hb]; simp [boxB]
      have := hrest _ hbm
      have how := hs.own (G.bk s) (hown0 _ (by simp only at hb; rw [hb]; simp [boxB]))
      simp only [Gh.turn]
      rw [(hfar _ this.1 this.2 s how).1]
      exact g2
    · intro _
      have := hs.len hsh
      simp [Gh.turn, this]
    · intro _ i c u hc' hu
      simp only [Gh.turn] at hu
      by_cases g : i = j
      · subst g
        simp only at hc'
        rw [List.getElem?_set_self hjl] at hc'
        simp only [Option.some.injEq] at hc'
        subst hc'
        rw [hv] at hu
        simp only [Option.some.injEq] at hu
        subst hu
        simp only [CellOk, CellOk0, Gh.turn, upd_self]
        refine ⟨hrep, fun hd b hb => ?_⟩
        rcases hin hd b hb with q | q
        · by_cases qF : b ∈ F <;> simp [qF, q.1, q.2]
        · simp [q]
      · simp only at hc'
        rw [List.getElem?_set_ne (fun q => g q.symm)] at hc'
        have := hs.cells hsh i c u hc' hu
        simp only [Gh.turn, upd_self, upd_ne _ _ g]
        refine this.frame hT hst fun b hb => ?_
        have hbr : b ∈ rest := by
          have h1 : b ∈ fpCells (upd (G.lt s) j L) 0 ((e.get s).cs.set j (.own rv sv' d' k l')) :=
            fpCells_mem (j := i) (c := c) (by rw [List.getElem?_set_ne (fun q => g q.symm)]; exact hc') (by simpa [upd_ne _ _ g] using hb)
          have h2 : b ∈ fpCells (G.lt s) 0 (e.get s).cs := fpCells_mem hc' (by simpa using hb)
          rw [p1.mem_iff, List.mem_append] at h2
          rcases h2 with h2 | h2
          · -- owned by both: nodup
            exfalso
            obtain ⟨rest', r1, r2⟩ := fpCells_perm (lt := G.lt s) (i := 0) hc'
            have r2 := r2 (G.lt s) .dead (fun _ _ => rfl)
            have hb2 : b ∈ fpCells (G.lt s) 0 ((e.get s).cs.set i .dead) := fpCells_mem (j := j) (c := .own rv sv d k l) (by rw [List.getElem?_set_ne g]; exact hc) (by simpa using h2)
            rw [r2.mem_iff] at hb2
            simp only [ownB, List.nil_append] at hb2
            have : (fpCells (G.lt s) 0 (e.get s).cs).Nodup := by
              have := hs.nodup
              simp only [fpS] at this
              rw [List.nodup_append] at this
              have := this.2.1
              cases hh : (e.get s).sh <;> simp_all
            have := r1.nodup_iff.1 this
            rw [List.nodup_append] at this
            exact this.2.2 b (by simpa using hb) b hb2 rfl
          · exact h2
        have q := hrest b (by simp [hbr])
        exact (hfar b q.1 q.2 s (hs.own b (hown0 b (by simp [hbr])))).1
    · intro _ i rv1 sv1 d1 k1 l1 hc'
      by_cases g : i = j
      · subst g
        simp only at hc'
        rw [List.getElem?_set_self hjl] at hc'
        simp only [Option.some.injEq, C.own.injEq] at hc'
        obtain ⟨rfl, rfl, _⟩ := hc'
        simp only
        refine ⟨by omega, ?_⟩
        rcases hvers with ⟨q1, q2, _⟩ | ⟨q1, q2, _⟩ <;> omega
      · simp only at hc'
        rw [List.getElem?_set_ne (fun q => g q.symm)] at hc'
        have := hs.vers hsh i rv1 sv1 d1 k1 l1 hc'
        simp only
        omega
    · rw [hfpS]
      refine ((p2.append_left _).nodup_iff).2 ?_
      rw [← List.append_assoc] at hnd0 ⊢
      have hp : (boxB (e.get s).sh (G.bk s) ++ ownB (.own rv sv' d' k l') L ++ rest).Perm (ownB (.own rv sv' d' k l') L ++ (boxB (e.get s).sh (G.bk s) ++ rest)) := by
        rw [← List.append_assoc]
        exact List.perm_append_comm.append_right _
      refine hp.nodup_iff.2 ?_
      rw [List.nodup_append]
      refine ⟨hnd, ?_, ?_⟩
      · have hp2 : (boxB (e.get s).sh (G.bk s) ++ ownB (.own rv sv d k l) (G.lt s j) ++ rest).Perm (ownB (.own rv sv d k l) (G.lt s j) ++ (boxB (e.get s).sh (G.bk s) ++ rest)) := by
          rw [← List.append_assoc]
          exact List.perm_append_comm.append_right _
        have := hp2.nodup_iff.1 hnd0
        rw [List.nodup_append] at this
        exact this.2.1
      · intro a ha b hb hab
        subst hab
        have q := hrest a hb
        rcases hsub a ha with z | z
        · exact q.1 z
        · exact q.2 z
    · rw [hfpS]
      intro b hb
      have hb := ((p2.append_left (boxB (e.get s).sh (G.bk s))).mem_iff).1 hb
      have hb : b ∈ ownB (.own rv sv' d' k l') L ∨ b ∈ boxB (e.get s).sh (G.bk s) ++ rest := by
        simp only [List.mem_append] at hb ⊢
        rcases hb with hb | hb | hb <;> simp [hb]
      rcases hb with hb | hb
      · have hbF : b ∉ F := fun q => (hF b q).2 hb
        rcases hsub b hb with z | z
        · have := hs.own b (hold b z)
          by_cases q : b ∈ H
          · simp [Gh.turn, hbF, q]
          · simp [Gh.turn, hbF, q, this]
        · simp [Gh.turn, hbF, z]
      · have q := hrest b hb
        exact (hfar b q.1 q.2 s (hs.own b (hown0 b (by simp only [List.mem_append] at hb ⊢; rcases hb with hb | hb <;> simp [hb])))).2
    · intro hh
      exact absurd hh hsh
  · intro b t hb
    simp only [Gh.turn] at hb
    by_cases qF : b ∈ F
    · simp [qF] at hb
    · by_cases q : b ∈ H
      · exact (hH b q).2.2
      · rw [if_neg qF, if_neg q] at hb
        exact Nat.lt_of_lt_of_le (h.lt b t hb) hsize

/-- The ghost behind a box whose cells were turned. -/
def Gh.cells (G : Gh) (s : Nat) (vs : List Value) (lt : Nat → LT) (H : List Nat) : Gh :=
  { vs := upd G.vs s vs, lt := upd G.lt s lt, bk := G.bk, ow := fun b => if b ∈ H then some s else G.ow b }

/-- A box, its cells turned. -/
theorem Inv.box {n : Nat} {e : Env} {tm : Array Value} {w w' : World} {G : Gh} (h : Inv n e tm w G) {s bv : Nat} (hb : (e.get s).sh = .box bv)
    (cs : List C) (vs : List Value) (lt : Nat → LT) (H : List Nat)
    (hsize : w.heap.size ≤ w'.heap.size) (hsame : ∀ b, b ≠ G.bk s → b ∉ H → w.heap[b]? ≠ none → w'.heap[b]? = w.heap[b]?)
    (hblk : ∃ ty, w'.heap[G.bk s]? = some (.cells vs.toArray ty (0, 0)))
    (hH : ∀ b ∈ H, Loose e G b ∧ (G.ow b ≠ none ∨ w.heap[b]? = none) ∧ b < w'.heap.size)
    (hlen : vs.length = cs.length)
    (hcell : ∀ (j : Nat) c v, cs[j]? = some c → vs[j]? = some v → ((e.get s).cs[j]? = some c ∧ (G.vs s)[j]? = some v ∧ lt j = G.lt s j ∧ ∀ b ∈ ownB c (lt j), b ≠ G.bk s ∧ b ∉ H) ∨
      (NewOk e w G w' H c v (lt j) ∧ ∀ r1 r2 d k l, c = .own r1 r2 d k l → r1 = (e.get s).cnt ∧ r2 = 0))
    (hnd : (G.bk s :: fpCells lt 0 cs).Nodup) (hsub : ∀ b ∈ fpCells lt 0 cs, b ∈ H ∨ b ∈ fpS G s (e.get s)) :
    Inv n (e.set s { e.get s with cs := cs, cnt := (e.get s).cnt + 1 }) tm w' (G.cells s vs lt H) := by
  have hs := h.slot s
  have hsh : (e.get s).sh ≠ .dead := by rw [hb]; simp
  have hbk : G.bk s ∈ fpS G s (e.get s) := by simp only [fpS, hb]; simp
  have hbo := hs.own _ hbk
  have hbH : G.bk s ∉ H := fun q => (hH _ q).1 s hbk
  have hst : Still w w' G.ow (G.cells s vs lt H).ow := fun b h1 h2 => by
    have q1 : b ≠ G.bk s := fun q => by rw [q, hbo] at h1; simp at h1
    have q2 : b ∉ H := fun hb => by
      rcases (hH b hb).2.1 with q | q
      · exact q h1
      · exact h2 q
    exact ⟨hsame b q1 q2 h2, by simp [Gh.cells, q2, h1]⟩
  have hfar : ∀ b, b ≠ G.bk s → b ∉ H → ∀ t, G.ow b = some t → w'.heap[b]? = w.heap[b]? ∧ (G.cells s vs lt H).ow b = some t := fun b q1 q2 t q3 => by
    refine ⟨hsame b q1 q2 ?_, by simp [Gh.cells, q2, q3]⟩
    have := h.lt b t q3
    simp [Array.getElem?_eq_getElem this]
  have hTM : s < e.length → TM e (e.set s { e.get s with cs := cs, cnt := (e.get s).cnt + 1 }) G (G.cells s vs lt H) s := fun hl => by
    refine ⟨by rw [get_set_self hl]; simp, ?_, ?_⟩
    · intro i rv1 sv1 d1 k1 l1 h1 h2
      rw [get_set_self hl] at h1
      have h3 := some_of_getD h1 (by simp)
      have hil : i < cs.length := by
        rcases Nat.lt_or_ge i cs.length with g | g
        · exact g
        · simp only at h3; rw [List.getElem?_eq_none g] at h3; simp at h3
      rcases hcell i _ (vs[i]'(by omega)) h3 (List.getElem?_eq_getElem (by omega)) with ⟨q1, q2, q3, _⟩ | ⟨_, q⟩
      · refine ⟨sv1, d1, l1, getD_some q1 _, fun k n hd hh => ?_, fun hd p a _ _ ha => ⟨ha, hd, fun k n hd hh => ?_⟩⟩
        · simpa [Gh.cells, upd_self, q3] using hh
        · simpa [Gh.cells, upd_self, q3] using hh
      · have := (q _ _ _ _ _ rfl).1
        omega
    · intro bv' h1 _
      rw [get_set_self hl] at h1
      exact ⟨h1, rfl⟩
  have hT : s < e.length → ∀ t, TM e (e.set s { e.get s with cs := cs, cnt := (e.get s).cnt + 1 }) G (G.cells s vs lt H) t := fun hl t => by
    by_cases g : t = s
    · subst g; exact hTM hl
    · exact TM.refl (get_set_ne g) (fun j => by simp [Gh.cells, upd_ne _ _ g]) rfl
  refine h.turn s _ h.size (fun t g => ⟨by simp [Gh.cells, upd_ne _ _ g], fun i => by simp [Gh.cells, upd_ne _ _ g], rfl⟩) (fun _ _ _ => rfl) hTM hst ?_ ?_ ?_
  · intro t g b hb'
    have how := (h.slot t).own b hb'
    refine hfar b (fun q => ?_) (fun q => (hH b q).1 t hb') t how
    rw [q, hbo] at how
    simp at how
    exact g how.symm
  · intro hl
    have hT := hT hl
    have hfpS : fpS (G.cells s vs lt H) s { e.get s with cs := cs, cnt := (e.get s).cnt + 1 } = G.bk s :: fpCells lt 0 cs := by
      simp only [fpS, Gh.cells, upd_self, hb]
      rfl
    refine ⟨?_, ?_, ?_, ?_, ?_, ?_, ?_, ?_⟩ <;> rw [get_set_self hl]
    · intro hn
      have := hs.form hn
      simp only [FormIs, hb] at this ⊢
      exact this
    · intro bv' hb'
      obtain ⟨g1, _⟩ := hs.box bv' hb'
      obtain ⟨ty, hty⟩ := hblk
      exact ⟨by simp only; omega, ty, by simpa [Gh.cells, upd_self] using hty⟩
    · intro _
      simp [Gh.cells, upd_self, hlen]
    · intro _ j c v hc hv
      simp only [Gh.cells, upd_self] at hv ⊢
      rcases hcell j c v hc hv with ⟨q1, q2, q3, q4⟩ | ⟨q, _⟩
      · rw [q3]
        refine (hs.cells hsh j c v q1 q2).frame hT hst fun b hb' => ?_
        have hmem : b ∈ fpS G s (e.get s) := by
          simp only [fpS, hb, List.mem_append]
          right
          exact fpCells_mem (lt := G.lt s) (i := 0) q1 (by simpa using hb')
        have := q4 b (by rw [q3]; exact hb')
        exact (hfar b this.1 this.2 s (hs.own b hmem)).1
      · cases c with
        | own r1 r2 d' k l =>
          obtain ⟨a1, a2⟩ := q
          refine ⟨a1, fun hd b hb => ?_⟩
          have := a2 hd b hb
          simp [this.2, this.1]
        | dead => trivial
        | nil => exact (CellOk.frame (c := .nil) (v := v) (L := lt j) q hT hst fun b hb => by simp [ownB] at hb)
        | dat k x => exact (CellOk.frame (c := .dat k x) q hT hst fun b hb => by simp [ownB] at hb)
        | ref _ _ _ _ _ _ _ _ => exact (CellOk.frame (c := .ref ..) (v := v) (L := lt j) q hT hst fun b hb => by simp [ownB] at hb)
        | bptr _ _ _ => exact (CellOk.frame (c := .bptr ..) (v := v) (L := lt j) q hT hst fun b hb => by simp [ownB] at hb)
        | aptr _ _ _ _ _ _ _ _ => exact (CellOk.frame (c := .aptr ..) (v := v) (L := lt j) q hT hst fun b hb => by simp [ownB] at hb)
        | pim _ _ => exact (CellOk.frame (c := .pim ..) (v := v) (L := lt j) q hT hst fun b hb => by simp [ownB] at hb)
        | fn _ _ => exact (CellOk.frame (c := .fn ..) (v := v) (L := lt j) q hT hst fun b hb => by simp [ownB] at hb)
    · intro _ j r1 r2 d' k l hc
      have hjl : j < cs.length := by
        rcases Nat.lt_or_ge j cs.length with g | g
        · exact g
        · simp only at hc; rw [List.getElem?_eq_none g] at hc; simp at hc
      rcases hcell j _ (vs[j]'(by omega)) hc (List.getElem?_eq_getElem (by omega)) with ⟨q1, _⟩ | ⟨_, q⟩
      · have := hs.vers hsh j r1 r2 d' k l q1
        simp only
        omega
      · have := q _ _ _ _ _ rfl
        simp only
        omega
    · rw [hfpS]; exact hnd
    · rw [hfpS]
      intro b hb'
      rw [List.mem_cons] at hb'
      rcases hb' with rfl | hb'
      · simp [Gh.cells, hbH, hbo]
      · rcases hsub b hb' with q | q
        · simp [Gh.cells, q]
        · by_cases z : b ∈ H
          · simp [Gh.cells, z]
          · simp [Gh.cells, z, hs.own b q]
    · intro hh
      exact absurd hh hsh
  · intro b t hb'
    simp only [Gh.cells] at hb'
    by_cases q : b ∈ H
    · exact (hH b q).2.2
    · rw [if_neg q] at hb'
      exact Nat.lt_of_lt_of_le (h.lt b t hb') hsize

end Go.Mach
/- The machine, part f: what operands read as; what references read. No condition: lemmas. -/
namespace Go.Mach
set_option linter.unusedVariables false

/-- What an operation looks at: the slots as they are, or nothing. -/
def Sees (get : Nat → Slot) (e : Env) : Prop := ∀ s, get s = e.get s ∨ get s = {}

/-- The cells of a value, each with its value. -/
structure CellsOk (e : Env) (w : World) (G : Gh) (cs : List C) (vs : List Value) (Ls : Nat → LT) : Prop where
  len : vs.length = cs.length
  cell : ∀ (j : Nat) c v, cs[j]? = some c → vs[j]? = some v → CellOk e w G c v (Ls j)


/-- A value: no box, nothing owned. -/
structure ValOk (e : Env) (w : World) (G : Gh) (x : Val) (u : Value) (vs : List Value) (Ls : Nat → LT) : Prop where
  cells : CellsOk e w G x.2 vs Ls
  form : u = Mach.form x.1 vs
  noOwn : ∀ c ∈ x.2, c.isOwn = false
  sh : ∀ bv, x.1 ≠ .box bv
  alive : x.1 ≠ .dead

theorem getP_nil (k : K) (l : List k.T) : getP k l [] = ⟨k, l⟩ := by simp [getP]

theorem hd_of_repl {dr d : Bool} {w : World} {k : K} {l : List k.T} {L : LT} {v : Value} (h : RepL dr w k.size (Rep d w k) l L v) (hdr : dr = true) :
    SliceIs k.size l.length (hdOf L) none none v := by
  refine ⟨by simp, by simp, ?_⟩
  rcases h with ⟨rfl, rfl, a, cap, rfl, hh⟩ | ⟨b, off, cap, rows, rfl, rfl, h3, h4, h0, h5, h6⟩
  · obtain rfl := hh hdr
    exact ⟨a, rfl, rfl⟩
  · simp only [hdOf]
    exact ⟨h3, off, by simp, by simp⟩

/-- A reference to what a slot's cell owns. -/
theorem SlotOk.copyOwn {n : Nat} {e : Env} {tm : Array Value} {w : World} {G : Gh} {s j : Nat} (h : SlotOk n e tm w G s) {rv sv : Nat} {d : Bool} {k : K} {l : List k.T} {v : Value}
    (hc : (e.get s).cs[j]? = some (.own rv sv d k l)) (hv : (G.vs s)[j]? = some v) (L : LT) : CellOk e w G (.ref s j rv sv [] none none k) v L := by
  have hsh : (e.get s).sh ≠ .dead := fun q => by rw [h.dead q] at hc; simp at hc
  have hvs := h.vers hsh j rv sv d k l hc
  refine ⟨hvs.1, fun hp => absurd rfl hp, ?_⟩
  intro sv' d' k0 l0 h1 _
  rw [getD_some hc] at h1
  simp only [C.own.injEq] at h1
  obtain ⟨_, rfl, rfl, rfl, hl⟩ := h1
  have hl := eq_of_heq hl
  subst hl
  have hcell : CellOk e w G (.own rv sv d k l) v (G.lt s j) := h.cells hsh j _ v hc hv
  exact ⟨l.length, hdOf (G.lt s j), ⟨trivial, by rw [getP_nil], by rw [getP_nil], by simp [subL]⟩, hd_of_repl hcell.1 rfl⟩

theorem copyFrom_get (t : Nat) : ∀ (cs : List C) (j i : Nat), (copyFrom t j cs)[i]? = (cs[i]?).map (C.copy t (j + i))
  | [], j, i => by simp [copyFrom]
  | c :: r, j, 0 => by simp [copyFrom]
  | c :: r, j, i + 1 => by
    simp only [copyFrom, List.getElem?_cons_succ]
    rw [copyFrom_get t r (j + 1) i, show j + 1 + i = j + (i + 1) by omega]

theorem copyFrom_length (t : Nat) : ∀ (cs : List C) (j : Nat), (copyFrom t j cs).length = cs.length
  | [], j => rfl
  | c :: r, j => by simp [copyFrom, copyFrom_length t r]

theorem isOwn_copy (t j : Nat) (c : C) : (c.copy t j).isOwn = false := by cases c <;> rfl

theorem copyFrom_noOwn (t : Nat) (cs : List C) (j : Nat) : ∀ c ∈ copyFrom t j cs, c.isOwn = false := by
  intro c hc
  obtain ⟨i, hi⟩ := List.getElem?_of_mem hc
  rw [copyFrom_get] at hi
  cases h : cs[i]? with
  | none => rw [h] at hi; simp at hi
  | some c0 => rw [h] at hi; simp at hi; rw [← hi]; exact isOwn_copy _ _ _

/-- A cell read out of a slot. -/
theorem SlotOk.copy {n : Nat} {e : Env} {tm : Array Value} {w : World} {G : Gh} {s j : Nat} (h : SlotOk n e tm w G s) {c : C} {v : Value}
    (hc : (e.get s).cs[j]? = some c) (hv : (G.vs s)[j]? = some v) : CellOk e w G (c.copy s j) v (G.lt s j) := by
  have hsh : (e.get s).sh ≠ .dead := fun q => by rw [h.dead q] at hc; simp at hc
  cases c with
  | own rv sv d k l => exact h.copyOwn hc hv _
  | _ => exact h.cells hsh j _ v hc hv

theorem litC_ok (e : Env) (w : World) (G : Gh) (v : Value) : CellOk e w G (litC v) v .leaf ∧ (litC v).isOwn = false := by
  cases v with
  | bool b => exact ⟨⟨by simp [Rep], by simp [fp]⟩, rfl⟩
  | int k n => exact ⟨⟨by simp [Rep], by simp [fp]⟩, rfl⟩
  | string s => exact ⟨⟨by simp [Rep], by simp [fp]⟩, rfl⟩
  | slice a len cap =>
    cases a with
    | some a => exact ⟨trivial, rfl⟩
    | none =>
      cases len with
      | succ m => exact ⟨trivial, rfl⟩
      | zero =>
        cases cap with
        | succ m => exact ⟨trivial, rfl⟩
        | zero => exact ⟨rfl, rfl⟩
  | _ => exact ⟨trivial, rfl⟩

theorem lits_ok (e : Env) (w : World) (G : Gh) (vs : List Value) : CellsOk e w G (vs.map litC) vs (fun _ => .leaf) ∧ ∀ c ∈ vs.map litC, c.isOwn = false := by
  refine ⟨⟨by simp, fun j c v hc hv => ?_⟩, fun c hc => ?_⟩
  · rw [List.getElem?_map, hv] at hc
    simp only [Option.map_some, Option.some.injEq] at hc
    subst hc
    exact (litC_ok e w G v).1
  · obtain ⟨v, _, rfl⟩ := List.mem_map.1 hc
    exact (litC_ok e w G v).2

theorem one_ok {e : Env} {w : World} {G : Gh} {c : C} {v : Value} {L : LT} (h : CellOk e w G c v L) (ho : c.isOwn = false) : ValOk e w G (.one, [c]) v [v] (fun _ => L) := by
  refine ⟨⟨rfl, fun j c' v' hc hv => ?_⟩, rfl, by simpa using ho, by simp, by simp⟩
  cases j with
  | zero => simp at hc hv; subst hc hv; exact h
  | succ j => simp at hc

/-- What an operand reads as. -/
theorem opd_ok {n : Nat} {e : Env} {a : Act} {w : World} {G : Gh} {get : Nat → Slot} (h : Inv n e a.tmps w G) (hg : Sees get e) {x : Operand} (hx : ∀ t, x = .tmp t → t < n) {v : Val}
    (hv : opd get x = some v) : ∃ vs Ls, ValOk e w G v (a.eval x) vs Ls := by
  cases x with
  | tmp t =>
    have ht := hx t rfl
    have hs := h.slot t
    simp only [opd] at hv
    rcases hg t with q | q
    · rw [q] at hv
      have hf := hs.form ht
      have hsz := h.size
      have hev : ∀ u, a.tmps[t]? = some u → a.eval (.tmp t) = u := fun u hu => by simp only [Act.eval, Array.getD_eq_getD_getElem?, hu, Option.getD_some]
      cases hsh : (e.get t).sh with
      | dead => rw [hsh] at hv; simp at hv
      | box bv =>
        rw [hsh] at hv hf
        simp only [FormIs] at hf
        simp only [Option.some.injEq] at hv
        subst hv
        rw [hev _ hf]
        refine ⟨_, _, one_ok (L := .leaf) ⟨(hs.box bv hsh).1, fun _ => rfl, _, _, rfl⟩ rfl⟩
      | one =>
        rw [hsh] at hv hf
        simp only [FormIs] at hf
        simp only [Option.some.injEq] at hv
        subst hv
        have hd : (e.get t).sh ≠ .dead := by rw [hsh]; simp
        refine ⟨G.vs t, G.lt t, ⟨by rw [copyFrom_length]; exact hs.len hd, fun j c u hc hu => ?_⟩, hev _ hf, copyFrom_noOwn _ _ _, by simp, by simp⟩
        simp only [copyFrom_get, Nat.zero_add] at hc
        cases hcj : (e.get t).cs[j]? with
        | none => rw [hcj] at hc; simp at hc
        | some c0 => rw [hcj] at hc; simp at hc; subst hc; exact hs.copy hcj hu
      | agg =>
        rw [hsh] at hv hf
        simp only [FormIs] at hf
        simp only [Option.some.injEq] at hv
        subst hv
        have hd : (e.get t).sh ≠ .dead := by rw [hsh]; simp
        refine ⟨G.vs t, G.lt t, ⟨by rw [copyFrom_length]; exact hs.len hd, fun j c u hc hu => ?_⟩, hev _ hf, copyFrom_noOwn _ _ _, by simp, by simp⟩
        simp only [copyFrom_get, Nat.zero_add] at hc
        cases hcj : (e.get t).cs[j]? with
        | none => rw [hcj] at hc; simp at hc
        | some c0 => rw [hcj] at hc; simp at hc; subst hc; exact hs.copy hcj hu
      | tup ps =>
        rw [hsh] at hv hf
        simp only [FormIs] at hf
        simp only [Option.some.injEq] at hv
        subst hv
        have hd : (e.get t).sh ≠ .dead := by rw [hsh]; simp
        refine ⟨G.vs t, G.lt t, ⟨by rw [copyFrom_length]; exact hs.len hd, fun j c u hc hu => ?_⟩, hev _ hf, copyFrom_noOwn _ _ _, by simp, by simp⟩
        simp only [copyFrom_get, Nat.zero_add] at hc
        cases hcj : (e.get t).cs[j]? with
        | none => rw [hcj] at hc; simp at hc
        | some c0 => rw [hcj] at hc; simp at hc; subst hc; exact hs.copy hcj hu
    · rw [q] at hv
      simp at hv
  | const u =>
    cases u with
    | agg us =>
      simp only [opd, Option.some.injEq] at hv
      subst hv
      have := lits_ok e w G us.toList
      exact ⟨us.toList, _, this.1, by simp [Act.eval, form], this.2, by simp, by simp⟩
    | _ =>
      simp only [opd, Option.some.injEq] at hv
      subst hv
      exact ⟨_, _, one_ok (litC_ok e w G _).1 (litC_ok e w G _).2⟩
  | func f =>
    simp only [opd, Option.some.injEq] at hv
    subst hv
    refine ⟨_, _, one_ok (v := a.eval (.func f)) (L := .leaf) ⟨[], fun _ => .leaf, rfl, rfl, fun i c u hc => by simp at hc⟩ rfl⟩
  | global g => simp [opd] at hv

theorem opd_one {n : Nat} {e : Env} {a : Act} {w : World} {G : Gh} {get : Nat → Slot} (h : Inv n e a.tmps w G) (hg : Sees get e) {x : Operand} (hx : ∀ t, x = .tmp t → t < n) {c : C}
    (hv : opd get x = some (.one, [c])) : ∃ L, CellOk e w G c (a.eval x) L ∧ c.isOwn = false := by
  obtain ⟨vs, Ls, h1⟩ := opd_ok h hg hx hv
  have hl := h1.cells.len
  match vs, hl with
  | [u], _ =>
    have hf := h1.form
    simp only [form, List.headD_cons] at hf
    rw [hf]
    exact ⟨Ls 0, h1.cells.cell 0 c u rfl rfl, h1.noOwn c (by simp)⟩

/-! ### References -/
theorem castL_some {k : K} {l : List k.T} {k' : K} {l' : List k'.T} (h : castL k l k' = some l') : (⟨k, l⟩ : (k : K) × List k.T) = ⟨k', l'⟩ := by
  unfold castL at h
  split at h
  · rename_i e
    subst e
    simp only [Option.some.injEq] at h
    rw [← h]
  · simp at h

theorem castL_self {k : K} {l : List k.T} : castL k l k = some l := by simp [castL]

theorem content_ok {get : Nat → Slot} {e : Env} (hg : Sees get e) {s j rv sv : Nat} {p : Path} {k : K} {d : Bool} {l : List k.T} (h : content get s j rv sv p k = some (d, l)) :
    ∃ sv' k0 l0, (e.get s).cs[j]? = some (.own rv sv' d k0 l0) ∧ (p = [] ∨ (svOk p sv sv' = true ∧ d = true)) ∧ getP k0 l0 p = ⟨k, l⟩ := by
  unfold content at h
  split at h
  · rename_i rv' sv' deep k0 l0 hc
    split at h
    · rename_i hh
      obtain ⟨rfl, hp⟩ := hh
      cases hcast : castL (getP k0 l0 p).1 (getP k0 l0 p).2 k with
      | none => rw [hcast] at h; simp at h
      | some l1 =>
        rw [hcast] at h
        simp only [Option.map_some, Option.some.injEq, Prod.mk.injEq] at h
        obtain ⟨rfl, rfl⟩ := h
        have := some_of_getD hc (by simp)
        rcases hg s with q | q
        · rw [q] at this
          exact ⟨sv', k0, l0, this, hp, castL_some hcast⟩
        · rw [q] at this
          simp at this
    · simp at h
  · simp at h

/-- The elements of a list, read where they lie. -/
def ElemsAt (d : Bool) (w : World) (k : K) (l : List k.T) (L : LT) : Prop :=
  ∀ (i : Nat), i < l.length → ∃ b off cap rows r vs, L = .node b off cap rows ∧ rows[i]? = some r ∧ RowAt w b (off + i * k.size) vs ∧ Rep d w k (l.getD i k.dflt) r vs

theorem cut_length {α : Type} (lo hi : Option Nat) (l : List α) (h : hi.getD l.length ≤ l.length) : (cut lo hi l).length = hi.getD l.length - lo.getD 0 := by
  cases lo <;> cases hi <;> simp_all [cut]

theorem cut_get {α : Type} (lo hi : Option Nat) (l : List α) (i : Nat) (h : i + lo.getD 0 < hi.getD l.length) : (cut lo hi l)[i]? = l[i + lo.getD 0]? := by
  cases lo <;> cases hi <;> simp_all [cut, Nat.add_comm]

/-- The place of a list that was cut. -/
def cutL (sz : Nat) (lo hi : Option Nat) (n : Nat) : LT → LT
  | .node b off cap rows => if cap - lo.getD 0 = 0 then .nil else .node b (off + lo.getD 0 * sz) (cap - lo.getD 0) (cut lo (some (hi.getD n)) rows)
  | L => L

theorem cut_sublist {α : Type} (lo hi : Option Nat) (l : List α) : (cut lo hi l).Sublist l := by
  cases lo <;> cases hi <;> simp only [cut]
  · exact List.Sublist.refl _
  · exact List.take_sublist _ _
  · exact List.drop_sublist _ _
  · exact (List.drop_sublist _ _).trans (List.take_sublist _ _)

theorem sub_flatMap {α β : Type} {f : α → List β} : ∀ {l l' : List α}, l.Sublist l' → (l.flatMap f).Sublist (l'.flatMap f)
  | _, _, .slnil => by simp
  | _, _, .cons a h => by simp only [List.flatMap_cons]; exact (sub_flatMap h).trans (List.sublist_append_right _ _)
  | _, _, .cons_cons a h => by simp only [List.flatMap_cons]; exact (sub_flatMap h).append_left _

theorem cutL_sublist (k : K) (sz : Nat) (lo hi : Option Nat) (n : Nat) (L : LT) : (fp (.list k) (cutL sz lo hi n L)).Sublist (fp (.list k) L) := by
  cases L with
  | node b off cap rows =>
    simp only [cutL]
    split
    · simp [fp]
    · simp only [fp]
      exact (sub_flatMap (f := fp k) (cut_sublist lo (some (hi.getD n)) rows)).cons_cons b
  | _ => simp [cutL]

/-- A slice value that reads a list, cut, reads the cut list. -/
theorem RepL.cut {dr d : Bool} {w : World} {k : K} {l : List k.T} {L : LT} {u v : Value} {lo hi : Option Nat} (h : RepL dr w k.size (Rep d w k) l L u)
    (hs : SliceIs k.size l.length (hdOf L) lo hi v) : RepL dr w k.size (Rep d w k) (Mach.cut lo hi l) (cutL k.size lo hi l.length L) v := by
  obtain ⟨h1, h2, h3⟩ := hs
  rcases h with ⟨rfl, rfl, a, cap, rfl, _⟩ | ⟨b, off, cap, rows, rfl, rfl, g1, g2, g0, g3, g4⟩
  · simp only [hdOf] at h3
    obtain ⟨a', rfl, _⟩ := h3
    refine .inl ⟨rfl, ?_, a', 0, rfl, by simp⟩
    refine List.eq_nil_of_length_eq_zero ?_
    rw [cut_length lo hi ([] : List k.T) h2]
    simp only [List.length_nil] at h2
    simp only [List.length_nil]
    omega
  · simp only [hdOf] at h3
    obtain ⟨hcap, o, rfl, ho⟩ := h3
    have hl := cut_length lo hi l h2
    simp only [cutL]
    by_cases hz : cap - lo.getD 0 = 0
    · rw [if_pos hz]
      have h0 : (Mach.cut lo hi l).length = 0 := by rw [hl]; omega
      refine .inl ⟨rfl, List.eq_nil_of_length_eq_zero h0, some ⟨b, o, none⟩, cap - lo.getD 0, ?_, fun _ => hz⟩
      rw [show hi.getD l.length - lo.getD 0 = 0 by omega]
    · rw [if_neg hz]
      have ho := ho hz
      subst ho
      have hrl : (Mach.cut lo (some (hi.getD l.length)) rows).length = hi.getD l.length - lo.getD 0 := by
        have := cut_length lo (some (hi.getD l.length)) rows (by simp; omega)
        simpa using this
      refine .inr ⟨b, _, _, _, rfl, by rw [hl], by rw [hl]; omega, by rw [hrl, hl], g0, fun hd => ?_, fun i x r hx hr => ?_⟩
      · have := g3 hd
        rw [show off + lo.getD 0 * k.size + (cap - lo.getD 0) * k.size = off + cap * k.size by
          rw [Nat.add_assoc, ← Nat.add_mul]; congr 2; omega]
        exact this
      · have hi' : i < (Mach.cut lo hi l).length := by
          rcases Nat.lt_or_ge i (Mach.cut lo hi l).length with g | g
          · exact g
          · rw [List.getElem?_eq_none g] at hx; simp at hx
        rw [cut_get lo hi l i (by omega)] at hx
        have := cut_get lo (some (hi.getD l.length)) rows i (by simp; omega)
        rw [this] at hr
        obtain ⟨vs, q1, q2⟩ := g4 _ _ _ hx hr
        refine ⟨vs, ?_, q2⟩
        rw [show off + lo.getD 0 * k.size + i * k.size = off + (i + lo.getD 0) * k.size by rw [Nat.add_mul]; omega]
        exact q1

theorem CellOk.refFits {e : Env} {w : World} {G : Gh} {s j rv sv : Nat} {p : Path} {lo hi : Option Nat} {k : K} {v : Value} {L : LT} (hc : CellOk e w G (.ref s j rv sv p lo hi k) v L)
    {sv' : Nat} {d : Bool} {k0 : K} {l0 : List k0.T} (h1 : (e.get s).cs[j]? = some (.own rv sv' d k0 l0)) (h2 : p = [] ∨ (svOk p sv sv' = true ∧ d = true)) :
    ∃ n hd, Loc k0 l0 (G.lt s j) p k n hd ∧ SliceIs k.size n hd lo hi v := hc.2.2 sv' d k0 l0 (getD_some h1 _) h2

theorem slot_alive {e : Env} {s j : Nat} {c : C} (h : (e.get s).cs[j]? = some c) : s < e.length := by
  rcases Nat.lt_or_ge s e.length with g | g
  · exact g
  · rw [get_out (by omega)] at h; simp at h

/-- The value of a cell that is there. -/
theorem Inv.val {n : Nat} {e : Env} {tm : Array Value} {w : World} {G : Gh} (h : Inv n e tm w G) {s j : Nat} {c : C} (hc : (e.get s).cs[j]? = some c) :
    ∃ v, (G.vs s)[j]? = some v ∧ CellOk e w G c v (G.lt s j) := by
  have hs := h.slot s
  have hsh : (e.get s).sh ≠ .dead := fun q => by rw [hs.dead q] at hc; simp at hc
  have hl := hs.len hsh
  have hj : j < (e.get s).cs.length := by
    rcases Nat.lt_or_ge j (e.get s).cs.length with g | g
    · exact g
    · rw [List.getElem?_eq_none g] at hc; simp at hc
  exact ⟨_, List.getElem?_eq_getElem (by omega), hs.cells hsh j c _ hc (List.getElem?_eq_getElem (by omega))⟩

/-- Blocks of an owned list: the slot's, or nobody's. -/
theorem Inv.ownBlocks {n : Nat} {e : Env} {tm : Array Value} {w : World} {G : Gh} (h : Inv n e tm w G) {s j rv sv : Nat} {d : Bool} {k : K} {l : List k.T} (hc : (e.get s).cs[j]? = some (.own rv sv d k l)) :
    (∀ b ∈ ownB (.own rv sv d k l) (G.lt s j), G.ow b = some s) ∧ (d = false → ∀ b ∈ inner k (G.lt s j), G.ow b = none) ∧ (ownB (.own rv sv d k l) (G.lt s j)).Nodup := by
  have hs := h.slot s
  have hsh : (e.get s).sh ≠ .dead := fun q => by rw [hs.dead q] at hc; simp at hc
  have hmem : ∀ b ∈ ownB (.own rv sv d k l) (G.lt s j), b ∈ fpS G s (e.get s) := fun b hb => by
    simp only [fpS, List.mem_append]
    right
    have := fpCells_mem (lt := G.lt s) (i := 0) hc (by simpa using hb)
    cases hh : (e.get s).sh <;> simp_all
  obtain ⟨v, hv, hcell⟩ := h.val hc
  refine ⟨fun b hb => hs.own b (hmem b hb), hcell.2, ?_⟩
  obtain ⟨rest, p1, _⟩ := fpCells_perm (lt := G.lt s) (i := 0) hc
  have hnd := hs.nodup
  have : (fpCells (G.lt s) 0 (e.get s).cs).Nodup := by
    simp only [fpS] at hnd
    rw [List.nodup_append] at hnd
    have := hnd.2.1
    cases hh : (e.get s).sh <;> simp_all
  have := p1.nodup_iff.1 this
  rw [List.nodup_append] at this
  simpa using this.1

theorem fp_list (k : K) (L : LT) : fp (.list k) L = (hdOf L).toList.map (·.1) ++ inner k L := by
  cases L <;> simp [fp, hdOf, inner]

/-- The list at a path of an owned list, where it lies. -/
theorem Inv.at_path {n : Nat} {e : Env} {tm : Array Value} {w : World} {G : Gh} (h : Inv n e tm w G) {s j rv sv : Nat} {d : Bool} {k0 : K} {l0 : List k0.T} (hc : (e.get s).cs[j]? = some (.own rv sv d k0 l0))
    {p : Path} (hp : PathOk k0 l0 p) (hd : p = [] ∨ d = true) {k : K} {l : List k.T} (hl : getP k0 l0 p = ⟨k, l⟩) :
    ∃ u, RepL true w k.size (Rep d w k) l (subL k0 (G.lt s j) p) u ∧ (∀ b ∈ fp (.list k) (subL k0 (G.lt s j) p), b ∈ fp (.list k0) (G.lt s j)) := by
  obtain ⟨v, hv, hcell⟩ := h.val hc
  have hrep := hcell.1
  by_cases hp0 : p = []
  · subst hp0
    rw [getP_nil] at hl
    simp only [Sigma.mk.injEq] at hl
    obtain ⟨rfl, hl⟩ := hl
    have hl := eq_of_heq hl
    subst hl
    exact ⟨v, by simpa [subL] using hrep, by simp [subL]⟩
  · rcases hd with hd | rfl
    · exact absurd hd hp0
    · obtain ⟨u, rest, f1, f2, _⟩ := focus (fun _ l => l) p k0 l0 (G.lt s j) v hrep hp
      rw [hl] at f1 f2
      exact ⟨u, f1, fun b hb => f2.mem_iff.2 (by simp [hb])⟩

/-- What a reference reads. -/
theorem ref_reads {n : Nat} {e : Env} {tm : Array Value} {w : World} {G : Gh} (h : Inv n e tm w G) {s j rv sv : Nat} {p : Path} {lo hi : Option Nat} {k : K} {v : Value} {L : LT}
    (hc : CellOk e w G (.ref s j rv sv p lo hi k) v L) {sv' : Nat} {d : Bool} {k0 : K} {l0 : List k0.T} (h1 : (e.get s).cs[j]? = some (.own rv sv' d k0 l0)) (h2 : p = [] ∨ (svOk p sv sv' = true ∧ d = true))
    {l : List k.T} (hl : getP k0 l0 p = ⟨k, l⟩) :
    SliceIs k.size l.length (hdOf (subL k0 (G.lt s j) p)) lo hi v ∧ PathOk k0 l0 p ∧
    RepL true w k.size (Rep d w k) (cut lo hi l) (cutL k.size lo hi l.length (subL k0 (G.lt s j) p)) v ∧
      (∀ b ∈ fp (.list k) (cutL k.size lo hi l.length (subL k0 (G.lt s j) p)), b ∈ fp (.list k0) (G.lt s j)) := by
  obtain ⟨m, hd, ⟨q1, q2, q3, q4⟩, q5⟩ := hc.refFits h1 h2
  rw [hl] at q3
  simp only at q3
  subst q3
  rw [← q4] at q5
  obtain ⟨u, r1, r2⟩ := h.at_path h1 q1 (h2.imp id And.right) hl
  exact ⟨q5, q1, r1.cut q5, fun b hb => r2 b ((cutL_sublist k k.size lo hi l.length _).subset hb)⟩

theorem leafL_sub : ∀ (k : K) (L : LT) (c : Nat), ∀ b ∈ fp (k.leaf c) (leafL k L c), b ∈ fp k L
  | .int _, L, c, b, hb => by simp [K.leaf, fp] at hb
  | .bool, L, c, b, hb => by simp [K.leaf, fp] at hb
  | .str, L, c, b, hb => by simp [K.leaf, fp] at hb
  | .list k, L, c, b, hb => by simpa [K.leaf, leafL] using hb
  | .pair x y, L, c, b, hb => by
    cases L with
    | pair p q =>
      simp only [K.leaf, leafL] at hb
      simp only [fp, List.mem_append]
      by_cases h : c < x.size
      · simp only [h, if_true] at hb
        exact .inl (leafL_sub x p c b hb)
      · simp only [h, if_false] at hb
        exact .inr (leafL_sub y q _ b hb)
    | _ =>
      simp only [leafL] at hb
      cases hk : (K.pair x y).leaf c <;> rw [hk] at hb <;> simp [fp] at hb

theorem subL_sub : ∀ (p : Path) (k : K) (l : List k.T) (L : LT), PathOk k l p → ∀ b ∈ fp (.list (getP k l p).1) (subL k L p), b ∈ fp (.list k) L
  | [], k, l, L, _, b, hb => by simpa [getP, subL] using hb
  | (i, c) :: p, k, l, L, hp, b, hb => by
    simp only [PathOk] at hp
    obtain ⟨_, _, hp⟩ := hp
    cases hl : leafV k (l.getD i k.dflt) c with
    | mk k1 y =>
      rw [hl] at hp
      cases k1 with
      | list k' =>
        simp only at hp
        have hk := leafV_list hl
        have eg : getP k l ((i, c) :: p) = getP k' y p := by simp only [getP, hl]
        rw [eg] at hb
        cases L with
        | node b0 off cap rows =>
          have es : subL k (.node b0 off cap rows) ((i, c) :: p) = subL k' (leafL k (rows.getD i .leaf) c) p := by simp only [subL, hk]
          rw [es] at hb
          have h1 := subL_sub p k' y _ hp b hb
          rw [← hk] at h1
          have h2 := leafL_sub k _ c b h1
          simp only [fp, List.mem_cons, List.mem_flatMap]
          right
          rcases Nat.lt_or_ge i rows.length with g | g
          · rw [List.getD_eq_getElem?_getD, List.getElem?_eq_getElem g] at h2
            exact ⟨_, List.getElem_mem g, by simpa using h2⟩
          · rw [List.getD_eq_getElem?_getD, List.getElem?_eq_none g] at h2
            simp only [Option.getD_none] at h2
            cases k <;> simp [fp] at h2
        | _ => simp [subL, fp] at hb
      | _ => exact hp.elim

/-- What lies at a path that goes down lies below the root. -/
theorem subL_inner (p : Path) (hp0 : p ≠ []) (k : K) (l : List k.T) (L : LT) (hp : PathOk k l p) : ∀ b ∈ fp (.list (getP k l p).1) (subL k L p), b ∈ inner k L := by
  intro b hb
  match p, hp0 with
  | (i, c) :: p, _ =>
    simp only [PathOk] at hp
    obtain ⟨_, _, hp⟩ := hp
    cases hl : leafV k (l.getD i k.dflt) c with
    | mk k1 y =>
      rw [hl] at hp
      cases k1 with
      | list k' =>
        simp only at hp
        have hk := leafV_list hl
        have eg : getP k l ((i, c) :: p) = getP k' y p := by simp only [getP, hl]
        rw [eg] at hb
        cases L with
        | node b0 off cap rows =>
          have es : subL k (.node b0 off cap rows) ((i, c) :: p) = subL k' (leafL k (rows.getD i .leaf) c) p := by simp only [subL, hk]
          rw [es] at hb
          have h1 := subL_sub p k' y _ hp b hb
          rw [← hk] at h1
          have h2 := leafL_sub k _ c b h1
          simp only [inner, List.mem_flatMap]
          rcases Nat.lt_or_ge i rows.length with g | g
          · rw [List.getD_eq_getElem?_getD, List.getElem?_eq_getElem g] at h2
            exact ⟨_, List.getElem_mem g, by simpa using h2⟩
          · rw [List.getD_eq_getElem?_getD, List.getElem?_eq_none g] at h2
            simp only [Option.getD_none] at h2
            cases k <;> simp [fp] at h2
        | _ => simp [subL, fp] at hb
      | _ => exact hp.elim

end Go.Mach
/- The machine, part g: what an operation takes on its way. No condition: lemmas. -/
namespace Go.Mach
set_option linter.unusedVariables false

/-! ### The writes of an operation -/
theorem puts_set (ws : Writes) : ∀ (e : Env) (s : Nat) (x : Slot), Env.puts (e.set s x) (ws.filter (·.1 ≠ s)) = (Env.puts e ws).set s x := by
  induction ws with
  | nil => intro e s x; rfl
  | cons a ws ih =>
    obtain ⟨s', y⟩ := a
    intro e s x
    by_cases h : s' = s
    · subst h
      simp only [ne_eq, not_true_eq_false, decide_false, Bool.false_eq_true, not_false_eq_true, List.filter_cons_of_neg, Env.puts]
      rw [← ih (e.set s' y) s' x]
      simp
    · simp only [ne_eq, h, not_false_eq_true, decide_true, List.filter_cons_of_pos, Env.puts]
      rw [← ih (e.set s' y) s x]
      rw [List.set_comm _ _ (fun q => h q.symm)]

theorem puts_length (ws : Writes) : ∀ (e : Env), (Env.puts e ws).length = e.length := by
  induction ws with
  | nil => intro e; rfl
  | cons a ws ih => obtain ⟨s', y⟩ := a; intro e; simp only [Env.puts]; rw [ih]; simp

structure TrOk (e0 : Env) (t : Tr) (e : Env) : Prop where
  sees : ∀ s, t.at s = e.get s ∨ t.at s = {}
  puts : e0.puts t.ws = e
  dst : ∀ d, t.d = some d → t.at d = e.get d

theorem TrOk.length {e0 : Env} {t : Tr} {e : Env} (h : TrOk e0 t e) : e.length = e0.length := by rw [← h.puts, puts_length]

theorem at_put_self (t : Tr) (s : Nat) (x : Slot) : (t.put s x).at s = x := by simp [Tr.at, Tr.put]

theorem at_put_ne (t : Tr) {s s' : Nat} (x : Slot) (h : s' ≠ s) : (t.put s x).at s' = t.at s' := by
  have : (t.ws.filter (·.1 ≠ s)).find? (·.1 = s') = t.ws.find? (·.1 = s') := by
    rw [List.find?_filter]
    congr 1
    funext a
    by_cases g : a.1 = s' <;> simp [g, h]
  simp only [Tr.at, Tr.put]
  rw [List.find?_cons_of_neg (by simpa using fun q => h q.symm)]
  rw [this]

theorem TrOk.put {e0 : Env} {t : Tr} {e : Env} (h : TrOk e0 t e) {s : Nat} (x : Slot) (hs : s < e.length) : TrOk e0 (t.put s x) (e.set s x) := by
  refine ⟨fun s' => ?_, ?_, fun d hd => ?_⟩
  · by_cases g : s' = s
    · subst g
      left
      rw [at_put_self, get_set_self hs]
    · rw [at_put_ne t x g, get_set_ne g]
      exact h.sees s'
  · simp only [Tr.put, Env.puts]
    rw [puts_set, h.puts]
  · by_cases g : d = s
    · subst g
      rw [at_put_self, get_set_self hs]
    · rw [at_put_ne t x g, get_set_ne g]
      exact h.dst d hd

theorem TrOk.start {get : Nat → Slot} {e : Env} {d : Option Nat} (h : Sees get e) (hd : ∀ d', d = some d' → get d' = e.get d') : TrOk e { get, d } e := ⟨h, rfl, hd⟩

theorem TrOk.cell {e0 : Env} {t : Tr} {e : Env} (h : TrOk e0 t e) {s j : Nat} {c : C} (hc : (t.at s).cs.getD j .dead = c) (hd : c ≠ .dead) : t.at s = e.get s ∧ (e.get s).cs[j]? = some c := by
  have := some_of_getD hc hd
  rcases h.sees s with q | q
  · rw [q] at this; exact ⟨q, this⟩
  · rw [q] at this; simp at this

/-! ### What changes on the way -/
/-- From one state to another, memory as it is: what holds on. -/
structure Ext (w : World) (e : Env) (G : Gh) (e' : Env) (G' : Gh) : Prop where
  len : e'.length = e.length
  cell : ∀ c v L, c.isOwn = false → CellOk e w G c v L → CellOk e' w G' c v L
  loose : ∀ b, Loose e G b → G.ow b ≠ none → Loose e' G' b ∧ G'.ow b = G.ow b
  none : ∀ b, G.ow b = none → G'.ow b = none
  sub : ∀ b t, G'.ow b = some t → G.ow b = some t
  sh : ∀ s, (e'.get s).sh = (e.get s).sh
  cnt : ∀ s, (e.get s).cnt ≤ (e'.get s).cnt
  vs : G'.vs = G.vs
  lt : G'.lt = G.lt
  bk : G'.bk = G.bk
  clen : ∀ s, (e'.get s).cs.length = (e.get s).cs.length

theorem Ext.refl {w : World} {e : Env} {G : Gh} : Ext w e G e G := ⟨rfl, fun _ _ _ _ h => h, fun _ h1 _ => ⟨h1, rfl⟩, fun _ h => h, fun _ _ h => h, fun _ => rfl, fun _ => Nat.le_refl _, rfl, rfl, rfl, fun _ => rfl⟩

theorem Ext.trans {w : World} {e e' e'' : Env} {G G' G'' : Gh} (h : Ext w e G e' G') (h' : Ext w e' G' e'' G'') : Ext w e G e'' G'' := by
  refine ⟨h'.len.trans h.len, fun c v L ho hc => h'.cell c v L ho (h.cell c v L ho hc), fun b h1 h2 => ?_, fun b hb => h'.none b (h.none b hb), fun b t hb => h.sub b t (h'.sub b t hb), fun s => (h'.sh s).trans (h.sh s),
    fun s => Nat.le_trans (h.cnt s) (h'.cnt s), h'.vs.trans h.vs, h'.lt.trans h.lt, h'.bk.trans h.bk, fun s => (h'.clen s).trans (h.clen s)⟩
  obtain ⟨q1, q2⟩ := h.loose b h1 h2
  obtain ⟨q3, q4⟩ := h'.loose b q1 (by rw [q2]; exact h2)
  exact ⟨q3, q4.trans q2⟩

theorem noOwn_ownB {c : C} {L : LT} (h : c.isOwn = false) : ownB c L = [] := by
  cases c with
  | own _ _ _ _ _ => simp [C.isOwn] at h
  | _ => rfl

theorem fpS_kill_sub (G : Gh) (s j : Nat) (x : Slot) : (fpS G s (x.kill j)).Sublist (fpS G s x) := by
  have key : ∀ (cs : List C) (i j : Nat), (fpCells (G.lt s) i (cs.set j .dead)).Sublist (fpCells (G.lt s) i cs) := by
    intro cs
    induction cs with
    | nil => intro i j; simp [fpCells]
    | cons a cs ih =>
      intro i j
      cases j with
      | zero => simp only [List.set_cons_zero, fpCells, ownB, List.nil_append]; exact List.sublist_append_right _ _
      | succ j => simp only [List.set_cons_succ, fpCells]; exact (ih (i + 1) j).append_left _
  simp only [fpS, Slot.kill]
  refine List.Sublist.append (List.Sublist.refl _) ?_
  cases x.sh <;> first | exact List.Sublist.refl _ | exact key _ 0 j

theorem TM.kill {e : Env} {G : Gh} {s j : Nat} (t : Nat) : TM e (e.set s ((e.get s).kill j)) G G t := by
  by_cases hl : s < e.length
  · by_cases g : t = s
    · subst g
      have hk : ∀ i c, ((e.get t).kill j).cs[i]? = some c → c = .dead ∨ ((e.get t).cs[i]? = some c ∧ i ≠ j) := by
        intro i c hc
        simp only [Slot.kill, List.getElem?_set] at hc
        by_cases g : j = i
        · subst g
          simp at hc
          exact .inl hc.2.symm
        · rw [if_neg g] at hc
          exact .inr ⟨hc, fun q => g q.symm⟩
      refine ⟨by rw [get_set_self hl]; exact Nat.le_refl _, ?_, ?_⟩
      · intro i rv sv d k l h1 h2
        rw [get_set_self hl] at h1
        have h3 := hk i _ (some_of_getD h1 (by simp))
        rcases h3 with h3 | ⟨h3, _⟩
        · cases h3
        · exact ⟨sv, d, l, getD_some h3 _, fun _ _ _ q => q, fun hd _ _ _ _ ha => ⟨ha, hd, fun _ _ _ q => q⟩⟩
      · intro bv h1 _
        rw [get_set_self hl] at h1
        exact ⟨h1, rfl⟩
    · exact TM.refl (get_set_ne g) (fun _ => rfl) rfl
  · rw [set_out hl]
    exact TM.refl rfl (fun _ => rfl) rfl

theorem Ext.kill {w : World} {e : Env} {G : Gh} (s j : Nat) : Ext w e G (e.set s ((e.get s).kill j)) G := by
  have hget : ∀ t, (Env.get (e.set s ((e.get s).kill j)) t) = e.get t ∨ (t = s ∧ Env.get (e.set s ((e.get s).kill j)) t = (e.get s).kill j) := fun t => by
    rw [get_set]
    by_cases g : t = s ∧ s < e.length
    · right; rw [if_pos g]; exact ⟨g.1, rfl⟩
    · left; rw [if_neg g]
  refine ⟨by simp, fun c v L ho hc => hc.frame (fun t => TM.kill t) still_refl (fun b hb => by simp [noOwn_ownB ho] at hb), fun b h1 _ => ⟨fun t ht => ?_, rfl⟩, fun _ h => h, fun _ _ h => h, fun t => ?_, fun t => ?_, rfl, rfl, rfl, fun t => ?_⟩
  · rcases hget t with q | ⟨rfl, q⟩
    · rw [q] at ht; exact h1 t ht
    · rw [q] at ht; exact h1 t ((fpS_kill_sub G t j (e.get t)).subset ht)
  · rcases hget t with q | ⟨rfl, q⟩ <;> rw [q]
    rfl
  · rcases hget t with q | ⟨rfl, q⟩
    · rw [q]; exact Nat.le_refl _
    · rw [q]; exact Nat.le_refl _
  · rcases hget t with q | ⟨rfl, q⟩ <;> rw [q]
    simp [Slot.kill]

/-- An owned list frozen: its root stays owned, what lies deeper is nobody's. -/
theorem Inv.freeze {n : Nat} {e : Env} {tm : Array Value} {w : World} {G : Gh} (h : Inv n e tm w G) {s j rv sv : Nat} {d : Bool} {k : K} {l : List k.T}
    (hc : (e.get s).cs[j]? = some (.own rv sv d k l)) :
    ∃ G', Inv n (e.set s { e.get s with cs := (e.get s).cs.set j (.own rv sv false k l) }) tm w G' ∧ Ext w e G (e.set s { e.get s with cs := (e.get s).cs.set j (.own rv sv false k l) }) G' ∧
      (∀ b ∈ inner k (G.lt s j), G'.ow b = none) ∧ (∀ t i, G'.lt t i = G.lt t i) ∧ (∀ b, G'.ow b = G.ow b ∨ G'.ow b = none) := by
  obtain ⟨v, hv, hcell⟩ := h.val hc
  obtain ⟨ho1, ho2, ho3⟩ := h.ownBlocks hc
  have hl := slot_alive hc
  have hjl : j < (e.get s).cs.length := by
    rcases Nat.lt_or_ge j (e.get s).cs.length with g | g
    · exact g
    · rw [List.getElem?_eq_none g] at hc; simp at hc
  have hroot : ∀ b ∈ ownB (.own rv sv false k l) (G.lt s j), b ∈ ownB (.own rv sv d k l) (G.lt s j) := by
    intro b hb
    cases d with
    | false => exact hb
    | true =>
      cases hL : G.lt s j with
      | node b0 off cap rows => rw [hL] at hb; simp [ownB, hdOf] at hb; simp [ownB, fp, hb]
      | _ => rw [hL] at hb; simp [ownB, hdOf] at hb
  have hsubl : (ownB (.own rv sv false k l) (G.lt s j)).Nodup := by
    cases hL : G.lt s j <;> simp [ownB, hdOf]
  let F := if d then inner k (G.lt s j) else []
  have hnd : d = true → ∀ b ∈ inner k (G.lt s j), b ∈ ownB (.own rv sv d k l) (G.lt s j) ∧ b ∉ ownB (.own rv sv false k l) (G.lt s j) := by
    intro hd b hb
    subst hd
    cases hL : G.lt s j with
    | node b0 off cap rows =>
      rw [hL] at hb ho3
      simp only [ownB, fp, List.nodup_cons] at ho3
      simp only [inner] at hb
      refine ⟨by simp [ownB, fp, hb], ?_⟩
      simp only [ownB, hdOf, Option.toList_some, List.map_cons, List.map_nil, List.mem_singleton]
      rintro rfl
      exact ho3.1 hb
    | _ => rw [hL] at hb; simp [inner] at hb
  have hinv := h.own hc hv sv (e.get s).cnt false l (G.lt s j) [] F (Nat.le_refl _) (fun b _ _ _ => rfl) (by simp) hcell.1.weaken (fun b hb => .inl (hroot b hb)) hsubl
    (fun b hb => by
      cases d with
      | true => exact ⟨.inl (hnd rfl b hb).1, (hnd rfl b hb).2⟩
      | false => simp [F] at hb)
    (fun _ b hb => by
      cases d with
      | true => right; exact hb
      | false => left; exact ⟨ho2 rfl b hb, by simp⟩)
    rfl rfl (.inl ⟨rfl, rfl, by simp⟩)
  have hlt : ∀ t i, (G.turn s j (G.lt s j) [] F).lt t i = G.lt t i := by
    intro t i
    simp only [Gh.turn, upd]
    by_cases g : t = s
    · subst g; by_cases g' : i = j <;> simp [g', upd]
    · simp [g]
  have hTM : ∀ t, TM e (e.set s { e.get s with cs := (e.get s).cs.set j (.own rv sv false k l) }) G (G.turn s j (G.lt s j) [] F) t := by
    intro t
    by_cases g : t = s
    · subst g
      refine ⟨by rw [get_set_self hl]; exact Nat.le_refl _, ?_, ?_⟩
      · intro i rv1 sv1 d1 k1 l1 h1 h2
        rw [get_set_self hl] at h1
        by_cases g : i = j
        · subst g
          have : (((e.get t).cs.set i (.own rv sv false k l)).getD i .dead) = .own rv sv false k l := getD_some (by simp [hjl]) _
          simp only at h1
          rw [this] at h1
          simp only [C.own.injEq] at h1
          obtain ⟨rfl, rfl, rfl, rfl, hll⟩ := h1
          have hll := eq_of_heq hll
          subst hll
          exact ⟨sv, d, l, getD_some hc _, fun k n hd hh => by rw [hlt]; exact hh, fun q => by cases q⟩
        · simp only at h1
          rw [getD_set_ne g] at h1
          exact ⟨sv1, d1, l1, h1, fun k n hd hh => by rw [hlt]; exact hh, fun hd p a _ _ ha => ⟨ha, hd, fun k n hd hh => by rw [hlt]; exact hh⟩⟩
      · intro bv h1 _
        rw [get_set_self hl] at h1
        exact ⟨h1, rfl⟩
    · exact TM.refl (get_set_ne g) (fun j => hlt _ _) rfl
  have hnone : ∀ b, G.ow b = none → (G.turn s j (G.lt s j) [] F).ow b = none := by
    intro b hb
    simp only [Gh.turn]
    by_cases q : b ∈ F <;> simp [q, hb]
  have hfp : ∀ t b, b ∈ fpS (G.turn s j (G.lt s j) [] F) t (Env.get (e.set s { e.get s with cs := (e.get s).cs.set j (.own rv sv false k l) }) t) → b ∈ fpS G t (e.get t) := by
    intro t b hb
    have hlt' : (G.turn s j (G.lt s j) [] F).lt t = G.lt t := funext (hlt t)
    by_cases g : t = s
    · subst g
      rw [get_set_self hl] at hb
      simp only [fpS, hlt', List.mem_append] at hb ⊢
      rcases hb with hb | hb
      · left; simpa [Gh.turn] using hb
      · right
        have hne : (e.get t).sh ≠ .dead := fun q => by rw [(h.slot t).dead q] at hc; simp at hc
        have hb' : b ∈ fpCells (G.lt t) 0 ((e.get t).cs.set j (.own rv sv false k l)) := by
          simp only at hb
          cases hh : (e.get t).sh <;> simp_all
        obtain ⟨i, c, q1, q2⟩ := fpCells_of hb'
        have : b ∈ fpCells (G.lt t) 0 (e.get t).cs := by
          by_cases g : i = j
          · subst g
            rw [List.getElem?_set_self hjl] at q1
            simp only [Option.some.injEq] at q1
            subst q1
            exact fpCells_mem hc (by simpa using hroot b (by simpa using q2))
          · rw [List.getElem?_set_ne (fun q => g q.symm)] at q1
            exact fpCells_mem q1 q2
        cases hh : (e.get t).sh <;> simp_all
    · rw [get_set_ne g] at hb
      simp only [fpS, hlt'] at hb ⊢
      exact hb
  refine ⟨_, hinv, ?_, ?_, hlt, ?_⟩
  · refine ⟨by simp, fun c v L hno hc' => hc'.frame hTM (fun b h1 h2 => ⟨rfl, hnone b h1⟩) (fun b hb => by simp [noOwn_ownB hno] at hb), fun b h1 h2 => ⟨fun t ht => h1 t (hfp t b ht), ?_⟩, hnone, fun b t hb => ?sub, fun t => ?_, fun t => ?_, rfl, ?lt, rfl, fun t => ?_⟩
    case lt => exact funext fun t => funext fun i => hlt t i
    case sub =>
      simp only [Gh.turn] at hb
      split at hb
      · simp at hb
      · simpa using hb
    · have hbF : b ∉ F := by
        intro q
        cases d with
        | false => simp [F] at q
        | true =>
          have := (hnd rfl b q).1
          have hm : b ∈ fpS G s (e.get s) := by
            simp only [fpS, List.mem_append]
            right
            have := fpCells_mem (lt := G.lt s) (i := 0) hc (by simpa using this)
            cases hh : (e.get s).sh with
            | dead => rw [(h.slot s).dead hh] at hc; simp at hc
            | _ => simpa using this
          exact h1 s hm
      simp [Gh.turn, hbF]
    · by_cases g : t = s
      · subst g; rw [get_set_self hl]
      · rw [get_set_ne g]
    · by_cases g : t = s
      · subst g; rw [get_set_self hl]; exact Nat.le_refl _
      · rw [get_set_ne g]; exact Nat.le_refl _
    · by_cases g : t = s
      · subst g; rw [get_set_self hl]; simp
      · rw [get_set_ne g]
  · intro b hb
    cases d with
    | true => simp only [Gh.turn]; rw [if_pos (show b ∈ F from hb)]
    | false => exact hnone b (ho2 rfl b hb)
  · intro b
    simp only [Gh.turn]
    by_cases q : b ∈ F <;> simp [q]

end Go.Mach
/- The machine, part h: cells on their way into rows and variables. No condition: lemmas. -/
namespace Go.Mach
set_option linter.unusedVariables false

/-- What an operation has in hand: blocks that nobody has, taken since a state. -/
structure Hand (w : World) (e0 : Env) (G0 : Gh) (e : Env) (G : Gh) (H : List Nat) : Prop where
  nodup : H.Nodup
  mem : ∀ b ∈ H, Loose e G b ∧ G.ow b ≠ none ∧ b < w.heap.size ∧ ¬ Loose e0 G0 b

theorem Hand.nil {w : World} {e0 e : Env} {G0 G : Gh} : Hand w e0 G0 e G [] := ⟨List.nodup_nil, by simp⟩

theorem Hand.ext {w : World} {e0 e e' : Env} {G0 G G' : Gh} {H : List Nat} (h : Hand w e0 G0 e G H) (x : Ext w e G e' G') : Hand w e0 G0 e' G' H :=
  ⟨h.nodup, fun b hb => by
    obtain ⟨h1, h2, h3, h4⟩ := h.mem b hb
    obtain ⟨q1, q2⟩ := x.loose b h1 h2
    exact ⟨q1, by rw [q2]; exact h2, h3, h4⟩⟩

/-- Two hands, one behind the other. -/
theorem Hand.append {w : World} {e0 e1 e2 : Env} {G0 G1 G2 : Gh} {H H' : List Nat} (h : Hand w e0 G0 e1 G1 H) (x0 : Ext w e0 G0 e1 G1) (x : Ext w e1 G1 e2 G2) (h' : Hand w e1 G1 e2 G2 H')
    (hl : ∀ b, Loose e0 G0 b → G0.ow b ≠ none → Loose e1 G1 b) (hc : ∀ b ∈ H', G0.ow b ≠ none) : Hand w e0 G0 e2 G2 (H ++ H') := by
  refine ⟨?_, ?_⟩
  · rw [List.nodup_append]
    refine ⟨h.nodup, h'.nodup, fun a ha b hb hab => ?_⟩
    subst hab
    exact (h'.mem a hb).2.2.2 (h.mem a ha).1
  · intro b hb
    rw [List.mem_append] at hb
    rcases hb with hb | hb
    · exact (h.ext x).mem b hb
    · obtain ⟨h1, h2, h3, h4⟩ := h'.mem b hb
      exact ⟨h1, h2, h3, fun q => h4 (hl b q (hc b hb))⟩

theorem Ext.some_before {w : World} {e e' : Env} {G G' : Gh} (x : Ext w e G e' G') {b : Nat} (h : G'.ow b ≠ Option.none) : G.ow b ≠ Option.none := fun q => h (x.none b q)

theorem RepL.rep {dr d : Bool} {w : World} {k : K} {l : List k.T} {L : LT} {v : Value} (h : RepL dr w k.size (Rep d w k) l L v) : Rep false w (.list k) l L [v] := by
  simp only [Rep]
  exact ⟨v, rfl, h.root.weaken⟩

theorem castT_eq {k k' : K} {x : k.T} {y d : k'.T} (h : (⟨k, x⟩ : Sg) = ⟨k', y⟩) : castT ⟨k, x⟩ k' d = y := by rw [h, castT_same]

/-- A cell taken. -/
structure Grabbed (n : Nat) (e0 : Env) (e : Env) (tm : Array Value) (w : World) (G : Gh) (t' : Tr) (k : K) (x : k.T) (d : Bool) (vs : List Value) (e' : Env) (G' : Gh) (H : List Nat) (L : LT) : Prop where
  inv : Inv n e' tm w G'
  tr : TrOk e0 t' e'
  ext : Ext w e G e' G'
  hand : Hand w e G e' G' H
  rep : Rep d w k x L vs
  fp : d = true → H = fp k L
  none : ∀ b ∈ Mach.fp k L, b ∈ H ∨ G'.ow b = none

theorem grab_ok {n : Nat} {e0 e : Env} {tm : Array Value} {w : World} {G : Gh} {t t' : Tr} (h : Inv n e tm w G) (ht : TrOk e0 t e) {c : C} {v : Value} {L : LT} (hc : CellOk e w G c v L) {k : K} {x : k.T} {d : Bool}
    (hg : t.grab c k = some (t', x, d)) : ∃ e' G' H L', Grabbed n e0 e tm w G t' k x d [v] e' G' H L' := by
  cases c with
  | dat k' y =>
    simp only [Tr.grab] at hg
    split at hg
    · rename_i hk
      subst hk
      simp only [Option.some.injEq, Prod.mk.injEq, castT_same] at hg
      obtain ⟨rfl, rfl, rfl⟩ := hg
      obtain ⟨h1, h2⟩ := hc
      refine ⟨e, G, [], L, h, ht, Ext.refl, Hand.nil, ?_, fun hd => (fp_flat hd).symm, fun b hb => .inr (h2 b hb)⟩
      cases hf : k'.flat with
      | true => exact h1.flat hf
      | false => exact h1
    · simp at hg
  | nil =>
    cases k with
    | list k0 =>
      simp only [Tr.grab, Option.some.injEq, Prod.mk.injEq] at hg
      obtain ⟨rfl, rfl, rfl⟩ := hg
      obtain rfl : v = .slice none 0 0 := hc
      refine ⟨e, G, [], .nil, h, ht, Ext.refl, Hand.nil, ?_, fun _ => by simp [fp], by simp [fp]⟩
      simp only [Rep]
      exact ⟨_, rfl, .inl ⟨rfl, rfl, none, 0, rfl, fun _ => rfl⟩⟩
    | _ => simp [Tr.grab] at hg
  | ref s j rv sv p lo hi k1 =>
    simp only [Tr.grab] at hg
    split at hg
    · rename_i rv' sv' d0 k0 l0 hcell
      split at hg
      · rename_i hcond
        obtain ⟨rfl, hp, rfl⟩ := hcond
        cases hcl : castL (getP k0 l0 p).1 (getP k0 l0 p).2 k1 with
        | none => rw [hcl] at hg; simp at hg
        | some l =>
          rw [hcl] at hg
          obtain ⟨hat, hown⟩ := ht.cell hcell (by simp)
          have hl : getP k0 l0 p = ⟨k1, l⟩ := castL_some hcl
          obtain ⟨hsl, hpo, hrep, hsub⟩ := ref_reads h hc hown hp hl
          obtain ⟨ho1, ho2, ho3⟩ := h.ownBlocks hown
          have halive := slot_alive hown
          have hrep' : Rep false w (.list k1) (cut lo hi l) (cutL k1.size lo hi l.length (subL k0 (G.lt s j) p)) [v] := hrep.rep
          cases p with
          | nil =>
            simp only [Option.some.injEq, Prod.mk.injEq, castT_same] at hg
            obtain ⟨rfl, rfl, rfl⟩ := hg
            rw [getP_nil] at hl
            simp only [Sigma.mk.injEq] at hl
            obtain ⟨rfl, hl⟩ := hl
            have hl := eq_of_heq hl
            subst hl
            simp only [subL] at hrep hrep'
            rw [hat]
            have hroot : ∀ b ∈ ownB (.own rv sv' d0 k0 l0) (G.lt s j), Hand w e G (e.set s ((e.get s).kill j)) G [b] := fun b hb => by
              obtain ⟨q1, q2⟩ := h.loose hown hb
              refine ⟨by simp, fun b' hb' => ?_⟩
              simp only [List.mem_singleton] at hb'
              subst hb'
              refine ⟨q2, by rw [q1]; simp, h.lt b' s q1, fun q => q s ?_⟩
              have := fpCells_mem (lt := G.lt s) (i := 0) hown (by simpa using hb)
              simp only [fpS, List.mem_append]
              right
              cases hh : (e.get s).sh with
              | dead => rw [(h.slot s).dead hh] at hown; simp at hown
              | _ => simpa using this
            have hand : ∀ H : List Nat, H.Nodup → (∀ b ∈ H, b ∈ ownB (.own rv sv' d0 k0 l0) (G.lt s j)) → Hand w e G (e.set s ((e.get s).kill j)) G H := fun H hn hH =>
              ⟨hn, fun b hb => (hroot b (hH b hb)).mem b (by simp)⟩
            cases d0 with
            | true =>
              have hsl := cutL_sublist k0 k0.size lo hi l0.length (G.lt s j)
              refine ⟨_, G, fp (.list k0) (cutL k0.size lo hi l0.length (G.lt s j)), _, h.kill s j, ht.put _ halive, Ext.kill s j, hand _ (ho3.sublist hsl) (fun b hb => hsl.subset hb), ?_, fun _ => rfl, fun b hb => .inl hb⟩
              simp only [Rep]
              exact ⟨v, rfl, hrep⟩
            | false =>
              have hin : ∀ b ∈ inner k0 (cutL k0.size lo hi l0.length (G.lt s j)), b ∈ inner k0 (G.lt s j) := by
                intro b hb
                cases hL : G.lt s j with
                | node b0 off cap rows =>
                  rw [hL] at hb
                  simp only [cutL] at hb
                  split at hb
                  · simp [inner] at hb
                  · simp only [inner] at hb ⊢
                    exact (sub_flatMap (cut_sublist _ _ _)).subset hb
                | _ => rw [hL] at hb; simpa [cutL] using hb
              have hrt : ∀ b ∈ (hdOf (cutL k0.size lo hi l0.length (G.lt s j))).toList.map (·.1), b ∈ ownB (.own rv sv' false k0 l0) (G.lt s j) := by
                intro b hb
                simp only [ownB]
                cases hL : G.lt s j with
                | node b0 off cap rows =>
                  rw [hL] at hb
                  simp only [cutL] at hb
                  split at hb
                  · simp [hdOf] at hb
                  · simpa [hdOf] using hb
                | _ => rw [hL] at hb; simpa [cutL] using hb
              refine ⟨_, G, (hdOf (cutL k0.size lo hi l0.length (G.lt s j))).toList.map (·.1), _, h.kill s j, ht.put _ halive, Ext.kill s j, hand _ ?_ hrt, hrep', by simp, fun b hb => ?_⟩
              · cases cutL k0.size lo hi l0.length (G.lt s j) <;> simp [hdOf]
              · rw [fp_list, List.mem_append] at hb
                rcases hb with hb | hb
                · exact .inl hb
                · exact .inr (ho2 rfl b (hin b hb))
          | cons a p =>
            simp only [Option.some.injEq, Prod.mk.injEq, castT_same] at hg
            obtain ⟨rfl, rfl, rfl⟩ := hg
            rw [hat]
            obtain ⟨G', q1, q2, q3, q4, q5⟩ := h.freeze hown
            refine ⟨_, G', [], _, q1, ht.put _ halive, q2, Hand.nil, hrep', by simp, fun b hb => .inr (q3 b ?_)⟩
            have h1 := (cutL_sublist k1 k1.size lo hi l.length _).subset hb
            have h2 := subL_inner (a :: p) (by simp) k0 l0 (G.lt s j) hpo b
            rw [hl] at h2
            exact h2 h1
      · simp at hg
    · simp at hg
  | dead => simp [Tr.grab] at hg
  | own _ _ _ _ _ => simp [Tr.grab] at hg
  | bptr _ _ _ => simp [Tr.grab] at hg
  | aptr _ _ _ _ _ _ _ _ => simp [Tr.grab] at hg
  | pim _ _ => simp [Tr.grab] at hg
  | fn _ _ => simp [Tr.grab] at hg

theorem CellsOk.ext {w : World} {e e' : Env} {G G' : Gh} {cs : List C} {vs : List Value} {Ls : Nat → LT} (h : CellsOk e w G cs vs Ls) (x : Ext w e G e' G') (ho : ∀ c ∈ cs, c.isOwn = false) : CellsOk e' w G' cs vs Ls :=
  ⟨h.len, fun j c v hc hv => x.cell c v _ (ho c (List.mem_of_getElem? hc)) (h.cell j c v hc hv)⟩

theorem CellsOk.take {w : World} {e : Env} {G : Gh} {cs : List C} {vs : List Value} {Ls : Nat → LT} (h : CellsOk e w G cs vs Ls) (m : Nat) : CellsOk e w G (cs.take m) (vs.take m) Ls := by
  refine ⟨by simp [h.len], fun j c v hc hv => ?_⟩
  rw [List.getElem?_take] at hc hv
  split at hc
  · rename_i hj
    rw [if_pos hj] at hv
    exact h.cell j c v hc hv
  · simp at hc

theorem CellsOk.drop {w : World} {e : Env} {G : Gh} {cs : List C} {vs : List Value} {Ls : Nat → LT} (h : CellsOk e w G cs vs Ls) (m : Nat) : CellsOk e w G (cs.drop m) (vs.drop m) (fun j => Ls (m + j)) := by
  refine ⟨by simp [h.len], fun j c v hc hv => ?_⟩
  rw [List.getElem?_drop] at hc hv
  exact h.cell (m + j) c v hc hv

theorem Grabbed.then {n : Nat} {e0 e e1 e2 : Env} {tm : Array Value} {w : World} {G G1 G2 : Gh} {t1 t2 : Tr} {k1 k2 : K} {x1 : k1.T} {x2 : k2.T} {d1 d2 : Bool} {v1 v2 : List Value} {H1 H2 : List Nat} {L1 L2 : LT}
    (h1 : Grabbed n e0 e tm w G t1 k1 x1 d1 v1 e1 G1 H1 L1) (h2 : Grabbed n e0 e1 tm w G1 t2 k2 x2 d2 v2 e2 G2 H2 L2) :
    Grabbed n e0 e tm w G t2 (.pair k1 k2) (x1, x2) (d1 && d2) (v1 ++ v2) e2 G2 (H1 ++ H2) (.pair L1 L2) where
  inv := h2.inv
  tr := h2.tr
  ext := h1.ext.trans h2.ext
  hand := h1.hand.append h1.ext h2.ext h2.hand (fun b hb ho => (h1.ext.loose b hb ho).1) (fun b hb => h1.ext.some_before (h2.ext.some_before (h2.hand.mem b hb).2.1))
  rep := by
    simp only [Rep]
    refine ⟨L1, L2, v1, v2, rfl, rfl, ?_, ?_⟩
    · cases d1 with
      | false => simpa using h1.rep
      | true => cases d2 with
        | true => exact h1.rep
        | false => exact h1.rep.weaken
    · cases d1 with
      | true => simpa using h2.rep
      | false => exact h2.rep.weaken
  fp := by
    intro hd
    simp only [Bool.and_eq_true] at hd
    simp only [Mach.fp]
    rw [h1.fp hd.1, h2.fp hd.2]
  none := by
    intro b hb
    simp only [Mach.fp, List.mem_append] at hb
    rcases hb with hb | hb
    · rcases h1.none b hb with q | q
      · exact .inl (by simp [q])
      · exact .inr (h2.ext.none b q)
    · rcases h2.none b hb with q | q
      · exact .inl (by simp [q])
      · exact .inr q

theorem one_val {vs : List Value} {c : C} (h : vs.length = [c].length) : ∃ v, vs = [v] := by
  match vs, h with
  | [v], _ => exact ⟨v, rfl⟩

theorem pack_ok : ∀ (k : K) {n : Nat} {e0 e : Env} {tm : Array Value} {w : World} {G : Gh} {t t' : Tr} (h : Inv n e tm w G) (ht : TrOk e0 t e) {cs : List C} {vs : List Value} {Ls : Nat → LT} (hc : CellsOk e w G cs vs Ls)
    (ho : ∀ c ∈ cs, c.isOwn = false) {x : k.T} {d : Bool} (hg : t.pack k cs = some (t', x, d)), ∃ e' G' H L', Grabbed n e0 e tm w G t' k x d vs e' G' H L'
  | .pair a b, n, e0, e, tm, w, G, t, t', h, ht, cs, vs, Ls, hc, ho, x, d, hg => by
    simp only [Tr.pack] at hg
    cases h1 : t.pack a (cs.take a.size) with
    | none => rw [h1] at hg; simp at hg
    | some r1 =>
      obtain ⟨t1, x1, d1⟩ := r1
      rw [h1] at hg
      simp only at hg
      cases h2 : t1.pack b (cs.drop a.size) with
      | none => rw [h2] at hg; simp at hg
      | some r2 =>
        obtain ⟨t2, x2, d2⟩ := r2
        rw [h2] at hg
        simp only [Option.some.injEq, Prod.mk.injEq] at hg
        obtain ⟨rfl, rfl, rfl⟩ := hg
        obtain ⟨e1, G1, H1, L1, g1⟩ := pack_ok a h ht (hc.take a.size) (fun c hc => ho c (List.mem_of_mem_take hc)) h1
        obtain ⟨e2, G2, H2, L2, g2⟩ := pack_ok b g1.inv g1.tr ((hc.drop a.size).ext g1.ext (fun c hc => ho c (List.mem_of_mem_drop hc))) (fun c hc => ho c (List.mem_of_mem_drop hc)) h2
        have := g1.then g2
        rw [List.take_append_drop] at this
        exact ⟨e2, G2, _, _, this⟩
  | .int i, n, e0, e, tm, w, G, t, t', h, ht, cs, vs, Ls, hc, ho, x, d, hg => by
    simp only [Tr.pack] at hg
    split at hg
    · obtain ⟨v, rfl⟩ := one_val hc.len
      exact grab_ok h ht (hc.cell 0 _ v rfl rfl) hg
    · simp at hg
  | .bool, n, e0, e, tm, w, G, t, t', h, ht, cs, vs, Ls, hc, ho, x, d, hg => by
    simp only [Tr.pack] at hg
    split at hg
    · obtain ⟨v, rfl⟩ := one_val hc.len
      exact grab_ok h ht (hc.cell 0 _ v rfl rfl) hg
    · simp at hg
  | .str, n, e0, e, tm, w, G, t, t', h, ht, cs, vs, Ls, hc, ho, x, d, hg => by
    simp only [Tr.pack] at hg
    split at hg
    · obtain ⟨v, rfl⟩ := one_val hc.len
      exact grab_ok h ht (hc.cell 0 _ v rfl rfl) hg
    · simp at hg
  | .list k, n, e0, e, tm, w, G, t, t', h, ht, cs, vs, Ls, hc, ho, x, d, hg => by
    simp only [Tr.pack] at hg
    split at hg
    · obtain ⟨v, rfl⟩ := one_val hc.len
      exact grab_ok h ht (hc.cell 0 _ v rfl rfl) hg
    · simp at hg

/-- Rows taken, one by one. -/
structure GrabbedRows (n : Nat) (e0 : Env) (e : Env) (tm : Array Value) (w : World) (G : Gh) (t' : Tr) (k : K) (l : List k.T) (d : Bool) (vss : List (List Value)) (e' : Env) (G' : Gh) (H : List Nat) (rows : List LT) : Prop where
  inv : Inv n e' tm w G'
  tr : TrOk e0 t' e'
  ext : Ext w e G e' G'
  hand : Hand w e G e' G' H
  len : rows.length = l.length
  vlen : vss.length = l.length
  rep : ∀ (i : Nat) x r vs, l[i]? = some x → rows[i]? = some r → vss[i]? = some vs → Rep d w k x r vs
  fp : d = true → H = rows.flatMap (fp k)
  none : ∀ b ∈ rows.flatMap (Mach.fp k), b ∈ H ∨ G'.ow b = none

theorem packs_ok (k : K) : ∀ (css : List (List C)) {n : Nat} {e0 e : Env} {tm : Array Value} {w : World} {G : Gh} {t t' : Tr} (h : Inv n e tm w G) (ht : TrOk e0 t e) {vss : List (List Value)} (hlen : vss.length = css.length)
    (hc : ∀ (i : Nat) cs vs, css[i]? = some cs → vss[i]? = some vs → ∃ Ls, CellsOk e w G cs vs Ls) (ho : ∀ cs ∈ css, ∀ c ∈ cs, c.isOwn = false) {l : List k.T} {d : Bool} (hg : t.packs k css = some (t', l, d)),
    ∃ e' G' H rows, GrabbedRows n e0 e tm w G t' k l d vss e' G' H rows
  | [], n, e0, e, tm, w, G, t, t', h, ht, vss, hlen, hc, ho, l, d, hg => by
    simp only [Tr.packs, Option.some.injEq, Prod.mk.injEq] at hg
    obtain ⟨rfl, rfl, rfl⟩ := hg
    have : vss = [] := List.eq_nil_of_length_eq_zero (by simpa using hlen)
    subst this
    exact ⟨e, G, [], [], h, ht, Ext.refl, Hand.nil, rfl, rfl, by simp, by simp, by simp⟩
  | cs :: css, n, e0, e, tm, w, G, t, t', h, ht, vss, hlen, hc, ho, l, d, hg => by
    match vss, hlen with
    | vs :: vss, hlen =>
      simp only [Tr.packs] at hg
      cases h1 : t.pack k cs with
      | none => rw [h1] at hg; simp at hg
      | some r1 =>
        obtain ⟨t1, x1, d1⟩ := r1
        rw [h1] at hg
        simp only at hg
        cases h2 : t1.packs k css with
        | none => rw [h2] at hg; simp at hg
        | some r2 =>
          obtain ⟨t2, xs, d2⟩ := r2
          rw [h2] at hg
          simp only [Option.some.injEq, Prod.mk.injEq] at hg
          obtain ⟨rfl, rfl, rfl⟩ := hg
          obtain ⟨Ls, hcs⟩ := hc 0 cs vs rfl rfl
          obtain ⟨e1, G1, H1, L1, g1⟩ := pack_ok k h ht hcs (ho cs (by simp)) h1
          obtain ⟨e2, G2, H2, rows, g2⟩ := packs_ok k css g1.inv g1.tr (by simpa using hlen) (fun i cs' vs' a b => by
            obtain ⟨Ls, q⟩ := hc (i + 1) cs' vs' (by simpa using a) (by simpa using b)
            exact ⟨Ls, q.ext g1.ext (ho cs' (by simp [List.mem_of_getElem? a]))⟩) (fun cs' hcs' => ho cs' (by simp [hcs'])) h2
          refine ⟨e2, G2, H1 ++ H2, L1 :: rows, g2.inv, g2.tr, g1.ext.trans g2.ext, ?_, by simp [g2.len], by simp [g2.vlen], ?_, ?_, ?_⟩
          · exact g1.hand.append g1.ext g2.ext g2.hand (fun b hb ho => (g1.ext.loose b hb ho).1) (fun b hb => g1.ext.some_before (g2.ext.some_before (g2.hand.mem b hb).2.1))
          · intro i x r vs' a b c
            cases i with
            | zero =>
              simp only [List.getElem?_cons_zero, Option.some.injEq] at a b c
              subst a b c
              have := g1.rep
              cases d1 with
              | false => simpa using this
              | true => cases d2 with
                | true => exact this
                | false => exact this.weaken
            | succ i =>
              have := g2.rep i x r vs' (by simpa using a) (by simpa using b) (by simpa using c)
              cases d1 with
              | true => simpa using this
              | false => exact this.weaken
          · intro hd
            simp only [Bool.and_eq_true] at hd
            rw [g1.fp hd.1, g2.fp hd.2]
            simp
          · intro b hb
            simp only [List.flatMap_cons, List.mem_append] at hb
            rcases hb with hb | hb
            · rcases g1.none b hb with q | q
              · exact .inl (by simp [q])
              · exact .inr (g2.ext.none b q)
            · rcases g2.none b hb with q | q
              · exact .inl (by simp [q])
              · exact .inr q

theorem fpCells_shift (lt : Nat → LT) : ∀ (cs : List C) (i : Nat), fpCells lt (i + 1) cs = fpCells (fun j => lt (j + 1)) i cs
  | [], i => rfl
  | c :: cs, i => by simp only [fpCells]; rw [fpCells_shift lt cs (i + 1)]

/-- A value on its way into a variable. -/
structure Taken (n : Nat) (e0 : Env) (e : Env) (tm : Array Value) (w : World) (G : Gh) (t' : Tr) (cs' : List C) (vs : List Value) (e' : Env) (H : List Nat) (Ls : Nat → LT) : Prop where
  inv : Inv n e' tm w G
  tr : TrOk e0 t' e'
  ext : Ext w e G e' G
  hand : Hand w e G e' G H
  len : vs.length = cs'.length
  new : ∀ (j : Nat) c v, cs'[j]? = some c → vs[j]? = some v → NewOk e' w G w H c v (Ls j)
  fp : fpCells Ls 0 cs' = H

theorem NewOk.ofCell {e : Env} {w : World} {G : Gh} {w' : World} {H : List Nat} {c : C} {v : Value} {L : LT} (h : CellOk e w G c v L) (ho : c.isOwn = false) : NewOk e w G w' H c v L := by
  cases c with
  | own _ _ _ _ _ => simp [C.isOwn] at ho
  | _ => exact h

theorem NewOk.mono {e : Env} {w : World} {G : Gh} {w' : World} {H H' : List Nat} {c : C} {v : Value} {L : LT} (h : NewOk e w G w' H c v L) (hH : ∀ b ∈ H', G.ow b ≠ none) : NewOk e w G w' H' c v L := by
  cases c with
  | own _ _ d k l =>
    obtain ⟨h1, h2⟩ := h
    exact ⟨h1, fun hd b hb => ⟨(h2 hd b hb).1, fun q => hH b q (h2 hd b hb).1⟩⟩
  | _ => exact h

theorem take_ok (vars : List Nat) : ∀ (cs : List C) {n : Nat} {e0 e : Env} {tm : Array Value} {w : World} {G : Gh} {t : Tr} (h : Inv n e tm w G) (ht : TrOk e0 t e) {vs : List Value} {Ls : Nat → LT} (hc : CellsOk e w G cs vs Ls)
    (ho : ∀ c ∈ cs, c.isOwn = false), ∃ e' H Ls', Taken n e0 e tm w G (t.take vars cs).1 (t.take vars cs).2 vs e' H Ls'
  | [], n, e0, e, tm, w, G, t, h, ht, vs, Ls, hc, ho => ⟨e, [], Ls, h, ht, Ext.refl, Hand.nil, by simpa [Tr.take] using hc.len, by simp [Tr.take], by simp [Tr.take, fpCells]⟩
  | c :: r, n, e0, e, tm, w, G, t, h, ht, vs, Ls, hc, ho => by
    match vs, hc with
    | [], hc => exact absurd hc.len (by simp)
    | v :: vs, hc =>
      have hcr : CellsOk e w G r vs (fun j => Ls (1 + j)) := by simpa using hc.drop 1
      have hor : ∀ c ∈ r, c.isOwn = false := fun c hc => ho c (by simp [hc])
      have hco : c.isOwn = false := ho c (by simp)
      have hc0 : CellOk e w G c v (Ls 0) := hc.cell 0 c v rfl rfl
      -- the cell stays
      have stays : ∀ q, (t.take vars (c :: r)) = q → q = ((t.take vars r).1, c :: (t.take vars r).2) → ∃ e' H Ls', Taken n e0 e tm w G q.1 q.2 (v :: vs) e' H Ls' := by
        rintro _ _ rfl
        obtain ⟨e', H, Ls', g⟩ := take_ok vars r h ht hcr hor
        refine ⟨e', H, fun j => match j with | 0 => Ls 0 | j + 1 => Ls' j, g.inv, g.tr, g.ext, g.hand, by simp [g.len], fun j c' v' a b => ?_, ?_⟩
        · cases j with
          | zero =>
            simp only [List.getElem?_cons_zero, Option.some.injEq] at a b
            subst a b
            exact NewOk.ofCell (g.ext.cell _ _ _ hco hc0) hco
          | succ j => exact g.new j c' v' (by simpa using a) (by simpa using b)
        · simp only [fpCells, noOwn_ownB hco, List.nil_append]
          rw [fpCells_shift]
          exact g.fp
      cases c with
      | ref s j rv sv p lo hi k =>
        cases p with
        | cons a p => exact stays _ rfl (by simp [Tr.take])
        | nil =>
          cases hv : vars.contains s with
          | true => exact stays _ rfl (by simp only [Tr.take, hv])
          | false =>
            cases hcell : (t.at s).cs.getD j .dead with
            | own rv' sv' d k' l =>
              by_cases hrv : rv = rv'
              · subst hrv
                obtain ⟨hat, hown⟩ := ht.cell hcell (by simp)
                obtain ⟨m, hd, ⟨_, q2, q3, q4⟩, q5⟩ := hc0.refFits hown (.inl rfl)
                rw [getP_nil] at q2 q3
                simp only at q2 q3
                subst q2
                subst q3
                simp only [subL] at q4
                rw [← q4] at q5
                obtain ⟨u, hu, hcl⟩ := h.val hown
                have hrep := hcl.1.cut q5
                obtain ⟨ho1, ho2, ho3⟩ := h.ownBlocks hown
                have halive := slot_alive hown
                have htk : t.take vars (.ref s j rv sv [] lo hi k' :: r) = (((t.put s ((t.at s).kill j)).take vars r).1, .own 0 0 d k' (cut lo hi l) :: ((t.put s ((t.at s).kill j)).take vars r).2) := by
                  simp only [Tr.take, hv, hcell, if_true]
                rw [htk, hat]
                have x1 := Ext.kill (w := w) (e := e) (G := G) s j
                obtain ⟨e', H, Ls', g⟩ := take_ok vars r (h.kill s j) (ht.put ((e.get s).kill j) halive) (hcr.ext x1 hor) hor
                have hsubl : (ownB (.own 0 0 d k' (cut lo hi l)) (cutL k'.size lo hi l.length (G.lt s j))).Sublist (ownB (.own rv sv' d k' l) (G.lt s j)) := by
                  cases d with
                  | true => exact cutL_sublist k' k'.size lo hi l.length (G.lt s j)
                  | false =>
                    simp only [ownB]
                    cases hL : G.lt s j with
                    | node b0 off cap rows =>
                      simp only [cutL]
                      split <;> simp [hdOf]
                    | _ => simp [cutL]
                have hand1 : Hand w e G (e.set s ((e.get s).kill j)) G (ownB (.own 0 0 d k' (cut lo hi l)) (cutL k'.size lo hi l.length (G.lt s j))) := by
                  refine ⟨ho3.sublist hsubl, fun b hb => ?_⟩
                  have hb := hsubl.subset hb
                  obtain ⟨z1, z2⟩ := h.loose hown hb
                  refine ⟨z2, by rw [z1]; simp, h.lt b s z1, fun q => q s ?_⟩
                  have := fpCells_mem (lt := G.lt s) (i := 0) hown (by simpa using hb)
                  simp only [fpS, List.mem_append]
                  right
                  cases hh : (e.get s).sh with
                  | dead => rw [(h.slot s).dead hh] at hown; simp at hown
                  | _ => simpa using this
                have hand := hand1.append x1 g.ext g.hand (fun b hb ho => (x1.loose b hb ho).1) (fun b hb => (g.hand.mem b hb).2.1)
                have hHn : ∀ b ∈ ownB (.own 0 0 d k' (cut lo hi l)) (cutL k'.size lo hi l.length (G.lt s j)) ++ H, G.ow b ≠ none := fun b hb => (hand.mem b hb).2.1
                refine ⟨e', _, fun j' => match j' with | 0 => cutL k'.size lo hi l.length (G.lt s j) | j' + 1 => Ls' j', g.inv, g.tr, x1.trans g.ext, hand, by simp [g.len], fun j' c' v' a b => ?_, ?_⟩
                · cases j' with
                  | zero =>
                    simp only [List.getElem?_cons_zero, Option.some.injEq] at a b
                    subst a b
                    refine ⟨hrep, fun hd b hb => ?_⟩
                    have hin : b ∈ inner k' (G.lt s j) := by
                      cases hL : G.lt s j with
                      | node b0 off cap rows =>
                        rw [hL] at hb
                        simp only [cutL] at hb
                        split at hb
                        · simp [inner] at hb
                        · simp only [inner] at hb ⊢
                          exact (sub_flatMap (cut_sublist _ _ _)).subset hb
                      | _ => rw [hL] at hb; simpa [cutL] using hb
                    have := ho2 hd b hin
                    exact ⟨this, fun q => hHn b q this⟩
                  | succ j' => exact (g.new j' c' v' (by simpa using a) (by simpa using b)).mono hHn
                · simp only [fpCells]
                  rw [fpCells_shift, g.fp]
              · exact stays _ rfl (by simp only [Tr.take, hv, hcell, if_neg hrv])
            | dead => exact stays _ rfl (by simp only [Tr.take, hv, hcell])
            | nil => exact stays _ rfl (by simp only [Tr.take, hv, hcell])
            | dat _ _ => exact stays _ rfl (by simp only [Tr.take, hv, hcell])
            | ref _ _ _ _ _ _ _ _ => exact stays _ rfl (by simp only [Tr.take, hv, hcell])
            | bptr _ _ _ => exact stays _ rfl (by simp only [Tr.take, hv, hcell])
            | aptr _ _ _ _ _ _ _ _ => exact stays _ rfl (by simp only [Tr.take, hv, hcell])
            | pim _ _ => exact stays _ rfl (by simp only [Tr.take, hv, hcell])
            | fn _ _ => exact stays _ rfl (by simp only [Tr.take, hv, hcell])
      | dead => exact stays _ rfl (by simp only [Tr.take])
      | nil => exact stays _ rfl (by simp only [Tr.take])
      | dat _ _ => exact stays _ rfl (by simp only [Tr.take])
      | own _ _ _ _ _ => simp [C.isOwn] at hco
      | bptr _ _ _ => exact stays _ rfl (by simp only [Tr.take])
      | aptr _ _ _ _ _ _ _ _ => exact stays _ rfl (by simp only [Tr.take])
      | pim _ _ => exact stays _ rfl (by simp only [Tr.take])
      | fn _ _ => exact stays _ rfl (by simp only [Tr.take])

end Go.Mach
/- The machine, part i: operations that only compute. No condition: lemmas. -/
namespace Go.Mach
set_option linter.unusedVariables false

theorem wp_value {P : Program} {o : Oper} {a : Act} {w w' : World} {K : Act → World → Prop} {Q : Exit → Act → World → Prop} {u : Value} (h : (execOp a.eval o).run P w = .ok (.value u) w') (hk : K (a.put o.dst u) w') :
    o.wp P a w K Q := by
  unfold Oper.wp
  rw [h]
  exact hk

theorem wp_skip' {P : Program} {o : Oper} {a : Act} {w w' : World} {K : Act → World → Prop} {Q : Exit → Act → World → Prop} (h : (execOp a.eval o).run P w = .ok .skip w') (hk : K (a.put o.dst undef) w') :
    o.wp P a w K Q := by
  unfold Oper.wp
  rw [h]
  exact hk

/-- How a step leaves what is not its own: what nobody owns, and the cells beyond the frame. -/
structure Held (n m : Nat) (w w' : World) (G G' : Gh) : Prop where
  still : Still w w' G.ow G'.ow
  vs : ∀ s, n ≤ s → ((s - n) % 2 = 0 → G'.vs s = G.vs s ∧ ∀ j, hdOf (G'.lt s j) = hdOf (G.lt s j)) ∧ G'.bk s = G.bk s
  out : ∀ b t, G.ow b = some t → m ≤ t → w.heap[b]? ≠ none → w'.heap[b]? = w.heap[b]? ∧ G'.ow b = some t

theorem Held.refl {n m : Nat} {w : World} {G : Gh} : Held n m w w G G := ⟨still_refl, fun _ _ => ⟨fun _ => ⟨rfl, fun _ => rfl⟩, rfl⟩, fun _ _ h _ _ => ⟨rfl, h⟩⟩

theorem Held.trans {n m : Nat} {w w1 w2 : World} {G G1 G2 : Gh} (h : Held n m w w1 G G1) (h' : Held n m w1 w2 G1 G2) : Held n m w w2 G G2 :=
  ⟨fun b q1 q2 => by
    obtain ⟨r1, r2⟩ := h.still b q1 q2
    obtain ⟨r3, r4⟩ := h'.still b r2 (by rw [r1]; exact q2)
    exact ⟨r3.trans r1, r4⟩, fun s hs => ⟨fun q => ⟨((h'.vs s hs).1 q).1.trans ((h.vs s hs).1 q).1, fun j => (((h'.vs s hs).1 q).2 j).trans (((h.vs s hs).1 q).2 j)⟩, (h'.vs s hs).2.trans (h.vs s hs).2⟩, fun b t q1 q2 q3 => by
    obtain ⟨r1, r2⟩ := h.out b t q1 q2 q3
    obtain ⟨r3, r4⟩ := h'.out b t r2 q2 (by rw [r1]; exact q3)
    exact ⟨r3.trans r1, r4⟩⟩

/-- The streams and the rest of the world are as they were. -/
structure SameEnv (w w' : World) : Prop where
  os : w'.os = w.os
  tape : w'.tape = w.tape
  output : w'.output = w.output

theorem SameEnv.refl {w : World} : SameEnv w w := ⟨rfl, rfl, rfl⟩
theorem SameEnv.trans {w w1 w2 : World} (h : SameEnv w w1) (h' : SameEnv w1 w2) : SameEnv w w2 := ⟨h'.os.trans h.os, h'.tape.trans h.tape, h'.output.trans h.output⟩

/-- What stands behind an operation. -/
structure Post (n : Nat) (e' : Env) (a : Act) (w : World) (G : Gh) (a' : Act) (w' : World) (G' : Gh) : Prop where
  inv : Inv n e' a'.tmps w' G'
  held : Held n e'.length w w' G G'
  grows : w.heap.size ≤ w'.heap.size
  defers : a'.defers = a.defers
  env : SameEnv w w'

/-- What lies in the program's tables: blocks that nobody owns, and what is known of them. -/
class Tabs (P : Program) where
  tab : List (Nat × (Obj → Prop))

def Laid (P : Program) [Tabs P] (w : World) (G : Gh) : Prop := ∀ t ∈ Tabs.tab P, (∃ o, w.heap[t.1]? = some o ∧ t.2 o) ∧ G.ow t.1 = none

theorem Laid.still {P : Program} [Tabs P] {w w' : World} {G G' : Gh} (h : Laid P w G) (hs : Still w w' G.ow G'.ow) : Laid P w' G' := by
  intro t ht
  obtain ⟨⟨o, h1, h2⟩, h3⟩ := h t ht
  obtain ⟨q1, q2⟩ := hs t.1 h3 (by rw [h1]; simp)
  exact ⟨⟨o, by rw [q1, h1], h2⟩, q2⟩

theorem Laid.post {P : Program} [Tabs P] {n : Nat} {e : Env} {a a' : Act} {w w' : World} {G G' : Gh} (h : Laid P w G) (hp : Post n e a w G a' w' G') : Laid P w' G' := h.still hp.held.still

theorem put_tmps (a : Act) (d : Nat) (u : Value) : (a.put (some d) u).tmps = a.tmps.setIfInBounds d u := rfl

theorem put_defers (a : Act) (d : Option Nat) (u : Value) : (a.put d u).defers = a.defers := by cases d <;> rfl

theorem put_size (a : Act) (d : Option Nat) (u : Value) : (a.put d u).tmps.size = a.tmps.size := by cases d <;> simp [Act.put]

theorem Ext.still {w : World} {e e' : Env} {G G' : Gh} (x : Ext w e G e' G') : Still w w G.ow G'.ow := fun b h _ => ⟨rfl, x.none b h⟩

theorem Inv.beyond {n : Nat} {e : Env} {tm : Array Value} {w : World} {G : Gh} (h : Inv n e tm w G) {b t : Nat} (hb : G.ow b = some t) (ht : e.length ≤ t) : Loose e G b := by
  intro s hs
  have := (h.slot s).own b hs
  rw [hb] at this
  simp only [Option.some.injEq] at this
  subst this
  rw [get_out (by omega)] at hs
  simp [fpS] at hs

theorem Ext.held {n : Nat} {tm : Array Value} {w : World} {e e' : Env} {G G' : Gh} (x : Ext w e G e' G') (h : Inv n e tm w G) : Held n e.length w w G G' :=
  ⟨x.still, fun s _ => ⟨fun _ => ⟨by rw [x.vs], fun j => by rw [x.lt]⟩, by rw [x.bk]⟩, fun b t h1 h2 _ => ⟨rfl, by rw [(x.loose b (h.beyond h1 h2) (by rw [h1]; simp)).2]; exact h1⟩⟩

theorem Hand.owner {n : Nat} {tm : Array Value} {w : World} {e e' : Env} {G G' : Gh} {H : List Nat} (hd : Hand w e G e' G' H) (h : Inv n e tm w G) (x : Ext w e G e' G') : ∀ b ∈ H, ∀ t, G'.ow b = some t → t < e'.length := by
  intro b hb t ht
  obtain ⟨_, _, _, h4⟩ := hd.mem b hb
  rcases Nat.lt_or_ge t e'.length with q | q
  · exact q
  · exact absurd (h.beyond (x.sub b t ht) (by rw [← x.len]; exact q)) h4

/-- A plain value, laid. -/
theorem lay_quiet {n : Nat} {e0 e : Env} {a : Act} {w : World} {G0 G : Gh} {t : Tr} (h : Inv n e a.tmps w G) (ht : TrOk e0 t e) (hst : Held n e0.length w w G0 G) {v : Val} {u : Value} {vs : List Value} {Ls : Nat → LT}
    (hv : ValOk e w G v u vs Ls) (hd : ∀ d, t.d = some d → d < n) : ∃ G', Post n (e0.puts (t.lay t.d v).ws) a w G0 (a.put t.d u) w G' := by
  cases hdd : t.d with
  | none =>
    simp only [Tr.lay, Act.put]
    rw [ht.puts]
    exact ⟨G, h, by rw [ht.length]; exact hst, Nat.le_refl _, rfl, SameEnv.refl⟩
  | some d =>
    have hdn := hd d hdd
    have hat := ht.dst d hdd
    have hlen : d < e.length := Nat.lt_of_lt_of_le hdn h.elen
    simp only [Tr.lay]
    rw [(ht.put ((t.at d).lay v.1 v.2) hlen).puts, hat]
    have hnoB : boxB v.1 0 = [] := by
      have := hv.sh
      cases hs : v.1 <;> simp_all [boxB]
    have hno : fpCells Ls 0 v.2 = [] := by
      have key : ∀ (cs : List C) (i : Nat), (∀ c ∈ cs, c.isOwn = false) → fpCells Ls i cs = [] := by
        intro cs
        induction cs with
        | nil => intro i _; rfl
        | cons c cs ih => intro i ho; simp only [fpCells]; rw [noOwn_ownB (ho c (by simp)), ih (i + 1) fun c hc => ho c (by simp [hc])]; rfl
      exact key _ _ hv.noOwn
    have := h.lay (w' := w) d v.1 v.2 vs Ls 0 [] (Nat.le_refl _) (fun b _ _ => rfl) (by simp) hv.cells.len (fun j c v' hc hv' => NewOk.ofCell (hv.cells.cell j c v' hc hv') (hv.noOwn c (List.mem_of_getElem? hc)))
      (by rw [hnoB, hno]; simp) (by rw [hnoB, hno]; simp) (fun q => absurd q hv.alive) (fun bv q => absurd q (hv.sh bv)) (a.put (some d) u).tmps (by rw [put_size]; exact h.size)
      (fun t' ht' hn => by rw [put_tmps]; simp [Ne.symm ht'])
      (fun hn => by
        have hu : (a.put (some d) u).tmps[d]? = some (form v.1 vs) := by
          rw [put_tmps, ← hv.form]
          simp [h.size, hdn]
        have h1 := hv.sh
        have h2 := hv.alive
        revert hu h1 h2
        cases v.1 <;> simp [FormIs])
    refine ⟨_, this, ⟨fun b q1 q2 => ?_, fun s hs => ?_, fun b t q1 q2 q3 => ?_⟩, Nat.le_refl _, put_defers _ _ _, SameEnv.refl⟩
    · have := (hst.still b q1 q2).2
      exact ⟨rfl, by simp [Gh.lay, this]⟩
    · rw [show (G.lay d vs Ls 0 []).vs s = G.vs s from upd_ne _ _ (by omega), show (G.lay d vs Ls 0 []).lt s = G.lt s from upd_ne _ _ (by omega), show (G.lay d vs Ls 0 []).bk s = G.bk s from upd_ne _ _ (by omega)]
      exact hst.vs s hs
    · have hl : (e.set d ((e.get d).lay v.1 v.2)).length = e0.length := by rw [List.length_set, ht.length]
      have := (hst.out b t q1 (by rw [← hl]; exact q2) q3).2
      exact ⟨rfl, by simp [Gh.lay, this]⟩

theorem still_id {w : World} {G : Gh} : Still w w G.ow G.ow := still_refl

/-- The operands of an operation lie among the frame's slots. -/
def InB (n : Nat) (o : Oper) : Prop := ∀ t ∈ opSlots o, t < n

theorem InB.opd {n : Nat} {o : Oper} (h : InB n o) {x : Operand} (hx : x ∈ o.op.operands) : ∀ t, x = .tmp t → t < n := by
  rintro t rfl
  refine h t ?_
  simp only [opSlots, List.mem_append]
  right
  exact List.mem_filterMap.2 ⟨.tmp t, by simpa using hx, rfl⟩

theorem InB.dst {n : Nat} {o : Oper} (h : InB n o) : ∀ d, o.dst = some d → d < n := fun d hd => h d (by simp [opSlots, hd])

/-- The state that an operation begins in. -/
structure Begin (n : Nat) (e : Env) (a : Act) (w : World) (G : Gh) (get : Nat → Slot) (o : Oper) : Prop where
  inv : Inv n e a.tmps w G
  sees : Sees get e
  dst : ∀ d, o.dst = some d → get d = e.get d
  inb : InB n o

theorem Begin.tr {n : Nat} {e : Env} {a : Act} {w : World} {G : Gh} {get : Nat → Slot} {o : Oper} (h : Begin n e a w G get o) : TrOk e { get, d := o.dst } e := TrOk.start h.sees h.dst

/-- A plain value is the whole of it. -/
theorem Begin.done {n : Nat} {e : Env} {a : Act} {w : World} {G : Gh} {get : Nat → Slot} {o : Oper} (h : Begin n e a w G get o) {v : Val} {u : Value} {vs : List Value} {Ls : Nat → LT} (hv : ValOk e w G v u vs Ls)
    {ws : Writes} (hws : some (Tr.lay { get, d := o.dst } o.dst v).ws = some ws) : ∃ G', Post n (e.puts ws) a w G (a.put o.dst u) w G' := by
  simp only [Option.some.injEq] at hws
  rw [← hws]
  exact lay_quiet h.inv h.tr Held.refl hv h.inb.dst

theorem Begin.opd {n : Nat} {e : Env} {a : Act} {w : World} {G : Gh} {get : Nat → Slot} {o : Oper} (h : Begin n e a w G get o) {x : Operand} (hx : x ∈ o.op.operands) {v : Val} (hv : opd get x = some v) :
    ∃ vs Ls, ValOk e w G v (a.eval x) vs Ls := opd_ok h.inv h.sees (h.inb.opd hx) hv

theorem Begin.one {n : Nat} {e : Env} {a : Act} {w : World} {G : Gh} {get : Nat → Slot} {o : Oper} (h : Begin n e a w G get o) {x : Operand} (hx : x ∈ o.op.operands) {c : C} (hv : Mach.opd get x = some (.one, [c])) :
    ∃ L, CellOk e w G c (a.eval x) L ∧ c.isOwn = false := opd_one h.inv h.sees (h.inb.opd hx) hv

/-! Plain cells, as values. -/
theorem dat_int {e : Env} {w : World} {G : Gh} {k : IntKind} {m : Int} {v : Value} {L : LT} (h : CellOk e w G (.dat (.int k) m) v L) : v = .int k m := by
  have := h.1
  simp only [Rep] at this
  simpa using this

theorem dat_bool {e : Env} {w : World} {G : Gh} {b : Bool} {v : Value} {L : LT} (h : CellOk e w G (.dat .bool b) v L) : v = .bool b := by
  have := h.1
  simp only [Rep] at this
  simpa using this

theorem dat_str {e : Env} {w : World} {G : Gh} {s : List UInt8} {v : Value} {L : LT} (h : CellOk e w G (.dat .str s) v L) : v = .string ⟨⟨s⟩⟩ := by
  have := h.1
  simp only [Rep] at this
  simpa using this

theorem int_ok (e : Env) (w : World) (G : Gh) (k : IntKind) (m : Int) : CellOk e w G (.dat (.int k) m) (.int k m) .leaf := ⟨by simp [Rep], by simp [fp]⟩
theorem bool_ok (e : Env) (w : World) (G : Gh) (b : Bool) : CellOk e w G (.dat .bool b) (.bool b) .leaf := ⟨by simp [Rep], by simp [fp]⟩
theorem str_ok (e : Env) (w : World) (G : Gh) (s : List UInt8) : CellOk e w G (.dat .str s) (.string ⟨⟨s⟩⟩) .leaf := ⟨by simp [Rep], by simp [fp]⟩

section ops
variable {P : Program} {n : Nat} {e : Env} {a : Act} {w : World} {G : Gh} {get : Nat → Slot} {o : Oper} {x : Ctx} {ws : Writes} {K : Act → World → Prop} {Q : Exit → Act → World → Prop}

/-- An operation is sound. -/
def Sound (P : Program) (n : Nat) (e : Env) (a : Act) (w : World) (G : Gh) (o : Oper) (ws : Writes) : Prop :=
  ∀ (K : Act → World → Prop) (Q : Exit → Act → World → Prop), (∀ a' w' G', Post n (e.puts ws) a w G a' w' G' → K a' w') → o.wp P a w K Q

theorem Sound.value {u : Value} {w' : World} {G' : Gh} (h : (execOp a.eval o).run P w = .ok (.value u) w') (hp : Post n (e.puts ws) a w G (a.put o.dst u) w' G') : Sound P n e a w G o ws :=
  fun K Q hk => wp_value h (hk _ _ _ hp)

theorem sound_move {y : Operand} (hb : Begin n e a w G get o) (ho : o.op = .move y) (h : act x get o = some ws) : Sound P n e a w G o ws := by
  simp only [act, ho] at h
  cases hv : opd get y with
  | none => rw [hv] at h; simp at h
  | some v =>
    rw [hv] at h
    obtain ⟨vs, Ls, hval⟩ := hb.opd (by simp [ho, Op.operands]) hv
    obtain ⟨G', hp⟩ := hb.done hval h
    exact Sound.value (by simp only [execOp, ho]; rfl) hp

theorem sound_pick {y z t : Operand} (hb : Begin n e a w G get o) (ho : o.op = .pick y z t) (h : act x get o = some ws) : Sound P n e a w G o ws := by
  simp only [act, ho] at h
  split at h
  · rename_i hc
    obtain ⟨L, hcell, _⟩ := hb.one (by simp [ho, Op.operands]) hc
    have hcv := dat_bool hcell
    cases hv : opd get z with
    | none => rw [hv] at h; simp at h
    | some v =>
      rw [hv] at h
      obtain ⟨vs, Ls, hval⟩ := hb.opd (by simp [ho, Op.operands]) hv
      obtain ⟨G', hp⟩ := hb.done hval h
      refine Sound.value ?_ hp
      simp only [execOp, ho, hcv, asBool]
      rfl
  · rename_i hc
    obtain ⟨L, hcell, _⟩ := hb.one (by simp [ho, Op.operands]) hc
    have hcv := dat_bool hcell
    cases hv : opd get t with
    | none => rw [hv] at h; simp at h
    | some v =>
      rw [hv] at h
      obtain ⟨vs, Ls, hval⟩ := hb.opd (by simp [ho, Op.operands]) hv
      obtain ⟨G', hp⟩ := hb.done hval h
      refine Sound.value ?_ hp
      simp only [execOp, ho, hcv, asBool]
      rfl
  · simp at h

end ops

end Go.Mach
