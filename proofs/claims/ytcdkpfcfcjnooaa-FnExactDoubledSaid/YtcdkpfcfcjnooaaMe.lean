/- The machine, part e: how slots may be turned. No condition: lemmas. -/
import Derived.Test.YtcdkpfcfcjnooaaMd
namespace Go.Mach
set_option linter.unusedVariables false

theorem get_set (e : Env) (s t : Nat) (x : Slot) : Env.get (e.set s x) t = if t = s ∧ s < e.length then x else e.get t := by
  simp only [Env.get, List.getD_eq_getElem?_getD, List.getElem?_set]
  by_cases h : s = t
  · subst h
    by_cases g : s < e.length
    · simp [g]
    · simp [g]
  · have : ¬ t = s := fun q => h q.symm
    simp [h, this]

theorem get_set_ne {e : Env} {s t : Nat} {x : Slot} (h : t ≠ s) : Env.get (e.set s x) t = e.get t := by
  rw [get_set, if_neg (fun g => h g.1)]

theorem get_set_self {e : Env} {s : Nat} {x : Slot} (h : s < e.length) : Env.get (e.set s x) s = x := by
  rw [get_set, if_pos ⟨rfl, h⟩]

theorem get_out {e : Env} {s : Nat} (h : ¬ s < e.length) : e.get s = {} := by
  simp [Env.get, List.getElem?_eq_none (Nat.le_of_not_lt h)]

theorem set_out {e : Env} {s : Nat} {x : Slot} (h : ¬ s < e.length) : e.set s x = e := by
  apply List.ext_getElem?
  intro i
  rw [List.getElem?_set]
  by_cases g : s = i
  · subst g; simp [h]
  · simp [g]

theorem fpCells_mem {lt : Nat → LT} {b : Nat} : ∀ {cs : List C} {i j : Nat} {c : C}, cs[j]? = some c → b ∈ ownB c (lt (i + j)) → b ∈ fpCells lt i cs
  | [], i, j, c, h, _ => by simp at h
  | a :: cs, i, 0, c, h, hb => by
    simp at h
    subst h
    simp only [fpCells, List.mem_append]
    exact .inl (by simpa using hb)
  | a :: cs, i, j + 1, c, h, hb => by
    simp at h
    simp only [fpCells, List.mem_append]
    exact .inr (fpCells_mem (i := i + 1) h (by rw [show i + 1 + j = i + (j + 1) by omega]; exact hb))

theorem fpCells_of {lt : Nat → LT} {b : Nat} : ∀ {cs : List C} {i : Nat}, b ∈ fpCells lt i cs → ∃ j c, cs[j]? = some c ∧ b ∈ ownB c (lt (i + j))
  | [], i, h => by simp [fpCells] at h
  | a :: cs, i, h => by
    simp only [fpCells, List.mem_append] at h
    rcases h with h | h
    · exact ⟨0, a, rfl, by simpa using h⟩
    · obtain ⟨j, c, h1, h2⟩ := fpCells_of h
      exact ⟨j + 1, c, by simpa using h1, by rw [show i + (j + 1) = i + 1 + j by omega]; exact h2⟩

theorem fpCells_congr {lt lt' : Nat → LT} : ∀ {cs cs' : List C} {i : Nat}, cs'.length = cs.length → (∀ (j : Nat) c c', cs[j]? = some c → cs'[j]? = some c' → ownB c' (lt' (i + j)) = ownB c (lt (i + j))) →
    fpCells lt' i cs' = fpCells lt i cs
  | [], [], _, _, _ => rfl
  | [], _ :: _, _, h, _ => by simp at h
  | _ :: _, [], _, h, _ => by simp at h
  | a :: cs, a' :: cs', i, hl, h => by
    simp only [fpCells]
    have h0 := h 0 a a' rfl rfl
    simp only [Nat.add_zero] at h0
    rw [h0, fpCells_congr (i := i + 1) (by simpa using hl) (fun j c c' hc hc' => by
      have := h (j + 1) c c' (by simpa using hc) (by simpa using hc')
      rw [show i + 1 + j = i + (j + 1) by omega]
      exact this)]

/-- One cell taken out of the sum. -/
theorem fpCells_perm {lt : Nat → LT} : ∀ {cs : List C} {i j : Nat} {c : C}, cs[j]? = some c →
    ∃ rest, (fpCells lt i cs).Perm (ownB c (lt (i + j)) ++ rest) ∧ ∀ (lt' : Nat → LT) (c' : C), (∀ m, m ≠ i + j → lt' m = lt m) → (fpCells lt' i (cs.set j c')).Perm (ownB c' (lt' (i + j)) ++ rest)
  | [], i, j, c, h => by simp at h
  | a :: cs, i, 0, c, h => by
    simp at h
    subst h
    refine ⟨fpCells lt (i + 1) cs, by simp [fpCells], fun lt' c' hl => ?_⟩
    simp only [List.set_cons_zero, fpCells, Nat.add_zero]
    rw [fpCells_congr (lt := lt) (lt' := lt') (cs := cs) (cs' := cs) rfl (fun j c c' hc hc' => by
      rw [hc] at hc'; simp at hc'; subst hc'; rw [hl _ (by omega)])]
  | a :: cs, i, j + 1, c, h => by
    simp at h
    obtain ⟨rest, p1, p2⟩ := fpCells_perm (lt := lt) (i := i + 1) h
    have e : i + 1 + j = i + (j + 1) := by omega
    rw [e] at p1 p2
    refine ⟨ownB a (lt i) ++ rest, ?_, fun lt' c' hl => ?_⟩
    · simp only [fpCells]
      refine (p1.append_left _).trans ?_
      rw [← List.append_assoc, ← List.append_assoc]
      exact List.perm_append_comm.append_right _
    · simp only [List.set_cons_succ, fpCells]
      rw [hl i (by omega)]
      refine ((p2 lt' c' hl).append_left _).trans ?_
      rw [← List.append_assoc, ← List.append_assoc]
      exact List.perm_append_comm.append_right _

theorem SlotOk.nothing {n : Nat} {e : Env} {tm : Array Value} {w : World} {G : Gh} {s : Nat} (h : e.get s = {}) : SlotOk n e tm w G s := by
  refine ⟨?_, ?_, ?_, ?_, ?_, ?_, ?_, ?_⟩ <;> rw [h]
  · intro _; trivial
  · intro bv hb; cases hb
  · intro hh; exact absurd rfl hh
  · intro hh; exact absurd rfl hh
  · intro hh; exact absurd rfl hh
  · simp [fpS]
  · simp [fpS]
  · intro _; rfl

/-- One slot turned. -/
theorem Inv.turn {n : Nat} {e : Env} {tm tm' : Array Value} {w w' : World} {G G' : Gh} (h : Inv n e tm w G) (s : Nat) (x : Slot) (hsz : tm'.size = n)
    (hG : ∀ t, t ≠ s → G'.vs t = G.vs t ∧ (∀ j, G'.lt t j = G.lt t j) ∧ G'.bk t = G.bk t) (htm : ∀ t, t ≠ s → t < n → tm'[t]? = tm[t]?)
    (hTM : s < e.length → TM e (e.set s x) G G' s) (hst : Still w w' G.ow G'.ow)
    (hown : ∀ t, t ≠ s → ∀ b ∈ fpS G t (e.get t), w'.heap[b]? = w.heap[b]? ∧ G'.ow b = some t)
    (hself : s < e.length → SlotOk n (e.set s x) tm' w' G' s) (hlt : ∀ b t, G'.ow b = some t → b < w'.heap.size) : Inv n (e.set s x) tm' w' G' := by
  by_cases hs : s < e.length
  · have ht : ∀ t, TM e (e.set s x) G G' t := fun t => by
      by_cases g : t = s
      · subst g; exact hTM hs
      · exact TM.refl (get_set_ne g) (hG t g).2.1 (hG t g).2.2
    refine ⟨hsz, by simpa using h.elen, fun t => ?_, hlt⟩
    by_cases g : t = s
    · subst g; exact hself hs
    · obtain ⟨g1, g2, g3⟩ := hG t g
      exact (h.slot t).frame (get_set_ne g) (htm t g) g1 g2 g3 ht hst (hown t g)
  · rw [set_out hs]
    have ht : ∀ t, TM e e G G' t := fun t => by
      by_cases g : t = s
      · subst g
        have := get_out hs
        refine TM.fresh (Nat.le_refl _) ?_ ?_
        · intro j rv sv d k l hh; rw [this] at hh; simp at hh
        · intro bv hh; rw [this] at hh; cases hh
      · exact TM.refl rfl (hG t g).2.1 (hG t g).2.2
    refine ⟨hsz, h.elen, fun t => ?_, hlt⟩
    by_cases g : t = s
    · subst g; exact SlotOk.nothing (get_out hs)
    · obtain ⟨g1, g2, g3⟩ := hG t g
      exact (h.slot t).frame rfl (htm t g) g1 g2 g3 ht hst (hown t g)

/-- Nobody's block, though somebody's by the book. -/
def Loose (e : Env) (G : Gh) (b : Nat) : Prop := ∀ t, b ∉ fpS G t (e.get t)

theorem still_refl {w : World} {ow : Nat → Option Nat} : Still w w ow ow := fun b h1 h2 => ⟨rfl, h1⟩

theorem getD_set_ne {cs : List C} {i j : Nat} {c d : C} (h : i ≠ j) : (cs.set j c).getD i d = cs.getD i d := by
  simp [List.getD_eq_getElem?_getD, Ne.symm h]

theorem getD_some {cs : List C} {j : Nat} {c : C} (h : cs[j]? = some c) (d : C) : cs.getD j d = c := by
  simp [List.getD_eq_getElem?_getD, h]

theorem some_of_getD {cs : List C} {j : Nat} {c : C} (h : cs.getD j .dead = c) (hc : c ≠ .dead) : cs[j]? = some c := by
  rw [List.getD_eq_getElem?_getD] at h
  cases g : cs[j]? with
  | none => rw [g] at h; exact absurd h.symm hc
  | some y => rw [g] at h; simp at h; rw [h]

/-- A cell given up. -/
theorem Inv.kill {n : Nat} {e : Env} {tm : Array Value} {w : World} {G : Gh} (h : Inv n e tm w G) (s j : Nat) : Inv n (e.set s ((e.get s).kill j)) tm w G := by
  have hk : ∀ i c, ((e.get s).kill j).cs[i]? = some c → c = .dead ∨ ((e.get s).cs[i]? = some c ∧ i ≠ j) := by
    intro i c hc
    simp only [Slot.kill, List.getElem?_set] at hc
    by_cases g : j = i
    · subst g
      simp at hc
      exact .inl hc.2.symm
    · rw [if_neg g] at hc
      exact .inr ⟨hc, fun q => g q.symm⟩
  have hs := h.slot s
  have hfp : (fpCells (G.lt s) 0 ((e.get s).kill j).cs).Sublist (fpCells (G.lt s) 0 (e.get s).cs) := by
    have key : ∀ (cs : List C) (i j : Nat), (fpCells (G.lt s) i (cs.set j .dead)).Sublist (fpCells (G.lt s) i cs) := by
      intro cs
      induction cs with
      | nil => intro i j; simp [fpCells]
      | cons a cs ih =>
        intro i j
        cases j with
        | zero => simp only [List.set_cons_zero, fpCells, ownB, List.nil_append]; exact List.sublist_append_right _ _
        | succ j => simp only [List.set_cons_succ, fpCells]; exact (ih (i + 1) j).append_left _
    exact key _ 0 j
  have hfpS : (fpS G s ((e.get s).kill j)).Sublist (fpS G s (e.get s)) := by
    simp only [fpS, Slot.kill] at hfp ⊢
    refine List.Sublist.append (List.Sublist.refl _) ?_
    cases (e.get s).sh <;> first | exact List.Sublist.refl _ | exact hfp
  refine h.turn s _ h.size (fun t _ => ⟨rfl, fun _ => rfl, rfl⟩) (fun t _ _ => rfl) (fun hlen => ?_) still_refl (fun t _ b hb => ⟨rfl, (h.slot t).own b hb⟩) (fun hlen => ?_) h.lt
  · refine ⟨by rw [get_set_self hlen]; exact Nat.le_refl _, ?_, ?_⟩
    · intro i rv sv d k l h1 h2
      rw [get_set_self hlen] at h1
      have h3 := hk i _ (some_of_getD h1 (by simp))
      rcases h3 with h3 | ⟨h3, _⟩
      · cases h3
      · exact ⟨sv, d, l, getD_some h3 _, fun _ _ _ q => q, fun hd _ => ⟨rfl, hd, fun _ _ _ _ q => q⟩⟩
    · intro bv h1 _
      rw [get_set_self hlen] at h1
      exact ⟨h1, rfl⟩
  · have hT : ∀ t, TM e (e.set s ((e.get s).kill j)) G G t := fun t => by
      by_cases g : t = s
      · subst g
        refine ⟨by rw [get_set_self hlen]; exact Nat.le_refl _, ?_, ?_⟩
        · intro i rv sv d k l h1 h2
          rw [get_set_self hlen] at h1
          have h3 := hk i _ (some_of_getD h1 (by simp))
          rcases h3 with h3 | ⟨h3, _⟩
          · cases h3
          · exact ⟨sv, d, l, getD_some h3 _, fun _ _ _ q => q, fun hd _ => ⟨rfl, hd, fun _ _ _ _ q => q⟩⟩
        · intro bv h1 _
          rw [get_set_self hlen] at h1
          exact ⟨h1, rfl⟩
      · exact TM.refl (get_set_ne g) (fun _ => rfl) rfl
    refine ⟨?_, ?_, ?_, ?_, ?_, ?_, ?_, ?_⟩ <;> rw [get_set_self hlen]
    · exact hs.form
    · exact hs.box
    · intro hh
      have := hs.len hh
      simpa [Slot.kill] using this
    · intro hh i c v hc hv
      rcases hk i c hc with rfl | ⟨hc, _⟩
      · trivial
      · exact (hs.cells hh i c v hc hv).frame hT still_refl fun b _ => rfl
    · intro hh i rv sv d k l hc
      rcases hk i _ hc with hc | ⟨hc, _⟩
      · cases hc
      · exact hs.vers hh i rv sv d k l hc
    · exact hs.nodup.sublist hfpS
    · exact fun b hb => hs.own b (hfpS.subset hb)
    · intro hh
      simp only [Slot.kill] at hh ⊢
      simp [hs.dead hh]

/-- What a cell that was given up owned is loose. -/
theorem Inv.loose {n : Nat} {e : Env} {tm : Array Value} {w : World} {G : Gh} (h : Inv n e tm w G) {s j : Nat} {c : C} (hc : (e.get s).cs[j]? = some c) {b : Nat} (hb : b ∈ ownB c (G.lt s j)) :
    G.ow b = some s ∧ Loose (e.set s ((e.get s).kill j)) G b := by
  have hs := h.slot s
  have hsh : (e.get s).sh ≠ .dead := fun q => by rw [hs.dead q] at hc; simp at hc
  have hlen : s < e.length := by
    rcases Nat.lt_or_ge s e.length with g | g
    · exact g
    · rw [get_out (by omega)] at hc; simp at hc
  have hmem : b ∈ fpS G s (e.get s) := by
    simp only [fpS, List.mem_append]
    right
    have := fpCells_mem (lt := G.lt s) (i := 0) hc (by simpa using hb)
    cases hh : (e.get s).sh <;> simp_all
  have how := hs.own b hmem
  refine ⟨how, fun t ht => ?_⟩
  by_cases g : t = s
  · subst g
    rw [get_set_self hlen] at ht
    obtain ⟨rest, p1, p2⟩ := fpCells_perm (lt := G.lt t) (i := 0) hc
    have p2 := p2 (G.lt t) .dead (fun _ _ => rfl)
    have hnd := hs.nodup
    simp only [fpS, List.mem_append] at ht hnd
    have key : ((match (e.get t).sh with | .box _ => [G.bk t] | _ => []) ++ fpCells (G.lt t) 0 (e.get t).cs).Nodup := by
      cases hh : (e.get t).sh <;> simp_all
    have hin : b ∈ (match (e.get t).sh with | .box _ => [G.bk t] | _ => []) ++ rest := by
      rcases ht with ht | ht
      · simp only [List.mem_append]; exact .inl ht
      · have : b ∈ fpCells (G.lt t) 0 ((e.get t).cs.set j .dead) := by
          simp only [Slot.kill] at ht
          cases hh : (e.get t).sh <;> simp_all
        have := p2.mem_iff.1 this
        simp only [ownB, List.nil_append] at this
        simp only [List.mem_append]; exact .inr this
    have hp : ((match (e.get t).sh with | .box _ => [G.bk t] | _ => []) ++ fpCells (G.lt t) 0 (e.get t).cs).Perm (ownB c (G.lt t (0 + j)) ++ ((match (e.get t).sh with | .box _ => [G.bk t] | _ => []) ++ rest)) := by
      refine (p1.append_left _).trans ?_
      rw [← List.append_assoc, ← List.append_assoc]
      exact List.perm_append_comm.append_right _
    have hnd2 := hp.nodup_iff.1 key
    rw [List.nodup_append] at hnd2
    exact hnd2.2.2 b (by simpa using hb) b hin rfl
  · rw [get_set_ne g] at ht
    have := (h.slot t).own b ht
    rw [how] at this
    simp at this
    exact g this.symm

/-- Where a new value is laid: its cells, but for what they own. -/
def layC (r : Nat) : C → C
  | .own _ _ d k l => .own r 0 d k l
  | c => c

theorem lay_cs (x : Slot) (sh : Sh) (cs : List C) : (x.lay sh cs).cs = cs.map (layC x.cnt) := by
  simp only [Slot.lay]
  congr 1

theorem ownB_lay (r : Nat) (c : C) (L : LT) : ownB (layC r c) L = ownB c L := by
  cases c with
  | own _ _ d k l => cases d <;> rfl
  | _ => rfl

def upd {α : Type} (f : Nat → α) (s : Nat) (a : α) : Nat → α := fun t => if t = s then a else f t

theorem upd_self {α : Type} (f : Nat → α) (s : Nat) (a : α) : upd f s a s = a := by simp [upd]
theorem upd_ne {α : Type} (f : Nat → α) {s t : Nat} (a : α) (h : t ≠ s) : upd f s a t = f t := by simp [upd, h]

/-- The ghost behind a new value in slot d, which takes the blocks H over. -/
def Gh.lay (G : Gh) (d : Nat) (vs : List Value) (lt : Nat → LT) (bk : Nat) (H : List Nat) : Gh :=
  { vs := upd G.vs d vs, lt := upd G.lt d lt, bk := upd G.bk d bk, ow := fun b => if b ∈ H then some d else G.ow b }

/-- A cell of a new value: what it owns lies in H. -/
def NewOk (e : Env) (w : World) (G : Gh) (w' : World) (H : List Nat) (c : C) (v : Value) (L : LT) : Prop :=
  match c with
  | .own _ _ d k l => RepL true w' k.size (Rep d w' k) l L v ∧ (d = false → ∀ b ∈ inner k L, G.ow b = none ∧ b ∉ H)
  | c => CellOk e w G c v L

def boxB (sh : Sh) (bk : Nat) : List Nat := match sh with
  | .box _ => [bk]
  | _ => []

theorem Inv.lay {n : Nat} {e : Env} {tm : Array Value} {w w' : World} {G : Gh} (h : Inv n e tm w G) (d : Nat) (sh : Sh) (cs : List C) (vs : List Value) (lt : Nat → LT) (bk : Nat) (H : List Nat)
    (hsize : w.heap.size ≤ w'.heap.size) (hsame : ∀ b, b ∉ H → w.heap[b]? ≠ none → w'.heap[b]? = w.heap[b]?)
    (hH : ∀ b ∈ H, Loose e G b ∧ (G.ow b ≠ none ∨ w.heap[b]? = none) ∧ b < w'.heap.size)
    (hlen : vs.length = cs.length) (hcell : ∀ (j : Nat) c v, cs[j]? = some c → vs[j]? = some v → NewOk e w G w' H c v (lt j))
    (hnd : (boxB sh bk ++ fpCells lt 0 cs).Nodup) (hsub : ∀ b ∈ boxB sh bk ++ fpCells lt 0 cs, b ∈ H)
    (hdead : sh = .dead → cs = [])
    (hbox : ∀ bv, sh = .box bv → ∃ ty, w'.heap[bk]? = some (.cells vs.toArray ty (0, 0)))
    (tm' : Array Value) (htsz : tm'.size = n) (htm : ∀ t, t ≠ d → t < n → tm'[t]? = tm[t]?)
    (hform : d < n → FormIs tm' d sh vs bk) :
    Inv n (e.set d ((e.get d).lay sh cs)) tm' w' (G.lay d vs lt bk H) := by
  have hst : Still w w' G.ow (G.lay d vs lt bk H).ow := fun b h1 h2 => by
    have : b ∉ H := fun hb => by
      rcases (hH b hb).2.1 with q | q
      · exact q h1
      · exact h2 q
    exact ⟨hsame b this h2, by simp [Gh.lay, this, h1]⟩
  have hTM : d < e.length → TM e (e.set d ((e.get d).lay sh cs)) G (G.lay d vs lt bk H) d := fun hl => by
    refine TM.fresh (by rw [get_set_self hl]; simp [Slot.lay]) ?_ ?_
    · intro j rv sv d' k l hh
      rw [get_set_self hl, lay_cs] at hh
      have := some_of_getD hh (by simp)
      rw [List.getElem?_map] at this
      cases g : cs[j]? with
      | none => rw [g] at this; simp at this
      | some c =>
        rw [g] at this
        simp only [Option.map_some, Option.some.injEq] at this
        cases c with
        | own _ _ _ _ _ => simp only [layC, C.own.injEq] at this; omega
        | _ => simp [layC] at this
    · intro bv hh
      rw [get_set_self hl] at hh
      cases sh <;> simp [Slot.lay] at hh
      omega
  have hT : d < e.length → ∀ t, TM e (e.set d ((e.get d).lay sh cs)) G (G.lay d vs lt bk H) t := fun hl t => by
    by_cases g : t = d
    · subst g; exact hTM hl
    · exact TM.refl (get_set_ne g) (fun j => by simp [Gh.lay, upd_ne _ _ g]) (by simp [Gh.lay, upd_ne _ _ g])
  refine h.turn d _ htsz (fun t g => ⟨by simp [Gh.lay, upd_ne _ _ g], fun j => by simp [Gh.lay, upd_ne _ _ g], by simp [Gh.lay, upd_ne _ _ g]⟩) htm hTM hst ?_ ?_ ?_
  · intro t g b hb
    have hbH : b ∉ H := fun q => (hH b q).1 t hb
    have how := (h.slot t).own b hb
    refine ⟨hsame b hbH ?_, by simp [Gh.lay, hbH, how]⟩
    have := h.lt b t how
    simp [Array.getElem?_eq_getElem this]
  · intro hl
    have hT := hT hl
    have hfp : fpCells lt 0 (cs.map (layC (e.get d).cnt)) = fpCells lt 0 cs := fpCells_congr (by simp) fun j c c' hc hc' => by
      rw [List.getElem?_map, hc] at hc'
      simp at hc'
      subst hc'
      exact ownB_lay _ _ _
    have hfpS : fpS (G.lay d vs lt bk H) d ((e.get d).lay sh cs) = boxB sh bk ++ fpCells lt 0 cs := by
      simp only [fpS, lay_cs]
      cases sh <;> simp_all [Slot.lay, Gh.lay, upd_self, boxB, fpCells]
    refine ⟨?_, ?_, ?_, ?_, ?_, ?_, ?_, ?_⟩ <;> rw [get_set_self hl]
    · intro hn
      have := hform hn
      cases sh <;> simp_all [FormIs, Slot.lay, Gh.lay, upd_self]
    · intro bv hb
      cases sh with
      | box b0 =>
        simp only [Slot.lay, Sh.box.injEq] at hb
        subst hb
        obtain ⟨ty, hty⟩ := hbox b0 rfl
        exact ⟨by simp [Slot.lay], ty, by simpa [Gh.lay, upd_self] using hty⟩
      | _ => simp [Slot.lay] at hb
    · intro _
      simp [lay_cs, Gh.lay, upd_self, hlen]
    · intro _ j c v hc hv
      rw [lay_cs, List.getElem?_map] at hc
      simp only [Gh.lay, upd_self] at hv
      cases g : cs[j]? with
      | none => rw [g] at hc; simp at hc
      | some c0 =>
        rw [g] at hc
        simp only [Option.map_some, Option.some.injEq] at hc
        have := hcell j c0 v g hv
        simp only [Gh.lay, upd_self]
        cases c0 with
        | own r1 r2 d' k l =>
          simp only [layC] at hc
          subst hc
          obtain ⟨a1, a2⟩ := this
          refine ⟨a1, fun hd b hb => ?_⟩
          have := a2 hd b hb
          simp [this.2, this.1]
        | dead => subst hc; trivial
        | nil => subst hc; exact (CellOk.frame (c := .nil) (v := v) (L := lt j) this hT hst fun b hb => by simp [ownB] at hb)
        | dat k x => subst hc; exact (CellOk.frame (c := .dat k x) this hT hst fun b hb => by simp [ownB] at hb)
        | ref _ _ _ _ _ _ _ _ => subst hc; exact (CellOk.frame (c := .ref ..) (v := v) (L := lt j) this hT hst fun b hb => by simp [ownB] at hb)
        | bptr _ _ _ => subst hc; exact (CellOk.frame (c := .bptr ..) (v := v) (L := lt j) this hT hst fun b hb => by simp [ownB] at hb)
        | aptr _ _ _ _ _ _ _ _ => subst hc; exact (CellOk.frame (c := .aptr ..) (v := v) (L := lt j) this hT hst fun b hb => by simp [ownB] at hb)
        | pim _ _ => subst hc; exact (CellOk.frame (c := .pim ..) (v := v) (L := lt j) this hT hst fun b hb => by simp [ownB] at hb)
        | fn _ _ => subst hc; exact (CellOk.frame (c := .fn ..) (v := v) (L := lt j) this hT hst fun b hb => by simp [ownB] at hb)
    · intro _ j rv sv d' k l hc
      rw [lay_cs, List.getElem?_map] at hc
      cases g : cs[j]? with
      | none => rw [g] at hc; simp at hc
      | some c0 =>
        rw [g] at hc
        simp only [Option.map_some, Option.some.injEq] at hc
        cases c0 with
        | own _ _ _ _ _ => simp only [layC, C.own.injEq] at hc; simp [Slot.lay]; omega
        | _ => simp [layC] at hc
    · rw [hfpS]; exact hnd
    · rw [hfpS]; intro b hb; simp [Gh.lay, hsub b hb]
    · intro hh
      cases sh <;> simp_all [Slot.lay]
  · intro b t hb
    simp only [Gh.lay] at hb
    by_cases q : b ∈ H
    · exact (hH b q).2.2
    · rw [if_neg q] at hb
      exact Nat.lt_of_lt_of_le (h.lt b t hb) hsize

/-- The ghost behind an owned list that was turned where it lies: blocks H come in, blocks F are frozen. -/
def Gh.turn (G : Gh) (s j : Nat) (L : LT) (H F : List Nat) : Gh :=
  { vs := G.vs, lt := upd G.lt s (upd (G.lt s) j L), bk := G.bk, ow := fun b => if b ∈ F then none else if b ∈ H then some s else G.ow b }

/-- An owned list, turned where it lies. -/
theorem Inv.own {n : Nat} {e : Env} {tm : Array Value} {w w' : World} {G : Gh} (h : Inv n e tm w G) {s j rv sv : Nat} {d : Bool} {k : K} {l : List k.T} {v : Value}
    (hc : (e.get s).cs[j]? = some (.own rv sv d k l)) (hv : (G.vs s)[j]? = some v) (sv' cnt' : Nat) (d' : Bool) (l' : List k.T) (L : LT) (H F : List Nat)
    (hsize : w.heap.size ≤ w'.heap.size) (hsame : ∀ b, b ∉ ownB (.own rv sv d k l) (G.lt s j) → b ∉ H → w.heap[b]? ≠ none → w'.heap[b]? = w.heap[b]?)
    (hH : ∀ b ∈ H, Loose e G b ∧ (G.ow b ≠ none ∨ w.heap[b]? = none) ∧ b < w'.heap.size)
    (hrep : RepL true w' k.size (Rep d' w' k) l' L v)
    (hsub : ∀ b ∈ ownB (.own rv sv' d' k l') L, b ∈ ownB (.own rv sv d k l) (G.lt s j) ∨ b ∈ H) (hnd : (ownB (.own rv sv' d' k l') L).Nodup)
    (hF : ∀ b ∈ F, (b ∈ ownB (.own rv sv d k l) (G.lt s j) ∨ b ∈ H) ∧ b ∉ ownB (.own rv sv' d' k l') L)
    (hin : d' = false → ∀ b ∈ inner k L, (G.ow b = none ∧ b ∉ H) ∨ b ∈ F)
    (hlen : l'.length = l.length) (hhd : hdOf L = hdOf (G.lt s j))
    (hvers : (sv' = sv ∧ cnt' = (e.get s).cnt ∧ (d' = true → d = true ∧ ∀ p k1 n hd, Loc k l (G.lt s j) p k1 n hd → Loc k l' L p k1 n hd)) ∨ (sv' = (e.get s).cnt ∧ cnt' = (e.get s).cnt + 1)) :
    Inv n (e.set s { e.get s with cs := (e.get s).cs.set j (.own rv sv' d' k l'), cnt := cnt' }) tm w' (G.turn s j L H F) := by
  have hs := h.slot s
  have hsh : (e.get s).sh ≠ .dead := fun q => by rw [hs.dead q] at hc; simp at hc
  have hjl : j < (e.get s).cs.length := by
    rcases Nat.lt_or_ge j (e.get s).cs.length with g | g
    · exact g
    · rw [List.getElem?_eq_none g] at hc; simp at hc
  have hcnt : (e.get s).cnt ≤ cnt' := by rcases hvers with ⟨_, q, _⟩ | ⟨_, q⟩ <;> omega
  have hold : ∀ b ∈ ownB (.own rv sv d k l) (G.lt s j), b ∈ fpS G s (e.get s) := fun b hb => by
    simp only [fpS, List.mem_append]
    right
    have := fpCells_mem (lt := G.lt s) (i := 0) hc (by simpa using hb)
    cases hh : (e.get s).sh <;> simp_all
  have hst : Still w w' G.ow (G.turn s j L H F).ow := fun b h1 h2 => by
    have q1 : b ∉ ownB (.own rv sv d k l) (G.lt s j) := fun hb => by
      have := hs.own b (hold b hb); rw [h1] at this; simp at this
    have q2 : b ∉ H := fun hb => by
      rcases (hH b hb).2.1 with q | q
      · exact q h1
      · exact h2 q
    exact ⟨hsame b q1 q2 h2, by simp [Gh.turn, q2, h1]⟩
  have hvs := hs.vers hsh j rv sv d k l hc
  have hTM : s < e.length → TM e (e.set s { e.get s with cs := (e.get s).cs.set j (.own rv sv' d' k l'), cnt := cnt' }) G (G.turn s j L H F) s := fun hl => by
    refine ⟨by rw [get_set_self hl]; exact hcnt, ?_, ?_⟩
    · intro i rv1 sv1 d1 k1 l1 h1 h2
      rw [get_set_self hl] at h1
      by_cases g : i = j
      · subst g
        have : (((e.get s).cs.set i (.own rv sv' d' k l')).getD i .dead) = .own rv sv' d' k l' := getD_some (by simp [hjl]) _
        simp only at h1
        rw [this] at h1
        simp only [C.own.injEq] at h1
        obtain ⟨rfl, rfl, rfl, rfl, hll⟩ := h1
        have hll := eq_of_heq hll
        subst hll
        refine ⟨sv, d, l, getD_some hc _, ?_, ?_⟩
        · rintro k1 n1 hd ⟨a1, a2, a3, a4⟩
          exact ⟨trivial, a2, by simpa [getP, hlen] using a3, by simpa [subL, Gh.turn, upd_self, hhd] using a4⟩
        · intro hd' hlt
          rcases hvers with ⟨q1, q2, q3⟩ | ⟨q1, q2⟩
          · obtain ⟨q4, q5⟩ := q3 hd'
            exact ⟨q1.symm, q4, fun p k1 n1 hd hh => by simpa [Gh.turn, upd_self] using q5 p k1 n1 hd hh⟩
          · omega
      · simp only at h1
        rw [getD_set_ne g] at h1
        refine ⟨sv1, d1, l1, h1, fun k n hd hh => ?_, fun hd _ => ⟨rfl, hd, fun p k n hd hh => ?_⟩⟩
        · simpa [Gh.turn, upd_self, upd_ne _ _ g] using hh
        · simpa [Gh.turn, upd_self, upd_ne _ _ g] using hh
    · intro bv h1 _
      rw [get_set_self hl] at h1
      exact ⟨h1, rfl⟩
  have hT : s < e.length → ∀ t, TM e (e.set s { e.get s with cs := (e.get s).cs.set j (.own rv sv' d' k l'), cnt := cnt' }) G (G.turn s j L H F) t := fun hl t => by
    by_cases g : t = s
    · subst g; exact hTM hl
    · exact TM.refl (get_set_ne g) (fun j => by simp [Gh.turn, upd_ne _ _ g]) rfl
  have hfar : ∀ b, b ∉ ownB (.own rv sv d k l) (G.lt s j) → b ∉ H → ∀ t, G.ow b = some t → w'.heap[b]? = w.heap[b]? ∧ (G.turn s j L H F).ow b = some t := fun b q1 q2 t q3 => by
    have hF' : b ∉ F := fun q => by
      rcases (hF b q).1 with q | q
      · exact q1 q
      · exact q2 q
    refine ⟨hsame b q1 q2 ?_, by simp [Gh.turn, hF', q2, q3]⟩
    have := h.lt b t q3
    simp [Array.getElem?_eq_getElem this]
  obtain ⟨rest, p1, p2⟩ := fpCells_perm (lt := G.lt s) (i := 0) hc
  have p2 := p2 (upd (G.lt s) j L) (.own rv sv' d' k l') (fun m hm => upd_ne _ _ (by omega))
  simp only [Nat.zero_add, upd_self] at p1 p2
  have hnd0 : (boxB (e.get s).sh (G.bk s) ++ (ownB (.own rv sv d k l) (G.lt s j) ++ rest)).Nodup := by
    have := hs.nodup
    have q : (boxB (e.get s).sh (G.bk s) ++ fpCells (G.lt s) 0 (e.get s).cs).Nodup := by
      simp only [fpS] at this
      cases hh : (e.get s).sh <;> simp_all [boxB]
    exact ((p1.append_left _).nodup_iff).1 q
  have hown0 : ∀ b ∈ boxB (e.get s).sh (G.bk s) ++ (ownB (.own rv sv d k l) (G.lt s j) ++ rest), b ∈ fpS G s (e.get s) := by
    intro b hb
    have : b ∈ boxB (e.get s).sh (G.bk s) ++ fpCells (G.lt s) 0 (e.get s).cs := ((p1.append_left _).mem_iff).2 hb
    simp only [fpS]
    cases hh : (e.get s).sh <;> simp_all [boxB]
  have hrest : ∀ b ∈ boxB (e.get s).sh (G.bk s) ++ rest, b ∉ ownB (.own rv sv d k l) (G.lt s j) ∧ b ∉ H := by
    intro b hb
    constructor
    · intro q
      rw [List.mem_append] at hb
      rw [List.nodup_append] at hnd0
      rcases hb with hb | hb
      · exact hnd0.2.2 b hb b (by simp [q]) rfl
      · have := hnd0.2.1
        rw [List.nodup_append] at this
        exact this.2.2 b q b hb rfl
    · intro q
      exact (hH b q).1 s (hown0 b (by simp only [List.mem_append] at hb ⊢; rcases hb with hb | hb <;> simp [hb]))
  refine h.turn s _ h.size (fun t g => ⟨rfl, fun i => by simp [Gh.turn, upd_ne _ _ g], rfl⟩) (fun _ _ _ => rfl) hTM hst ?_ ?_ ?_
  · intro t g b hb
    have how := (h.slot t).own b hb
    refine hfar b (fun q => ?_) (fun q => (hH b q).1 t hb) t how
    have := hs.own b (hold b q)
    rw [how] at this
    simp at this
    exact g this
  · intro hl
    have hT := hT hl
    have hfpS : fpS (G.turn s j L H F) s { e.get s with cs := (e.get s).cs.set j (.own rv sv' d' k l'), cnt := cnt' } = boxB (e.get s).sh (G.bk s) ++ fpCells (upd (G.lt s) j L) 0 ((e.get s).cs.set j (.own rv sv' d' k l')) := by
      simp only [fpS, Gh.turn, upd_self]
      cases hh : (e.get s).sh <;> simp_all [boxB]
    refine ⟨?_, ?_, ?_, ?_, ?_, ?_, ?_, ?_⟩ <;> rw [get_set_self hl]
    · exact hs.form
    · intro bv hb
      obtain ⟨g1, ty, g2⟩ := hs.box bv hb
      refine ⟨by simp only; omega, ty, ?_⟩
      have hbm : G.bk s ∈ boxB (e.get s).sh (G.bk s) ++ rest := by simp only at hb; rw [hb]; simp [boxB]
      have := hrest _ hbm
      have how := hs.own (G.bk s) (hown0 _ (by simp only at hb; rw [hb]; simp [boxB]))
      simp only [Gh.turn]
      rw [(hfar _ this.1 this.2 s how).1]
      exact g2
    · intro _
      have := hs.len hsh
      simp [Gh.turn, this]
    · intro _ i c u hc' hu
      simp only [Gh.turn] at hu
      by_cases g : i = j
      · subst g
        simp only at hc'
        rw [List.getElem?_set_self hjl] at hc'
        simp only [Option.some.injEq] at hc'
        subst hc'
        rw [hv] at hu
        simp only [Option.some.injEq] at hu
        subst hu
        simp only [CellOk, CellOk0, Gh.turn, upd_self]
        refine ⟨hrep, fun hd b hb => ?_⟩
        rcases hin hd b hb with q | q
        · by_cases qF : b ∈ F <;> simp [qF, q.1, q.2]
        · simp [q]
      · simp only at hc'
        rw [List.getElem?_set_ne (fun q => g q.symm)] at hc'
        have := hs.cells hsh i c u hc' hu
        simp only [Gh.turn, upd_self, upd_ne _ _ g]
        refine this.frame hT hst fun b hb => ?_
        have hbr : b ∈ rest := by
          have h1 : b ∈ fpCells (upd (G.lt s) j L) 0 ((e.get s).cs.set j (.own rv sv' d' k l')) :=
            fpCells_mem (j := i) (c := c) (by rw [List.getElem?_set_ne (fun q => g q.symm)]; exact hc') (by simpa [upd_ne _ _ g] using hb)
          have h2 : b ∈ fpCells (G.lt s) 0 (e.get s).cs := fpCells_mem hc' (by simpa using hb)
          rw [p1.mem_iff, List.mem_append] at h2
          rcases h2 with h2 | h2
          · -- owned by both: nodup
            exfalso
            obtain ⟨rest', r1, r2⟩ := fpCells_perm (lt := G.lt s) (i := 0) hc'
            have r2 := r2 (G.lt s) .dead (fun _ _ => rfl)
            have hb2 : b ∈ fpCells (G.lt s) 0 ((e.get s).cs.set i .dead) := fpCells_mem (j := j) (c := .own rv sv d k l) (by rw [List.getElem?_set_ne g]; exact hc) (by simpa using h2)
            rw [r2.mem_iff] at hb2
            simp only [ownB, List.nil_append] at hb2
            have : (fpCells (G.lt s) 0 (e.get s).cs).Nodup := by
              have := hs.nodup
              simp only [fpS] at this
              rw [List.nodup_append] at this
              have := this.2.1
              cases hh : (e.get s).sh <;> simp_all
            have := r1.nodup_iff.1 this
            rw [List.nodup_append] at this
            exact this.2.2 b (by simpa using hb) b hb2 rfl
          · exact h2
        have q := hrest b (by simp [hbr])
        exact (hfar b q.1 q.2 s (hs.own b (hown0 b (by simp [hbr])))).1
    · intro _ i rv1 sv1 d1 k1 l1 hc'
      by_cases g : i = j
      · subst g
        simp only at hc'
        rw [List.getElem?_set_self hjl] at hc'
        simp only [Option.some.injEq, C.own.injEq] at hc'
        obtain ⟨rfl, rfl, _⟩ := hc'
        simp only
        refine ⟨by omega, ?_⟩
        rcases hvers with ⟨q1, q2, _⟩ | ⟨q1, q2⟩ <;> omega
      · simp only at hc'
        rw [List.getElem?_set_ne (fun q => g q.symm)] at hc'
        have := hs.vers hsh i rv1 sv1 d1 k1 l1 hc'
        simp only
        omega
    · rw [hfpS]
      refine ((p2.append_left _).nodup_iff).2 ?_
      rw [← List.append_assoc] at hnd0 ⊢
      have hp : (boxB (e.get s).sh (G.bk s) ++ ownB (.own rv sv' d' k l') L ++ rest).Perm (ownB (.own rv sv' d' k l') L ++ (boxB (e.get s).sh (G.bk s) ++ rest)) := by
        rw [← List.append_assoc]
        exact List.perm_append_comm.append_right _
      refine hp.nodup_iff.2 ?_
      rw [List.nodup_append]
      refine ⟨hnd, ?_, ?_⟩
      · have hp2 : (boxB (e.get s).sh (G.bk s) ++ ownB (.own rv sv d k l) (G.lt s j) ++ rest).Perm (ownB (.own rv sv d k l) (G.lt s j) ++ (boxB (e.get s).sh (G.bk s) ++ rest)) := by
          rw [← List.append_assoc]
          exact List.perm_append_comm.append_right _
        have := hp2.nodup_iff.1 hnd0
        rw [List.nodup_append] at this
        exact this.2.1
      · intro a ha b hb hab
        subst hab
        have q := hrest a hb
        rcases hsub a ha with z | z
        · exact q.1 z
        · exact q.2 z
    · rw [hfpS]
      intro b hb
      have hb := ((p2.append_left (boxB (e.get s).sh (G.bk s))).mem_iff).1 hb
      have hb : b ∈ ownB (.own rv sv' d' k l') L ∨ b ∈ boxB (e.get s).sh (G.bk s) ++ rest := by
        simp only [List.mem_append] at hb ⊢
        rcases hb with hb | hb | hb <;> simp [hb]
      rcases hb with hb | hb
      · have hbF : b ∉ F := fun q => (hF b q).2 hb
        rcases hsub b hb with z | z
        · have := hs.own b (hold b z)
          by_cases q : b ∈ H
          · simp [Gh.turn, hbF, q]
          · simp [Gh.turn, hbF, q, this]
        · simp [Gh.turn, hbF, z]
      · have q := hrest b hb
        exact (hfar b q.1 q.2 s (hs.own b (hown0 b (by simp only [List.mem_append] at hb ⊢; rcases hb with hb | hb <;> simp [hb])))).2
    · intro hh
      exact absurd hh hsh
  · intro b t hb
    simp only [Gh.turn] at hb
    by_cases qF : b ∈ F
    · simp [qF] at hb
    · by_cases q : b ∈ H
      · exact (hH b q).2.2
      · rw [if_neg qF, if_neg q] at hb
        exact Nat.lt_of_lt_of_le (h.lt b t hb) hsize

/-- The ghost behind a box whose cells were turned. -/
def Gh.cells (G : Gh) (s : Nat) (vs : List Value) (lt : Nat → LT) (H : List Nat) : Gh :=
  { vs := upd G.vs s vs, lt := upd G.lt s lt, bk := G.bk, ow := fun b => if b ∈ H then some s else G.ow b }

/-- A box, its cells turned. -/
theorem Inv.box {n : Nat} {e : Env} {tm : Array Value} {w w' : World} {G : Gh} (h : Inv n e tm w G) {s bv : Nat} (hb : (e.get s).sh = .box bv)
    (cs : List C) (vs : List Value) (lt : Nat → LT) (H : List Nat)
    (hsize : w.heap.size ≤ w'.heap.size) (hsame : ∀ b, b ≠ G.bk s → b ∉ H → w.heap[b]? ≠ none → w'.heap[b]? = w.heap[b]?)
    (hblk : ∃ ty, w'.heap[G.bk s]? = some (.cells vs.toArray ty (0, 0)))
    (hH : ∀ b ∈ H, Loose e G b ∧ (G.ow b ≠ none ∨ w.heap[b]? = none) ∧ b < w'.heap.size)
    (hlen : vs.length = cs.length)
    (hcell : ∀ (j : Nat) c v, cs[j]? = some c → vs[j]? = some v → ((e.get s).cs[j]? = some c ∧ (G.vs s)[j]? = some v ∧ lt j = G.lt s j ∧ ∀ b ∈ ownB c (lt j), b ≠ G.bk s ∧ b ∉ H) ∨
      (NewOk e w G w' H c v (lt j) ∧ ∀ r1 r2 d k l, c = .own r1 r2 d k l → r1 = (e.get s).cnt ∧ r2 = 0))
    (hnd : (G.bk s :: fpCells lt 0 cs).Nodup) (hsub : ∀ b ∈ fpCells lt 0 cs, b ∈ H ∨ b ∈ fpS G s (e.get s)) :
    Inv n (e.set s { e.get s with cs := cs, cnt := (e.get s).cnt + 1 }) tm w' (G.cells s vs lt H) := by
  have hs := h.slot s
  have hsh : (e.get s).sh ≠ .dead := by rw [hb]; simp
  have hbk : G.bk s ∈ fpS G s (e.get s) := by simp only [fpS, hb]; simp
  have hbo := hs.own _ hbk
  have hbH : G.bk s ∉ H := fun q => (hH _ q).1 s hbk
  have hst : Still w w' G.ow (G.cells s vs lt H).ow := fun b h1 h2 => by
    have q1 : b ≠ G.bk s := fun q => by rw [q, hbo] at h1; simp at h1
    have q2 : b ∉ H := fun hb => by
      rcases (hH b hb).2.1 with q | q
      · exact q h1
      · exact h2 q
    exact ⟨hsame b q1 q2 h2, by simp [Gh.cells, q2, h1]⟩
  have hfar : ∀ b, b ≠ G.bk s → b ∉ H → ∀ t, G.ow b = some t → w'.heap[b]? = w.heap[b]? ∧ (G.cells s vs lt H).ow b = some t := fun b q1 q2 t q3 => by
    refine ⟨hsame b q1 q2 ?_, by simp [Gh.cells, q2, q3]⟩
    have := h.lt b t q3
    simp [Array.getElem?_eq_getElem this]
  have hTM : s < e.length → TM e (e.set s { e.get s with cs := cs, cnt := (e.get s).cnt + 1 }) G (G.cells s vs lt H) s := fun hl => by
    refine ⟨by rw [get_set_self hl]; simp, ?_, ?_⟩
    · intro i rv1 sv1 d1 k1 l1 h1 h2
      rw [get_set_self hl] at h1
      have h3 := some_of_getD h1 (by simp)
      have hil : i < cs.length := by
        rcases Nat.lt_or_ge i cs.length with g | g
        · exact g
        · simp only at h3; rw [List.getElem?_eq_none g] at h3; simp at h3
      rcases hcell i _ (vs[i]'(by omega)) h3 (List.getElem?_eq_getElem (by omega)) with ⟨q1, q2, q3, _⟩ | ⟨_, q⟩
      · refine ⟨sv1, d1, l1, getD_some q1 _, fun k n hd hh => ?_, fun hd _ => ⟨rfl, hd, fun p k n hd hh => ?_⟩⟩
        · simpa [Gh.cells, upd_self, q3] using hh
        · simpa [Gh.cells, upd_self, q3] using hh
      · have := (q _ _ _ _ _ rfl).1
        omega
    · intro bv' h1 _
      rw [get_set_self hl] at h1
      exact ⟨h1, rfl⟩
  have hT : s < e.length → ∀ t, TM e (e.set s { e.get s with cs := cs, cnt := (e.get s).cnt + 1 }) G (G.cells s vs lt H) t := fun hl t => by
    by_cases g : t = s
    · subst g; exact hTM hl
    · exact TM.refl (get_set_ne g) (fun j => by simp [Gh.cells, upd_ne _ _ g]) rfl
  refine h.turn s _ h.size (fun t g => ⟨by simp [Gh.cells, upd_ne _ _ g], fun i => by simp [Gh.cells, upd_ne _ _ g], rfl⟩) (fun _ _ _ => rfl) hTM hst ?_ ?_ ?_
  · intro t g b hb'
    have how := (h.slot t).own b hb'
    refine hfar b (fun q => ?_) (fun q => (hH b q).1 t hb') t how
    rw [q, hbo] at how
    simp at how
    exact g how.symm
  · intro hl
    have hT := hT hl
    have hfpS : fpS (G.cells s vs lt H) s { e.get s with cs := cs, cnt := (e.get s).cnt + 1 } = G.bk s :: fpCells lt 0 cs := by
      simp only [fpS, Gh.cells, upd_self, hb]
      rfl
    refine ⟨?_, ?_, ?_, ?_, ?_, ?_, ?_, ?_⟩ <;> rw [get_set_self hl]
    · intro hn
      have := hs.form hn
      simp only [FormIs, hb] at this ⊢
      exact this
    · intro bv' hb'
      obtain ⟨g1, _⟩ := hs.box bv' hb'
      obtain ⟨ty, hty⟩ := hblk
      exact ⟨by simp only; omega, ty, by simpa [Gh.cells, upd_self] using hty⟩
    · intro _
      simp [Gh.cells, upd_self, hlen]
    · intro _ j c v hc hv
      simp only [Gh.cells, upd_self] at hv ⊢
      rcases hcell j c v hc hv with ⟨q1, q2, q3, q4⟩ | ⟨q, _⟩
      · rw [q3]
        refine (hs.cells hsh j c v q1 q2).frame hT hst fun b hb' => ?_
        have hmem : b ∈ fpS G s (e.get s) := by
          simp only [fpS, hb, List.mem_append]
          right
          exact fpCells_mem (lt := G.lt s) (i := 0) q1 (by simpa using hb')
        have := q4 b (by rw [q3]; exact hb')
        exact (hfar b this.1 this.2 s (hs.own b hmem)).1
      · cases c with
        | own r1 r2 d' k l =>
          obtain ⟨a1, a2⟩ := q
          refine ⟨a1, fun hd b hb => ?_⟩
          have := a2 hd b hb
          simp [this.2, this.1]
        | dead => trivial
        | nil => exact (CellOk.frame (c := .nil) (v := v) (L := lt j) q hT hst fun b hb => by simp [ownB] at hb)
        | dat k x => exact (CellOk.frame (c := .dat k x) q hT hst fun b hb => by simp [ownB] at hb)
        | ref _ _ _ _ _ _ _ _ => exact (CellOk.frame (c := .ref ..) (v := v) (L := lt j) q hT hst fun b hb => by simp [ownB] at hb)
        | bptr _ _ _ => exact (CellOk.frame (c := .bptr ..) (v := v) (L := lt j) q hT hst fun b hb => by simp [ownB] at hb)
        | aptr _ _ _ _ _ _ _ _ => exact (CellOk.frame (c := .aptr ..) (v := v) (L := lt j) q hT hst fun b hb => by simp [ownB] at hb)
        | pim _ _ => exact (CellOk.frame (c := .pim ..) (v := v) (L := lt j) q hT hst fun b hb => by simp [ownB] at hb)
        | fn _ _ => exact (CellOk.frame (c := .fn ..) (v := v) (L := lt j) q hT hst fun b hb => by simp [ownB] at hb)
    · intro _ j r1 r2 d' k l hc
      have hjl : j < cs.length := by
        rcases Nat.lt_or_ge j cs.length with g | g
        · exact g
        · simp only at hc; rw [List.getElem?_eq_none g] at hc; simp at hc
      rcases hcell j _ (vs[j]'(by omega)) hc (List.getElem?_eq_getElem (by omega)) with ⟨q1, _⟩ | ⟨_, q⟩
      · have := hs.vers hsh j r1 r2 d' k l q1
        simp only
        omega
      · have := q _ _ _ _ _ rfl
        simp only
        omega
    · rw [hfpS]; exact hnd
    · rw [hfpS]
      intro b hb'
      rw [List.mem_cons] at hb'
      rcases hb' with rfl | hb'
      · simp [Gh.cells, hbH, hbo]
      · rcases hsub b hb' with q | q
        · simp [Gh.cells, q]
        · by_cases z : b ∈ H
          · simp [Gh.cells, z]
          · simp [Gh.cells, z, hs.own b q]
    · intro hh
      exact absurd hh hsh
  · intro b t hb'
    simp only [Gh.cells] at hb'
    by_cases q : b ∈ H
    · exact (hH b q).2.2
    · rw [if_neg q] at hb'
      exact Nat.lt_of_lt_of_le (h.lt b t hb') hsize

end Go.Mach
