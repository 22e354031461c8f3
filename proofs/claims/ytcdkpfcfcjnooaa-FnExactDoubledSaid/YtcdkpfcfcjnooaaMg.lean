/- The machine, part g: what an operation takes on its way. No condition: lemmas. -/
import Derived.Test.YtcdkpfcfcjnooaaMf
namespace Go.Mach
set_option linter.unusedVariables false

/-! ### The writes of an operation -/
theorem puts_set (ws : Writes) : ∀ (e : Env) (s : Nat) (x : Slot), Env.puts (e.set s x) (ws.filter (·.1 ≠ s)) = (Env.puts e ws).set s x := by
  induction ws with
  | nil => intro e s x; rfl
  | cons a ws ih =>
    obtain ⟨s', y⟩ := a
    intro e s x
    by_cases h : s' = s
    · subst h
      simp only [ne_eq, not_true_eq_false, decide_false, Bool.false_eq_true, not_false_eq_true, List.filter_cons_of_neg, Env.puts]
      rw [← ih (e.set s' y) s' x]
      simp
    · simp only [ne_eq, h, not_false_eq_true, decide_true, List.filter_cons_of_pos, Env.puts]
      rw [← ih (e.set s' y) s x]
      rw [List.set_comm _ _ (fun q => h q.symm)]

theorem puts_length (ws : Writes) : ∀ (e : Env), (Env.puts e ws).length = e.length := by
  induction ws with
  | nil => intro e; rfl
  | cons a ws ih => obtain ⟨s', y⟩ := a; intro e; simp only [Env.puts]; rw [ih]; simp

structure TrOk (e0 : Env) (t : Tr) (e : Env) : Prop where
  sees : ∀ s, t.at s = e.get s ∨ t.at s = {}
  puts : e0.puts t.ws = e
  dst : ∀ d, t.d = some d → t.at d = e.get d

theorem TrOk.length {e0 : Env} {t : Tr} {e : Env} (h : TrOk e0 t e) : e.length = e0.length := by rw [← h.puts, puts_length]

theorem at_put_self (t : Tr) (s : Nat) (x : Slot) : (t.put s x).at s = x := by simp [Tr.at, Tr.put]

theorem at_put_ne (t : Tr) {s s' : Nat} (x : Slot) (h : s' ≠ s) : (t.put s x).at s' = t.at s' := by
  have : (t.ws.filter (·.1 ≠ s)).find? (·.1 = s') = t.ws.find? (·.1 = s') := by
    rw [List.find?_filter]
    congr 1
    funext a
    by_cases g : a.1 = s' <;> simp [g, h]
  simp only [Tr.at, Tr.put]
  rw [List.find?_cons_of_neg (by simpa using fun q => h q.symm)]
  rw [this]

theorem TrOk.put {e0 : Env} {t : Tr} {e : Env} (h : TrOk e0 t e) {s : Nat} (x : Slot) (hs : s < e.length) : TrOk e0 (t.put s x) (e.set s x) := by
  refine ⟨fun s' => ?_, ?_, fun d hd => ?_⟩
  · by_cases g : s' = s
    · subst g
      left
      rw [at_put_self, get_set_self hs]
    · rw [at_put_ne t x g, get_set_ne g]
      exact h.sees s'
  · simp only [Tr.put, Env.puts]
    rw [puts_set, h.puts]
  · by_cases g : d = s
    · subst g
      rw [at_put_self, get_set_self hs]
    · rw [at_put_ne t x g, get_set_ne g]
      exact h.dst d hd

theorem TrOk.start {get : Nat → Slot} {e : Env} {d : Option Nat} (h : Sees get e) (hd : ∀ d', d = some d' → get d' = e.get d') : TrOk e { get, d } e := ⟨h, rfl, hd⟩

theorem TrOk.cell {e0 : Env} {t : Tr} {e : Env} (h : TrOk e0 t e) {s j : Nat} {c : C} (hc : (t.at s).cs.getD j .dead = c) (hd : c ≠ .dead) : t.at s = e.get s ∧ (e.get s).cs[j]? = some c := by
  have := some_of_getD hc hd
  rcases h.sees s with q | q
  · rw [q] at this; exact ⟨q, this⟩
  · rw [q] at this; simp at this

/-! ### What changes on the way -/
/-- From one state to another, memory as it is: what holds on. -/
structure Ext (w : World) (e : Env) (G : Gh) (e' : Env) (G' : Gh) : Prop where
  len : e'.length = e.length
  cell : ∀ c v L, c.isOwn = false → CellOk e w G c v L → CellOk e' w G' c v L
  loose : ∀ b, Loose e G b → G.ow b ≠ none → Loose e' G' b ∧ G'.ow b = G.ow b
  none : ∀ b, G.ow b = none → G'.ow b = none
  sub : ∀ b t, G'.ow b = some t → G.ow b = some t
  sh : ∀ s, (e'.get s).sh = (e.get s).sh
  cnt : ∀ s, (e.get s).cnt ≤ (e'.get s).cnt
  vs : G'.vs = G.vs
  lt : G'.lt = G.lt
  bk : G'.bk = G.bk
  clen : ∀ s, (e'.get s).cs.length = (e.get s).cs.length

theorem Ext.refl {w : World} {e : Env} {G : Gh} : Ext w e G e G := ⟨rfl, fun _ _ _ _ h => h, fun _ h1 _ => ⟨h1, rfl⟩, fun _ h => h, fun _ _ h => h, fun _ => rfl, fun _ => Nat.le_refl _, rfl, rfl, rfl, fun _ => rfl⟩

theorem Ext.trans {w : World} {e e' e'' : Env} {G G' G'' : Gh} (h : Ext w e G e' G') (h' : Ext w e' G' e'' G'') : Ext w e G e'' G'' := by
  refine ⟨h'.len.trans h.len, fun c v L ho hc => h'.cell c v L ho (h.cell c v L ho hc), fun b h1 h2 => ?_, fun b hb => h'.none b (h.none b hb), fun b t hb => h.sub b t (h'.sub b t hb), fun s => (h'.sh s).trans (h.sh s),
    fun s => Nat.le_trans (h.cnt s) (h'.cnt s), h'.vs.trans h.vs, h'.lt.trans h.lt, h'.bk.trans h.bk, fun s => (h'.clen s).trans (h.clen s)⟩
  obtain ⟨q1, q2⟩ := h.loose b h1 h2
  obtain ⟨q3, q4⟩ := h'.loose b q1 (by rw [q2]; exact h2)
  exact ⟨q3, q4.trans q2⟩

theorem noOwn_ownB {c : C} {L : LT} (h : c.isOwn = false) : ownB c L = [] := by
  cases c with
  | own _ _ _ _ _ => simp [C.isOwn] at h
  | _ => rfl

theorem fpS_kill_sub (G : Gh) (s j : Nat) (x : Slot) : (fpS G s (x.kill j)).Sublist (fpS G s x) := by
  have key : ∀ (cs : List C) (i j : Nat), (fpCells (G.lt s) i (cs.set j .dead)).Sublist (fpCells (G.lt s) i cs) := by
    intro cs
    induction cs with
    | nil => intro i j; simp [fpCells]
    | cons a cs ih =>
      intro i j
      cases j with
      | zero => simp only [List.set_cons_zero, fpCells, ownB, List.nil_append]; exact List.sublist_append_right _ _
      | succ j => simp only [List.set_cons_succ, fpCells]; exact (ih (i + 1) j).append_left _
  simp only [fpS, Slot.kill]
  refine List.Sublist.append (List.Sublist.refl _) ?_
  cases x.sh <;> first | exact List.Sublist.refl _ | exact key _ 0 j

theorem TM.kill {e : Env} {G : Gh} {s j : Nat} (t : Nat) : TM e (e.set s ((e.get s).kill j)) G G t := by
  by_cases hl : s < e.length
  · by_cases g : t = s
    · subst g
      have hk : ∀ i c, ((e.get t).kill j).cs[i]? = some c → c = .dead ∨ ((e.get t).cs[i]? = some c ∧ i ≠ j) := by
        intro i c hc
        simp only [Slot.kill, List.getElem?_set] at hc
        by_cases g : j = i
        · subst g
          simp at hc
          exact .inl hc.2.symm
        · rw [if_neg g] at hc
          exact .inr ⟨hc, fun q => g q.symm⟩
      refine ⟨by rw [get_set_self hl]; exact Nat.le_refl _, ?_, ?_⟩
      · intro i rv sv d k l h1 h2
        rw [get_set_self hl] at h1
        have h3 := hk i _ (some_of_getD h1 (by simp))
        rcases h3 with h3 | ⟨h3, _⟩
        · cases h3
        · exact ⟨sv, d, l, getD_some h3 _, fun _ _ _ q => q, fun hd _ => ⟨rfl, hd, fun _ _ _ _ q => q⟩⟩
      · intro bv h1 _
        rw [get_set_self hl] at h1
        exact ⟨h1, rfl⟩
    · exact TM.refl (get_set_ne g) (fun _ => rfl) rfl
  · rw [set_out hl]
    exact TM.refl rfl (fun _ => rfl) rfl

theorem Ext.kill {w : World} {e : Env} {G : Gh} (s j : Nat) : Ext w e G (e.set s ((e.get s).kill j)) G := by
  have hget : ∀ t, (Env.get (e.set s ((e.get s).kill j)) t) = e.get t ∨ (t = s ∧ Env.get (e.set s ((e.get s).kill j)) t = (e.get s).kill j) := fun t => by
    rw [get_set]
    by_cases g : t = s ∧ s < e.length
    · right; rw [if_pos g]; exact ⟨g.1, rfl⟩
    · left; rw [if_neg g]
  refine ⟨by simp, fun c v L ho hc => hc.frame (fun t => TM.kill t) still_refl (fun b hb => by simp [noOwn_ownB ho] at hb), fun b h1 _ => ⟨fun t ht => ?_, rfl⟩, fun _ h => h, fun _ _ h => h, fun t => ?_, fun t => ?_, rfl, rfl, rfl, fun t => ?_⟩
  · rcases hget t with q | ⟨rfl, q⟩
    · rw [q] at ht; exact h1 t ht
    · rw [q] at ht; exact h1 t ((fpS_kill_sub G t j (e.get t)).subset ht)
  · rcases hget t with q | ⟨rfl, q⟩ <;> rw [q]
    rfl
  · rcases hget t with q | ⟨rfl, q⟩
    · rw [q]; exact Nat.le_refl _
    · rw [q]; exact Nat.le_refl _
  · rcases hget t with q | ⟨rfl, q⟩ <;> rw [q]
    simp [Slot.kill]

/-- An owned list frozen: its root stays owned, what lies deeper is nobody's. -/
theorem Inv.freeze {n : Nat} {e : Env} {tm : Array Value} {w : World} {G : Gh} (h : Inv n e tm w G) {s j rv sv : Nat} {d : Bool} {k : K} {l : List k.T}
    (hc : (e.get s).cs[j]? = some (.own rv sv d k l)) :
    ∃ G', Inv n (e.set s { e.get s with cs := (e.get s).cs.set j (.own rv sv false k l) }) tm w G' ∧ Ext w e G (e.set s { e.get s with cs := (e.get s).cs.set j (.own rv sv false k l) }) G' ∧
      (∀ b ∈ inner k (G.lt s j), G'.ow b = none) ∧ (∀ t i, G'.lt t i = G.lt t i) ∧ (∀ b, G'.ow b = G.ow b ∨ G'.ow b = none) := by
  obtain ⟨v, hv, hcell⟩ := h.val hc
  obtain ⟨ho1, ho2, ho3⟩ := h.ownBlocks hc
  have hl := slot_alive hc
  have hjl : j < (e.get s).cs.length := by
    rcases Nat.lt_or_ge j (e.get s).cs.length with g | g
    · exact g
    · rw [List.getElem?_eq_none g] at hc; simp at hc
  have hroot : ∀ b ∈ ownB (.own rv sv false k l) (G.lt s j), b ∈ ownB (.own rv sv d k l) (G.lt s j) := by
    intro b hb
    cases d with
    | false => exact hb
    | true =>
      cases hL : G.lt s j with
      | node b0 off cap rows => rw [hL] at hb; simp [ownB, hdOf] at hb; simp [ownB, fp, hb]
      | _ => rw [hL] at hb; simp [ownB, hdOf] at hb
  have hsubl : (ownB (.own rv sv false k l) (G.lt s j)).Nodup := by
    cases hL : G.lt s j <;> simp [ownB, hdOf]
  let F := if d then inner k (G.lt s j) else []
  have hnd : d = true → ∀ b ∈ inner k (G.lt s j), b ∈ ownB (.own rv sv d k l) (G.lt s j) ∧ b ∉ ownB (.own rv sv false k l) (G.lt s j) := by
    intro hd b hb
    subst hd
    cases hL : G.lt s j with
    | node b0 off cap rows =>
      rw [hL] at hb ho3
      simp only [ownB, fp, List.nodup_cons] at ho3
      simp only [inner] at hb
      refine ⟨by simp [ownB, fp, hb], ?_⟩
      simp only [ownB, hdOf, Option.toList_some, List.map_cons, List.map_nil, List.mem_singleton]
      rintro rfl
      exact ho3.1 hb
    | _ => rw [hL] at hb; simp [inner] at hb
  have hinv := h.own hc hv sv (e.get s).cnt false l (G.lt s j) [] F (Nat.le_refl _) (fun b _ _ _ => rfl) (by simp) hcell.1.weaken (fun b hb => .inl (hroot b hb)) hsubl
    (fun b hb => by
      cases d with
      | true => exact ⟨.inl (hnd rfl b hb).1, (hnd rfl b hb).2⟩
      | false => simp [F] at hb)
    (fun _ b hb => by
      cases d with
      | true => right; exact hb
      | false => left; exact ⟨ho2 rfl b hb, by simp⟩)
    rfl rfl (.inl ⟨rfl, rfl, by simp⟩)
  have hlt : ∀ t i, (G.turn s j (G.lt s j) [] F).lt t i = G.lt t i := by
    intro t i
    simp only [Gh.turn, upd]
    by_cases g : t = s
    · subst g; by_cases g' : i = j <;> simp [g', upd]
    · simp [g]
  have hTM : ∀ t, TM e (e.set s { e.get s with cs := (e.get s).cs.set j (.own rv sv false k l) }) G (G.turn s j (G.lt s j) [] F) t := by
    intro t
    by_cases g : t = s
    · subst g
      refine ⟨by rw [get_set_self hl]; exact Nat.le_refl _, ?_, ?_⟩
      · intro i rv1 sv1 d1 k1 l1 h1 h2
        rw [get_set_self hl] at h1
        by_cases g : i = j
        · subst g
          have : (((e.get t).cs.set i (.own rv sv false k l)).getD i .dead) = .own rv sv false k l := getD_some (by simp [hjl]) _
          simp only at h1
          rw [this] at h1
          simp only [C.own.injEq] at h1
          obtain ⟨rfl, rfl, rfl, rfl, hll⟩ := h1
          have hll := eq_of_heq hll
          subst hll
          exact ⟨sv, d, l, getD_some hc _, fun k n hd hh => by rw [hlt]; exact hh, fun q => by cases q⟩
        · simp only at h1
          rw [getD_set_ne g] at h1
          exact ⟨sv1, d1, l1, h1, fun k n hd hh => by rw [hlt]; exact hh, fun hd _ => ⟨rfl, hd, fun p k n hd hh => by rw [hlt]; exact hh⟩⟩
      · intro bv h1 _
        rw [get_set_self hl] at h1
        exact ⟨h1, rfl⟩
    · exact TM.refl (get_set_ne g) (fun j => hlt _ _) rfl
  have hnone : ∀ b, G.ow b = none → (G.turn s j (G.lt s j) [] F).ow b = none := by
    intro b hb
    simp only [Gh.turn]
    by_cases q : b ∈ F <;> simp [q, hb]
  have hfp : ∀ t b, b ∈ fpS (G.turn s j (G.lt s j) [] F) t (Env.get (e.set s { e.get s with cs := (e.get s).cs.set j (.own rv sv false k l) }) t) → b ∈ fpS G t (e.get t) := by
    intro t b hb
    have hlt' : (G.turn s j (G.lt s j) [] F).lt t = G.lt t := funext (hlt t)
    by_cases g : t = s
    · subst g
      rw [get_set_self hl] at hb
      simp only [fpS, hlt', List.mem_append] at hb ⊢
      rcases hb with hb | hb
      · left; simpa [Gh.turn] using hb
      · right
        have hne : (e.get t).sh ≠ .dead := fun q => by rw [(h.slot t).dead q] at hc; simp at hc
        have hb' : b ∈ fpCells (G.lt t) 0 ((e.get t).cs.set j (.own rv sv false k l)) := by
          simp only at hb
          cases hh : (e.get t).sh <;> simp_all
        obtain ⟨i, c, q1, q2⟩ := fpCells_of hb'
        have : b ∈ fpCells (G.lt t) 0 (e.get t).cs := by
          by_cases g : i = j
          · subst g
            rw [List.getElem?_set_self hjl] at q1
            simp only [Option.some.injEq] at q1
            subst q1
            exact fpCells_mem hc (by simpa using hroot b (by simpa using q2))
          · rw [List.getElem?_set_ne (fun q => g q.symm)] at q1
            exact fpCells_mem q1 q2
        cases hh : (e.get t).sh <;> simp_all
    · rw [get_set_ne g] at hb
      simp only [fpS, hlt'] at hb ⊢
      exact hb
  refine ⟨_, hinv, ?_, ?_, hlt, ?_⟩
  · refine ⟨by simp, fun c v L hno hc' => hc'.frame hTM (fun b h1 h2 => ⟨rfl, hnone b h1⟩) (fun b hb => by simp [noOwn_ownB hno] at hb), fun b h1 h2 => ⟨fun t ht => h1 t (hfp t b ht), ?_⟩, hnone, fun b t hb => ?sub, fun t => ?_, fun t => ?_, rfl, ?lt, rfl, fun t => ?_⟩
    case lt => exact funext fun t => funext fun i => hlt t i
    case sub =>
      simp only [Gh.turn] at hb
      split at hb
      · simp at hb
      · simpa using hb
    · have hbF : b ∉ F := by
        intro q
        cases d with
        | false => simp [F] at q
        | true =>
          have := (hnd rfl b q).1
          have hm : b ∈ fpS G s (e.get s) := by
            simp only [fpS, List.mem_append]
            right
            have := fpCells_mem (lt := G.lt s) (i := 0) hc (by simpa using this)
            cases hh : (e.get s).sh with
            | dead => rw [(h.slot s).dead hh] at hc; simp at hc
            | _ => simpa using this
          exact h1 s hm
      simp [Gh.turn, hbF]
    · by_cases g : t = s
      · subst g; rw [get_set_self hl]
      · rw [get_set_ne g]
    · by_cases g : t = s
      · subst g; rw [get_set_self hl]; exact Nat.le_refl _
      · rw [get_set_ne g]; exact Nat.le_refl _
    · by_cases g : t = s
      · subst g; rw [get_set_self hl]; simp
      · rw [get_set_ne g]
  · intro b hb
    cases d with
    | true => simp only [Gh.turn]; rw [if_pos (show b ∈ F from hb)]
    | false => exact hnone b (ho2 rfl b hb)
  · intro b
    simp only [Gh.turn]
    by_cases q : b ∈ F <;> simp [q]

end Go.Mach
