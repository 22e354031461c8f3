/- The machine, part ng: code, with its loops and its meeting points by typed steps; functions. No condition: definitions and lemmas. -/
import Derived.Test.YtcdkpfcfcjnooaaNf
import Derived.LoopN
namespace Go.Mach
set_option linter.unusedVariables false
set_option linter.unusedSimpArgs false

/-! ### Regions -/
section R
variable {R : Type}

/-- A slot that holds a flag, once the flag is known. -/
def known (e : Env) (s : Nat) (b : Bool) : Env := e.set s { sh := .one, cs := [.dat .bool b], cnt := (e.get s).cnt }

theorem set_get (e : Env) (s : Nat) (x : Slot) (h : e.get s = x) : e.set s x = e := by
  apply List.ext_getElem?
  intro i
  rw [List.getElem?_set]
  by_cases g : s = i
  · subst g
    by_cases hl : s < e.length
    · rw [if_pos rfl, if_pos hl]
      simp only [Env.get, List.getD_eq_getElem?_getD, List.getElem?_eq_getElem hl, Option.getD_some] at h
      rw [List.getElem?_eq_getElem hl, h]
    · rw [if_pos rfl, if_neg hl, List.getElem?_eq_none (by omega)]
  · rw [if_neg g]

theorem known_eq {e : Env} {s : Nat} {b : Bool} (h1 : (e.get s).sh = .one) (h2 : (e.get s).cs = [.dat .bool b]) : known e s b = e := by
  refine set_get e s _ ?_
  cases hx : e.get s with
  | mk sh cs cnt =>
    rw [hx] at h1 h2
    simp only at h1 h2
    rw [h1, h2]

def doneD (x : Ctx) (bk : Book) (ops : Array Oper) (e : Env) (o : Oper) (K : Env → Step → Option R) : Option R :=
  actD x bk (fun s => if (looks e o).contains s then e.get s else {}) o fun ws => K e { ws, reads := guardSlots ops o ++ looks e o }

def skipD (ops : Array Oper) (e : Env) (o : Oper) (K : Env → Step → Option R) : Option R :=
  K e { ws := skipWs e o, reads := guardSlots ops o ++ o.dst.toList }

def stepD (x : Ctx) (bk : Book) (ops : Array Oper) (e : Env) (o : Oper) (K : Env → Step → Option R) : Option R :=
  match (opSlots o).all (· < x.n) && (guardSlots ops o).all (· < x.n) with
  | false => none
  | true => match guardOf ops o with
    | none => doneD x bk ops e o K
    | some (s, want) => match (e.get s).sh, (e.get s).cs with
      | .one, [.dat .bool b] => match want with
        | true => cond b (doneD x bk ops (known e s true) o K) (skipD ops (known e s false) o K)
        | false => cond b (skipD ops (known e s true) o K) (doneD x bk ops (known e s false) o K)
      | .tup [], _ => skipD ops e o K
      | _, _ => none

theorem stepD_eq {x : Ctx} {bk : Book} (hx : Over x bk) (ops : Array Oper) (e : Env) (o : Oper) (K : Env → Step → Option R) : stepD x bk ops e o K = (stepA x ops e o).bind (K e) := by
  unfold stepD stepA
  generalize hb : ((opSlots o).all (· < x.n) && (guardSlots ops o).all (· < x.n)) = b
  cases b with
  | false => rfl
  | true =>
    simp only [Bool.not_true, Bool.false_eq_true, if_false]
    cases hg : guardOf ops o with
    | none =>
      simp only [wanted, doneD]
      rw [actD_eq hx]
      cases act x (fun s => if (looks e o).contains s = true then e.get s else {}) o <;> rfl
    | some p =>
      obtain ⟨s, want⟩ := p
      simp only [wanted]
      cases hsh : (e.get s).sh with
      | one =>
        cases hcs : (e.get s).cs with
        | nil => rfl
        | cons c r =>
          cases r with
          | cons c2 r =>
            cases c with
            | dat k b => cases k <;> rfl
            | _ => rfl
          | nil =>
            cases c with
            | dat k b =>
              cases k with
              | bool =>
                cases b <;> cases want <;> simp only [cond_true, cond_false, known_eq hsh hcs, doneD, skipD] <;> first
                  | rfl
                  | (rw [actD_eq hx]; cases act x (fun s => if (looks e o).contains s = true then e.get s else {}) o <;> rfl)
              | _ => rfl
            | _ => rfl
      | tup ps => cases ps <;> rfl
      | _ => rfl

def runAD (x : Ctx) (bk : Book) (ops : Array Oper) : List Nat → Env → (Env → Trace → Option R) → Option R
  | [], e, K => K e []
  | i :: r, e, K => match ops[i]? with
    | none => none
    | some o => stepD x bk ops e o fun e s => runAD x bk ops r (e.puts s.ws) fun e tr => K e ((i, s.reads, s.ws.map (·.1)) :: tr)

theorem runAD_eq {x : Ctx} {bk : Book} (hx : Over x bk) (ops : Array Oper) : ∀ (l : List Nat) (e : Env) (K : Env → Trace → Option R), runAD x bk ops l e K = (runA x ops e l).bind fun r => K r.1 r.2
  | [], e, K => rfl
  | i :: r, e, K => by
    simp only [runAD, runA]
    cases ops[i]? with
    | none => rfl
    | some o =>
      simp only
      rw [stepD_eq hx]
      cases stepA x ops e o with
      | none => rfl
      | some s =>
        simp only [Option.bind_some]
        rw [runAD_eq hx ops r]
        cases runA x ops (e.puts s.ws) r <;> rfl

def regionD (x : Ctx) (bk : Book) (ops : Array Oper) (draw : Bool) (e : Env) (K : Env → Option R) : Option R :=
  runAD x bk ops (List.range ops.size) e fun e tr => match !draw || (edgesBack 0 ops.toList && ordered (befs [] ops.toList) tr) with
    | true => K e
    | false => none

theorem regionD_eq {x : Ctx} {bk : Book} (hx : Over x bk) (ops : Array Oper) (draw : Bool) (e : Env) (K : Env → Option R) : regionD x bk ops draw e K = (region x ops draw e).bind K := by
  unfold regionD region
  rw [runAD_eq hx]
  cases runA x ops e (List.range ops.size) with
  | none => rfl
  | some r =>
    obtain ⟨e', tr⟩ := r
    simp only [Option.bind_some]
    cases h : (!draw || (edgesBack 0 ops.toList && ordered (befs [] ops.toList) tr)) <;> simp

end R

/-! ### Code -/
@[reducible] def OutT : List (Ex × EP) → Type
  | [] => Empty
  | [p] => p.2.T
  | p :: q :: r => p.2.T ⊕ OutT (q :: r)

/-- A loop or a meeting point: its slots at the head, its ways out, what it does to the data. -/
structure NEnt where
  P : EP
  outs : List (Ex × EP)
  T : P.T → Option (OutT outs)

abbrev Tab := List (Nat × NEnt)

def Tab.at (l : Tab) (pos : Nat) : Option NEnt := match l with
  | [] => none
  | (q, t) :: r => match Nat.beq q pos with
    | true => some t
    | false => Tab.at r pos

def outK {R : Type} : (l : List (Ex × EP)) → OutT l → (Ex → Env → Option R) → Option R
  | [], _, _ => none
  | [p], d, K => K p.1 (p.2.enc d)
  | p :: q :: r, b, K => Sum.elim (fun d => K p.1 (p.2.enc d)) (fun b => outK (q :: r) b K) b

def decOut (n : Nat) : (l : List (Ex × EP)) → Ex → Env → Option (OutT l)
  | [], _, _ => none
  | [p], ex, e => if p.1 = ex then p.2.dec n e else none
  | p :: q :: r, ex, e => match (if p.1 = ex then p.2.dec n e else none) with
    | some d => some (.inl d)
    | none => (decOut n (q :: r) ex e).map .inr

/-- Rounds of a loop over its data. -/
def iter {α β : Type} (S : α → Option (α ⊕ β)) : Nat → α → Option β
  | 0, _ => none
  | n + 1, d => match S d with
    | none => none
    | some (.inl d) => iter S n d
    | some (.inr b) => some b

section C
variable {R : Type}

def entD (n : Nat) (t : NEnt) (e : Env) (K : Ex → Env → Option R) : Option R := match t.P.dec n e with
  | some d => (t.T d).bind fun b => outK t.outs b K
  | none => none

def runD (x : Ctx) (bk : Book) (tb : Tab) : (pos : Nat) → Code → Env → (Ex → Env → Option R) → Option R
  | pos, .skip, e, K => K .normal e
  | pos, .region _ ops d, e, K => regionD x bk ops d e fun e => K .normal e
  | pos, .seq a b, e, K => runD x bk tb (2 * pos) a e fun ex e => match ex with
    | .normal => match tb.at (2 * pos + 1) with
      | some t => entD x.n t e K
      | none => runD x bk tb (2 * pos + 1) b e K
    | ex => K ex e
  | pos, .cond c a b, e, K => match (opdUses c).all (· < x.n), opd e.get c with
    | true, some (.one, [.dat .bool t]) => cond t (runD x bk tb (2 * pos) a e K) (runD x bk tb (2 * pos + 1) b e K)
    | _, _ => none
  | pos, .block id a, e, K => runD x bk tb (2 * pos) a e fun ex e => match ex with
    | .exit i => match Nat.beq i id with
      | true => K .normal e
      | false => K (.exit i) e
    | ex => K ex e
  | pos, .loop a, e, K => match tb.at pos with
    | some t => entD x.n t e K
    | none => none
  | pos, .exit id, e, K => K (.exit id) e
  | pos, .ret, e, K => K .ret e
  | _, _, _, _ => none
end C

/-- The code at a place. -/
def childC (b : Nat) : Code → Code
  | .seq x y => match b with
    | 0 => x
    | _ => y
  | .cond _ x y => match b with
    | 0 => x
    | _ => y
  | .block _ x => x
  | .loop x => x
  | c => c

def subF (root : Code) : Nat → Nat → Code
  | 0, _ => root
  | f + 1, n => match Nat.ble n 1 with
    | true => root
    | false => childC (n % 2) (subF root f (n / 2))

def sub (root : Code) (n : Nat) : Code := subF root n n

theorem subF_enough (root : Code) : ∀ (f n : Nat), n ≤ f → ∀ g, n ≤ g → subF root f n = subF root g n
  | 0, n, h, g, hg => by
    obtain rfl : n = 0 := by omega
    cases g <;> simp [subF]
  | f + 1, n, h, g, hg => by
    cases g with
    | zero =>
      obtain rfl : n = 0 := by omega
      simp [subF]
    | succ g =>
      simp only [subF]
      cases hb : Nat.ble n 1 with
      | true => rfl
      | false =>
        have : ¬ n ≤ 1 := fun q => by rw [Nat.ble_eq_true_of_le q] at hb; cases hb
        simp only
        rw [subF_enough root f (n / 2) (by omega) g (by omega)]

theorem sub_child (root : Code) {pos : Nat} (h : 1 ≤ pos) (b : Nat) (hb : b < 2) : sub root (2 * pos + b) = childC b (sub root pos) := by
  unfold sub
  obtain ⟨m, hm⟩ : ∃ m, 2 * pos + b = m + 1 := ⟨2 * pos + b - 1, by omega⟩
  rw [hm]
  simp only [subF]
  have hn : Nat.ble (m + 1) 1 = false := by
    cases hq : Nat.ble (m + 1) 1 with
    | false => rfl
    | true => have := Nat.le_of_ble_eq_true hq; omega
  rw [hn]
  simp only
  rw [show (m + 1) % 2 = b by omega, show (m + 1) / 2 = pos by omega, subF_enough root m pos (by omega) pos (Nat.le_refl _)]

/-- What is asked of a loop or meeting point. -/
def NodeOk (x : Ctx) (bk : Book) (tb : Tab) (root : Code) (pos : Nat) (t : NEnt) : Prop :=
  (∃ a, sub root pos = .loop a ∧ ∃ S : t.P.T → Option (t.P.T ⊕ OutT t.outs), t.T = (fun d => iter S bigN d) ∧
    ∀ d, runD x bk tb (2 * pos) a (t.P.enc d) (fun ex e => match ex with
      | .normal => (t.P.dec x.n e).map .inl
      | ex => (decOut x.n t.outs ex e).map .inr) = S d) ∨
  (∀ d, runD x bk tb pos (sub root pos) (t.P.enc d) (fun ex e => decOut x.n t.outs ex e) = t.T d) ∧ ∀ a, sub root pos ≠ .loop a

def Nodes (x : Ctx) (bk : Book) (tb : Tab) (root : Code) : Tab → Prop
  | [] => True
  | (pos, t) :: r => NodeOk x bk tb root pos t ∧ Nodes x bk tb root r

theorem Nodes.at {x : Ctx} {bk : Book} {tb : Tab} {root : Code} : ∀ {l : Tab}, Nodes x bk tb root l → ∀ {pos : Nat} {t : NEnt}, l.at pos = some t → NodeOk x bk tb root pos t
  | [], _, pos, t, h => by simp [Tab.at] at h
  | (q, s) :: r, hn, pos, t, h => by
    simp only [Tab.at] at h
    split at h
    · rename_i hq
      have := Nat.eq_of_beq_eq_true hq
      subst this
      simp only [Option.some.injEq] at h
      subst h
      exact hn.1
    · exact Nodes.at hn.2 h

def Ex.exit' : Ex → Exit
  | .normal => .normal
  | .exit id => .exit id
  | .ret => .ret

theorem decOut_ok {n : Nat} : ∀ {l : List (Ex × EP)} {ex : Ex} {e : Env} {b : OutT l}, decOut n l ex e = some b → ∀ {tm : Array Value} {w : World} {G : Gh}, Inv n e tm w G → ∀ m, e.length ≤ m →
    ∃ e', e'.length = e.length ∧ (∀ (R : Type) (K : Ex → Env → Option R), outK l b K = K ex e') ∧ ∃ G', Inv n e' tm w G' ∧ Held n m w w G G'
  | [], ex, e, b, h, tm, w, G, hi, m, hm => by simp [decOut] at h
  | [p], ex, e, b, h, tm, w, G, hi, m, hm => by
    simp only [decOut] at h
    split at h
    · rename_i hp
      obtain ⟨h1, h2⟩ := EP.dec_ok h hi m hm
      exact ⟨_, h1, fun R K => by simp only [outK, hp], h2⟩
    · simp at h
  | p :: q :: r, ex, e, b, h, tm, w, G, hi, m, hm => by
    simp only [decOut] at h
    split at h
    · rename_i d hd
      split at hd
      · rename_i hp
        simp only [Option.some.injEq] at h
        subst h
        obtain ⟨h1, h2⟩ := EP.dec_ok hd hi m hm
        exact ⟨_, h1, fun R K => by simp only [outK, hp, Sum.elim_inl], h2⟩
      · simp at hd
    · cases hr : decOut n (q :: r) ex e with
      | none => rw [hr] at h; simp at h
      | some b' =>
        rw [hr] at h
        simp only [Option.map_some, Option.some.injEq] at h
        subst h
        obtain ⟨e', h1, h2, h3⟩ := decOut_ok hr hi m hm
        exact ⟨e', h1, fun R K => by simp only [outK, Sum.elim_inr]; exact h2 R K, h3⟩

theorem Post.weaken {n : Nat} {e1 e2 : Env} {a a1 : Act} {w w1 : World} {G G1 G2 : Gh} (h : Post n e1 a w G a1 w1 G1) (hl : e2.length = e1.length) (hi : Inv n e2 a1.tmps w1 G2) (hh : Held n e1.length w1 w1 G1 G2) : Post n e2 a w G a1 w1 G2 :=
  ⟨hi, by rw [hl]; exact h.held.trans hh, h.grows, h.defers, h.env⟩

section sound
variable {P : Program} {x : Ctx} {bk : Book} {tb : Tab} {root : Code}

/-- What running to an end means. -/
def Runs (P : Program) (x : Ctx) (c : Code) {R : Type} (e : Env) (K : Ex → Env → Option R) (r : R) : Prop :=
  ∀ (a : Act) (w : World) (G : Gh), Inv x.n e a.tmps w G → ∀ Q : Exit → Act → World → Prop,
    (∀ ex e' a' w' G', K ex e' = some r → e'.length = e.length → Post x.n e' a w G a' w' G' → Q ex.exit' a' w') → c.wp P Q a w

/-- A loop or a meeting point whose body is sound. -/
theorem ent_ok {c : Code} {pos : Nat} (hpos : 1 ≤ pos) (hsub : sub root pos = c) {t : NEnt} (hn : NodeOk x bk tb root pos t)
    (hbody : ∀ a, c = .loop a → ∀ (R : Type) (e : Env) (K : Ex → Env → Option R) (r : R), runD x bk tb (2 * pos) a e K = some r → Runs P x a e K r)
    (hself : (∀ a, c ≠ .loop a) → ∀ (R : Type) (e : Env) (K : Ex → Env → Option R) (r : R), runD x bk tb pos c e K = some r → Runs P x c e K r)
    {R : Type} {e : Env} {K : Ex → Env → Option R} {r : R} (h : entD x.n t e K = some r) : Runs P x c e K r := by
  intro a w G hi Q hq
  simp only [entD] at h
  split at h
  · rename_i d hd
    cases hT : t.T d with
    | none => rw [hT] at h; simp at h
    | some b =>
      rw [hT] at h
      simp only [Option.bind_some] at h
      obtain ⟨l0, G0, hi0, hh0⟩ := EP.dec_ok hd hi e.length (Nat.le_refl _)
      have hp0 : Post x.n (t.P.enc d) a w G a w G0 := (Post.refl hi).weaken l0 hi0 hh0
      rcases hn with ⟨body, hb, S, hS, hrun⟩ | ⟨hrun, hnl⟩
      · have hc : c = .loop body := by rw [← hsub, hb]
        subst hc
        refine wp_loop_rounds bigN ?_
        rw [hS] at hT
        have key : ∀ (k : Nat) (d : t.P.T) (a1 : Act) (w1 : World) (G1 : Gh), (t.P.enc d).length = e.length → Post x.n (t.P.enc d) a w G a1 w1 G1 → iter S k d = some b → Code.rounds P body Q k a1 w1 := by
          intro k
          induction k with
          | zero => intro d a1 w1 G1 _ _ hk; simp [iter] at hk
          | succ k ih =>
            intro d a1 w1 G1 hl hp hk
            simp only [iter] at hk
            cases hs : S d with
            | none => rw [hs] at hk; simp at hk
            | some s =>
              rw [hs] at hk
              rw [rounds_succ]
              refine hbody body rfl _ (t.P.enc d) _ s ((hrun d).trans hs) a1 w1 G1 hp.inv _ fun ex e' a2 w2 G2 hK hl2 hp2 => ?_
              have hp3 : Post x.n e' a w G a2 w2 G2 := hp.trans hp2 hl2.symm
              cases ex with
              | normal =>
                simp only at hK
                cases hd' : t.P.dec x.n e' with
                | none => rw [hd'] at hK; simp at hK
                | some d' =>
                  rw [hd'] at hK
                  simp only [Option.map_some, Option.some.injEq] at hK
                  subst hK
                  obtain ⟨l3, G3, hi3, hh3⟩ := EP.dec_ok hd' hp2.inv e'.length (Nat.le_refl _)
                  exact ih d' a2 w2 G3 (by rw [l3, hl2, hl]) (hp3.weaken l3 hi3 hh3) hk
              | exit id =>
                simp only at hK
                cases hd' : decOut x.n t.outs (.exit id) e' with
                | none => rw [hd'] at hK; simp at hK
                | some b' =>
                  rw [hd'] at hK
                  simp only [Option.map_some, Option.some.injEq] at hK
                  subst hK
                  simp only [Option.some.injEq] at hk
                  subst hk
                  obtain ⟨e3, l3, hK3, G3, hi3, hh3⟩ := decOut_ok hd' hp2.inv e'.length (Nat.le_refl _)
                  rw [hK3] at h
                  exact hq (.exit id) e3 a2 w2 G3 h (by rw [l3, hl2, hl]) (hp3.weaken l3 hi3 hh3)
              | ret =>
                simp only at hK
                cases hd' : decOut x.n t.outs .ret e' with
                | none => rw [hd'] at hK; simp at hK
                | some b' =>
                  rw [hd'] at hK
                  simp only [Option.map_some, Option.some.injEq] at hK
                  subst hK
                  simp only [Option.some.injEq] at hk
                  subst hk
                  obtain ⟨e3, l3, hK3, G3, hi3, hh3⟩ := decOut_ok hd' hp2.inv e'.length (Nat.le_refl _)
                  rw [hK3] at h
                  exact hq .ret e3 a2 w2 G3 h (by rw [l3, hl2, hl]) (hp3.weaken l3 hi3 hh3)
        exact key bigN d a w G0 l0 hp0 hT
      · rw [hsub] at hrun hnl
        refine hself hnl _ (t.P.enc d) _ b ((hrun d).trans hT) a w G0 hi0 Q fun ex e' a' w' G' hK hl hp => ?_
        obtain ⟨e3, l3, hK3, G3, hi3, hh3⟩ := decOut_ok hK hp.inv e'.length (Nat.le_refl _)
        rw [hK3] at h
        exact hq ex e3 a' w' G3 h (by rw [l3, hl, l0]) ((hp0.trans hp hl.symm).weaken l3 hi3 hh3)
  · simp at h

/-- What the machine runs to, the model runs to. -/
theorem runD_both (hx : CtxOk P x) (ho : Over x bk) (hlen : x.n ≤ 1000000) (hm : P.follows .mixedOrders = true) (hn : Nodes x bk tb root tb) :
    ∀ (c : Code) (pos : Nat), 1 ≤ pos → sub root pos = c → (∀ (R : Type) (e : Env) (K : Ex → Env → Option R) (r : R), runD x bk tb pos c e K = some r → Runs P x c e K r) ∧
      (∀ t, tb.at pos = some t → ∀ (R : Type) (e : Env) (K : Ex → Env → Option R) (r : R), entD x.n t e K = some r → Runs P x c e K r) := by
  intro c
  -- what is no loop is its own book
  have both : ∀ (c : Code) (pos : Nat), 1 ≤ pos → sub root pos = c → (∀ a, c ≠ .loop a) → (∀ (R : Type) (e : Env) (K : Ex → Env → Option R) (r : R), runD x bk tb pos c e K = some r → Runs P x c e K r) →
      (∀ (R : Type) (e : Env) (K : Ex → Env → Option R) (r : R), runD x bk tb pos c e K = some r → Runs P x c e K r) ∧
      (∀ t, tb.at pos = some t → ∀ (R : Type) (e : Env) (K : Ex → Env → Option R) (r : R), entD x.n t e K = some r → Runs P x c e K r) :=
    fun c pos hpos hsub hnl hA => ⟨hA, fun t ht R e K r h => ent_ok (x := x) (bk := bk) (tb := tb) (root := root) hpos hsub (hn.at ht) (fun a ha => absurd ha (hnl a)) (fun _ => hA) h⟩
  induction c with
  | skip =>
    intro pos hpos hsub
    refine both _ pos hpos hsub (by simp) ?_
    intro R e K r h a w G hi Q hq
    simp only [runD] at h
    exact wp_skip (hq .normal e a w G h rfl (Post.refl hi))
  | region id ops d =>
    intro pos hpos hsub
    refine both _ pos hpos hsub (by simp) ?_
    intro R e K r h a w G hi Q hq
    simp only [runD] at h
    rw [regionD_eq ho] at h
    cases hr : region x ops d e with
    | none => rw [hr] at h; simp at h
    | some e' =>
      rw [hr] at h
      have hl : e'.length = e.length := by
        simp only [region] at hr
        split at hr
        · simp at hr
        · rename_i hrun
          split at hr
          · simp only [Option.some.injEq] at hr
            subst hr
            exact runA_length hrun
          · simp at hr
      exact region_sound hx hlen hm hi hr Q fun a' w' G' hp => hq .normal e' a' w' G' h hl hp
  | seq p q ihp ihq =>
    intro pos hpos hsub
    have h0 : sub root (2 * pos) = p := by have := sub_child root hpos 0 (by omega); rw [hsub] at this; exact this
    have h1 : sub root (2 * pos + 1) = q := by have := sub_child root hpos 1 (by omega); rw [hsub] at this; exact this
    refine both _ pos hpos hsub (by simp) ?_
    intro R e K r h a w G hi Q hq
    simp only [runD] at h
    refine wp_seq ((ihp (2 * pos) (by omega) h0).1 R e _ r h a w G hi _ fun ex e' a' w' G' hK hl hp => ?_)
    cases ex with
    | normal =>
      simp only at hK
      have hgo : Runs P x q e' K r := by
        cases ht : tb.at (2 * pos + 1) with
        | none =>
          rw [ht] at hK
          exact (ihq (2 * pos + 1) (by omega) h1).1 R e' K r hK
        | some t =>
          rw [ht] at hK
          exact (ihq (2 * pos + 1) (by omega) h1).2 t ht R e' K r hK
      exact hgo a' w' G' hp.inv Q fun ex' e'' a'' w'' G'' hK' hl' hp' => hq ex' e'' a'' w'' G'' hK' (hl'.trans hl) (hp.trans hp' hl'.symm)
    | exit id => exact hq (.exit id) e' a' w' G' hK hl hp
    | ret => exact hq .ret e' a' w' G' hK hl hp
  | cond c p q ihp ihq =>
    intro pos hpos hsub
    have h0 : sub root (2 * pos) = p := by have := sub_child root hpos 0 (by omega); rw [hsub] at this; exact this
    have h1 : sub root (2 * pos + 1) = q := by have := sub_child root hpos 1 (by omega); rw [hsub] at this; exact this
    refine both _ pos hpos hsub (by simp) ?_
    intro R e K r h a w G hi Q hq
    simp only [runD] at h
    split at h
    · rename_i t hin hc
      have hval : ∃ vs Ls, ValOk e w G (.one, [.dat .bool t]) (a.eval c) vs Ls := by
        refine opd_ok hi (fun s => .inl rfl) (fun s hs => ?_) hc
        subst hs
        simpa [opdUses] using hin
      obtain ⟨vs, Ls, hv⟩ := hval
      have hb : a.eval c = .bool t := by
        have hl := hv.cells.len
        match vs, hl with
        | [u], _ =>
          have := dat_bool (hv.cells.cell 0 _ u rfl rfl)
          rw [hv.form, this]
          rfl
      cases t with
      | true => exact wp_cond_true hb ((ihp (2 * pos) (by omega) h0).1 R e K r (by simpa using h) a w G hi Q hq)
      | false => exact wp_cond_false hb ((ihq (2 * pos + 1) (by omega) h1).1 R e K r (by simpa using h) a w G hi Q hq)
    · simp at h
  | block id p ihp =>
    intro pos hpos hsub
    have h0 : sub root (2 * pos) = p := by have := sub_child root hpos 0 (by omega); rw [hsub] at this; exact this
    refine both _ pos hpos hsub (by simp) ?_
    intro R e K r h a w G hi Q hq
    simp only [runD] at h
    refine wp_block ((ihp (2 * pos) (by omega) h0).1 R e _ r h a w G hi _ fun ex e' a' w' G' hK hl hp => ?_)
    cases ex with
    | normal => exact hq .normal e' a' w' G' hK hl hp
    | ret => exact hq .ret e' a' w' G' hK hl hp
    | exit i =>
      simp only at hK
      simp only [Ex.exit', Exit.inBlock]
      split at hK
      · rename_i hb
        rw [if_pos (Nat.eq_of_beq_eq_true hb)]
        exact hq .normal e' a' w' G' hK hl hp
      · rename_i hb
        rw [if_neg fun q => by subst q; simp at hb]
        exact hq (.exit i) e' a' w' G' hK hl hp
  | loop p ihp =>
    intro pos hpos hsub
    have h0 : sub root (2 * pos) = p := by have := sub_child root hpos 0 (by omega); rw [hsub] at this; exact this
    have hB : ∀ t, tb.at pos = some t → ∀ (R : Type) (e : Env) (K : Ex → Env → Option R) (r : R), entD x.n t e K = some r → Runs P x (.loop p) e K r := by
      intro t ht R e K r h
      refine ent_ok (x := x) (bk := bk) (tb := tb) (root := root) hpos hsub (hn.at ht) (fun a ha => ?_) (fun hnl => absurd rfl (hnl p)) h
      cases ha
      exact (ihp (2 * pos) (by omega) h0).1
    refine ⟨fun R e K r h => ?_, hB⟩
    simp only [runD] at h
    split at h
    · rename_i t ht
      exact hB t ht R e K r h
    · simp at h
  | exit id =>
    intro pos hpos hsub
    refine both _ pos hpos hsub (by simp) ?_
    intro R e K r h a w G hi Q hq
    simp only [runD] at h
    exact wp_exit (hq (.exit id) e a w G h rfl (Post.refl hi))
  | ret =>
    intro pos hpos hsub
    refine both _ pos hpos hsub (by simp) ?_
    intro R e K r h a w G hi Q hq
    simp only [runD] at h
    exact wp_ret (hq .ret e a w G h rfl (Post.refl hi))
  | _ =>
    intro pos hpos hsub
    refine both _ pos hpos hsub (by simp) ?_
    intro R e K r h
    simp [runD] at h

end sound

end Go.Mach
