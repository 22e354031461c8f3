/- The machine, part w: append, in the model. No condition: lemmas. -/
import Derived.Test.YtcdkpfcfcjnooaaMv
namespace Go.Mach
set_option linter.unusedVariables false
set_option linter.unusedSimpArgs false

/-- What is appended: its elements, as cells, and where their data lie. -/
structure Src (P : Program) (w : World) (k : K) (ys : List k.T) (d : Bool) (vy : Value) (cells : List Value) (rows : List LT) : Prop where
  lenOf : ∀ w2 : World, (Builtin.lenOf vy).run P w2 = .ok ys.length w2
  first : ∀ w2 : World, w2.heap = w.heap → (Builtin.firstCells k.size ys.length vy).run P w2 = .ok cells.toArray w2
  len : cells.length = ys.length * k.size
  one : ∀ u ∈ cells, u.oneCell' = true
  rlen : rows.length = ys.length
  rep : ∀ (i : Nat) y r, ys[i]? = some y → rows[i]? = some r → ∃ vs, (∀ (c : Nat) u, vs[c]? = some u → cells[i * k.size + c]? = some u) ∧ Rep d w k y r vs

theorem run_append_in {P : Program} {at0 : Array TypeId} {t0 t1 ty el : TypeId} {d1 : TypeDesc} (h0 : at0[0]? = some t0) (h1 : at0[1]? = some t1) (hu : P.underlying t0 = some (.slice el)) (hu1 : P.underlying t1 = some d1) (hd1 : (∃ e1, d1 = .slice e1) ∨ d1 = .string)
    {i : TypeInfo} (hi : P.info? el = some i) {w : World} {base : Option Addr} {sLen sCap m : Nat} {vy : Value} {cells : List Value} (hl : (Builtin.lenOf vy).run P w = .ok m w)
    (hf : (Builtin.firstCells i.size m vy).run P w = .ok cells.toArray w) (hroom : sLen + m ≤ sCap) {w' : World}
    (hst : ∀ a, base = some a → (storeCells (a.add (sLen * i.size)) cells 0).run P w = .ok () w') (hn : base = none → w' = w) :
    (Builtin.append_ at0 ty #[.slice base sLen sCap, vy]).run P w = .ok (.slice base (sLen + m) sCap) w' := by
  cases base with
  | none =>
    rw [hn rfl]
    rcases hd1 with ⟨e1, rfl⟩ | rfl <;> simp [Builtin.append_, h0, h1, Go.run_underlying hu, Go.run_underlying hu1, sizeOf, typeInfo, hi, hl, hroom, hf]
  | some a =>
    have := hst a rfl
    rcases hd1 with ⟨e1, rfl⟩ | rfl <;> simp [Builtin.append_, h0, h1, Go.run_underlying hu, Go.run_underlying hu1, sizeOf, typeInfo, hi, hl, hroom, hf, this]

theorem run_append_out {P : Program} {at0 : Array TypeId} {t0 t1 ty el : TypeId} {d1 : TypeDesc} (h0 : at0[0]? = some t0) (h1 : at0[1]? = some t1) (hu : P.underlying t0 = some (.slice el)) (hu1 : P.underlying t1 = some d1) (hd1 : (∃ e1, d1 = .slice e1) ∨ d1 = .string)
    {i : TypeInfo} (hi : P.info? el = some i) {z : Value} (hz : i.zero = some z) {w : World} {base : Option Addr} {sLen sCap m : Nat} {vy : Value} {olds cells : List Value} (hl : (Builtin.lenOf vy).run P w = .ok m w)
    (hfo : (Builtin.firstCells i.size sLen (.slice base sLen sCap)).run P w.drew = .ok olds.toArray w.drew)
    (hf : (Builtin.firstCells i.size m vy).run P w.drew = .ok cells.toArray w.drew) (hroom : ¬ sLen + m ≤ sCap) (h63 : ((sLen + m : Nat) : Int) ≤ 9223372036854775807) (hfit : Builtin.nextslicecap (sLen + m) sCap * i.bytes ≤ 281474976710656) :
    (Builtin.append_ at0 ty #[.slice base sLen sCap, vy]).run P w = .ok (.slice (some ⟨w.heap.size, 0, none⟩) (sLen + m) (grownCap w (sLen + m) sCap el))
        (w.drew.alloc (.cells (olds.toArray ++ cells.toArray ++ Builtin.zeroCells z.cells (grownCap w (sLen + m) sCap el - (sLen + m))) el)) := by
  have h63' : ¬ (9223372036854775807 < ((sLen : Int) + (m : Int))) := by omega
  have h48' : ¬ (281474976710656 < Builtin.nextslicecap (sLen + m) sCap * i.bytes) := by omega
  rcases hd1 with ⟨e1, rfl⟩ | rfl <;> simp [Builtin.append_, h0, h1, Go.run_underlying hu, Go.run_underlying hu1, sizeOf, typeInfo, zeroValue, hi, hz, hl, hroom, h63', h48', Question.forced, hf, hfo, newRow, grownCap] <;> (congr 2; apply Array.ext'; simp [List.append_assoc])

/-- The rows of a list, and what is put behind them. -/
def addL (k : K) (L : LT) (b off cap : Nat) (rows : List LT) : LT := match L with
  | .node _ _ _ rs => .node b off cap (rs ++ rows)
  | _ => .node b off cap rows

def rowsOf : LT → List LT
  | .node _ _ _ rs => rs
  | _ => []

/-- A list that is made of another's cells and of new ones, in a block. -/
theorem repl_append {P : Program} {w w' : World} {k : K} {l ys : List k.T} {L : LT} {v vy : Value} {dr d0 d dd : Bool} {cells olds : List Value} {rows : List LT} (h : RepL dr w k.size (Rep d0 w k) l L v) (hsrc : Src P w k ys d vy cells rows)
    (ho : olds.length = l.length * k.size)
    (hold : ∀ b' off cap' rows, L = .node b' off cap' rows → rows.length = l.length ∧ ∀ (i : Nat) x r, l[i]? = some x → rows[i]? = some r → ∃ vs, (∀ (c : Nat) u, vs[c]? = some u → olds[i * k.size + c]? = some u) ∧ Rep d0 w k x r vs)
    (h0 : dd = true → d0 = true) (h1 : dd = true → d = true) {b off cap : Nat}
    (hcell : ∀ (q : Nat) u, (olds ++ cells)[q]? = some u → w'.cell? ⟨b, off + q, none⟩ = some u) (hblk : w'.heap[b]? ≠ none) (hroom : Room w' b (off + cap * k.size)) (hcap : l.length + ys.length ≤ cap)
    (hs : Same w w' ((rowsOf L).flatMap (fp k))) (hs' : Same w w' (rows.flatMap (fp k))) :
    RepL true w' k.size (Rep dd w' k) (l ++ ys) (.node b off cap (rowsOf L ++ rows)) (.slice (some ⟨b, off, none⟩) (l.length + ys.length) cap) := by
  have hrl : (rowsOf L).length = l.length := by
    cases L with
    | node b' off' cap' rs => exact (hold _ _ _ _ rfl).1
    | _ =>
      rcases h with ⟨_, rfl, _⟩ | ⟨_, _, _, _, q, _⟩
      · rfl
      · simp at q
  refine .inr ⟨b, off, cap, _, rfl, by simp, by simpa using hcap, by simp [hrl, hsrc.rlen], hblk, fun _ => hroom, fun i x r hx hr => ?_⟩
  have to : ∀ {dx : Bool} {x : k.T} {r : LT} {vs : List Value}, Rep dx w k x r vs → Same w w' (fp k r) → (dd = true → dx = true) → Rep dd w' k x r vs := by
    intro dx x r vs hrep hsm hdx
    have := hrep.same hsm
    cases dx with
    | true => exact this.any dd
    | false => cases dd with
      | true => simp at hdx
      | false => exact this
  by_cases hi : i < l.length
  · rw [List.getElem?_append_left hi] at hx
    rw [List.getElem?_append_left (by omega)] at hr
    cases L with
    | node b' off' cap' rs =>
      obtain ⟨vs, q1, q2⟩ := (hold _ _ _ _ rfl).2 i x r hx hr
      refine ⟨vs, fun c u hu => ?_, to q2 (fun b1 hb1 => hs b1 (List.mem_flatMap.2 ⟨r, List.mem_of_getElem? hr, hb1⟩)) h0⟩
      rw [Nat.add_assoc]
      refine hcell _ u ?_
      have := q1 c u hu
      rw [List.getElem?_append_left (List.getElem?_eq_some_iff.1 this).1]
      exact this
    | _ => simp [rowsOf] at hr
  · rw [List.getElem?_append_right (by omega)] at hx
    rw [List.getElem?_append_right (by omega), hrl] at hr
    obtain ⟨vs, q1, q2⟩ := hsrc.rep _ x r hx hr
    refine ⟨vs, fun c u hu => ?_, to q2 (fun b1 hb1 => hs' b1 (List.mem_flatMap.2 ⟨r, List.mem_of_getElem? hr, hb1⟩)) h1⟩
    rw [Nat.add_assoc]
    refine hcell _ u ?_
    have := q1 c u hu
    have hik : i * k.size = l.length * k.size + (i - l.length) * k.size := by rw [← Nat.add_mul]; congr 1; omega
    rw [List.getElem?_append_right (by omega), ho, ← this]
    congr 1
    omega

end Go.Mach
