/- The machine, part np: how a function's book entry is proved. No condition: lemmas. -/
import Derived.Test.YtcdkpfcfcjnooaaNo
namespace Go.Mach
set_option linter.unusedVariables false
set_option linter.unusedSimpArgs false

def isLoop : Code → Bool
  | .loop _ => true
  | _ => false

/-- How a loop's body ends. -/
def bodyK (n : Nat) (t : NEnt) : Ex → Env → Option (t.P.T ⊕ OutT t.outs)
  | .normal, e => (t.P.dec n e).map .inl
  | ex, e => (decOut n t.outs ex e).map .inr

theorem nodeLoop {x : Ctx} {bk : Book} {tb : Tab} {root : Code} {pos : Nat} {t : NEnt} (hl : isLoop (sub root pos) = true) (S : t.P.T → Option (t.P.T ⊕ OutT t.outs)) (hT : t.T = fun d => iter S bigN d)
    (hrun : ∀ d, runD x bk tb (2 * pos) (childC 0 (sub root pos)) (t.P.enc d) (bodyK x.n t) = S d) : NodeOk x bk tb root pos t := by
  left
  cases hs : sub root pos <;> rw [hs] at hl <;> simp [isLoop] at hl
  rename_i a
  refine ⟨a, rfl, S, hT, fun d => ?_⟩
  have := hrun d
  rw [hs] at this
  have hk : (bodyK x.n t) = fun ex e => match ex with | .normal => (t.P.dec x.n e).map .inl | ex => (decOut x.n t.outs ex e).map .inr := by
    funext ex e
    cases ex <;> rfl
  rw [hk] at this
  exact this

theorem nodeJoin {x : Ctx} {bk : Book} {tb : Tab} {root : Code} {pos : Nat} {t : NEnt} (hl : isLoop (sub root pos) = false)
    (hrun : ∀ d, runD x bk tb pos (sub root pos) (t.P.enc d) (decOut x.n t.outs) = t.T d) : NodeOk x bk tb root pos t := by
  right
  refine ⟨hrun, fun a h => ?_⟩
  rw [h] at hl
  simp [isLoop] at hl

/-- What is looked at once. -/
def entOk (fn : Func) (bk : Book) (t : FEnt) : Bool :=
  Nat.beq fn.ntmps t.n && Nat.ble t.args.length t.n && t.md.isEmpty && Nat.ble t.n 1000000 && bk.plain && !(fn.name == "runtime.NumGoroutine")

theorem fnOk_mk {P : Program} {f : Nat} {fn : Func} {c : Code} {bk : Book} {tb : Tab} {t : FEnt} (hm : P.follows .mixedOrders = true) (hf : P.funcs[f]? = some fn) (hbk : BookOk P bk) (hb : fn.body = some c) (hres : rvsB P fn.results.toList t.results = true)
    (hok : entOk fn bk t = true) (hnodes : Nodes (ctxOf P fn bk) bk tb c tb)
    (hrun : ∀ d, runD (ctxOf P fn bk) bk tb 1 c (startE t.n t.md (encA t.args d)) (finK (n := t.n) t.out) = t.T d) : FnOk P f t := by
  simp only [entOk, Bool.and_eq_true] at hok
  obtain ⟨⟨⟨⟨⟨h1, h2⟩, h3⟩, h4⟩, h6⟩, h7⟩ := hok
  exact fnOk_of_run (ctxOf_sound hbk h6) hf hb (Nat.eq_of_beq_eq_true h1) hres (Nat.le_of_ble_eq_true h2) (by simpa using h3) (Nat.le_of_ble_eq_true h4) (by simpa using h7) hm hnodes hrun

end Go.Mach
