/- The words of the printed twins. No condition: definitions and lemmas. -/
import Derived.Test.YthchcnfkgjmabaaGreatXI
namespace Go.Mach
set_option linter.unusedVariables false

/-- A loop. -/
def lp {α β : Type} (S : α → Option (α ⊕ β)) (d : α) : Option β := iter S bigN d
abbrev w64 (x : Int) : Int := IntKind.wrap .i64 x
abbrev ln {α : Type} (l : List α) : Int := (l.length : Int)
abbrev gx {α : Type} (l : List α) (i : Int) (d : α) : α := l.getD i.toNat d
abbrev sx {α : Type} (l : List α) (i : Int) (v : α) : List α := l.set i.toNat v
/-- A place that must be there. -/
def ix {R : Type} (i : Int) (n : Nat) (k : Option R) : Option R := chk (decide (0 ≤ i)) (chk (decide (i.toNat < n)) k)
def g0 {R : Type} (i : Int) (k : Option R) : Option R := chk (decide (0 ≤ i)) k
def lx {R : Type} (i : Int) (n : Nat) (k : Option R) : Option R := chk (decide (i.toNat < n)) k
def bx {α β R : Type} (x : Option (α ⊕ β)) (f : α → Option R) (g : β → Option R) : Option R := x.bind fun b => Sum.elim f g b
def ex {α β R : Type} (b : α ⊕ β) (f : α → Option R) (g : β → Option R) : Option R := Sum.elim f g b

theorem bN {P : Program} [Tabs P] : BookOk P [] := trivial
theorem bC {P : Program} [Tabs P] {f : Nat} {t : FEnt} {b : Book} (h : FnOk P f t) (r : BookOk P b) : BookOk P ((f, t) :: b) := ⟨h, r⟩

theorem ix_ok {R : Type} {i : Int} {n : Nat} (h : 0 ≤ i) (h' : i.toNat < n) (k : Option R) : ix i n k = k := by simp [ix, chk, h, h']
theorem g0_ok {R : Type} {i : Int} (h : 0 ≤ i) (k : Option R) : g0 i k = k := by simp [g0, chk, h]
theorem lx_ok {R : Type} {i : Int} {n : Nat} (h' : i.toNat < n) (k : Option R) : lx i n k = k := by simp [lx, chk, h']
@[simp] theorem bx_inl {α β R : Type} (a : α) (f : α → Option R) (g : β → Option R) : bx (some (.inl a)) f g = f a := rfl
@[simp] theorem bx_inr {α β R : Type} (b : β) (f : α → Option R) (g : β → Option R) : bx (some (.inr b)) f g = g b := rfl
@[simp] theorem bx_none {α β R : Type} (f : α → Option R) (g : β → Option R) : bx none f g = none := rfl
@[simp] theorem ex_inl {α β R : Type} (a : α) (f : α → Option R) (g : β → Option R) : ex (.inl a) f g = f a := rfl
@[simp] theorem ex_inr {α β R : Type} (b : β) (f : α → Option R) (g : β → Option R) : ex (.inr b) f g = g b := rfl

end Go.Mach
