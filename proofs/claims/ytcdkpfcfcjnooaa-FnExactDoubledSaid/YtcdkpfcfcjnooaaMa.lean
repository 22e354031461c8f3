/- The machine, part a: kinds of data, typed values, leaves, paths. No condition: definitions and plain lemmas. -/
import Derived.Orders
namespace Go.Mach

/-- The kinds of data. A struct is a pair of pairs. -/
inductive K where
  | int (k : IntKind)
  | bool
  | str
  | list (k : K)
  | pair (a b : K)
  deriving DecidableEq, Repr, Inhabited

@[reducible] def K.T : K → Type
  | .int _ => Int
  | .bool => Bool
  | .str => List UInt8
  | .list k => List k.T
  | .pair a b => a.T × b.T

def K.size : K → Nat
  | .pair a b => a.size + b.size
  | _ => 1

def K.dflt : (k : K) → k.T
  | .int _ => (0 : Int)
  | .bool => false
  | .str => []
  | .list _ => []
  | .pair a b => (a.dflt, b.dflt)

/-- No slice inside. -/
def K.flat : K → Bool
  | .list _ => false
  | .pair a b => a.flat && b.flat
  | _ => true

/-- The kind of the leaf at a cell. -/
def K.leaf : K → Nat → K
  | .pair a b, c => if c < a.size then a.leaf c else b.leaf (c - a.size)
  | k, _ => k

abbrev Sg := (k : K) × k.T

def castT (s : Sg) (k : K) (d : k.T) : k.T := if h : s.1 = k then h ▸ s.2 else d

def leafV : (k : K) → k.T → Nat → Sg
  | .int i, x, _ => ⟨.int i, x⟩
  | .bool, x, _ => ⟨.bool, x⟩
  | .str, x, _ => ⟨.str, x⟩
  | .list k, x, _ => ⟨.list k, x⟩
  | .pair a b, x, c => if c < a.size then leafV a x.1 c else leafV b x.2 (c - a.size)

def setLeaf : (k : K) → k.T → Nat → Sg → k.T
  | .int i, x, _, s => castT s (.int i) x
  | .bool, x, _, s => castT s .bool x
  | .str, x, _, s => castT s .str x
  | .list k, x, _, s => castT s (.list k) x
  | .pair a b, x, c, s => if c < a.size then (setLeaf a x.1 c s, x.2) else (x.1, setLeaf b x.2 (c - a.size) s)

/-- The leaves, in order. -/
def leaves : (k : K) → k.T → List Sg
  | .int i, x => [⟨.int i, x⟩]
  | .bool, x => [⟨.bool, x⟩]
  | .str, x => [⟨.str, x⟩]
  | .list k, x => [⟨.list k, x⟩]
  | .pair a b, x => leaves a x.1 ++ leaves b x.2

abbrev Path := List (Nat × Nat)

/-- The list at a path. -/
def getP : (k : K) → List k.T → Path → (k' : K) × List k'.T
  | k, l, [] => ⟨k, l⟩
  | k, l, (i, c) :: p =>
    match leafV k (l.getD i k.dflt) c with
    | ⟨.list k', y⟩ => getP k' y p
    | _ => ⟨.bool, []⟩

/-- The list with the list at a path turned. -/
def modP (g : (k : K) → List k.T → List k.T) : (k : K) → List k.T → Path → List k.T
  | k, l, [] => g k l
  | k, l, (i, c) :: p =>
    let x := l.getD i k.dflt
    match leafV k x c with
    | ⟨.list k', y⟩ => l.set i (setLeaf k x c ⟨.list k', modP g k' y p⟩)
    | _ => l

def castL (k : K) (l : List k.T) (k' : K) : Option (List k'.T) := if h : k = k' then some (h ▸ l) else none

/-- What 'x[lo:hi]' leaves of a list. -/
def cut {α : Type} (lo hi : Option Nat) (l : List α) : List α :=
  match lo, hi with
  | none, none => l
  | none, some b => l.take b
  | some a, none => l.drop a
  | some a, some b => (l.take b).drop a

/-- Sets leaves from a cell on. -/
def setLeaves (k : K) : k.T → Nat → List Sg → k.T
  | x, _, [] => x
  | x, c, s :: r => setLeaves k (setLeaf k x c s) (c + 1) r

end Go.Mach
