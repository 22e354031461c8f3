/- The machine, parts Ma Mb Mc Md. No condition: definitions and lemmas. -/
import Derived.Orders
/- The machine, part a: kinds of data, typed values, leaves, paths. No condition: definitions and plain lemmas. -/
namespace Go.Mach

/-- The kinds of data. A struct is a pair of pairs. -/
inductive K where
  | int (k : IntKind)
  | bool
  | str
  | list (k : K)
  | pair (a b : K)
  deriving DecidableEq, Repr, Inhabited

@[reducible] def K.T : K → Type
  | .int _ => Int
  | .bool => Bool
  | .str => List UInt8
  | .list k => List k.T
  | .pair a b => a.T × b.T

def K.size : K → Nat
  | .pair a b => a.size + b.size
  | _ => 1

def K.dflt : (k : K) → k.T
  | .int _ => (0 : Int)
  | .bool => false
  | .str => []
  | .list _ => []
  | .pair a b => (a.dflt, b.dflt)

/-- No slice inside. -/
def K.flat : K → Bool
  | .list _ => false
  | .pair a b => a.flat && b.flat
  | _ => true

/-- The kind of the leaf at a cell. -/
def K.leaf : K → Nat → K
  | .pair a b, c => if c < a.size then a.leaf c else b.leaf (c - a.size)
  | k, _ => k

abbrev Sg := (k : K) × k.T

def castT (s : Sg) (k : K) (d : k.T) : k.T := if h : s.1 = k then h ▸ s.2 else d

def leafV : (k : K) → k.T → Nat → Sg
  | .int i, x, _ => ⟨.int i, x⟩
  | .bool, x, _ => ⟨.bool, x⟩
  | .str, x, _ => ⟨.str, x⟩
  | .list k, x, _ => ⟨.list k, x⟩
  | .pair a b, x, c => if c < a.size then leafV a x.1 c else leafV b x.2 (c - a.size)

def setLeaf : (k : K) → k.T → Nat → Sg → k.T
  | .int i, x, _, s => castT s (.int i) x
  | .bool, x, _, s => castT s .bool x
  | .str, x, _, s => castT s .str x
  | .list k, x, _, s => castT s (.list k) x
  | .pair a b, x, c, s => if c < a.size then (setLeaf a x.1 c s, x.2) else (x.1, setLeaf b x.2 (c - a.size) s)

/-- The leaves, in order. -/
def leaves : (k : K) → k.T → List Sg
  | .int i, x => [⟨.int i, x⟩]
  | .bool, x => [⟨.bool, x⟩]
  | .str, x => [⟨.str, x⟩]
  | .list k, x => [⟨.list k, x⟩]
  | .pair a b, x => leaves a x.1 ++ leaves b x.2

abbrev Path := List (Nat × Nat)

/-- The list at a path. -/
def getP : (k : K) → List k.T → Path → (k' : K) × List k'.T
  | k, l, [] => ⟨k, l⟩
  | k, l, (i, c) :: p =>
    match leafV k (l.getD i k.dflt) c with
    | ⟨.list k', y⟩ => getP k' y p
    | _ => ⟨.bool, []⟩

/-- The list with the list at a path turned. -/
def modP (g : (k : K) → List k.T → List k.T) : (k : K) → List k.T → Path → List k.T
  | k, l, [] => g k l
  | k, l, (i, c) :: p =>
    let x := l.getD i k.dflt
    match leafV k x c with
    | ⟨.list k', y⟩ => l.set i (setLeaf k x c ⟨.list k', modP g k' y p⟩)
    | _ => l

def castL (k : K) (l : List k.T) (k' : K) : Option (List k'.T) := if h : k = k' then some (h ▸ l) else none

/-- What 'x[lo:hi]' leaves of a list. -/
def cut {α : Type} (lo hi : Option Nat) (l : List α) : List α :=
  match lo, hi with
  | none, none => l
  | none, some b => l.take b
  | some a, none => l.drop a
  | some a, some b => (l.take b).drop a

/-- Sets leaves from a cell on. -/
def setLeaves (k : K) : k.T → Nat → List Sg → k.T
  | x, _, [] => x
  | x, c, s :: r => setLeaves k (setLeaf k x c s) (c + 1) r

end Go.Mach
/- The machine, part b: abstract slots, operations, code. No condition: definitions. -/
namespace Go.Mach
set_option linter.unusedVariables false

/-! ### Types, as the machine wants them -/
inductive TD where
  | slice (e : Nat) | arr (n e : Nat) | struct (fs : List (Nat × Nat)) | other
  deriving Inhabited

structure Ti where
  size : Nat
  bytes : Nat
  k : Option K
  d : TD
  zero : Option Value
  isB : Bool := false
  ok : Bool := false
  isS : Bool := false
  /-- how many fields, where all are whole numbers, one behind the other, and can be compared -/
  eqI : Option Nat := none
  deriving Inhabited

def intFields (P : Program) : Nat → List Field → Bool
  | _, [] => true
  | i, f :: r => f.name != "_" && Nat.beq f.offset i && (match P.underlying f.type with | some (.int _) => true | _ => false) && (match P.info? f.type with | some t => Nat.beq t.size 1 | none => false) && intFields P (i + 1) r

def eqInts (P : Program) (t : Nat) : Option Nat := match P.underlying t with
  | some (.struct fs) => if intFields P 0 fs.toList && !P.stoodInHeld t && !P.eqGuardType P.depth t then some fs.size else none
  | _ => none

def pairs : List (Option K) → Option K
  | [] => none
  | [k] => k
  | k :: r => match k, pairs r with
    | some a, some b => some (.pair a b)
    | _, _ => none

def tyK (P : Program) : Nat → Nat → Option K
  | 0, _ => none
  | n + 1, t => match P.underlying t with
    | some (.int k) => some (.int k)
    | some .bool => some .bool
    | some .string => some .str
    | some (.slice e) => (tyK P n e).map .list
    | some (.struct fs) => pairs (fs.toList.map fun f => tyK P n f.type)
    | _ => none

def tyD (P : Program) (t : Nat) : TD := match P.underlying t with
  | some (.slice e) => .slice e
  | some (.array n e) => .arr n e
  | some (.struct fs) => .struct (fs.toList.map fun f => (f.offset, f.type))
  | _ => .other

def tyOf (P : Program) (t : Nat) : Ti := match P.info? t with
  | some i => { size := i.size, bytes := i.bytes, k := (match tyK P 12 t with | some k => if k.size = i.size then some k else none | none => none), d := tyD P t, zero := i.zero, isB := (match P.underlying t with | some .bool => true | _ => false), ok := (match P.underlying t with | some (.struct _) => true | some (.array ..) => true | some _ => i.size = 1 | none => false), isS := (match P.underlying t with | some .string => true | _ => false), eqI := eqInts P t }
  | none => { size := 0, bytes := 0, k := none, d := .other, zero := none }

def Ti.agg (t : Ti) : Bool := match t.d with
  | .struct _ => true
  | .arr _ _ => true
  | _ => false

/-! ### Cells and slots -/
inductive C where
  | dead
  | nil
  | dat (k : K) (x : k.T)
  | own (rv sv : Nat) (deep : Bool) (k : K) (l : List k.T)
  | ref (s j rv sv : Nat) (p : Path) (lo hi : Option Nat) (k : K)
  | bptr (s bv j : Nat)
  | aptr (s j rv sv : Nat) (p : Path) (i c : Nat) (k : K)
  | pim (cs : List C) (j : Nat)
  | fn (f : Nat) (caps : List C)
  deriving Inhabited

inductive Sh where
  | dead | one | agg | tup (ps : List (Option Nat)) | box (bv : Nat)
  deriving DecidableEq, Inhabited

structure Slot where
  sh : Sh := .dead
  cs : List C := []
  cnt : Nat := 0
  deriving Inhabited

abbrev Env := List Slot
def Sh.isV : Sh → Bool
  | .one => true
  | .agg => true
  | _ => false
def Env.get (e : Env) (s : Nat) : Slot := e.getD s {}

def litC : Value → C
  | .bool b => .dat .bool b
  | .int k n => .dat (.int k) n
  | .string s => .dat .str s.data.toList
  | .slice none 0 0 => .nil
  | _ => .dead

def Ti.zeros (t : Ti) : List C := match t.zero with
  | some (.agg vs) => vs.toList.map litC
  | some v => [litC v]
  | none => []

/-- A value: its shape (never a box) and its cells. -/
abbrev Val := Sh × List C

def C.copy (t j : Nat) : C → C
  | .own rv sv _ k _ => .ref t j rv sv [] none none k
  | c => c

def copyFrom (t : Nat) : Nat → List C → List C
  | _, [] => []
  | j, c :: r => c.copy t j :: copyFrom t (j + 1) r

/-- What an operand reads as. What is owned reads as a reference. -/
def opd (get : Nat → Slot) : Operand → Option Val
  | .tmp t => match (get t).sh with
    | .dead => none
    | .box bv => some (.one, [.bptr t bv 0])
    | sh => some (sh, copyFrom t 0 (get t).cs)
  | .const (.agg vs) => some (.agg, vs.toList.map litC)
  | .const v => some (.one, [litC v])
  | .func f => some (.one, [.fn f []])
  | .global _ => none

/-- Versions: what lies deeper than a path of one step may be turned while that path's references stay. -/
def verM : Nat := 65536
def svOk (p : Path) (a b : Nat) : Bool := match p with
  | [] => true
  | [_] => Nat.beq (a / verM) (b / verM)
  | _ => Nat.beq a b
def jumpV (cnt : Nat) : Nat := (cnt / verM + 1) * verM
def nextV (p : Path) (sv cnt : Nat) : Nat := match p with
  | [] => jumpV cnt
  | _ => bif Nat.beq (cnt / verM) (sv / verM) then cnt else jumpV cnt
/-- The list that a reference reads, and whether all below it is owned. -/
def content (get : Nat → Slot) (s j rv sv : Nat) (p : Path) (k : K) : Option (Bool × List k.T) :=
  match (get s).cs.getD j .dead with
  | .own rv' sv' deep k0 l0 =>
    if rv = rv' ∧ (p = [] ∨ (svOk p sv sv' = true ∧ deep = true)) then (castL (getP k0 l0 p).1 (getP k0 l0 p).2 k).map fun l => (deep, l)
    else none
  | _ => none

def C.isPtr : C → Bool
  | .bptr .. => true
  | .aptr .. => true
  | .pim .. => true
  | _ => false

def C.live : C → Bool
  | .dead => false
  | _ => true

def C.plain : C → Bool
  | .dat _ _ => true
  | .nil => true
  | _ => false

/-- A cell of a box as what nobody writes any more. -/
def snapIn : C → Option C
  | .dat k x => some (.dat k x)
  | .nil => some .nil
  | .own _ _ _ k l => some (.dat (.list k) l)
  | _ => none

def snapIns : List C → Option (List C)
  | [] => some []
  | c :: r => match snapIn c, snapIns r with
    | some c, some r => some (c :: r)
    | _, _ => none

/-- A cell as what nobody writes any more. -/
def snap (get : Nat → Slot) : C → Option C
  | .dat k x => some (.dat k x)
  | .nil => some .nil
  | .ref s j rv sv p lo hi k => (content get s j rv sv p k).map fun x => .dat (.list k) (cut lo hi x.2)
  | .bptr s bv j => if (get s).sh = .box bv then (snapIns (get s).cs).map (C.pim · j) else none
  | .pim cs j => some (.pim cs j)
  | _ => none

abbrev Writes := List (Nat × Slot)

def Slot.kill (x : Slot) (j : Nat) : Slot := { x with cs := x.cs.set j .dead }

/-- A new value laid into a slot. -/
def Slot.lay (x : Slot) (sh : Sh) (cs : List C) : Slot :=
  { sh := (match sh with | .box _ => .box x.cnt | s => s), cs := cs.map (fun | .own _ _ d k l => .own x.cnt 0 d k l | c => c), cnt := x.cnt + 1 }

/-- The state of an operation: what it has turned so far, over what it sees. -/
structure Tr where
  get : Nat → Slot
  d : Option Nat := none
  ws : Writes := []

def Tr.at (t : Tr) (s : Nat) : Slot := match t.ws.find? (·.1 = s) with
  | some w => w.2
  | none => t.get s

def Tr.put (t : Tr) (s : Nat) (x : Slot) : Tr := { t with ws := (s, x) :: t.ws.filter (·.1 ≠ s) }

/-- A value on its way into a variable: what a temporary owns is moved, the rest stays. -/
def Tr.take (vars : List Nat) (t : Tr) : List C → Tr × List C
  | [] => (t, [])
  | c :: r =>
    match c with
    | .ref s j rv _ [] lo hi k =>
      match vars.contains s, (t.at s).cs.getD j .dead with
      | false, .own rv' _ d k' l =>
        if rv = rv' then
          let (t', r') := ({ t.put s ((t.at s).kill j) with } : Tr).take vars r
          (t', .own 0 0 d k' (cut lo hi l) :: r')
        else let (t', r') := t.take vars r; (t', c :: r')
      | _, _ => let (t', r') := t.take vars r; (t', c :: r')
    | _ => let (t', r') := t.take vars r; (t', c :: r')

/-- A cell on its way into a row: its data; whether all of it is owned. Owned at a root: moved. Deeper: what it lies in is frozen. -/
def Tr.grab (t : Tr) (c : C) (k : K) : Option (Tr × k.T × Bool) :=
  match c with
  | .dat k' x => if k' = k then some (t, castT ⟨k', x⟩ k k.dflt, k.flat) else none
  | .nil => match k with
    | .list _ => some (t, [], true)
    | _ => none
  | .ref s j rv sv p lo hi k1 =>
    match (t.at s).cs.getD j .dead with
    | .own rv' sv' d k0 l0 =>
      if rv = rv' ∧ (p = [] ∨ (svOk p sv sv' = true ∧ d = true)) ∧ K.list k1 = k then
        match castL (getP k0 l0 p).1 (getP k0 l0 p).2 k1 with
        | none => none
        | some l =>
          match p with
          | [] => some (t.put s ((t.at s).kill j), castT ⟨.list k1, cut lo hi l⟩ k k.dflt, d)
          | _ :: _ => some (t.put s { t.at s with cs := (t.at s).cs.set j (.own rv' sv' false k0 l0) }, castT ⟨.list k1, cut lo hi l⟩ k k.dflt, false)
      else none
    | _ => none
  | _ => none

/-- Cells as one element of a kind. -/
def Tr.pack (t : Tr) : (k : K) → List C → Option (Tr × k.T × Bool)
  | .pair a b, cs =>
    match t.pack a (cs.take a.size) with
    | none => none
    | some (t, x, d) => match t.pack b (cs.drop a.size) with
      | none => none
      | some (t, y, e) => some (t, (x, y), d && e)
  | .int i, cs => match cs with | [c] => t.grab c (.int i) | _ => none
  | .bool, cs => match cs with | [c] => t.grab c .bool | _ => none
  | .str, cs => match cs with | [c] => t.grab c .str | _ => none
  | .list k, cs => match cs with | [c] => t.grab c (.list k) | _ => none

def Tr.packs (t : Tr) (k : K) : List (List C) → Option (Tr × List k.T × Bool)
  | [] => some (t, [], true)
  | cs :: r => match t.pack k cs with
    | none => none
    | some (t, x, d) => match t.packs k r with
      | none => none
      | some (t, xs, e) => some (t, x :: xs, d && e)

/-- Cells as leaves, to be set one by one. -/
def Tr.grabs (t : Tr) (k : K) (c : Nat) : List C → Option (Tr × List Sg × Bool)
  | [] => some (t, [], true)
  | x :: r => match t.grab x (k.leaf c) with
    | none => none
    | some (t, y, d) => match t.grabs k (c + 1) r with
      | none => none
      | some (t, ys, e) => some (t, ⟨k.leaf c, y⟩ :: ys, d && e)

def Tr.lay (t : Tr) (d : Option Nat) (v : Val) : Tr := match d with
  | some d => t.put d ((t.at d).lay v.1 v.2)
  | none => t

/-- A value with data of its own, laid: there must be a place. -/
def Tr.own (t : Tr) (d : Option Nat) (v : Val) : Option Writes := match d with
  | some d => some (t.lay (some d) v).ws
  | none => none

def C.isFn : C → Bool
  | .fn .. => true
  | _ => false

def C.isOwn : C → Bool
  | .own .. => true
  | _ => false

/-- Cells whose values are known to be such: no dead one, no reference that fits no more. -/
def C.solid (get : Nat → Slot) : C → Bool
  | .dead => false
  | .ref s j rv sv p _ _ k => (content get s j rv sv p k).isSome
  | _ => true

/-- A value whose cells are known to be such. -/
def whole (get : Nat → Slot) (v : Val) : Bool := v.1.isV && v.2.all (C.solid get) && (v.1 = .agg || v.2.length = 1)

/-- Are these the cells of a kind's zero value? -/
def isZero : K → List C → Bool
  | .int k, cs => match cs with
    | [.dat (.int k') n] => k = k' ∧ n = 0
    | _ => false
  | .bool, cs => match cs with
    | [.dat .bool b] => !b
    | _ => false
  | .str, cs => match cs with
    | [.dat .str s] => s.isEmpty
    | _ => false
  | .list _, cs => match cs with
    | [.nil] => true
    | _ => false
  | .pair a b, cs => isZero a (cs.take a.size) && isZero b (cs.drop a.size)

/-! ### Numbers, strings -/
def binB (op : BinOp) (x y : Bool) : Option C := match op with
  | .eql => some (.dat .bool (x == y))
  | .neq => some (.dat .bool (!(x == y)))
  | _ => none

def binI (op : BinOp) (k : IntKind) (x y : Int) : Option C := match op with
  | .add => some (.dat (.int k) (k.wrap (x + y)))
  | .sub => some (.dat (.int k) (k.wrap (x - y)))
  | .mul => some (.dat (.int k) (k.wrap (x * y)))
  | .quo => if y = 0 then none else some (.dat (.int k) (k.wrap (x.tdiv y)))
  | .rem => if y = 0 then none else some (.dat (.int k) (x.tmod y))
  | .and => some (.dat (.int k) (k.wrap ((BitVec.ofInt k.bits x &&& BitVec.ofInt k.bits y).toNat)))
  | .or => some (.dat (.int k) (k.wrap ((BitVec.ofInt k.bits x ||| BitVec.ofInt k.bits y).toNat)))
  | .xor => some (.dat (.int k) (k.wrap ((BitVec.ofInt k.bits x ^^^ BitVec.ofInt k.bits y).toNat)))
  | .eql => some (.dat .bool (x == y))
  | .neq => some (.dat .bool (x != y))
  | .lss => some (.dat .bool (decide (x < y)))
  | .leq => some (.dat .bool (decide (x ≤ y)))
  | .gtr => some (.dat .bool (decide (x > y)))
  | .geq => some (.dat .bool (decide (x ≥ y)))
  | _ => none

def shiftI (op : BinOp) (k : IntKind) (x y : Int) : Option C :=
  if y < 0 then none else match op with
  | .shl => some (.dat (.int k) (k.wrap (x * 2 ^ (min y.toNat k.bits))))
  | .shr => some (.dat (.int k) (x.fdiv (2 ^ (min y.toNat k.bits))))
  | _ => none

/-- How long strings may be that are put together. -/
def strMost : Nat := 1099511627776

def binS (op : BinOp) (x y : List UInt8) : Option C := match op with
  | .add => if x.length + y.length ≤ strMost then some (.dat .str (x ++ y)) else none
  | .eql => some (.dat .bool (x == y))
  | .neq => some (.dat .bool (!(x == y)))
  | _ => none

def bin (tk : Bool) (op : BinOp) (x y : C) : Option C :=
  match x, y with
  | .dat (.int k) a, .dat (.int k') b =>
    match op with
    | .shl => shiftI .shl k a b
    | .shr => shiftI .shr k a b
    | _ => if k = k' then binI op k a b else none
  | .dat .bool a, .dat .bool b => if tk then binB op a b else none
  | .dat .str a, .dat .str b => binS op a b
  | _, _ => none

def un (op : UnOp) (x : C) : Option C :=
  match op, x with
  | .not, .dat .bool b => some (.dat .bool (!b))
  | .neg, .dat (.int k) n => some (.dat (.int k) (k.wrap (0 - n)))
  | _, _ => none

/-- Two structs whose cells are plain data: are they the same? -/
def sameCs : List C → List C → Option Bool
  | [], [] => some true
  | .dat (.int k) a :: x, .dat (.int k') b :: y => if k = k' then (sameCs x y).map fun r => (a == b) && r else none
  | _, _ => none

def natOf : C → Option Nat
  | .dat (.int _) n => if 0 ≤ n then some n.toNat else none
  | _ => none

/-! ### The operations -/
structure Ctx where
  n : Nat
  ty : Nat → Ti
  vars : List Nat
  /-- where results are laid; what is not moved there -/
  rs : List Nat := []
  vr : List Nat := []
  /-- which parameters of a function are lent (true), which are only read -/
  md : Nat → List Bool
  /-- loads of a box's list that is given up for what is made of it -/
  gv : List Nat := []
  /-- what a function answers: its value, and what is lent, behind it -/
  sem : Nat → List Val → Option (Val × List (List C))

/-- What is not moved into a slot: the variables, but for the slot itself. -/
def Ctx.vs (x : Ctx) (d : Option Nat) : List Nat := match d with
  | some d => match x.rs.any (Nat.beq d) with
    | true => x.vr
    | false => x.vars.filter fun v => !(Nat.beq v d)
  | none => x.vars

/-- How many elements of a kind the machine lets a row have, and how many bytes. -/
def rowMost : Nat := 4294967296
def byteMost : Nat := 140737488355328

def lenC (get : Nat → Slot) : C → Option Nat
  | .nil => some 0
  | .dat (.list _) l => some l.length
  | .dat .str s => some s.length
  | .ref s j rv sv p lo hi k => (content get s j rv sv p k).map fun x => (cut lo hi x.2).length
  | _ => none

/-- Is it a type of such values? -/
def fitsTy (t : Ti) : C → Bool
  | .dat .str _ => t.isS
  | _ => match t.d with
    | .slice _ => true
    | _ => false

/-- Is it a type of such slices, of elements of that size? -/
def slFits (ty : Nat → Ti) (t : Nat) : C → Bool
  | .dat .str _ => (ty t).isS
  | .dat (.list k) _ => match (ty t).d with
    | .slice el => (ty el).size = k.size
    | _ => false
  | .ref _ _ _ _ _ _ _ k => match (ty t).d with
    | .slice el => (ty el).size = k.size
    | _ => false
  | .nil => match (ty t).d with
    | .slice el => (ty el).size ≠ 0
    | _ => false
  | _ => false

def partShape (t : Ti) : Sh := if t.agg then .agg else .one

/-- A place behind where a cut begins. -/
def offOf (a : Option Nat) (m : Nat) : Nat := match a with
  | none => m
  | some a => a + m

def subOf (a x old : Option Nat) : Option Nat := match x with
  | none => old
  | some m => some (offOf a m)

/-- A bound, if there is one. -/
def boundOf (get : Nat → Slot) : Option Operand → Option (Option Nat)
  | none => some none
  | some z => match opd get z with
    | some (.one, [c]) => (natOf c).map some
    | _ => none

/-- 'x[lo:hi]' of a reference, a list, a string. -/
def sliceC (get : Nat → Slot) (c : C) (lo hi : Option Nat) : Option C :=
  match c with
  | .nil => if lo.getD 0 = 0 ∧ hi.getD 0 = 0 then some .nil else none
  | .dat (.list k) l => if lo.getD 0 ≤ hi.getD l.length ∧ hi.getD l.length ≤ l.length then some (.dat (.list k) (cut lo hi l)) else none
  | .dat .str l => if lo.getD 0 ≤ hi.getD l.length ∧ hi.getD l.length ≤ l.length then some (.dat .str (cut lo hi l)) else none
  | .ref s j rv sv p a b k =>
    match lenC get c with
    | none => none
    | some n =>
      if lo.getD 0 ≤ hi.getD n ∧ hi.getD n ≤ n then
        some (.ref s j rv sv p (subOf a lo a) (subOf a hi b) k)
      else none
  | _ => none

/-- The address of an element. -/
def indexC (ty : Nat → Ti) (get : Nat → Slot) (t : Nat) (c : C) (i : Nat) : Option C :=
  match (ty t).d with
  | .slice et => match c with
    | .dat (.list k) l => if i < l.length ∧ (ty et).size = k.size then some (.pim ((leaves k (l.getD i k.dflt)).map fun g => .dat g.1 g.2) 0) else none
    | .ref s j rv sv p a _ k => match lenC get c with
      | some n => if i < n ∧ (ty et).size = k.size then some (.aptr s j rv sv p (offOf a i) 0 k) else none
      | none => none
    | _ => none
  | .arr n e => match c with
    | .bptr s bv j => if i < n ∧ (ty e).size ≠ 0 then some (.bptr s bv (j + i * (ty e).size)) else none
    | _ => none
  | _ => none

def fieldOf (ty : Nat → Ti) (t f : Nat) : Option (Nat × Nat) := match (ty t).d with
  | .struct fs => fs[f]?
  | _ => none

def addC (off : Nat) : C → Option C
  | .bptr s bv j => some (.bptr s bv (j + off))
  | .aptr s j rv sv p i c k => some (.aptr s j rv sv p i (c + off) k)
  | .pim cs j => some (.pim cs (j + off))
  | _ => none

/-- A leaf that is read out of an owned row. -/
def leafC (s j rv sv : Nat) (p : Path) (i c : Nat) (deep : Bool) : Sg → C
  | ⟨.list k, l⟩ => if deep then .ref s j rv sv (p ++ [(i, c)]) none none k else .dat (.list k) l
  | ⟨k, x⟩ => .dat k x

def readLeaves (k : K) (x : k.T) (s j rv sv : Nat) (p : Path) (i : Nat) (deep : Bool) : Nat → Nat → List C
  | _, 0 => []
  | c, n + 1 => leafC s j rv sv p i c deep (leafV k x c) :: readLeaves k x s j rv sv p i deep (c + 1) n

/-- What lies at an address. -/
def loadC (get : Nat → Slot) (n : Nat) : C → Option (List C)
  | .bptr s bv j => if (get s).sh = .box bv ∧ j + n ≤ (get s).cs.length then some (copyFrom s j (((get s).cs.drop j).take n)) else none
  | .pim cs j => if j + n ≤ cs.length then some ((cs.drop j).take n) else none
  | .aptr s j rv sv p i c k =>
    match (get s).cs.getD j .dead with
    | .own rv' sv' deep k0 l0 =>
      if rv = rv' ∧ (p = [] ∨ (svOk p sv sv' = true ∧ deep = true)) ∧ c + n ≤ k.size then
        match castL (getP k0 l0 p).1 (getP k0 l0 p).2 k with
        | some l => if i < l.length then some (readLeaves k (l.getD i k.dflt) s j rv' sv' p i deep c n) else none
        | none => none
      else none
    | _ => none
  | _ => none

def hitD (d : Option Nat) (l : List Nat) : Bool := match d with
  | some d => l.any (Nat.beq d)
  | none => false

/-- What a load reads out of, given up where it must be. -/
def chill (x : Ctx) (t : Tr) : C → Tr
  | .bptr s _ j => match hitD t.d x.gv, (t.at s).cs.getD j .dead with
    | true, .own _ _ _ k l => t.put s { t.at s with cs := (t.at s).cs.set j (.dat (.list k) l) }
    | _, _ => t
  | _ => t

def setFrom {α : Type} (cs : List α) (j : Nat) : List α → List α
  | [] => cs
  | c :: r => setFrom (cs.set j c) (j + 1) r

def hasList (k : K) (c : Nat) : Nat → Bool
  | 0 => false
  | n + 1 => !(k.leaf c).flat || hasList k (c + 1) n

/-- A store. -/
def storeC (x : Ctx) (t : Tr) (a : C) (cs : List C) : Option Tr :=
  match a with
  | .bptr s bv j =>
    let (t, cs) := t.take (x.vs (some s)) cs
    let z := t.at s
    if z.sh = .box bv ∧ j + cs.length ≤ z.cs.length ∧ (s < x.n ∨ (s - x.n) % 2 = 1) then
      some (t.put s { z with cs := setFrom z.cs j (cs.map (fun | .own _ _ d k l => .own z.cnt 0 d k l | c => c)), cnt := z.cnt + 1 })
    else none
  | .aptr s j rv sv p i c k =>
    match t.grabs k c cs with
    | none => none
    | some (t, gs, d) =>
      let z := t.at s
      match z.cs.getD j .dead with
      | .own rv' sv' deep k0 l0 =>
        if rv = rv' ∧ (p = [] ∨ (svOk p sv sv' = true ∧ deep = true)) ∧ c + cs.length ≤ k.size then
          match castL (getP k0 l0 p).1 (getP k0 l0 p).2 k with
          | none => none
          | some l =>
            if i < l.length then
              let l0' := modP (fun k' l' => (castL k (l.set i (setLeaves k (l.getD i k.dflt) c gs)) k').getD l') k0 l0 p
              if hasList k c cs.length then some (t.put s { z with cs := z.cs.set j (.own rv' (nextV p sv' z.cnt) (deep && d) k0 l0'), cnt := nextV p sv' z.cnt + 1 })
              else some (t.put s { z with cs := z.cs.set j (.own rv' sv' deep k0 l0') })
            else none
        else none
      | _ => none
  | _ => none

/-- What append takes its elements from. -/
def srcC (vars : List Nat) (t : Tr) (k : K) (y : C) : Option (Tr × List k.T × Bool) :=
  match y with
  | .dat .str s => match k with
    | .int .u8 => some (t, s.map fun b => ((b.toNat : Nat) : Int), true)
    | _ => none
  | .ref s j rv sv p lo hi k1 => match t.grab (.ref s j rv sv p lo hi k1) (.list k) with
    | none => none
    | some (t', l, d) =>
      if k.flat then some (t, l, true)
      else match (t.at s).cs.getD j .dead with
        | .own _ _ false _ _ => some (t, l, false)
        | .own rv sv true k0 l0 => if vars.contains s then some (t.put s { t.at s with cs := (t.at s).cs.set j (.own rv sv false k0 l0) }, l, false) else some (t', l, d)
        | _ => none
  | y => match t.grab y (.list k) with
    | none => none
    | some (t', l, d) => some (t', l, k.flat || d)

/-- 'append(x, y...)'. -/
def appendC (ty : Nat → Ti) (vars : List Nat) (t : Tr) (st : Nat) (x y : C) : Option (Tr × C) :=
  match (ty st).d with
  | .slice e => match (ty e).k with
    | none => none
    | some k =>
      match srcC vars t k y with
      | none => none
      | some (t, ys, d) =>
        match x with
        | .nil => if ys.length ≤ rowMost ∧ (2 * ys.length + 512) * (ty e).bytes ≤ byteMost ∧ (ty e).zero.isSome = true ∧ (ty e).zeros.length = k.size then some (t, .own 0 0 d k ys) else none
        | .ref s j rv _ [] lo hi k' =>
          match (t.at s).cs.getD j .dead with
          | .own rv' _ deep k0 l0 =>
            if rv = rv' ∧ k' = k0 then
              match castL k0 (cut lo hi l0) k with
              | none => none
              | some l => if l.length + ys.length ≤ rowMost ∧ (2 * (l.length + ys.length) + 512) * (ty e).bytes ≤ byteMost ∧ (ty e).zero.isSome = true ∧ (ty e).zeros.length = k.size then some (t.put s ((t.at s).kill j), .own 0 0 (deep && d) k (l ++ ys)) else none
            else none
          | _ => none
        | .ref s j rv sv (q :: p) none none k' =>
          match (t.at s).cs.getD j .dead with
          | .own rv' sv' deep k0 l0 =>
            if rv = rv' ∧ k' = k ∧ svOk (q :: p) sv sv' = true ∧ deep = true ∧ k.flat = true then
              match castL (getP k0 l0 (q :: p)).1 (getP k0 l0 (q :: p)).2 k with
              | none => none
              | some l => if l.length + ys.length ≤ rowMost ∧ (2 * (l.length + ys.length) + 512) * (ty e).bytes ≤ byteMost ∧ (ty e).zero.isSome = true ∧ (ty e).zeros.length = k.size then some (t.put s { t.at s with cs := (t.at s).cs.set j (.own rv' sv' false k0 l0) }, .dat (.list k) (l ++ ys)) else none
            else none
          | _ => none
        | _ => none
  | _ => none

def opds (get : Nat → Slot) : List Operand → Option (List Val)
  | [] => some []
  | x :: r => match opd get x, opds get r with
    | some v, some vs => some (v :: vs)
    | _, _ => none

def one? : Val → Option C
  | (.one, [c]) => some c
  | _ => none

def ones : List Val → Option (List C)
  | [] => some []
  | v :: r => match one? v, ones r with
    | some c, some cs => some (c :: cs)
    | _, _ => none

/-- Fills parts into cells. -/
def fillC (get : Nat → Slot) (place : Nat → Option (Nat × Nat)) (cells : List C) : List (Nat × Val) → Option (List C)
  | [] => some cells
  | (i, v) :: r => match place i with
    | some (off, size) => if v.2.length = size ∧ off + size ≤ cells.length ∧ whole get v = true then fillC get place (setFrom cells off v.2) r else none
    | none => none

def partVals (get : Nat → Slot) : List (Nat × Operand) → Option (List (Nat × Val))
  | [] => some []
  | (i, x) :: r => match opd get x, partVals get r with
    | some v, some vs => some ((i, v) :: vs)
    | _, _ => none

def chunks {α : Type} (n : Nat) : Nat → List α → List (List α)
  | 0, _ => []
  | m + 1, cs => cs.take n :: chunks n m (cs.drop n)

def zeroRow (z : List C) : Nat → List C
  | 0 => []
  | n + 1 => z ++ zeroRow z n

/-- An argument on its way into a callee: what is lent, and from where. -/
inductive Lend where
  | cell (s j : Nat) (p : Path) (k : K)
  | box (s : Nat)

def lendCells (t : Tr) : List C → Option (List C × List (Option Lend))
  | [] => some ([], [])
  | c :: r => match lendCells t r with
    | none => none
    | some (cs, ls) => match c with
      | .dat (.list _) _ => none
      | .dat k x => some (.dat k x :: cs, none :: ls)
      | .ref s j rv sv p none none k => match (t.at s).cs.getD j .dead with
        | .own rv' sv' deep k0 l0 =>
          if rv = rv' ∧ (p = [] ∨ (svOk p sv sv' = true ∧ deep = true)) then
            match castL (getP k0 l0 p).1 (getP k0 l0 p).2 k with
            | some l => some (.own 0 0 deep k l :: cs, some (.cell s j p k) :: ls)
            | none => none
          else none
        | _ => none
      | _ => none

def ownBox : List C → Option (List C)
  | [] => some []
  | c :: r => match ownBox r with
    | none => none
    | some cs => match c with
      | .own _ _ d k l => some (.own 0 0 d k l :: cs)
      | .dat k x => some (.dat k x :: cs)
      | .nil => some (.nil :: cs)
      | .pim a j => some (.pim a j :: cs)
      | .fn f [] => some (.fn f [] :: cs)
      | _ => none

/-- A cell that is only read by the callee; a pointer to a box that is lent turns into the callee's pointer. -/
def sendCap (t : Tr) (lent : List (Nat × Nat)) (c : C) : Option C :=
  match c with
  | .bptr s bv j => match lent.find? (·.1 = s) with
    | some (_, i) => if (t.at s).sh = .box bv then some (C.bptr i 0 j) else none
    | none => snap t.at c
  | c => snap t.at c

def sendCaps (t : Tr) (lent : List (Nat × Nat)) : List C → Option (List C)
  | [] => some []
  | c :: r => match sendCap t lent c, sendCaps t lent r with
    | some c, some r => some (c :: r)
    | _, _ => none

def sendC (t : Tr) (lent : List (Nat × Nat)) (c : C) : Option C :=
  match c with
  | .fn f caps => (sendCaps t lent caps).map fun caps => C.fn f caps
  | c => snap t.at c

def sendCs (t : Tr) (lent : List (Nat × Nat)) : List C → Option (List C)
  | [] => some []
  | c :: r => match sendC t lent c, sendCs t lent r with
    | some c, some r => some (c :: r)
    | _, _ => none

structure Sent where
  vals : List Val := []
  lends : List (List (Option Lend)) := []

def send (t : Tr) (md : List Bool) (lent : List (Nat × Nat)) : Nat → List Val → Option Sent
  | _, [] => some {}
  | i, (sh, cs) :: r => match send t md lent (i + 1) r with
    | none => none
    | some q =>
      if md.getD i false then
        match sh, cs with
        | .one, [.bptr s bv 0] => if (t.at s).sh = .box bv then match ownBox (t.at s).cs with
            | some cs => some { vals := (.box 0, cs) :: q.vals, lends := [some (.box s)] :: q.lends }
            | none => none
          else none
        | _, _ => match lendCells t cs with
          | some (cs, ls) => some { vals := (sh, cs) :: q.vals, lends := ls :: q.lends }
          | none => none
      else match sendCs t lent cs with
        | some cs => some { vals := (sh, cs) :: q.vals, lends := [] :: q.lends }
        | none => none

def Lend.slot : Lend → Nat
  | .cell s .. => s
  | .box s => s

/-- Do two overlap? -/
def Lend.clash : Lend → Lend → Bool
  | .cell s j _ _, .cell s' j' _ _ => s == s' && j == j'
  | l, l' => l.slot == l'.slot

/-- What is lent, each with the argument and the cell that it goes to. -/
def lendsOne (i : Nat) : Nat → List (Option Lend) → List (Nat × Nat × Lend)
  | _, [] => []
  | c, none :: r => lendsOne i (c + 1) r
  | c, some l :: r => (i, c, l) :: lendsOne i (c + 1) r

def lendAt : Nat → List (List (Option Lend)) → List (Nat × Nat × Lend)
  | _, [] => []
  | i, ls :: r => lendsOne i 0 ls ++ lendAt (i + 1) r

def apartF : List (Nat × Nat × Lend) → Bool
  | [] => true
  | a :: r => r.all (fun b => !a.2.2.clash b.2.2) && apartF r

/-- What is lent for one argument comes from one slot. -/
def oneSrc (l : List (Nat × Nat × Lend)) : Bool := l.all fun a => l.all fun b => !(Nat.beq a.1 b.1) || Nat.beq a.2.2.slot b.2.2.slot

/-- Boxes beyond the frame lie at odd places. -/
def oddB (n : Nat) (l : List (Nat × Nat × Lend)) : Bool := l.all fun a => match a.2.2 with
  | .box s => Nat.blt s n || Nat.beq ((s - n) % 2) 1
  | _ => true

/-- The slots whose contents a value's cells point to. -/
def C.targets : C → List Nat
  | .ref s .. => [s]
  | .bptr s .. => [s]
  | .aptr s .. => [s]
  | .fn _ caps => caps.filterMap fun | .bptr s .. => some s | _ => none
  | _ => []

/-- What comes back into a cell that was lent. -/
def backC (z : Nat) (c0 : C) (p : Path) (k : K) (c : C) : Option C :=
  match c0 with
  | .own rv _ deep k0 l0 =>
    match p with
    | [] => match c with
      | .own _ _ d k1 l1 => if k1 = k0 then some (.own rv z d k1 l1) else none
      | _ => some .dead
    | _ :: _ => match c with
      | .own _ _ d k1 l1 => if k1 = k ∧ (d = true ∨ k.flat = true) then some (.own rv z deep k0 (modP (fun k' l' => (castL k1 l1 k').getD l') k0 l0 p)) else none
      | _ => none
  | _ => none

def reC (r : Nat) : C → C
  | .own _ _ d k l => .own r 0 d k l
  | c => c

def backOne (outs : List (List C)) (t : Tr) (q : Nat × Nat × Lend) : Option Tr := match q.2.2 with
  | .box s => some (t.put s { t.at s with cs := (outs.getD q.1 []).map (reC (t.at s).cnt), cnt := (t.at s).cnt + 1 })
  | .cell s j p k => match backC (jumpV (t.at s).cnt) ((t.at s).cs.getD j .dead) p k ((outs.getD q.1 []).getD q.2.1 .dead) with
    | some c => some (t.put s { t.at s with cs := (t.at s).cs.set j c, cnt := jumpV (t.at s).cnt + 1 })
    | none => none

def backAll (outs : List (List C)) : Tr → List (Nat × Nat × Lend) → Option Tr
  | t, [] => some t
  | t, q :: r => match backOne outs t q with
    | some t => backAll outs t r
    | none => none

def disjoint (a b : List Nat) : Bool := a.all fun x => !b.contains x

/-- The slots that a cell that is only read looks into. -/
def readCell (lent : List (Nat × Nat)) : C → List Nat
  | .fn _ caps => caps.flatMap fun
    | .bptr s bv j => if (lent.find? (·.1 = s)).isSome then [] else [s]
    | c => c.targets
  | c => c.targets

/-- The slots that what is only read looks into. -/
def readTargets (md : List Bool) (lent : List (Nat × Nat)) : Nat → List Val → List Nat
  | _, [] => []
  | i, (_, cs) :: r => if md.getD i false then readTargets md lent (i + 1) r
    else cs.flatMap (readCell lent) ++ readTargets md lent (i + 1) r

/-- May it share data with what was only read? -/
def C.aliases : C → Bool
  | .dat k _ => !k.flat
  | .own _ _ d k _ => !d && !k.flat
  | .pim .. => true
  | .fn _ (_ :: _) => true
  | _ => false

/-- What slots own is nobody's any more. -/
def C.give : C → C
  | .own _ _ _ k l => .dat (.list k) l
  | c => c

def Tr.give (t : Tr) : List Nat → Tr
  | [] => t
  | s :: r => (t.put s (match (t.at s).sh with | .box _ => { t.at s with sh := .dead, cs := [] } | _ => { t.at s with cs := (t.at s).cs.map C.give })).give r

def callC (x : Ctx) (t : Tr) (dst : Option Nat) (f : Nat) (args : List Val) : Option Tr :=
  match send t (x.md f) [] 0 args with
  | none => none
  | some q =>
    if apartF (lendAt 0 q.lends) && oneSrc (lendAt 0 q.lends) && oddB x.n (lendAt 0 q.lends) && disjoint ((lendAt 0 q.lends).map (·.2.2.slot)) (readTargets (x.md f) [] 0 args) then
      match x.sem f q.vals with
      | none => none
      | some r => match backAll r.2 t (lendAt 0 q.lends) with
        | none => none
        | some t => some ((if r.1.2.any C.aliases || r.2.any (·.any C.aliases) then t.give (readTargets (x.md f) [] 0 args) else t).lay dst r.1)
    else none

def partN : Option Nat → Nat
  | none => 1
  | some n => n

def partSh : Option Nat → Sh
  | none => .one
  | some _ => .agg

def tupOff : List (Option Nat) → Nat → Nat
  | [], _ => 0
  | _, 0 => 0
  | q :: r, i + 1 => partN q + tupOff r i

/-- An integer's type. -/
def intTi (t : Ti) : Option IntKind := if t.agg then none else match t.k with
  | some (.int k) => some k
  | _ => none

/-- A type of slices of bytes. -/
def u8Row (ty : Nat → Ti) (t : Nat) : Bool := match (ty t).d with
  | .slice e => intTi (ty e) = some .u8
  | _ => false

/-- Bytes, read. -/
def bytesC (get : Nat → Slot) : C → Option (List Int)
  | .nil => some []
  | .dat (.list (.int .u8)) l => some l
  | .ref s j rv sv p lo hi (.int .u8) => (content get s j rv sv p (.int .u8)).map fun q => cut lo hi q.2
  | _ => none

/-- One operation. -/
def act (x : Ctx) (get : Nat → Slot) (o : Oper) : Option Writes :=
  let t : Tr := { get, d := o.dst }
  let done (v : Val) : Option Writes := some (t.lay o.dst v).ws
  match o.op with
  | .move a => match opd get a with
    | some v => done v
    | none => none
  | .assign a => match opd get a with
    | some v => (t.take (x.vs o.dst) v.2).1.own o.dst (v.1, (t.take (x.vs o.dst) v.2).2)
    | none => none
  | .pick c a b => match opd get c with
    | some (.one, [.dat .bool true]) => match opd get a with
      | some v => done v
      | none => none
    | some (.one, [.dat .bool false]) => match opd get b with
      | some v => done v
      | none => none
    | _ => none
  | .alloc e => if (x.ty e).zero.isSome then t.own o.dst (.box 0, (x.ty e).zeros) else none
  | .box e a => match opd get a with
    | some v => if v.2.length = (x.ty e).size ∧ whole get v = true then (t.take x.vars v.2).1.own o.dst (.box 0, (t.take x.vars v.2).2) else none
    | none => none
  | .build ty parts => match (x.ty ty).d, partVals get parts.toList with
    | .struct fs, some vs => if (fs.all fun f => (x.ty f.2).size ≠ 0) = false ∨ (x.ty ty).zero.isSome = false then none else match fillC get (fun i => (fs[i]?).map fun f => (f.1, (x.ty f.2).size)) (x.ty ty).zeros vs with
      | some cs => done (.agg, cs)
      | none => none
    | _, _ => none
  | .buildSlice ty n parts => match (x.ty ty).d, partVals get parts.toList with
    | .slice e, some vs => match (x.ty e).k with
      | none => none
      | some k => if n * k.size > 16777216 ∨ (x.ty e).zeros.length ≠ k.size ∨ (x.ty e).zero.isSome = false then none else match fillC get (fun i => if i < n then some (i * k.size, k.size) else none) (zeroRow (x.ty e).zeros n) vs with
        | none => none
        | some cs => match t.packs k (chunks k.size n cs) with
          | none => none
          | some (t, l, d) => t.own o.dst (.one, [.own 0 0 d k l])
    | _, _ => none
  | .load ty a => match opd get a with
    | some (.one, [c]) => if (x.ty ty).ok = true then match loadC (chill x t c).at (x.ty ty).size c with
      | some cs => some ((chill x t c).lay o.dst (partShape (x.ty ty), cs)).ws
      | none => none
      else none
    | _ => none
  | .store ty a b => match opd get a, opd get b with
    | some (.one, [c]), some v => if (x.ty ty).ok = true ∧ v.2.length = (x.ty ty).size ∧ whole get v = true then
        match storeC x t c v.2 with
        | some t => some (t.lay o.dst (.dead, [])).ws
        | none => none
      else none
    | _, _ => none
  | .nilCheck a => match opd get a with
    | some (.one, [.bptr s bv j]) => done (.one, [.bptr s bv j])
    | some (.one, [.aptr s j rv sv p i c k]) => done (.one, [.aptr s j rv sv p i c k])
    | some (.one, [.pim cs j]) => done (.one, [.pim cs j])
    | some (.one, [.fn f cs]) => done (.one, [.fn f cs])
    | _ => none
  | .binOp op ty a b _ => match opd get a, opd get b with
    | some (.one, [c]), some (.one, [d]) => match bin (x.ty ty).isB op c d with
      | some c => done (.one, [c])
      | none => none
    | some (.agg, cs), some (.agg, ds) => if (x.ty ty).eqI = some cs.length then match op, sameCs cs ds with
      | .eql, some b => done (.one, [.dat .bool b])
      | .neq, some b => done (.one, [.dat .bool (!b)])
      | _, _ => none
      else none
    | _, _ => none
  | .unOp op _ a => match opd get a with
    | some (.one, [c]) => match un op c with
      | some c => done (.one, [c])
      | none => none
    | _ => none
  | .convert src dst a => match opd get a with
    | some (.one, [c]) => if (x.ty src).ok = false then none else
      match c, (x.ty dst).isS, intTi (x.ty dst), u8Row x.ty dst with
      | .dat (.int _) n, false, some k, _ => done (.one, [.dat (.int k) (k.wrap n)])
      | .dat .str s, true, _, _ => done (.one, [.dat .str s])
      | .dat .str s, false, _, true => if s.length ≤ rowMost ∧ (x.ty src).isS = true then t.own o.dst (.one, [.own 0 0 true (.int .u8) (s.map fun b => ((b.toNat : Nat) : Int))]) else none
      | c, true, _, _ => if u8Row x.ty src then match bytesC get c with
          | some l => done (.one, [.dat .str (l.map fun n => UInt8.ofNat n.toNat)])
          | none => none
        else none
      | _, _, _, _ => none
    | _ => none
  | .makeFunc f first caps => match f, first.toList, opds get caps.toList with
    | .func f, [], some vs => match ones vs with
      | some cs => if cs.all (fun c => !c.isFn) then done (.one, [.fn f cs]) else none
      | none => none
    | _, _, _ => none
  | .makeSlice ty n m => match (x.ty ty).d, opd get n, opd get m with
    | .slice e, some (.one, [n]), some (.one, [m]) => match (x.ty e).k, natOf n, natOf m with
      | some k, some n, some m => if n ≤ m ∧ m ≤ rowMost ∧ m * (x.ty e).bytes ≤ byteMost ∧ isZero k (x.ty e).zeros = true then t.own o.dst (.one, [.own 0 0 true k (List.replicate n k.dflt)]) else none
      | _, _, _ => none
    | _, _, _ => none
  | .slice ty a lo hi none => match opd get a, boundOf get lo, boundOf get hi with
    | some (.one, [c]), some l, some h => if slFits x.ty ty c = false then none else match sliceC get c l h with
      | some c => done (.one, [c])
      | none => none
    | _, _, _ => none
  | .fieldAddr ty a f => match opd get a, fieldOf x.ty ty f with
    | some (.one, [c]), some (off, ft) => if (x.ty ft).size = 0 then none else match addC off c with
      | some c => done (.one, [c])
      | none => none
    | _, _ => none
  | .field ty a f => match opd get a, fieldOf x.ty ty f with
    | some (.agg, cs), some (off, ft) => if (x.ty ft).ok = true ∧ off + (x.ty ft).size ≤ cs.length then done (partShape (x.ty ft), (cs.drop off).take (x.ty ft).size) else none
    | _, _ => none
  | .indexAddr ty a b => match opd get a, opd get b with
    | some (.one, [c]), some (.one, [i]) => match natOf i with
      | some i => match indexC x.ty get ty c i with
        | some c => done (.one, [c])
        | none => none
      | none => none
    | _, _ => none
  | .index ty a b => if (x.ty ty).isS = false then none else match opd get a, opd get b with
    | some (.one, [.dat .str s]), some (.one, [i]) => match natOf i with
      | some i => if i < s.length then done (.one, [.dat (.int .u8) (((s.getD i 0).toNat : Nat) : Int)]) else none
      | none => none
    | _, _ => none
  | .extract a i => match opd get a with
    | some (.tup ps, cs) => match ps[i]? with
      | some q => done (partSh q, (cs.drop (tupOff ps i)).take (partN q))
      | none => none
    | _ => none
  | .call c0 => match c0.callee with
    | .builtin b => match b, opds get c0.args.toList with
      | .len, some [(.one, [c])] => if (c0.argTypes[0]?).isSome = false ∨ fitsTy (x.ty (c0.argTypes.getD 0 0)) c = false then none else match lenC get c with
        | some n => done (.one, [.dat (.int .i64) (n : Int)])
        | none => none
      | .append, some [(.one, [a]), (.one, [b])] => if (c0.argTypes[0]?).isSome = false ∨ (c0.argTypes[1]?).isSome = false ∨ fitsTy (x.ty (c0.argTypes.getD 1 0)) b = false then none else match appendC x.ty x.vars t (c0.argTypes.getD 0 0) a b with
        | some (t, c) => t.own o.dst (.one, [c])
        | none => none
      | .max, some [(.one, [.dat (.int k) a]), (.one, [.dat (.int k') b])] => if k = k' then done (.one, [.dat (.int k) (if b > a then b else a)]) else none
      | .min, some [(.one, [.dat (.int k) a]), (.one, [.dat (.int k') b])] => if k = k' then done (.one, [.dat (.int k) (if b < a then b else a)]) else none
      | _, _ => none
    | .value f => match opd get f, opds get c0.args.toList with
      | some (.one, [.fn g caps]), some vs => (callC x t o.dst g (vs ++ caps.map fun c => (.one, [c]))).map (·.ws)
      | _, _ => none
    | _ => none
  | _ => none

/-! ### Regions -/
def Env.puts (e : Env) : Writes → Env
  | [] => e
  | (s, x) :: r => Env.puts (e.set s x) r

def opSlots (o : Oper) : List Nat := o.dst.toList ++ o.op.operands.toList.filterMap fun | .tmp t => some t | _ => none

/-- The slots that an operation looks at. -/
def quietOp : Op → Bool
  | .move _ | .pick .. | .extract .. | .field .. | .fieldAddr .. | .nilCheck _ | .binOp .. | .unOp .. | .makeFunc .. | .makeSlice .. | .alloc _ | .index .. => true
  | _ => false

def looks (e : Env) (o : Oper) : List Nat :=
  if quietOp o.op then opSlots o else opSlots o ++ (opSlots o).flatMap fun s => (e.get s).cs.flatMap C.targets

def guardOf (ops : Array Oper) (o : Oper) : Option (Nat × Bool) := match o.guard with
  | none => none
  | some (j, want) => some (((ops[j]?).bind (·.dst)).getD 1000000, want)

/-- Is an operation wanted? -/
def wanted (e : Env) : Option (Nat × Bool) → Option Bool
  | none => some true
  | some (s, want) => match (e.get s).sh, (e.get s).cs with
    | .one, [.dat .bool b] => some (b == want)
    | .tup [], _ => some false
    | _, _ => none

/-- What a look at a box takes of it: its slot, and from which cell on so many. -/
abbrev Soft := Option (Nat × Nat × Nat)

def softAt (e : Env) (o : Oper) (t n : Nat) : Soft := match opd e.get (.tmp t) with
  | some (.one, [.bptr s _ j]) => match o.dst with
    | some d => if Nat.beq d s then none else some (s, j, n)
    | none => none
  | _ => none

def softOf (x : Ctx) (e : Env) (o : Oper) : Soft := match o.op with
  | .load ty (.tmp t) => match hitD o.dst x.gv with
    | true => none
    | false => softAt e o t (x.ty ty).size
  | .fieldAddr _ (.tmp t) _ => softAt e o t 0
  | _ => none

def dstIs (o : Oper) (t : Nat) : Bool := match o.dst with
  | some d => Nat.beq d t
  | none => false

/-- A look at a list's root, to refer to it: its slot. -/
def idxOf (e : Env) (o : Oper) : Option Nat := match o.op with
  | .move (.tmp t) => match (e.get t).sh, (e.get t).cs with
    | .one, [.own _ _ _ _ _] => match dstIs o t with
      | true => none
      | false => some t
    | _, _ => none
  | _ => none

def readsOf (x : Ctx) (e : Env) (o : Oper) : List Nat := match softOf x e o with
  | none => match idxOf e o with
    | none => looks e o
    | some t => (opSlots o).filter fun u => !Nat.beq u t
  | some (s, _, _) => (opSlots o).filter fun t => !Nat.beq t s

def cellSame : C → C → Bool
  | .own rv sv _ k _, .own rv' sv' _ k' _ => Nat.beq rv rv' && (Nat.beq sv sv' && decide (k = k'))
  | _, _ => false

def cellsSame : List C → List C → Nat → Bool
  | _, _, 0 => true
  | a :: r, b :: r', n + 1 => cellSame a b && cellsSame r r' n
  | _, _, _ + 1 => false

/-- A box's slots are alike to a look. -/
def softSame (z z' : Slot) (j n : Nat) : Bool := (match z.sh, z'.sh with | .box b, .box b' => Nat.beq b b' | _, _ => false) && (Nat.beq z.cs.length z'.cs.length && cellsSame (z.cs.drop j) (z'.cs.drop j) n)

/-- Writes leave alone what a look takes. -/
def softOk (ch : List (Nat × Slot × Slot)) : Soft → Bool
  | none => true
  | some (s, j, n) => ch.all fun q => !Nat.beq q.1 s || softSame q.2.1 q.2.2 j n

def rootSame (z z' : Slot) : Bool := match z.sh, z.cs, z'.sh, z'.cs with
  | .one, [c], .one, [c'] => cellSame c c'
  | _, _, _, _ => false

/-- Writes leave alone a list's root, but for what lies deeper. -/
def idxOk (ch : List (Nat × Slot × Slot)) : Option Nat → Bool
  | none => true
  | some t => ch.all fun q => !Nat.beq q.1 t || rootSame q.2.1 q.2.2

/-- What an operation turns, and what it looked at. -/
structure Step where
  ws : Writes
  reads : List Nat
  soft : Soft := none
  idx : Option Nat := none

/-- An operation that is not wanted leaves nothing behind. -/
def skipWs (e : Env) (o : Oper) : Writes := match o.dst with
  | some d => [(d, (e.get d).lay (.tup []) [])]
  | none => []

def guardSlots (ops : Array Oper) (o : Oper) : List Nat := match guardOf ops o with
  | some (s, _) => [s]
  | none => []

def stepA (x : Ctx) (ops : Array Oper) (e : Env) (o : Oper) : Option Step :=
  if !((opSlots o).all (· < x.n) && (guardSlots ops o).all (· < x.n)) then none else
  match wanted e (guardOf ops o) with
  | none => none
  | some false => some { ws := skipWs e o, reads := guardSlots ops o ++ o.dst.toList }
  | some true =>
    match act x (fun s => if (looks e o).contains s then e.get s else {}) o with
    | none => none
    | some ws => some { ws, reads := guardSlots ops o ++ readsOf x e o, soft := softOf x e o, idx := idxOf e o }

/-- What an operation looked at and turned. -/
abbrev Entry := Nat × List Nat × List Nat × Soft × List (Nat × Slot × Slot) × Option Nat
abbrev Trace := List Entry
def entry (i : Nat) (e : Env) (s : Step) : Entry := (i, s.reads, s.ws.map (·.1), s.soft, (s.ws.map fun q => (q.1, e.get q.1, q.2)), s.idx)

/-- A region in the order of the text, with what each operation looked at and turned. -/
def runA (x : Ctx) (ops : Array Oper) (e : Env) : List Nat → Option (Env × Trace)
  | [] => some (e, [])
  | i :: r => match ops[i]? with
    | none => none
    | some o => match stepA x ops e o with
      | none => none
      | some s => match runA x ops (e.puts s.ws) r with
        | none => none
        | some (e', tr) => some (e', entry i e s :: tr)

/-- What comes before an operation in every order, as bits. -/
def befOne (acc : List Nat) : List Edge → Nat
  | [] => 0
  | d :: r => if Region.binds .any d then (2 ^ d.on ||| acc.getD d.on 0) ||| befOne acc r else befOne acc r

def befs (acc : List Nat) : List Oper → List Nat
  | [] => acc
  | o :: r => befs (acc ++ [befOne acc o.after.toList]) r

def comesBefore (b : List Nat) (i j : Nat) : Bool := (b.getD j 0).testBit i

def indep (a b : Entry) : Bool :=
  disjoint a.2.2.1 b.2.1 && disjoint a.2.2.1 b.2.2.1 && disjoint b.2.2.1 a.2.1 && (softOk a.2.2.2.2.1 b.2.2.2.1 && softOk b.2.2.2.2.1 a.2.2.2.1) && (idxOk a.2.2.2.2.1 b.2.2.2.2.2 && idxOk b.2.2.2.2.1 a.2.2.2.2.2)

def ordered (b : List Nat) : Trace → Bool
  | [] => true
  | a :: r => r.all (fun c => comesBefore b a.1 c.1 || indep a c) && ordered b r

/-- Edges that bind lead back in the text. -/
def edgesBack (i : Nat) : List Oper → Bool
  | [] => true
  | o :: r => o.after.toList.all (fun d => !Region.binds .any d || decide (d.on < i)) && edgesBack (i + 1) r

def region (x : Ctx) (ops : Array Oper) (draw : Bool) (e : Env) : Option Env :=
  match runA x ops e (List.range ops.size) with
  | none => none
  | some (e, tr) => if !draw || (edgesBack 0 ops.toList && ordered (befs [] ops.toList) tr) then some e else none

/-! ### Versions set back -/
def union (a b : List Nat) : List Nat := a ++ b.filter fun x => !a.contains x

/-- The slots that are kept: the live ones, and what they point to. -/
def keeps (e : Env) (live : List Nat) : List Nat :=
  let t (l : List Nat) := l.flatMap fun s => (e.get s).cs.flatMap C.targets
  union (union live (t live)) (t (t live))

/-- Versions set back. -/
def normC (e : Env) (ks : List Nat) : C → C
  | .own _ _ d k l => .own 0 0 d k l
  | .ref s j rv sv p lo hi k => match ks.contains s, (e.get s).cs.getD j .dead with
    | true, .own rv' sv' _ _ _ => if rv = rv' ∧ (p = [] ∨ svOk p sv sv' = true) then .ref s j 0 0 p lo hi k else .dead
    | _, _ => .dead
  | .aptr s j rv sv p i c k => match ks.contains s, (e.get s).cs.getD j .dead with
    | true, .own rv' sv' _ _ _ => if rv = rv' ∧ (p = [] ∨ svOk p sv sv' = true) then .aptr s j 0 0 p i c k else .dead
    | _, _ => .dead
  | .bptr s bv j => if ks.contains s ∧ (e.get s).sh = .box bv then .bptr s 0 j else .dead
  | .fn f caps => .fn f (caps.map fun
      | .bptr s bv j => if ks.contains s ∧ (e.get s).sh = .box bv then .bptr s 0 j else .dead
      | .pim cs j => .pim cs j
      | _ => .dead)
  | c => c

def normS (e : Env) (ks : List Nat) (s : Nat) (x : Slot) : Slot :=
  if ks.contains s then { sh := (match x.sh with | .box _ => .box 0 | h => h), cs := x.cs.map (normC e ks), cnt := 1 } else {}

def normFrom (e : Env) (ks : List Nat) : Nat → Env → Env
  | _, [] => []
  | s, x :: r => normS e ks s x :: normFrom e ks (s + 1) r

def norm (live : List Nat) (e : Env) : Env := normFrom e (keeps e live) 0 e

inductive Ex where
  | normal | exit (id : Nat) | ret
  deriving DecidableEq

def bigN : Nat := 18446744073709551616

def opdUses : Operand → List Nat
  | .tmp t => [t]
  | _ => []

/-! ### Functions -/
/-- The parameters, as slots: what is lent lies beside, in a slot of its own. -/
def inSlots (n : Nat) (md : List Bool) : Nat → List Val → List Slot × List Slot
  | _, [] => ([], [])
  | i, (sh, cs) :: r =>
    let (a, b) := inSlots n md (i + 1) r
    if md.getD i false then
      match sh with
      | .box _ => ({ sh := .one, cs := [.bptr (n + 2 * i + 1) 0 0], cnt := 1 } :: a, (default : Slot) :: { sh := .box 0, cs := cs, cnt := 1 } :: b)
      | sh => ({ sh, cs := copyFrom (n + 2 * i) 0 cs, cnt := 1 } :: a, { sh := .agg, cs := cs, cnt := 1 } :: (default : Slot) :: b)
    else ({ sh, cs := cs, cnt := 1 } :: a, (default : Slot) :: (default : Slot) :: b)

/-- How tmps are used: 0 made as a box, 1 stored into, 2 loaded, 3 else; with the loop in which that stands. -/
def opdsUse (lp : Nat) : List Operand → List (Nat × Nat × Nat)
  | [] => []
  | .tmp t :: r => (t, 3, lp) :: opdsUse lp r
  | _ :: r => opdsUse lp r

def opUse (lp : Nat) (o : Oper) : List (Nat × Nat × Nat) := match o.op with
  | .alloc _ => match o.dst with
    | some d => [(d, 0, lp)]
    | none => []
  | .store _ (.tmp t) y => (t, 1, lp) :: opdsUse lp [y]
  | .load _ (.tmp t) => [(t, 2, lp)]
  | op => opdsUse lp op.operands.toList

def codeUse (pos lp : Nat) : Code → List (Nat × Nat × Nat)
  | .region _ ops _ => ops.toList.flatMap (opUse lp)
  | .seq a b => codeUse (2 * pos) lp a ++ codeUse (2 * pos + 1) lp b
  | .cond _ a b => codeUse (2 * pos) lp a ++ codeUse (2 * pos + 1) lp b
  | .block _ a => codeUse (2 * pos) lp a
  | .loop a => codeUse (2 * pos) pos a
  | _ => []

/-- A box that is loaded once, in the loop in which it is made: what it holds may be moved on. -/
def movesOn (us : List (Nat × Nat × Nat)) (v : Nat) : Bool := match us.filter (fun u => Nat.beq u.1 v) with
  | l => match l.filter (fun u => Nat.beq u.2.1 0), l.filter (fun u => Nat.beq u.2.1 2) with
    | [a], [b] => Nat.beq a.2.2 b.2.2 && l.all (fun u => Nat.ble u.2.1 2)
    | _, _ => false

def codeVars0 : Code → List Nat
  | .region _ ops _ => ops.toList.filterMap fun o => match o.op with
    | .assign _ => o.dst
    | .alloc _ => o.dst
    | .box _ _ => o.dst
    | _ => none
  | .seq a b => codeVars0 a ++ codeVars0 b
  | .cond _ a b => codeVars0 a ++ codeVars0 b
  | .block _ a => codeVars0 a
  | .loop a => codeVars0 a
  | _ => []

/-- Where an operation's address or slice comes from. -/
def opFrom : Op → Option Nat
  | .fieldAddr _ (.tmp t) _ => some t
  | .indexAddr _ (.tmp t) _ => some t
  | .load _ (.tmp t) => some t
  | .slice _ (.tmp t) _ _ _ => some t
  | .move (.tmp t) => some t
  | _ => none

def rootOf (ops : List Oper) : Nat → Nat → Nat
  | 0, t => t
  | m + 1, t => match ops.find? fun o => match o.dst with | some d => Nat.beq d t | none => false with
    | some o => match opFrom o.op with
      | some u => rootOf ops m u
      | none => t
    | none => t

def cutRoots (ops : List Oper) : List Nat := ops.filterMap fun o => match o.op with
  | .slice _ (.tmp t) _ _ _ => some (rootOf ops 9 t)
  | _ => none

/-- Boxes of which, in one region, an element is looked at and a cut is taken. -/
def fzSlots (ops : List Oper) : List Nat := match cutRoots ops with
  | [] => []
  | rs => rs.filter fun r => ops.any fun o => match o.op with
    | .indexAddr _ (.tmp t) _ => Nat.beq (rootOf ops 9 t) r
    | _ => false

/-- What is handed to functions whose results may share its data. -/
def gvCode (al : Nat → Bool) : Code → List Nat
  | .region _ ops _ => ops.toList.flatMap fun o => match o.op with
    | .call c0 => match c0.callee with
      | .value (.func f) => match al f with
        | true => c0.args.toList.filterMap fun | .tmp t => some t | _ => none
        | false => []
      | _ => []
    | _ => []
  | .seq a b => gvCode al a ++ gvCode al b
  | .cond _ a b => gvCode al a ++ gvCode al b
  | .block _ a => gvCode al a
  | .loop a => gvCode al a
  | _ => []

/-- What is not moved on by the by. -/
def codeVars (c : Code) : List Nat := (codeVars0 c).filter fun v => !movesOn (codeUse 1 0 c) v

end Go.Mach
/- The machine, part c: how typed data lie in the memory of the model; what of it changes when memory changes. No condition: lemmas. -/
namespace Go.Mach

/-- Where data lie: a tree of places beside the data. -/
inductive LT where
  | leaf | nil | node (b off cap : Nat) (rows : List LT) | pair (a b : LT)
  deriving Inhabited

def cellIs (w : World) (b o : Nat) (v : Value) : Prop := w.cell? ⟨b, o, none⟩ = some v

def RowAt (w : World) (b o : Nat) (vs : List Value) : Prop := ∀ i v, vs[i]? = some v → w.cell? ⟨b, o + i, none⟩ = some v

def Room (w : World) (b n : Nat) : Prop := ∃ c e fr, w.heap[b]? = some (.cells c e fr) ∧ n ≤ c.size ∧ (c.size ≤ fr.1 ∨ fr.2 ≤ fr.1)

def RepL (dr : Bool) (w : World) (sz : Nat) {α : Type} (R : α → LT → List Value → Prop) (l : List α) (L : LT) (v : Value) : Prop :=
  (L = .nil ∧ l = [] ∧ ∃ a cap, v = .slice a 0 cap ∧ (dr = true → cap = 0)) ∨
  (∃ b off cap rows, L = .node b off cap rows ∧ v = .slice (some ⟨b, off, none⟩) l.length cap ∧ l.length ≤ cap ∧ rows.length = l.length ∧ w.heap[b]? ≠ none ∧
    (dr = true → Room w b (off + cap * sz)) ∧
    ∀ i x r, l[i]? = some x → rows[i]? = some r → ∃ vs, RowAt w b (off + i * sz) vs ∧ R x r vs)

/-- The data x of kind k lie at L and read as the cells cs. d: every row has its room, and nothing in it is nil but what is so. -/
def Rep (d : Bool) (w : World) : (k : K) → k.T → LT → List Value → Prop
  | .int ik, x, _, cs => cs = [.int ik x]
  | .bool, x, _, cs => cs = [.bool x]
  | .str, x, _, cs => cs = [.string ⟨⟨x⟩⟩]
  | .list k, l, L, cs => ∃ v, cs = [v] ∧ RepL d w k.size (Rep d w k) l L v
  | .pair a b, x, L, cs => ∃ La Lb c1 c2, L = .pair La Lb ∧ cs = c1 ++ c2 ∧ Rep d w a x.1 La c1 ∧ Rep d w b x.2 Lb c2

/-- The blocks in which data lie. -/
def fp : K → LT → List Nat
  | .list k, L => match L with
    | .node b _ _ rows => b :: rows.flatMap (fp k)
    | _ => []
  | .pair a b, L => match L with
    | .pair x y => fp a x ++ fp b y
    | _ => []
  | _, _ => []

theorem Rep.size {d : Bool} {w : World} : ∀ {k : K} {x : k.T} {L : LT} {cs : List Value}, Rep d w k x L cs → cs.length = k.size
  | .int _, _, _, _, h => by simp only [Rep] at h; simp [h, K.size]
  | .bool, _, _, _, h => by simp only [Rep] at h; simp [h, K.size]
  | .str, _, _, _, h => by simp only [Rep] at h; simp [h, K.size]
  | .list _, _, _, _, h => by simp only [Rep] at h; obtain ⟨v, rfl, _⟩ := h; simp [K.size]
  | .pair a b, _, _, _, h => by
    simp only [Rep] at h
    obtain ⟨La, Lb, c1, c2, _, rfl, h1, h2⟩ := h
    simp [K.size, h1.size, h2.size]

theorem K.size_pos : ∀ k : K, 0 < k.size
  | .int _ => by simp [K.size]
  | .bool => by simp [K.size]
  | .str => by simp [K.size]
  | .list _ => by simp [K.size]
  | .pair a b => by simp only [K.size]; have := a.size_pos; omega

/-- Two worlds agree on blocks. -/
def Same (w w' : World) (bs : List Nat) : Prop := ∀ b ∈ bs, w'.heap[b]? = w.heap[b]?

theorem cell_same {w w' : World} {b o : Nat} (h : w'.heap[b]? = w.heap[b]?) : w'.cell? ⟨b, o, none⟩ = w.cell? ⟨b, o, none⟩ := by
  simp only [World.cell?, h]

theorem RowAt.same {w w' : World} {b o : Nat} {vs : List Value} (h : RowAt w b o vs) (hs : w'.heap[b]? = w.heap[b]?) : RowAt w' b o vs :=
  fun i v hv => by rw [cell_same hs]; exact h i v hv

theorem Room.same {w w' : World} {b n : Nat} (h : Room w b n) (hs : w'.heap[b]? = w.heap[b]?) : Room w' b n := by
  obtain ⟨c, e, fr, h1, h2⟩ := h
  exact ⟨c, e, fr, by rw [hs]; exact h1, h2⟩

theorem Rep.same {d : Bool} {w w' : World} : ∀ {k : K} {x : k.T} {L : LT} {cs : List Value}, Rep d w k x L cs → Same w w' (fp k L) → Rep d w' k x L cs
  | .int _, _, _, _, h, _ => h
  | .bool, _, _, _, h, _ => h
  | .str, _, _, _, h, _ => h
  | .list k, l, L, cs, h, hs => by
    simp only [Rep] at h ⊢
    obtain ⟨v, hv, h⟩ := h
    refine ⟨v, hv, ?_⟩
    rcases h with h | ⟨b, off, cap, rows, rfl, h1, h2, h3, h0, h4, h5⟩
    · exact .inl h
    · have hb : w'.heap[b]? = w.heap[b]? := hs b (by simp [fp])
      refine .inr ⟨b, off, cap, rows, rfl, h1, h2, h3, by rw [hb]; exact h0, fun hd => (h4 hd).same hb, fun i x r hx hr => ?_⟩
      obtain ⟨vs, g1, g2⟩ := h5 i x r hx hr
      refine ⟨vs, g1.same hb, g2.same fun b' hb' => hs b' ?_⟩
      simp only [fp, List.mem_cons, List.mem_flatMap]
      exact .inr ⟨r, List.mem_of_getElem? hr, hb'⟩
  | .pair a b, x, L, cs, h, hs => by
    simp only [Rep] at h ⊢
    obtain ⟨La, Lb, c1, c2, rfl, rfl, h1, h2⟩ := h
    exact ⟨La, Lb, c1, c2, rfl, rfl, h1.same fun b hb => hs b (by simp [fp, hb]), h2.same fun b hb => hs b (by simp [fp, hb])⟩

theorem Rep.weaken {d : Bool} {w : World} : ∀ {k : K} {x : k.T} {L : LT} {cs : List Value}, Rep d w k x L cs → Rep false w k x L cs
  | .int _, _, _, _, h => h
  | .bool, _, _, _, h => h
  | .str, _, _, _, h => h
  | .list k, l, L, cs, h => by
    simp only [Rep] at h ⊢
    obtain ⟨v, hv, h⟩ := h
    refine ⟨v, hv, ?_⟩
    rcases h with ⟨h1, h2, a, cap, h3, _⟩ | ⟨b, off, cap, rows, rfl, h1, h2, h3, h0, h4, h5⟩
    · exact .inl ⟨h1, h2, a, cap, h3, by simp⟩
    · refine .inr ⟨b, off, cap, rows, rfl, h1, h2, h3, h0, by simp, fun i x r hx hr => ?_⟩
      obtain ⟨vs, g1, g2⟩ := h5 i x r hx hr
      exact ⟨vs, g1, g2.weaken⟩
  | .pair a b, x, L, cs, h => by
    simp only [Rep] at h ⊢
    obtain ⟨La, Lb, c1, c2, rfl, rfl, h1, h2⟩ := h
    exact ⟨La, Lb, c1, c2, rfl, rfl, h1.weaken, h2.weaken⟩

/-- Flat data have no places. -/
theorem fp_flat : ∀ {k : K} {L : LT}, k.flat = true → fp k L = []
  | .int _, _, _ => rfl
  | .bool, _, _ => rfl
  | .str, _, _ => rfl
  | .list _, _, h => by simp [K.flat] at h
  | .pair a b, L, h => by
    simp only [K.flat, Bool.and_eq_true] at h
    cases L <;> simp [fp, fp_flat h.1, fp_flat h.2]

/-- Flat data lie the one way or the other. -/
theorem Rep.flat {d d' : Bool} {w w' : World} : ∀ {k : K} {x : k.T} {L : LT} {cs : List Value}, k.flat = true → Rep d w k x L cs → Rep d' w' k x L cs
  | .int _, _, _, _, _, h => h
  | .bool, _, _, _, _, h => h
  | .str, _, _, _, _, h => h
  | .list _, _, _, _, hf, _ => by simp [K.flat] at hf
  | .pair a b, x, L, cs, hf, h => by
    simp only [K.flat, Bool.and_eq_true] at hf
    simp only [Rep] at h ⊢
    obtain ⟨La, Lb, c1, c2, rfl, rfl, h1, h2⟩ := h
    exact ⟨La, Lb, c1, c2, rfl, rfl, h1.flat hf.1, h2.flat hf.2⟩

/-! ### Leaves -/
def leafL : K → LT → Nat → LT
  | .pair a b, L, c => match L with
    | .pair x y => if c < a.size then leafL a x c else leafL b y (c - a.size)
    | _ => .leaf
  | _, L, _ => L

def setLeafL : K → LT → Nat → LT → LT
  | .pair a b, L, c, M => match L with
    | .pair x y => if c < a.size then .pair (setLeafL a x c M) y else .pair x (setLeafL b y (c - a.size) M)
    | _ => L
  | _, _, _, M => M

theorem leafV_kind : ∀ (k : K) (x : k.T) (c : Nat), (leafV k x c).1 = k.leaf c
  | .int _, _, _ => rfl
  | .bool, _, _ => rfl
  | .str, _, _ => rfl
  | .list _, _, _ => rfl
  | .pair a b, x, c => by
    simp only [leafV, K.leaf]
    split
    · exact leafV_kind a x.1 c
    · exact leafV_kind b x.2 _

theorem Rep.leaf {d : Bool} {w : World} : ∀ {k : K} {x : k.T} {L : LT} {cs : List Value} {c : Nat}, Rep d w k x L cs → c < k.size →
    ∃ v, cs[c]? = some v ∧ Rep d w (leafV k x c).1 (leafV k x c).2 (leafL k L c) [v] ∧ ∀ b ∈ fp (leafV k x c).1 (leafL k L c), b ∈ fp k L
  | .int _, _, _, cs, c, h, hc => by
    simp only [Rep] at h; simp only [K.size] at hc
    obtain rfl : c = 0 := by omega
    exact ⟨_, by rw [h]; rfl, by simp [leafV, Rep], by simp [leafV, fp]⟩
  | .bool, _, _, cs, c, h, hc => by
    simp only [Rep] at h; simp only [K.size] at hc
    obtain rfl : c = 0 := by omega
    exact ⟨_, by rw [h]; rfl, by simp [leafV, Rep], by simp [leafV, fp]⟩
  | .str, _, _, cs, c, h, hc => by
    simp only [Rep] at h; simp only [K.size] at hc
    obtain rfl : c = 0 := by omega
    exact ⟨_, by rw [h]; rfl, by simp [leafV, Rep], by simp [leafV, fp]⟩
  | .list k, l, L, cs, c, h, hc => by
    simp only [K.size] at hc
    obtain rfl : c = 0 := by omega
    have h' := h
    simp only [Rep] at h'
    obtain ⟨v, rfl, _⟩ := h'
    exact ⟨v, rfl, by simpa [leafV, leafL] using h, by simp [leafV, leafL]⟩
  | .pair a b, x, L, cs, c, h, hc => by
    simp only [Rep] at h
    obtain ⟨La, Lb, c1, c2, rfl, rfl, h1, h2⟩ := h
    have s1 := h1.size
    simp only [K.size] at hc
    by_cases hlt : c < a.size
    · have q : leafV (.pair a b) x c = leafV a x.1 c := if_pos hlt
      have q' : leafL (.pair a b) (.pair La Lb) c = leafL a La c := if_pos hlt
      rw [q, q']
      obtain ⟨v, e1, e2, e3⟩ := h1.leaf hlt
      refine ⟨v, ?_, e2, fun b hb => by simp [fp, e3 b hb]⟩
      rw [List.getElem?_append_left (by omega)]; exact e1
    · have q : leafV (.pair a b) x c = leafV b x.2 (c - a.size) := if_neg hlt
      have q' : leafL (.pair a b) (.pair La Lb) c = leafL b Lb (c - a.size) := if_neg hlt
      rw [q, q']
      obtain ⟨v, e1, e2, e3⟩ := h2.leaf (c := c - a.size) (by omega)
      refine ⟨v, ?_, e2, fun b hb => by simp [fp, e3 b hb]⟩
      rw [List.getElem?_append_right (by omega), s1]; exact e1

theorem castT_same (k : K) (y d : k.T) : castT ⟨k, y⟩ k d = y := by simp [castT]

theorem Rep.setLeaf {d : Bool} {w : World} : ∀ {k : K} {x : k.T} {L : LT} {cs : List Value} {c : Nat} {s : Sg} {M : LT} {v : Value}, Rep d w k x L cs → c < k.size →
    s.1 = k.leaf c → Rep d w s.1 s.2 M [v] → Rep d w k (setLeaf k x c s) (setLeafL k L c M) (cs.set c v)
  | .int i, x, L, cs, c, ⟨k', y⟩, M, v, h, hc, hk, hv => by
    simp only [Rep] at h; simp only [K.size] at hc
    obtain rfl : c = 0 := by omega
    simp only [K.leaf] at hk
    subst hk
    simp only [Rep] at hv ⊢
    rw [h]
    simp only [Mach.setLeaf, castT_same, List.set_cons_zero]
    exact hv
  | .bool, x, L, cs, c, ⟨k', y⟩, M, v, h, hc, hk, hv => by
    simp only [Rep] at h; simp only [K.size] at hc
    obtain rfl : c = 0 := by omega
    simp only [K.leaf] at hk
    subst hk
    simp only [Rep] at hv ⊢
    rw [h]
    simp only [Mach.setLeaf, castT_same, List.set_cons_zero]
    exact hv
  | .str, x, L, cs, c, ⟨k', y⟩, M, v, h, hc, hk, hv => by
    simp only [Rep] at h; simp only [K.size] at hc
    obtain rfl : c = 0 := by omega
    simp only [K.leaf] at hk
    subst hk
    simp only [Rep] at hv ⊢
    rw [h]
    simp only [Mach.setLeaf, castT_same, List.set_cons_zero]
    exact hv
  | .list k, x, L, cs, c, ⟨k', y⟩, M, v, h, hc, hk, hv => by
    simp only [K.size] at hc
    obtain rfl : c = 0 := by omega
    simp only [K.leaf] at hk
    subst hk
    have h' := h
    simp only [Rep] at h'
    obtain ⟨u, rfl, _⟩ := h'
    simpa [Mach.setLeaf, castT_same, setLeafL] using hv
  | .pair a b, x, L, cs, c, s, M, v, h, hc, hk, hv => by
    simp only [Rep] at h
    obtain ⟨La, Lb, c1, c2, rfl, rfl, h1, h2⟩ := h
    have s1 := h1.size
    simp only [K.size] at hc
    simp only [K.leaf] at hk
    simp only [Mach.setLeaf, setLeafL]
    by_cases hlt : c < a.size
    · simp only [hlt, if_true] at hk ⊢
      simp only [Rep]
      exact ⟨_, _, c1.set c v, c2, rfl, by rw [List.set_append_left _ _ (by omega)], h1.setLeaf hlt hk hv, h2⟩
    · simp only [hlt, if_false] at hk ⊢
      simp only [Rep]
      exact ⟨_, _, c1, c2.set (c - a.size) v, rfl, by rw [List.set_append_right _ _ (by omega), s1], h1, h2.setLeaf (by omega) hk hv⟩

def restL : K → LT → Nat → List Nat
  | .pair a b, L, c => match L with
    | .pair x y => if c < a.size then restL a x c ++ fp b y else fp a x ++ restL b y (c - a.size)
    | _ => []
  | _, _, _ => []

theorem leaf_perm {d : Bool} {w : World} : ∀ {k : K} {x : k.T} {L : LT} {cs : List Value} {c : Nat}, Rep d w k x L cs → c < k.size →
    (fp k L).Perm (fp (k.leaf c) (leafL k L c) ++ restL k L c) ∧ ∀ M, (fp k (setLeafL k L c M)).Perm (fp (k.leaf c) M ++ restL k L c)
  | .int i, _, L, _, _, _, _ => ⟨by simp [fp, restL, K.leaf], fun M => by simp [fp, restL, K.leaf]⟩
  | .bool, _, L, _, _, _, _ => ⟨by simp [fp, restL, K.leaf], fun M => by simp [fp, restL, K.leaf]⟩
  | .str, _, L, _, _, _, _ => ⟨by simp [fp, restL, K.leaf], fun M => by simp [fp, restL, K.leaf]⟩
  | .list k, _, L, _, _, _, _ => ⟨by simp [K.leaf, leafL, restL], fun M => by simp [K.leaf, setLeafL, restL]⟩
  | .pair a b, x, L, cs, c, h, hc => by
    simp only [Rep] at h
    obtain ⟨La, Lb, c1, c2, rfl, rfl, h1, h2⟩ := h
    simp only [K.size] at hc
    by_cases hlt : c < a.size
    · obtain ⟨p1, p2⟩ := leaf_perm h1 hlt
      refine ⟨?_, fun M => ?_⟩
      · simp only [K.leaf, leafL, restL, if_pos hlt, fp]
        rw [← List.append_assoc]
        exact p1.append_right _
      · simp only [K.leaf, setLeafL, restL, if_pos hlt, fp]
        rw [← List.append_assoc]
        exact (p2 M).append_right _
    · obtain ⟨p1, p2⟩ := leaf_perm h2 (c := c - a.size) (by omega)
      refine ⟨?_, fun M => ?_⟩
      · simp only [K.leaf, leafL, restL, if_neg hlt, fp]
        refine (p1.append_left (fp a La)).trans ?_
        rw [← List.append_assoc, ← List.append_assoc]
        exact List.perm_append_comm.append_right _
      · simp only [K.leaf, setLeafL, restL, if_neg hlt, fp]
        refine ((p2 M).append_left (fp a La)).trans ?_
        rw [← List.append_assoc, ← List.append_assoc]
        exact List.perm_append_comm.append_right _

theorem row_back {vs : List Value} {c : Nat} {v : Value} (h : vs[c]? = some v) : vs.set c v = vs := by
  apply List.ext_getElem?
  intro i
  by_cases e : c = i
  · subst e
    rw [h]
    have : c < vs.length := by
      rcases Nat.lt_or_ge c vs.length with g | g
      · exact g
      · rw [List.getElem?_eq_none g] at h; simp at h
    simp [this]
  · rw [List.getElem?_set_ne e]

/-- A leaf turned, over a world in which the other leaves are as they were. -/
theorem Rep.setLeaf_same {d : Bool} {w w' : World} : ∀ {k : K} {x : k.T} {L : LT} {cs : List Value} {c : Nat} {s : Sg} {M : LT} {v : Value}, Rep d w k x L cs → c < k.size →
    s.1 = k.leaf c → Rep d w' s.1 s.2 M [v] → Same w w' (restL k L c) → Rep d w' k (Mach.setLeaf k x c s) (setLeafL k L c M) (cs.set c v)
  | .int i, x, L, cs, c, ⟨k', y⟩, M, v, h, hc, hk, hv, _ => Rep.setLeaf (k := .int i) (w := w') (x := x) (L := L) h hc hk hv
  | .bool, x, L, cs, c, ⟨k', y⟩, M, v, h, hc, hk, hv, _ => Rep.setLeaf (k := .bool) (w := w') (x := x) (L := L) h hc hk hv
  | .str, x, L, cs, c, ⟨k', y⟩, M, v, h, hc, hk, hv, _ => Rep.setLeaf (k := .str) (w := w') (x := x) (L := L) h hc hk hv
  | .list k, x, L, cs, c, ⟨k', y⟩, M, v, h, hc, hk, hv, _ => by
    simp only [K.size] at hc
    obtain rfl : c = 0 := by omega
    simp only [K.leaf] at hk
    subst hk
    have h' := h
    simp only [Rep] at h'
    obtain ⟨u, rfl, _⟩ := h'
    simpa [Mach.setLeaf, castT_same, setLeafL] using hv
  | .pair a b, x, L, cs, c, s, M, v, h, hc, hk, hv, hs => by
    simp only [Rep] at h
    obtain ⟨La, Lb, c1, c2, rfl, rfl, h1, h2⟩ := h
    have s1 := h1.size
    simp only [K.size] at hc
    simp only [K.leaf] at hk
    simp only [Mach.setLeaf, setLeafL]
    by_cases hlt : c < a.size
    · simp only [hlt, if_true] at hk ⊢
      simp only [restL, if_pos hlt] at hs
      simp only [Rep]
      exact ⟨_, _, c1.set c v, c2, rfl, by rw [List.set_append_left _ _ (by omega)], h1.setLeaf_same hlt hk hv (fun b hb => hs b (by simp [hb])), h2.same (fun b hb => hs b (by simp [hb]))⟩
    · simp only [hlt, if_false] at hk ⊢
      simp only [restL, if_neg hlt] at hs
      simp only [Rep]
      exact ⟨_, _, c1, c2.set (c - a.size) v, rfl, by rw [List.set_append_right _ _ (by omega), s1], h1.same (fun b hb => hs b (by simp [hb])), h2.setLeaf_same (by omega) hk hv (fun b hb => hs b (by simp [hb]))⟩

/-! ### Rows and paths -/
def restRows {α β : Type} (f : α → List β) (rows : List α) (i : Nat) : List β := (rows.take i ++ rows.drop (i + 1)).flatMap f

theorem flat_perm {α β : Type} (f : α → List β) (rows : List α) (i : Nat) (r : α) (h : rows[i]? = some r) :
    (rows.flatMap f).Perm (f r ++ restRows f rows i) ∧ ∀ r', ((rows.set i r').flatMap f).Perm (f r' ++ restRows f rows i) := by
  induction rows generalizing i with
  | nil => simp at h
  | cons a rows ih =>
    cases i with
    | zero =>
      simp at h
      subst h
      exact ⟨by simp [restRows], fun r' => by simp [restRows]⟩
    | succ i =>
      simp at h
      obtain ⟨p1, p2⟩ := ih i h
      refine ⟨?_, fun r' => ?_⟩
      · simp only [List.flatMap_cons, restRows, List.take_succ_cons, List.drop_succ_cons, List.cons_append]
        refine (p1.append_left (f a)).trans ?_
        rw [← List.append_assoc, ← List.append_assoc]
        exact List.perm_append_comm.append_right _
      · simp only [List.set_cons_succ, List.flatMap_cons, restRows, List.take_succ_cons, List.drop_succ_cons, List.cons_append]
        refine ((p2 r').append_left (f a)).trans ?_
        rw [← List.append_assoc, ← List.append_assoc]
        exact List.perm_append_comm.append_right _

theorem flat_rest {α β : Type} (f : α → List β) (rows : List α) {i i' : Nat} {r' : α} (h : rows[i']? = some r') (hne : i ≠ i') {b : β} (hb : b ∈ f r') : b ∈ restRows f rows i := by
  refine List.mem_flatMap.2 ⟨r', ?_, hb⟩
  rw [List.mem_append]
  rcases Nat.lt_or_gt_of_ne hne with g | g
  · right
    refine List.mem_of_getElem? (i := i' - (i + 1)) ?_
    rw [List.getElem?_drop, ← h]
    congr 1
    omega
  · left
    refine List.mem_of_getElem? (i := i') ?_
    rw [List.getElem?_take_of_lt g, h]

/-- An element of a list that lies somewhere. -/
theorem RepL.elem {dr d : Bool} {w : World} {k : K} {l : List k.T} {L : LT} {v : Value} (h : RepL dr w k.size (Rep d w k) l L v) {i : Nat} (hi : i < l.length) :
    ∃ b off cap rows r vs, L = .node b off cap rows ∧ v = .slice (some ⟨b, off, none⟩) l.length cap ∧ l.length ≤ cap ∧ rows.length = l.length ∧ rows[i]? = some r ∧
      RowAt w b (off + i * k.size) vs ∧ Rep d w k (l.getD i k.dflt) r vs := by
  rcases h with ⟨_, h, _⟩ | ⟨b, off, cap, rows, h1, h2, h3, h4, _, _, h5⟩
  · subst h; simp at hi
  · have hr : rows[i]? = some (rows[i]'(by omega)) := List.getElem?_eq_getElem (by omega)
    have hx : l[i]? = some (l.getD i k.dflt) := by simp [List.getElem?_eq_getElem hi]
    obtain ⟨vs, g1, g2⟩ := h5 i _ _ hx hr
    exact ⟨b, off, cap, rows, _, vs, h1, h2, h3, h4, hr, g1, g2⟩

def PathOk : (k : K) → List k.T → Path → Prop
  | _, _, [] => True
  | k, l, (i, c) :: p => i < l.length ∧ c < k.size ∧
    match leafV k (l.getD i k.dflt) c with
    | ⟨.list k', y⟩ => PathOk k' y p
    | _ => False

def subL : K → LT → Path → LT
  | _, L, [] => L
  | k, L, (i, c) :: p => match L, k.leaf c with
    | .node _ _ _ rows, .list k' => subL k' (leafL k (rows.getD i .leaf) c) p
    | _, _ => .leaf

def setSub (k : K) (L : LT) (M : LT) : Path → LT
  | [] => M
  | (i, c) :: p => match L, k.leaf c with
    | .node b off cap rows, .list k' => .node b off cap (rows.set i (setLeafL k (rows.getD i .leaf) c (setSub k' (leafL k (rows.getD i .leaf) c) M p)))
    | _, _ => .leaf

theorem leafV_list {k : K} {x : k.T} {c : Nat} {k' : K} {y : List k'.T} (h : leafV k x c = ⟨.list k', y⟩) : k.leaf c = .list k' := by
  rw [← leafV_kind k x c, h]

theorem Rep.any {w : World} {k : K} {x : k.T} {L : LT} {cs : List Value} (dd : Bool) (h : Rep true w k x L cs) : Rep dd w k x L cs := by
  cases dd
  · exact h.weaken
  · exact h

theorem RepL.any {d : Bool} {w : World} {k : K} {l : List k.T} {L : LT} {v : Value} (dd : Bool) (h : RepL true w k.size (Rep d w k) l L v) : RepL dd w k.size (Rep d w k) l L v := by
  cases dd
  · rcases h with ⟨h1, h2, a, cap, h3, _⟩ | ⟨b, off, cap, rows, h1, h2, h3, h4, h0, _, h6⟩
    · exact .inl ⟨h1, h2, a, cap, h3, by simp⟩
    · exact .inr ⟨b, off, cap, rows, h1, h2, h3, h4, h0, by simp, h6⟩
  · exact h

/-- What lies at a path of owned data can be turned by itself: the rest is as it was. -/
theorem focus {w : World} (g : (k : K) → List k.T → List k.T) : ∀ (p : Path) (k : K) (l : List k.T) (L : LT) (v : Value), RepL true w k.size (Rep true w k) l L v → PathOk k l p →
    ∃ v' rest, RepL true w (getP k l p).1.size (Rep true w (getP k l p).1) (getP k l p).2 (subL k L p) v' ∧
      (fp (.list k) L).Perm (fp (.list (getP k l p).1) (subL k L p) ++ rest) ∧
      ∀ w' M dd, Same w w' rest → RepL true w' (getP k l p).1.size (Rep dd w' (getP k l p).1) (g (getP k l p).1 (getP k l p).2) M v' →
        RepL true w' k.size (Rep dd w' k) (modP g k l p) (setSub k L M p) v ∧ (fp (.list k) (setSub k L M p)).Perm (fp (.list (getP k l p).1) M ++ rest)
  | [], k, l, L, v, h, _ => ⟨v, [], by simpa [getP, subL] using h, by simp [getP, subL], fun w' M dd _ hM => ⟨by simpa [getP, modP, setSub] using hM, by simp [getP, setSub]⟩⟩
  | (i, c) :: p, k, l, L, v, h, hp => by
    simp only [PathOk] at hp
    obtain ⟨hi, hc, hp⟩ := hp
    have hlen := h.elem hi
    obtain ⟨b, off, cap, rows, r, vs, rfl, rfl, hcap, hrl, hr, hrow, hrep⟩ := hlen
    obtain ⟨v1, hv1, hleaf, hsub⟩ := hrep.leaf hc
    obtain ⟨q1, q2⟩ := leaf_perm hrep hc
    obtain ⟨q3, q4⟩ := flat_perm (fp k) rows i r hr
    have hrd : rows.getD i .leaf = r := by simp [hr]
    cases hl : leafV k (l.getD i k.dflt) c with
    | mk k1 y =>
      have hk := leafV_kind k (l.getD i k.dflt) c
      rw [hl] at hk hp hleaf hsub
      simp only at hk hleaf hsub
      cases k1 with
      | list k' =>
        simp only at hp
        simp only [Rep] at hleaf
        obtain ⟨u, hu, hleaf⟩ := hleaf
        simp only [List.cons.injEq, and_true] at hu
        subst hu
        obtain ⟨v', rest, f1, f2, f3⟩ := focus g p k' y (leafL k r c) v1 hleaf hp
        have eg : getP k l ((i, c) :: p) = getP k' y p := by simp only [getP, hl]
        have es : subL k (.node b off cap rows) ((i, c) :: p) = subL k' (leafL k r c) p := by simp only [subL, ← hk, hrd]
        rw [eg, es]
        rw [← hk] at q1 q2
        refine ⟨v', rest ++ (restL k r c ++ (b :: restRows (fp k) rows i)), f1, ?_, fun w' M dd hs hM => ?_⟩
        · simp only [fp] at q1 f2 q3 ⊢
          have : (b :: rows.flatMap (fp k)).Perm (fp k r ++ (b :: restRows (fp k) rows i)) := (List.Perm.cons b q3).trans List.perm_middle.symm
          refine this.trans ?_
          refine (q1.append_right _).trans ?_
          rw [List.append_assoc]
          refine (f2.append_right _).trans ?_
          rw [List.append_assoc]
        · obtain ⟨g1, g2⟩ := f3 w' M dd (fun b hb => hs b (by simp [hb])) hM
          have hb : w'.heap[b]? = w.heap[b]? := hs b (by simp)
          have em : modP g k l ((i, c) :: p) = l.set i (setLeaf k (l.getD i k.dflt) c ⟨.list k', modP g k' y p⟩) := by simp only [modP, hl]
          have eS : setSub k (.node b off cap rows) M ((i, c) :: p) = .node b off cap (rows.set i (setLeafL k r c (setSub k' (leafL k r c) M p))) := by simp only [setSub, ← hk, hrd]
          rw [em, eS]
          constructor
          · rcases h with ⟨h, _⟩ | ⟨b', off', cap', rows', e1, e2, h3, h4, h0, h5, h6⟩
            · simp at h
            simp only [LT.node.injEq] at e1
            obtain ⟨rfl, rfl, rfl, rfl⟩ := e1
            refine .inr ⟨b, off, cap, _, rfl, by simp, by simpa using hcap, by simpa using hrl, by rw [hb]; exact h0, fun hd => (h5 hd).same hb, fun i' x' r' hx' hr' => ?_⟩
            by_cases e : i = i'
            · subst e
              rw [List.getElem?_set_self (by omega)] at hx' hr'
              simp only [Option.some.injEq] at hx' hr'
              subst hx' hr'
              refine ⟨vs, hrow.same hb, ?_⟩
              have := (hrep.any dd).setLeaf_same (w' := w') (s := ⟨.list k', modP g k' y p⟩) (M := setSub k' (leafL k r c) M p) (v := v1) hc hk (by simp only [Rep]; exact ⟨v1, rfl, g1.any dd⟩) (fun b' hb' => hs b' (by simp [hb']))
              rw [row_back hv1] at this
              exact this
            · rw [List.getElem?_set_ne e] at hx' hr'
              obtain ⟨vs', a1, a2⟩ := h6 i' x' r' hx' hr'
              refine ⟨vs', a1.same hb, (a2.any dd).same fun b' hb' => hs b' ?_⟩
              have := flat_rest (fp k) rows hr' e hb'
              simp [this]
          · simp only [fp]
            have : (b :: (rows.set i (setLeafL k r c (setSub k' (leafL k r c) M p))).flatMap (fp k)).Perm (fp k (setLeafL k r c (setSub k' (leafL k r c) M p)) ++ (b :: restRows (fp k) rows i)) :=
              (List.Perm.cons b (q4 _)).trans List.perm_middle.symm
            refine this.trans ?_
            refine ((q2 _).append_right _).trans ?_
            rw [List.append_assoc]
            simp only [fp] at g2
            refine (g2.append_right _).trans ?_
            rw [List.append_assoc]
      | _ => exact hp.elim

/-- The blocks of data are there. -/
theorem Rep.there {d : Bool} {w : World} : ∀ {k : K} {x : k.T} {L : LT} {cs : List Value}, Rep d w k x L cs → ∀ b ∈ fp k L, w.heap[b]? ≠ none
  | .int _, _, _, _, _, b, hb => by simp [fp] at hb
  | .bool, _, _, _, _, b, hb => by simp [fp] at hb
  | .str, _, _, _, _, b, hb => by simp [fp] at hb
  | .list k, l, L, cs, h, b, hb => by
    simp only [Rep] at h
    obtain ⟨v, hv, h⟩ := h
    rcases h with ⟨rfl, _⟩ | ⟨b', off, cap, rows, rfl, h1, h2, h3, h0, h4, h5⟩
    · simp [fp] at hb
    · simp only [fp, List.mem_cons, List.mem_flatMap] at hb
      rcases hb with rfl | ⟨r, hr, hb⟩
      · exact h0
      · obtain ⟨i, hi⟩ := List.getElem?_of_mem hr
        have hlt : i < rows.length := by
          rcases Nat.lt_or_ge i rows.length with g | g
          · exact g
          · rw [List.getElem?_eq_none g] at hi; simp at hi
        obtain ⟨vs, _, g⟩ := h5 i (l[i]'(by omega)) r (List.getElem?_eq_getElem (by omega)) hi
        exact g.there b hb
  | .pair a b, x, L, cs, h, b', hb => by
    simp only [Rep] at h
    obtain ⟨La, Lb, c1, c2, rfl, rfl, h1, h2⟩ := h
    simp only [fp, List.mem_append] at hb
    rcases hb with hb | hb
    · exact h1.there b' hb
    · exact h2.there b' hb

theorem RepL.same {dr d : Bool} {w w' : World} {k : K} {l : List k.T} {L : LT} {v : Value} (h : RepL dr w k.size (Rep d w k) l L v) (hs : Same w w' (fp (.list k) L)) :
    RepL dr w' k.size (Rep d w' k) l L v := by
  rcases h with h | ⟨b, off, cap, rows, rfl, h1, h2, h3, h0, h4, h5⟩
  · exact .inl h
  · have hb : w'.heap[b]? = w.heap[b]? := hs b (by simp [fp])
    refine .inr ⟨b, off, cap, rows, rfl, h1, h2, h3, by rw [hb]; exact h0, fun hd => (h4 hd).same hb, fun i x r hx hr => ?_⟩
    obtain ⟨vs, g1, g2⟩ := h5 i x r hx hr
    refine ⟨vs, g1.same hb, g2.same fun b' hb' => hs b' ?_⟩
    simp only [fp, List.mem_cons, List.mem_flatMap]
    exact .inr ⟨r, List.mem_of_getElem? hr, hb'⟩

theorem RepL.weaken {dr d : Bool} {w : World} {k : K} {l : List k.T} {L : LT} {v : Value} (h : RepL dr w k.size (Rep d w k) l L v) : RepL dr w k.size (Rep false w k) l L v := by
  rcases h with h | ⟨b, off, cap, rows, rfl, h1, h2, h3, h0, h4, h5⟩
  · exact .inl h
  · refine .inr ⟨b, off, cap, rows, rfl, h1, h2, h3, h0, h4, fun i x r hx hr => ?_⟩
    obtain ⟨vs, g1, g2⟩ := h5 i x r hx hr
    exact ⟨vs, g1, g2.weaken⟩

theorem RepL.root {dr d : Bool} {w : World} {k : K} {l : List k.T} {L : LT} {v : Value} (h : RepL dr w k.size (Rep d w k) l L v) : RepL false w k.size (Rep d w k) l L v := by
  rcases h with ⟨h1, h2, a, cap, h3, _⟩ | ⟨b, off, cap, rows, rfl, h1, h2, h3, h0, h4, h5⟩
  · exact .inl ⟨h1, h2, a, cap, h3, by simp⟩
  · exact .inr ⟨b, off, cap, rows, rfl, h1, h2, h3, h0, by simp, h5⟩

theorem RepL.there {dr d : Bool} {w : World} {k : K} {l : List k.T} {L : LT} {v : Value} (h : RepL dr w k.size (Rep d w k) l L v) : ∀ b ∈ fp (.list k) L, w.heap[b]? ≠ none :=
  Rep.there (d := false) (k := .list k) (x := l) (cs := [v]) (by simp only [Rep]; exact ⟨v, rfl, h.root.weaken⟩)

end Go.Mach
/- The machine, part d: what it means that the abstract slots stand for the frame and the memory of the model. No condition: definitions and lemmas. -/
namespace Go.Mach
set_option linter.unusedVariables false

/-- The ghost: each slot's cells as values, where their data lie, a box's block, each block's owner. -/
structure Gh where
  vs : Nat → List Value
  lt : Nat → Nat → LT
  bk : Nat → Nat
  ow : Nat → Option Nat

/-- Where a list in owned data lies: its kind, its length, and its block, place and room. -/
def hdOf : LT → Option (Nat × Nat × Nat)
  | .node b off cap _ => some (b, off, cap)
  | _ => none

def Loc (k0 : K) (l0 : List k0.T) (L : LT) (p : Path) (k : K) (n : Nat) (hd : Option (Nat × Nat × Nat)) : Prop :=
  PathOk k0 l0 p ∧ (getP k0 l0 p).1 = k ∧ (getP k0 l0 p).2.length = n ∧ hdOf (subL k0 L p) = hd

/-- A slice value that reads a list, cut. -/
def SliceIs (sz n : Nat) (hd : Option (Nat × Nat × Nat)) (lo hi : Option Nat) (v : Value) : Prop :=
  lo.getD 0 ≤ hi.getD n ∧ hi.getD n ≤ n ∧
  match hd with
  | none => ∃ a, v = .slice a 0 0 ∧ n = 0
  | some (b, off, cap) => n ≤ cap ∧ ∃ o, v = .slice (some ⟨b, o, none⟩) (hi.getD n - lo.getD 0) (cap - lo.getD 0) ∧ (cap - lo.getD 0 ≠ 0 → o = off + lo.getD 0 * sz)

/-- The blocks that a cell owns. -/
def ownB : C → LT → List Nat
  | .own _ _ true k _, L => fp (.list k) L
  | .own _ _ false _ _, L => (hdOf L).toList.map (·.1)
  | _, _ => []

/-- The blocks below a list's root. -/
def inner (k : K) : LT → List Nat
  | .node _ _ _ rows => rows.flatMap (fp k)
  | _ => []

/-- Is a reference still one into what lies there? -/
def Fits (e : Env) (s j rv sv : Nat) (p : Path) (Q : (k0 : K) → List k0.T → Prop) : Prop :=
  ∀ sv' d k0 l0, (e.get s).cs.getD j .dead = .own rv sv' d k0 l0 → (p = [] ∨ (svOk p sv sv' = true ∧ d = true)) → Q k0 l0

/-- Data that nobody writes. -/
def DatOk (w : World) (ow : Nat → Option Nat) : C → Value → LT → Prop
  | .nil, v, _ => v = .slice none 0 0
  | .dat k x, v, L => Rep false w k x L [v] ∧ ∀ b ∈ fp k L, ow b = none
  | _, _, _ => False

/-- Some pointer. -/
def IsPtr (v : Value) : Prop := ∃ b o, v = .pointer (some ⟨b, o, none⟩)

/-- A cell, but for function values. -/
def CellOk0 (e : Env) (w : World) (G : Gh) : C → Value → LT → Prop
  | .dead, _, _ => True
  | .nil, v, _ => v = .slice none 0 0
  | .dat k x, v, L => Rep false w k x L [v] ∧ ∀ b ∈ fp k L, G.ow b = none
  | .own _ _ d k l, v, L => RepL true w k.size (Rep d w k) l L v ∧ (d = false → ∀ b ∈ inner k L, G.ow b = none)
  | .ref s j rv sv p lo hi k, v, _ => rv < (e.get s).cnt ∧ (p ≠ [] → sv < (e.get s).cnt) ∧
      Fits e s j rv sv p fun k0 l0 => ∃ n hd, Loc k0 l0 (G.lt s j) p k n hd ∧ SliceIs k.size n hd lo hi v
  | .bptr s bv j, v, _ => bv < (e.get s).cnt ∧ ((e.get s).sh = .box bv → v = .pointer (some ⟨G.bk s, j, none⟩)) ∧ IsPtr v
  | .aptr s j rv sv p i c k, v, _ => IsPtr v ∧ rv < (e.get s).cnt ∧ (p ≠ [] → sv < (e.get s).cnt) ∧
      Fits e s j rv sv p fun k0 l0 => ∃ n b off cap, Loc k0 l0 (G.lt s j) p k n (some (b, off, cap)) ∧ i < n ∧ v = .pointer (some ⟨b, off + i * k.size + c, none⟩)
  | .pim cs j, v, _ => ∃ (b o : Nat) (vs : List Value) (Ls : Nat → LT), v = .pointer (some ⟨b, o + j, none⟩) ∧ G.ow b = none ∧ w.heap[b]? ≠ none ∧ RowAt w b o vs ∧ vs.length = cs.length ∧
      ∀ (i : Nat) c u, cs[i]? = some c → vs[i]? = some u → DatOk w G.ow c u (Ls i)
  | .fn _ _, _, _ => False

def CellOk (e : Env) (w : World) (G : Gh) : C → Value → LT → Prop
  | .fn f caps, v, _ => ∃ (us : List Value) (Ls : Nat → LT), v = .func (.func f) #[] us.toArray ∧ us.length = caps.length ∧
      ∀ (i : Nat) c u, caps[i]? = some c → us[i]? = some u → c.isFn = false ∧ c.isOwn = false ∧ CellOk0 e w G c u (Ls i)
  | c, v, L => CellOk0 e w G c v L

/-- A value out of its cells. -/
def cutVals : List (Option Nat) → List Value → List Value
  | [], _ => []
  | none :: r, vs => vs.headD (.tuple #[]) :: cutVals r (vs.drop 1)
  | some n :: r, vs => .agg (vs.take n).toArray :: cutVals r (vs.drop n)

def form : Sh → List Value → Value
  | .one, vs => vs.headD (.tuple #[])
  | .agg, vs => .agg vs.toArray
  | .tup ps, vs => .tuple (cutVals ps vs).toArray
  | _, _ => .tuple #[]

/-- The blocks that a slot owns. -/
def fpCells (lt : Nat → LT) : Nat → List C → List Nat
  | _, [] => []
  | j, c :: r => ownB c (lt j) ++ fpCells lt (j + 1) r

def fpS (G : Gh) (s : Nat) (x : Slot) : List Nat :=
  (match x.sh with | .box _ => [G.bk s] | _ => []) ++ (match x.sh with | .dead => [] | _ => fpCells (G.lt s) 0 x.cs)

/-- What a frame's slot holds. -/
def FormIs (tm : Array Value) (s : Nat) (sh : Sh) (vs : List Value) (bk : Nat) : Prop := match sh with
  | .dead => True
  | .box _ => tm[s]? = some (.pointer (some ⟨bk, 0, none⟩))
  | sh => tm[s]? = some (form sh vs)

structure SlotOk (n : Nat) (e : Env) (tm : Array Value) (w : World) (G : Gh) (s : Nat) : Prop where
  form : s < n → FormIs tm s (e.get s).sh (G.vs s) (G.bk s)
  box : ∀ bv, (e.get s).sh = .box bv → bv < (e.get s).cnt ∧ ∃ ty, w.heap[G.bk s]? = some (.cells (G.vs s).toArray ty (0, 0))
  len : (e.get s).sh ≠ .dead → (G.vs s).length = (e.get s).cs.length
  cells : (e.get s).sh ≠ .dead → ∀ (j : Nat) c v, (e.get s).cs[j]? = some c → (G.vs s)[j]? = some v → CellOk e w G c v (G.lt s j)
  vers : (e.get s).sh ≠ .dead → ∀ (j : Nat) rv sv d k l, (e.get s).cs[j]? = some (.own rv sv d k l) → rv < (e.get s).cnt ∧ sv < (e.get s).cnt
  nodup : (fpS G s (e.get s)).Nodup
  own : ∀ b ∈ fpS G s (e.get s), G.ow b = some s
  dead : (e.get s).sh = .dead → (e.get s).cs = []

structure Inv (n : Nat) (e : Env) (tm : Array Value) (w : World) (G : Gh) : Prop where
  size : tm.size = n
  elen : n ≤ e.length
  slot : ∀ s, SlotOk n e tm w G s
  lt : ∀ b s, G.ow b = some s → b < w.heap.size

/-- What a call may turn: what it owns; all else is as it was, and memory only grows. -/
structure Keep (ow : Nat → Option Nat) (w w' : World) : Prop where
  size : w.heap.size ≤ w'.heap.size
  same : ∀ b, b < w.heap.size → ow b = none → w'.heap[b]? = w.heap[b]?

/-! ### Frames -/
/-- What nobody owns stays as it is, and nobody's. -/
def Still (w w' : World) (ow ow' : Nat → Option Nat) : Prop := ∀ b, ow b = none → w.heap[b]? ≠ none → w'.heap[b]? = w.heap[b]? ∧ ow' b = none

theorem Rep.still {w w' : World} {ow ow' : Nat → Option Nat} {d : Bool} {k : K} {x : k.T} {L : LT} {cs : List Value} (h : Rep d w k x L cs) (ho : ∀ b ∈ fp k L, ow b = none) (hs : Still w w' ow ow') :
    Rep d w' k x L cs ∧ ∀ b ∈ fp k L, ow' b = none :=
  ⟨h.same fun b hb => (hs b (ho b hb) (h.there b hb)).1, fun b hb => (hs b (ho b hb) (h.there b hb)).2⟩

theorem DatOk.still {w w' : World} {ow ow' : Nat → Option Nat} {c : C} {v : Value} {L : LT} (h : DatOk w ow c v L) (hs : Still w w' ow ow') : DatOk w' ow' c v L := by
  cases c with
  | nil => exact h
  | dat k x => exact h.1.still h.2 hs
  | _ => exact h

/-- How what references point to may change: what they still fit to lies where it lay. -/
structure TM (e e' : Env) (G G' : Gh) (t : Nat) : Prop where
  cnt : (e.get t).cnt ≤ (e'.get t).cnt
  loc : ∀ j rv sv' d' k0 l0', (e'.get t).cs.getD j .dead = .own rv sv' d' k0 l0' → rv < (e.get t).cnt →
    ∃ sv d l0, (e.get t).cs.getD j .dead = .own rv sv d k0 l0 ∧ (∀ k n hd, Loc k0 l0 (G.lt t j) [] k n hd → Loc k0 l0' (G'.lt t j) [] k n hd) ∧
      (d' = true → ∀ p a, p ≠ [] → a < (e.get t).cnt → svOk p a sv' = true → svOk p a sv = true ∧ d = true ∧ ∀ k n hd, Loc k0 l0 (G.lt t j) p k n hd → Loc k0 l0' (G'.lt t j) p k n hd)
  box : ∀ bv, (e'.get t).sh = .box bv → bv < (e.get t).cnt → (e.get t).sh = .box bv ∧ G'.bk t = G.bk t

theorem TM.refl {e e' : Env} {G G' : Gh} {t : Nat} (h : e'.get t = e.get t) (hl : ∀ j, G'.lt t j = G.lt t j) (hb : G'.bk t = G.bk t) : TM e e' G G' t where
  cnt := by rw [h]; exact Nat.le_refl _
  loc := by
    intro j rv sv' d' k0 l0' h1 _
    rw [h] at h1
    exact ⟨sv', d', l0', h1, fun k n hd hh => by rw [hl]; exact hh, fun hd p a _ _ ha => ⟨ha, hd, fun k n hd hh => by rw [hl]; exact hh⟩⟩
  box := by
    intro bv h1 _
    rw [h] at h1
    exact ⟨h1, hb⟩

/-- All that is owned is new or gone. -/
theorem TM.fresh {e e' : Env} {G G' : Gh} {t : Nat} (hc : (e.get t).cnt ≤ (e'.get t).cnt)
    (h : ∀ j rv sv d k l, (e'.get t).cs.getD j .dead = .own rv sv d k l → (e.get t).cnt ≤ rv) (hb : ∀ bv, (e'.get t).sh = .box bv → (e.get t).cnt ≤ bv) : TM e e' G G' t where
  cnt := hc
  loc := by
    intro j rv sv' d' k0 l0' h1 h2
    have := h _ _ _ _ _ _ h1
    omega
  box := by
    intro bv h1 h2
    have := hb _ h1
    omega

theorem Fits.mono {e e' : Env} {G G' : Gh} {s j rv sv : Nat} {p : Path} (ht : TM e e' G G' s) (hrv : rv < (e.get s).cnt) (hsv : p ≠ [] → sv < (e.get s).cnt)
    {k : K} {R : Nat → Option (Nat × Nat × Nat) → Prop}
    (h : Fits e s j rv sv p fun k0 l0 => ∃ n hd, Loc k0 l0 (G.lt s j) p k n hd ∧ R n hd) :
    Fits e' s j rv sv p fun k0 l0 => ∃ n hd, Loc k0 l0 (G'.lt s j) p k n hd ∧ R n hd := by
  intro sv' d k0 l0 h1 h2
  obtain ⟨sv1, d1, l1, h3, h4, h5⟩ := ht.loc _ _ _ _ _ _ h1 hrv
  rcases h2 with rfl | ⟨h2, rfl⟩
  · obtain ⟨n, hd, g1, g2⟩ := h sv1 d1 k0 l1 h3 (.inl rfl)
    exact ⟨n, hd, h4 _ _ _ g1, g2⟩
  · by_cases hp : p = []
    · subst hp
      obtain ⟨n, hd, g1, g2⟩ := h sv1 d1 k0 l1 h3 (.inl rfl)
      exact ⟨n, hd, h4 _ _ _ g1, g2⟩
    · obtain ⟨q1, q2, q3⟩ := h5 rfl p sv hp (hsv hp) h2
      obtain ⟨n, hd, g1, g2⟩ := h sv1 d1 k0 l1 h3 (.inr ⟨q1, q2⟩)
      exact ⟨n, hd, q3 _ _ _ g1, g2⟩

theorem CellOk0.frame {e e' : Env} {w w' : World} {G G' : Gh} {c : C} {v : Value} {L : LT} (h : CellOk0 e w G c v L) (ht : ∀ t, TM e e' G G' t)
    (hs : Still w w' G.ow G'.ow) (ho : Same w w' (ownB c L)) : CellOk0 e' w' G' c v L := by
  cases c with
  | dead => exact h
  | nil => exact h
  | dat k x => exact h.1.still h.2 hs
  | own rv sv d k l =>
    obtain ⟨h1, h2⟩ := h
    cases d with
    | true => exact ⟨h1.same ho, fun hd => by cases hd⟩
    | false =>
      have h2 := h2 rfl
      have hin : ∀ b ∈ inner k L, w'.heap[b]? = w.heap[b]? ∧ G'.ow b = none := fun b hb => by
        refine hs b (h2 b hb) (h1.there b ?_)
        cases L <;> simp_all [inner, fp]
      refine ⟨h1.same fun b hb => ?_, fun _ b hb => (hin b hb).2⟩
      cases L with
      | node b' off cap rows =>
        simp only [fp, List.mem_cons] at hb
        rcases hb with rfl | hb
        · exact ho b (by simp [ownB, hdOf])
        · exact (hin b (by simpa [inner] using hb)).1
      | _ => simp [fp] at hb
  | ref s j rv sv p lo hi k =>
    obtain ⟨h1, h2, h3⟩ := h
    exact ⟨Nat.lt_of_lt_of_le h1 (ht s).cnt, fun hp => Nat.lt_of_lt_of_le (h2 hp) (ht s).cnt, Fits.mono (ht s) h1 h2 h3⟩
  | bptr s bv j =>
    obtain ⟨h1, h2, h3⟩ := h
    refine ⟨Nat.lt_of_lt_of_le h1 (ht s).cnt, fun hb => ?_, h3⟩
    obtain ⟨q1, q2⟩ := (ht s).box bv hb h1
    rw [q2]
    exact h2 q1
  | aptr s j rv sv p i c k =>
    obtain ⟨h0, h1, h2, h3⟩ := h
    refine ⟨h0, Nat.lt_of_lt_of_le h1 (ht s).cnt, fun hp => Nat.lt_of_lt_of_le (h2 hp) (ht s).cnt, ?_⟩
    have := Fits.mono (k := k) (R := fun n hd => ∃ b off cap, hd = some (b, off, cap) ∧ i < n ∧ v = .pointer (some ⟨b, off + i * k.size + c, none⟩)) (ht s) h1 h2
      (fun sv' d k0 l0 a1 a2 => by
        obtain ⟨n, b, off, cap, a3, a4⟩ := h3 sv' d k0 l0 a1 a2
        exact ⟨n, _, a3, b, off, cap, rfl, a4⟩)
    intro sv' d k0 l0 a1 a2
    obtain ⟨n, hd, a3, b, off, cap, rfl, a4⟩ := this sv' d k0 l0 a1 a2
    exact ⟨n, b, off, cap, a3, a4⟩
  | pim cs j =>
    obtain ⟨b, o, vs, Ls, h1, h2, h3, h4, h5, h6⟩ := h
    obtain ⟨q1, q2⟩ := hs b h2 h3
    exact ⟨b, o, vs, Ls, h1, q2, by rw [q1]; exact h3, h4.same q1, h5, fun i c u hc hu => (h6 i c u hc hu).still hs⟩
  | fn _ _ => exact h

theorem CellOk.frame {e e' : Env} {w w' : World} {G G' : Gh} {c : C} {v : Value} {L : LT} (h : CellOk e w G c v L) (ht : ∀ t, TM e e' G G' t)
    (hs : Still w w' G.ow G'.ow) (ho : Same w w' (ownB c L)) : CellOk e' w' G' c v L := by
  cases c with
  | fn f caps =>
    obtain ⟨us, Ls, h1, h2, h3⟩ := h
    refine ⟨us, Ls, h1, h2, fun i c u hc hu => ?_⟩
    obtain ⟨g1, g2, g3⟩ := h3 i c u hc hu
    refine ⟨g1, g2, g3.frame ht hs fun b hb => ?_⟩
    cases c with
    | own _ _ d k l => simp [C.isOwn] at g2
    | _ => simp [ownB] at hb
  | dead => trivial
  | nil => exact CellOk0.frame (c := .nil) h ht hs ho
  | dat k x => exact CellOk0.frame (c := .dat k x) h ht hs ho
  | own rv sv d k l => exact CellOk0.frame (c := .own rv sv d k l) h ht hs ho
  | ref s j rv sv p lo hi k => exact CellOk0.frame (c := .ref s j rv sv p lo hi k) h ht hs ho
  | bptr s bv j => exact CellOk0.frame (c := .bptr s bv j) h ht hs ho
  | aptr s j rv sv p i c k => exact CellOk0.frame (c := .aptr s j rv sv p i c k) h ht hs ho
  | pim cs j => exact CellOk0.frame (c := .pim cs j) h ht hs ho

/-- A slot that nothing of the step is about. -/
theorem SlotOk.frame {n : Nat} {e e' : Env} {tm tm' : Array Value} {w w' : World} {G G' : Gh} {s : Nat} (h : SlotOk n e tm w G s) (hx : e'.get s = e.get s)
    (htm : s < n → tm'[s]? = tm[s]?) (hv : G'.vs s = G.vs s) (hl : ∀ j, G'.lt s j = G.lt s j) (hb : G'.bk s = G.bk s)
    (ht : ∀ t, TM e e' G G' t) (hs : Still w w' G.ow G'.ow) (ho : ∀ b ∈ fpS G s (e.get s), w'.heap[b]? = w.heap[b]? ∧ G'.ow b = some s) : SlotOk n e' tm' w' G' s := by
  have hl' : G'.lt s = G.lt s := funext hl
  have hf : fpS G' s (e'.get s) = fpS G s (e.get s) := by simp only [fpS, hx, hb, hl']
  have hcell : ∀ (j : Nat) c, (e.get s).sh ≠ .dead → (e.get s).cs[j]? = some c → ∀ b ∈ ownB c (G.lt s j), b ∈ fpS G s (e.get s) := by
    intro j c hsh hc b hb
    have key : ∀ (cs : List C) (i j : Nat), cs[j]? = some c → b ∈ ownB c (G.lt s (i + j)) → b ∈ fpCells (G.lt s) i cs := by
      intro cs
      induction cs with
      | nil => intro i j h; simp at h
      | cons a cs ih =>
        intro i j h hb
        cases j with
        | zero => simp at h; subst h; simp only [fpCells, List.mem_append]; left; simpa using hb
        | succ j =>
          simp at h
          simp only [fpCells, List.mem_append]
          right
          exact ih (i + 1) j h (by rw [show i + 1 + j = i + (j + 1) by omega]; exact hb)
    have := key (e.get s).cs 0 j hc (by simpa using hb)
    simp only [fpS, List.mem_append]
    right
    cases hh : (e.get s).sh <;> simp_all
  refine ⟨?_, ?_, ?_, ?_, ?_, ?_, ?_, ?_⟩
  · intro hn
    have := h.form hn
    rw [hx, hv, hb]
    simp only [FormIs] at this ⊢
    rw [htm hn]
    exact this
  · intro bv hbv
    rw [hx] at hbv
    obtain ⟨g1, ty, g2⟩ := h.box bv hbv
    refine ⟨by rw [hx]; exact g1, ty, ?_⟩
    rw [hb, hv, (ho (G.bk s) (by simp only [fpS, hbv]; simp)).1]
    exact g2
  · rw [hx, hv]; exact h.len
  · rw [hx, hv]
    intro hsh j c v hc hvj
    rw [hl]
    exact (h.cells hsh j c v hc hvj).frame ht hs fun b hb => (ho b (hcell j c hsh hc b hb)).1
  · rw [hx]; exact h.vers
  · rw [hf]; exact h.nodup
  · rw [hf]; exact fun b hb => (ho b hb).2
  · rw [hx]; exact h.dead

end Go.Mach
