/- The machine, part b: abstract slots, operations, code. No condition: definitions. -/
import Derived.Test.YtcdkpfcfcjnooaaMa
namespace Go.Mach
set_option linter.unusedVariables false

/-! ### Types, as the machine wants them -/
inductive TD where
  | slice (e : Nat) | arr (n e : Nat) | struct (fs : List (Nat × Nat)) | other
  deriving Inhabited

structure Ti where
  size : Nat
  bytes : Nat
  k : Option K
  d : TD
  zero : Option Value
  isB : Bool := false
  ok : Bool := false
  isS : Bool := false
  /-- how many fields, where all are whole numbers, one behind the other, and can be compared -/
  eqI : Option Nat := none
  deriving Inhabited

def intFields (P : Program) : Nat → List Field → Bool
  | _, [] => true
  | i, f :: r => f.name != "_" && Nat.beq f.offset i && (match P.underlying f.type with | some (.int _) => true | _ => false) && (match P.info? f.type with | some t => Nat.beq t.size 1 | none => false) && intFields P (i + 1) r

def eqInts (P : Program) (t : Nat) : Option Nat := match P.underlying t with
  | some (.struct fs) => if intFields P 0 fs.toList && !P.stoodInHeld t && !P.eqGuardType P.depth t then some fs.size else none
  | _ => none

def pairs : List (Option K) → Option K
  | [] => none
  | [k] => k
  | k :: r => match k, pairs r with
    | some a, some b => some (.pair a b)
    | _, _ => none

def tyK (P : Program) : Nat → Nat → Option K
  | 0, _ => none
  | n + 1, t => match P.underlying t with
    | some (.int k) => some (.int k)
    | some .bool => some .bool
    | some .string => some .str
    | some (.slice e) => (tyK P n e).map .list
    | some (.struct fs) => pairs (fs.toList.map fun f => tyK P n f.type)
    | _ => none

def tyD (P : Program) (t : Nat) : TD := match P.underlying t with
  | some (.slice e) => .slice e
  | some (.array n e) => .arr n e
  | some (.struct fs) => .struct (fs.toList.map fun f => (f.offset, f.type))
  | _ => .other

def tyOf (P : Program) (t : Nat) : Ti := match P.info? t with
  | some i => { size := i.size, bytes := i.bytes, k := (match tyK P 12 t with | some k => if k.size = i.size then some k else none | none => none), d := tyD P t, zero := i.zero, isB := (match P.underlying t with | some .bool => true | _ => false), ok := (match P.underlying t with | some (.struct _) => true | some (.array ..) => true | some _ => i.size = 1 | none => false), isS := (match P.underlying t with | some .string => true | _ => false), eqI := eqInts P t }
  | none => { size := 0, bytes := 0, k := none, d := .other, zero := none }

def Ti.agg (t : Ti) : Bool := match t.d with
  | .struct _ => true
  | .arr _ _ => true
  | _ => false

/-! ### Cells and slots -/
inductive C where
  | dead
  | nil
  | dat (k : K) (x : k.T)
  | own (rv sv : Nat) (deep : Bool) (k : K) (l : List k.T)
  | ref (s j rv sv : Nat) (p : Path) (lo hi : Option Nat) (k : K)
  | bptr (s bv j : Nat)
  | aptr (s j rv sv : Nat) (p : Path) (i c : Nat) (k : K)
  | pim (cs : List C) (j : Nat)
  | fn (f : Nat) (caps : List C)
  deriving Inhabited

inductive Sh where
  | dead | one | agg | tup (ps : List (Option Nat)) | box (bv : Nat)
  deriving DecidableEq, Inhabited

structure Slot where
  sh : Sh := .dead
  cs : List C := []
  cnt : Nat := 0
  deriving Inhabited

abbrev Env := List Slot
def Sh.isV : Sh → Bool
  | .one => true
  | .agg => true
  | _ => false
def Env.get (e : Env) (s : Nat) : Slot := e.getD s {}

def litC : Value → C
  | .bool b => .dat .bool b
  | .int k n => .dat (.int k) n
  | .string s => .dat .str s.data.toList
  | .slice none 0 0 => .nil
  | _ => .dead

def Ti.zeros (t : Ti) : List C := match t.zero with
  | some (.agg vs) => vs.toList.map litC
  | some v => [litC v]
  | none => []

/-- A value: its shape (never a box) and its cells. -/
abbrev Val := Sh × List C

def C.copy (t j : Nat) : C → C
  | .own rv sv _ k _ => .ref t j rv sv [] none none k
  | c => c

def copyFrom (t : Nat) : Nat → List C → List C
  | _, [] => []
  | j, c :: r => c.copy t j :: copyFrom t (j + 1) r

/-- What an operand reads as. What is owned reads as a reference. -/
def opd (get : Nat → Slot) : Operand → Option Val
  | .tmp t => match (get t).sh with
    | .dead => none
    | .box bv => some (.one, [.bptr t bv 0])
    | sh => some (sh, copyFrom t 0 (get t).cs)
  | .const (.agg vs) => some (.agg, vs.toList.map litC)
  | .const v => some (.one, [litC v])
  | .func f => some (.one, [.fn f []])
  | .global _ => none

/-- The list that a reference reads, and whether all below it is owned. -/
def content (get : Nat → Slot) (s j rv sv : Nat) (p : Path) (k : K) : Option (Bool × List k.T) :=
  match (get s).cs.getD j .dead with
  | .own rv' sv' deep k0 l0 =>
    if rv = rv' ∧ (p = [] ∨ (sv = sv' ∧ deep = true)) then (castL (getP k0 l0 p).1 (getP k0 l0 p).2 k).map fun l => (deep, l)
    else none
  | _ => none

def C.isPtr : C → Bool
  | .bptr .. => true
  | .aptr .. => true
  | .pim .. => true
  | _ => false

def C.live : C → Bool
  | .dead => false
  | _ => true

def C.plain : C → Bool
  | .dat _ _ => true
  | .nil => true
  | _ => false

/-- A cell of a box as what nobody writes any more. -/
def snapIn : C → Option C
  | .dat k x => some (.dat k x)
  | .nil => some .nil
  | .own _ _ _ k l => some (.dat (.list k) l)
  | _ => none

def snapIns : List C → Option (List C)
  | [] => some []
  | c :: r => match snapIn c, snapIns r with
    | some c, some r => some (c :: r)
    | _, _ => none

/-- A cell as what nobody writes any more. -/
def snap (get : Nat → Slot) : C → Option C
  | .dat k x => some (.dat k x)
  | .nil => some .nil
  | .ref s j rv sv p lo hi k => (content get s j rv sv p k).map fun x => .dat (.list k) (cut lo hi x.2)
  | .bptr s bv j => if (get s).sh = .box bv then (snapIns (get s).cs).map (C.pim · j) else none
  | .pim cs j => some (.pim cs j)
  | _ => none

abbrev Writes := List (Nat × Slot)

def Slot.kill (x : Slot) (j : Nat) : Slot := { x with cs := x.cs.set j .dead }

/-- A new value laid into a slot. -/
def Slot.lay (x : Slot) (sh : Sh) (cs : List C) : Slot :=
  { sh := (match sh with | .box _ => .box x.cnt | s => s), cs := cs.map (fun | .own _ _ d k l => .own x.cnt 0 d k l | c => c), cnt := x.cnt + 1 }

/-- The state of an operation: what it has turned so far, over what it sees. -/
structure Tr where
  get : Nat → Slot
  d : Option Nat := none
  ws : Writes := []

def Tr.at (t : Tr) (s : Nat) : Slot := match t.ws.find? (·.1 = s) with
  | some w => w.2
  | none => t.get s

def Tr.put (t : Tr) (s : Nat) (x : Slot) : Tr := { t with ws := (s, x) :: t.ws.filter (·.1 ≠ s) }

/-- A value on its way into a variable: what a temporary owns is moved, the rest stays. -/
def Tr.take (vars : List Nat) (t : Tr) : List C → Tr × List C
  | [] => (t, [])
  | c :: r =>
    match c with
    | .ref s j rv _ [] lo hi k =>
      match vars.contains s, (t.at s).cs.getD j .dead with
      | false, .own rv' _ d k' l =>
        if rv = rv' then
          let (t', r') := ({ t.put s ((t.at s).kill j) with } : Tr).take vars r
          (t', .own 0 0 d k' (cut lo hi l) :: r')
        else let (t', r') := t.take vars r; (t', c :: r')
      | _, _ => let (t', r') := t.take vars r; (t', c :: r')
    | _ => let (t', r') := t.take vars r; (t', c :: r')

/-- A cell on its way into a row: its data; whether all of it is owned. Owned at a root: moved. Deeper: what it lies in is frozen. -/
def Tr.grab (t : Tr) (c : C) (k : K) : Option (Tr × k.T × Bool) :=
  match c with
  | .dat k' x => if k' = k then some (t, castT ⟨k', x⟩ k k.dflt, k.flat) else none
  | .nil => match k with
    | .list _ => some (t, [], true)
    | _ => none
  | .ref s j rv sv p lo hi k1 =>
    match (t.at s).cs.getD j .dead with
    | .own rv' sv' d k0 l0 =>
      if rv = rv' ∧ (p = [] ∨ (sv = sv' ∧ d = true)) ∧ K.list k1 = k then
        match castL (getP k0 l0 p).1 (getP k0 l0 p).2 k1 with
        | none => none
        | some l =>
          match p with
          | [] => some (t.put s ((t.at s).kill j), castT ⟨.list k1, cut lo hi l⟩ k k.dflt, d)
          | _ :: _ => some (t.put s { t.at s with cs := (t.at s).cs.set j (.own rv' sv' false k0 l0) }, castT ⟨.list k1, cut lo hi l⟩ k k.dflt, false)
      else none
    | _ => none
  | _ => none

/-- Cells as one element of a kind. -/
def Tr.pack (t : Tr) : (k : K) → List C → Option (Tr × k.T × Bool)
  | .pair a b, cs =>
    match t.pack a (cs.take a.size) with
    | none => none
    | some (t, x, d) => match t.pack b (cs.drop a.size) with
      | none => none
      | some (t, y, e) => some (t, (x, y), d && e)
  | .int i, cs => match cs with | [c] => t.grab c (.int i) | _ => none
  | .bool, cs => match cs with | [c] => t.grab c .bool | _ => none
  | .str, cs => match cs with | [c] => t.grab c .str | _ => none
  | .list k, cs => match cs with | [c] => t.grab c (.list k) | _ => none

def Tr.packs (t : Tr) (k : K) : List (List C) → Option (Tr × List k.T × Bool)
  | [] => some (t, [], true)
  | cs :: r => match t.pack k cs with
    | none => none
    | some (t, x, d) => match t.packs k r with
      | none => none
      | some (t, xs, e) => some (t, x :: xs, d && e)

/-- Cells as leaves, to be set one by one. -/
def Tr.grabs (t : Tr) (k : K) (c : Nat) : List C → Option (Tr × List Sg × Bool)
  | [] => some (t, [], true)
  | x :: r => match t.grab x (k.leaf c) with
    | none => none
    | some (t, y, d) => match t.grabs k (c + 1) r with
      | none => none
      | some (t, ys, e) => some (t, ⟨k.leaf c, y⟩ :: ys, d && e)

def Tr.lay (t : Tr) (d : Option Nat) (v : Val) : Tr := match d with
  | some d => t.put d ((t.at d).lay v.1 v.2)
  | none => t

/-- A value with data of its own, laid: there must be a place. -/
def Tr.own (t : Tr) (d : Option Nat) (v : Val) : Option Writes := match d with
  | some d => some (t.lay (some d) v).ws
  | none => none

def C.isFn : C → Bool
  | .fn .. => true
  | _ => false

def C.isOwn : C → Bool
  | .own .. => true
  | _ => false

/-- Cells whose values are known to be such: no dead one, no reference that fits no more. -/
def C.solid (get : Nat → Slot) : C → Bool
  | .dead => false
  | .ref s j rv sv p _ _ k => (content get s j rv sv p k).isSome
  | _ => true

/-- A value whose cells are known to be such. -/
def whole (get : Nat → Slot) (v : Val) : Bool := v.1.isV && v.2.all (C.solid get) && (v.1 = .agg || v.2.length = 1)

/-- Are these the cells of a kind's zero value? -/
def isZero : K → List C → Bool
  | .int k, cs => match cs with
    | [.dat (.int k') n] => k = k' ∧ n = 0
    | _ => false
  | .bool, cs => match cs with
    | [.dat .bool b] => !b
    | _ => false
  | .str, cs => match cs with
    | [.dat .str s] => s.isEmpty
    | _ => false
  | .list _, cs => match cs with
    | [.nil] => true
    | _ => false
  | .pair a b, cs => isZero a (cs.take a.size) && isZero b (cs.drop a.size)

/-! ### Numbers, strings -/
def binB (op : BinOp) (x y : Bool) : Option C := match op with
  | .eql => some (.dat .bool (x == y))
  | .neq => some (.dat .bool (!(x == y)))
  | _ => none

def binI (op : BinOp) (k : IntKind) (x y : Int) : Option C := match op with
  | .add => some (.dat (.int k) (k.wrap (x + y)))
  | .sub => some (.dat (.int k) (k.wrap (x - y)))
  | .mul => some (.dat (.int k) (k.wrap (x * y)))
  | .quo => if y = 0 then none else some (.dat (.int k) (k.wrap (x.tdiv y)))
  | .rem => if y = 0 then none else some (.dat (.int k) (x.tmod y))
  | .and => some (.dat (.int k) (k.wrap ((BitVec.ofInt k.bits x &&& BitVec.ofInt k.bits y).toNat)))
  | .or => some (.dat (.int k) (k.wrap ((BitVec.ofInt k.bits x ||| BitVec.ofInt k.bits y).toNat)))
  | .xor => some (.dat (.int k) (k.wrap ((BitVec.ofInt k.bits x ^^^ BitVec.ofInt k.bits y).toNat)))
  | .eql => some (.dat .bool (x == y))
  | .neq => some (.dat .bool (x != y))
  | .lss => some (.dat .bool (decide (x < y)))
  | .leq => some (.dat .bool (decide (x ≤ y)))
  | .gtr => some (.dat .bool (decide (x > y)))
  | .geq => some (.dat .bool (decide (x ≥ y)))
  | _ => none

def shiftI (op : BinOp) (k : IntKind) (x y : Int) : Option C :=
  if y < 0 then none else match op with
  | .shl => some (.dat (.int k) (k.wrap (x * 2 ^ (min y.toNat k.bits))))
  | .shr => some (.dat (.int k) (x.fdiv (2 ^ (min y.toNat k.bits))))
  | _ => none

/-- How long strings may be that are put together. -/
def strMost : Nat := 1099511627776

def binS (op : BinOp) (x y : List UInt8) : Option C := match op with
  | .add => if x.length + y.length ≤ strMost then some (.dat .str (x ++ y)) else none
  | .eql => some (.dat .bool (x == y))
  | .neq => some (.dat .bool (!(x == y)))
  | _ => none

def bin (tk : Bool) (op : BinOp) (x y : C) : Option C :=
  match x, y with
  | .dat (.int k) a, .dat (.int k') b =>
    match op with
    | .shl => shiftI .shl k a b
    | .shr => shiftI .shr k a b
    | _ => if k = k' then binI op k a b else none
  | .dat .bool a, .dat .bool b => if tk then binB op a b else none
  | .dat .str a, .dat .str b => binS op a b
  | _, _ => none

def un (op : UnOp) (x : C) : Option C :=
  match op, x with
  | .not, .dat .bool b => some (.dat .bool (!b))
  | .neg, .dat (.int k) n => some (.dat (.int k) (k.wrap (0 - n)))
  | _, _ => none

/-- Two structs whose cells are plain data: are they the same? -/
def sameCs : List C → List C → Option Bool
  | [], [] => some true
  | .dat (.int k) a :: x, .dat (.int k') b :: y => if k = k' then (sameCs x y).map fun r => (a == b) && r else none
  | _, _ => none

def natOf : C → Option Nat
  | .dat (.int _) n => if 0 ≤ n then some n.toNat else none
  | _ => none

/-! ### The operations -/
structure Ctx where
  n : Nat
  ty : Nat → Ti
  vars : List Nat
  /-- which parameters of a function are lent (true), which are only read -/
  md : Nat → List Bool
  /-- what a function answers: its value, and what is lent, behind it -/
  sem : Nat → List Val → Option (Val × List (List C))

/-- How many elements of a kind the machine lets a row have, and how many bytes. -/
def rowMost : Nat := 4294967296
def byteMost : Nat := 140737488355328

def lenC (get : Nat → Slot) : C → Option Nat
  | .nil => some 0
  | .dat (.list _) l => some l.length
  | .dat .str s => some s.length
  | .ref s j rv sv p lo hi k => (content get s j rv sv p k).map fun x => (cut lo hi x.2).length
  | _ => none

/-- Is it a type of such values? -/
def fitsTy (t : Ti) : C → Bool
  | .dat .str _ => t.isS
  | _ => match t.d with
    | .slice _ => true
    | _ => false

/-- Is it a type of such slices, of elements of that size? -/
def slFits (ty : Nat → Ti) (t : Nat) : C → Bool
  | .dat .str _ => (ty t).isS
  | .dat (.list k) _ => match (ty t).d with
    | .slice el => (ty el).size = k.size
    | _ => false
  | .ref _ _ _ _ _ _ _ k => match (ty t).d with
    | .slice el => (ty el).size = k.size
    | _ => false
  | .nil => match (ty t).d with
    | .slice el => (ty el).size ≠ 0
    | _ => false
  | _ => false

def partShape (t : Ti) : Sh := if t.agg then .agg else .one

/-- A place behind where a cut begins. -/
def offOf (a : Option Nat) (m : Nat) : Nat := match a with
  | none => m
  | some a => a + m

def subOf (a x old : Option Nat) : Option Nat := match x with
  | none => old
  | some m => some (offOf a m)

/-- A bound, if there is one. -/
def boundOf (get : Nat → Slot) : Option Operand → Option (Option Nat)
  | none => some none
  | some z => match opd get z with
    | some (.one, [c]) => (natOf c).map some
    | _ => none

/-- 'x[lo:hi]' of a reference, a list, a string. -/
def sliceC (get : Nat → Slot) (c : C) (lo hi : Option Nat) : Option C :=
  match c with
  | .nil => if lo.getD 0 = 0 ∧ hi.getD 0 = 0 then some .nil else none
  | .dat (.list k) l => if lo.getD 0 ≤ hi.getD l.length ∧ hi.getD l.length ≤ l.length then some (.dat (.list k) (cut lo hi l)) else none
  | .dat .str l => if lo.getD 0 ≤ hi.getD l.length ∧ hi.getD l.length ≤ l.length then some (.dat .str (cut lo hi l)) else none
  | .ref s j rv sv p a b k =>
    match lenC get c with
    | none => none
    | some n =>
      if lo.getD 0 ≤ hi.getD n ∧ hi.getD n ≤ n then
        some (.ref s j rv sv p (subOf a lo a) (subOf a hi b) k)
      else none
  | _ => none

/-- The address of an element. -/
def indexC (ty : Nat → Ti) (get : Nat → Slot) (t : Nat) (c : C) (i : Nat) : Option C :=
  match (ty t).d with
  | .slice et => match c with
    | .dat (.list k) l => if i < l.length ∧ (ty et).size = k.size then some (.pim ((leaves k (l.getD i k.dflt)).map fun g => .dat g.1 g.2) 0) else none
    | .ref s j rv sv p a _ k => match lenC get c with
      | some n => if i < n ∧ (ty et).size = k.size then some (.aptr s j rv sv p (offOf a i) 0 k) else none
      | none => none
    | _ => none
  | .arr n e => match c with
    | .bptr s bv j => if i < n ∧ (ty e).size ≠ 0 then some (.bptr s bv (j + i * (ty e).size)) else none
    | _ => none
  | _ => none

def fieldOf (ty : Nat → Ti) (t f : Nat) : Option (Nat × Nat) := match (ty t).d with
  | .struct fs => fs[f]?
  | _ => none

def addC (off : Nat) : C → Option C
  | .bptr s bv j => some (.bptr s bv (j + off))
  | .aptr s j rv sv p i c k => some (.aptr s j rv sv p i (c + off) k)
  | .pim cs j => some (.pim cs (j + off))
  | _ => none

/-- A leaf that is read out of an owned row. -/
def leafC (s j rv sv : Nat) (p : Path) (i c : Nat) (deep : Bool) : Sg → C
  | ⟨.list k, l⟩ => if deep then .ref s j rv sv (p ++ [(i, c)]) none none k else .dat (.list k) l
  | ⟨k, x⟩ => .dat k x

def readLeaves (k : K) (x : k.T) (s j rv sv : Nat) (p : Path) (i : Nat) (deep : Bool) : Nat → Nat → List C
  | _, 0 => []
  | c, n + 1 => leafC s j rv sv p i c deep (leafV k x c) :: readLeaves k x s j rv sv p i deep (c + 1) n

/-- What lies at an address. -/
def loadC (get : Nat → Slot) (n : Nat) : C → Option (List C)
  | .bptr s bv j => if (get s).sh = .box bv ∧ j + n ≤ (get s).cs.length then some (copyFrom s j (((get s).cs.drop j).take n)) else none
  | .pim cs j => if j + n ≤ cs.length then some ((cs.drop j).take n) else none
  | .aptr s j rv sv p i c k =>
    match (get s).cs.getD j .dead with
    | .own rv' sv' deep k0 l0 =>
      if rv = rv' ∧ (p = [] ∨ (sv = sv' ∧ deep = true)) ∧ c + n ≤ k.size then
        match castL (getP k0 l0 p).1 (getP k0 l0 p).2 k with
        | some l => if i < l.length then some (readLeaves k (l.getD i k.dflt) s j rv' sv' p i deep c n) else none
        | none => none
      else none
    | _ => none
  | _ => none

def setFrom {α : Type} (cs : List α) (j : Nat) : List α → List α
  | [] => cs
  | c :: r => setFrom (cs.set j c) (j + 1) r

def hasList (k : K) (c : Nat) : Nat → Bool
  | 0 => false
  | n + 1 => !(k.leaf c).flat || hasList k (c + 1) n

/-- A store. -/
def storeC (x : Ctx) (t : Tr) (a : C) (cs : List C) : Option Tr :=
  match a with
  | .bptr s bv j =>
    let (t, cs) := t.take x.vars cs
    let z := t.at s
    if z.sh = .box bv ∧ j + cs.length ≤ z.cs.length ∧ s < x.n then
      some (t.put s { z with cs := setFrom z.cs j (cs.map (fun | .own _ _ d k l => .own z.cnt 0 d k l | c => c)), cnt := z.cnt + 1 })
    else none
  | .aptr s j rv sv p i c k =>
    match t.grabs k c cs with
    | none => none
    | some (t, gs, d) =>
      let z := t.at s
      match z.cs.getD j .dead with
      | .own rv' sv' deep k0 l0 =>
        if rv = rv' ∧ (p = [] ∨ (sv = sv' ∧ deep = true)) ∧ c + cs.length ≤ k.size then
          match castL (getP k0 l0 p).1 (getP k0 l0 p).2 k with
          | none => none
          | some l =>
            if i < l.length then
              let l0' := modP (fun k' l' => (castL k (l.set i (setLeaves k (l.getD i k.dflt) c gs)) k').getD l') k0 l0 p
              if hasList k c cs.length then some (t.put s { z with cs := z.cs.set j (.own rv' z.cnt (deep && d) k0 l0'), cnt := z.cnt + 1 })
              else some (t.put s { z with cs := z.cs.set j (.own rv' sv' deep k0 l0') })
            else none
        else none
      | _ => none
  | _ => none

/-- What append takes its elements from. -/
def srcC (vars : List Nat) (t : Tr) (k : K) (y : C) : Option (Tr × List k.T × Bool) :=
  match y with
  | .dat .str s => match k with
    | .int .u8 => some (t, s.map fun b => ((b.toNat : Nat) : Int), true)
    | _ => none
  | .ref s j rv sv p lo hi k1 => match t.grab (.ref s j rv sv p lo hi k1) (.list k) with
    | none => none
    | some (t', l, d) =>
      if k.flat then some (t, l, true)
      else if vars.contains s then match (t.at s).cs.getD j .dead with
        | .own rv sv _ k0 l0 => some (t.put s { t.at s with cs := (t.at s).cs.set j (.own rv sv false k0 l0) }, l, false)
        | _ => none
      else some (t', l, d)
  | y => match t.grab y (.list k) with
    | none => none
    | some (t', l, d) => some (t', l, k.flat || d)

/-- 'append(x, y...)'. -/
def appendC (ty : Nat → Ti) (vars : List Nat) (t : Tr) (st : Nat) (x y : C) : Option (Tr × C) :=
  match (ty st).d with
  | .slice e => match (ty e).k with
    | none => none
    | some k =>
      match srcC vars t k y with
      | none => none
      | some (t, ys, d) =>
        match x with
        | .nil => if ys.length ≤ rowMost ∧ (2 * ys.length + 512) * (ty e).bytes ≤ byteMost ∧ (ty e).zero.isSome = true ∧ (ty e).zeros.length = k.size then some (t, .own 0 0 d k ys) else none
        | .ref s j rv _ [] lo hi k' =>
          match (t.at s).cs.getD j .dead with
          | .own rv' _ deep k0 l0 =>
            if rv = rv' ∧ k' = k0 then
              match castL k0 (cut lo hi l0) k with
              | none => none
              | some l => if l.length + ys.length ≤ rowMost ∧ (2 * (l.length + ys.length) + 512) * (ty e).bytes ≤ byteMost ∧ (ty e).zero.isSome = true ∧ (ty e).zeros.length = k.size then some (t.put s ((t.at s).kill j), .own 0 0 (deep && d) k (l ++ ys)) else none
            else none
          | _ => none
        | _ => none
  | _ => none

def opds (get : Nat → Slot) : List Operand → Option (List Val)
  | [] => some []
  | x :: r => match opd get x, opds get r with
    | some v, some vs => some (v :: vs)
    | _, _ => none

def one? : Val → Option C
  | (.one, [c]) => some c
  | _ => none

def ones : List Val → Option (List C)
  | [] => some []
  | v :: r => match one? v, ones r with
    | some c, some cs => some (c :: cs)
    | _, _ => none

/-- Fills parts into cells. -/
def fillC (get : Nat → Slot) (place : Nat → Option (Nat × Nat)) (cells : List C) : List (Nat × Val) → Option (List C)
  | [] => some cells
  | (i, v) :: r => match place i with
    | some (off, size) => if v.2.length = size ∧ off + size ≤ cells.length ∧ whole get v = true then fillC get place (setFrom cells off v.2) r else none
    | none => none

def partVals (get : Nat → Slot) : List (Nat × Operand) → Option (List (Nat × Val))
  | [] => some []
  | (i, x) :: r => match opd get x, partVals get r with
    | some v, some vs => some ((i, v) :: vs)
    | _, _ => none

def chunks {α : Type} (n : Nat) : Nat → List α → List (List α)
  | 0, _ => []
  | m + 1, cs => cs.take n :: chunks n m (cs.drop n)

def zeroRow (z : List C) : Nat → List C
  | 0 => []
  | n + 1 => z ++ zeroRow z n

/-- An argument on its way into a callee: what is lent, and from where. -/
inductive Lend where
  | cell (s j : Nat) (p : Path) (k : K)
  | box (s : Nat)

def lendCells (t : Tr) : List C → Option (List C × List (Option Lend))
  | [] => some ([], [])
  | c :: r => match lendCells t r with
    | none => none
    | some (cs, ls) => match c with
      | .dat (.list _) _ => none
      | .dat k x => some (.dat k x :: cs, none :: ls)
      | .nil => some (.own 0 0 true .bool [] :: cs, none :: ls)
      | .ref s j rv sv p none none k => match (t.at s).cs.getD j .dead with
        | .own rv' sv' deep k0 l0 =>
          if rv = rv' ∧ (p = [] ∨ (sv = sv' ∧ deep = true)) then
            match castL (getP k0 l0 p).1 (getP k0 l0 p).2 k with
            | some l => some (.own 0 0 deep k l :: cs, some (.cell s j p k) :: ls)
            | none => none
          else none
        | _ => none
      | _ => none

def ownBox : List C → Option (List C)
  | [] => some []
  | c :: r => match ownBox r with
    | none => none
    | some cs => match c with
      | .own _ _ d k l => some (.own 0 0 d k l :: cs)
      | .dat k x => some (.dat k x :: cs)
      | .nil => some (.nil :: cs)
      | .pim a j => some (.pim a j :: cs)
      | .fn f [] => some (.fn f [] :: cs)
      | _ => none

/-- A cell that is only read by the callee; a pointer to a box that is lent turns into the callee's pointer. -/
def sendCap (t : Tr) (lent : List (Nat × Nat)) (c : C) : Option C :=
  match c with
  | .bptr s bv j => match lent.find? (·.1 = s) with
    | some (_, i) => if (t.at s).sh = .box bv then some (C.bptr i 0 j) else none
    | none => snap t.at c
  | c => snap t.at c

def sendCaps (t : Tr) (lent : List (Nat × Nat)) : List C → Option (List C)
  | [] => some []
  | c :: r => match sendCap t lent c, sendCaps t lent r with
    | some c, some r => some (c :: r)
    | _, _ => none

def sendC (t : Tr) (lent : List (Nat × Nat)) (c : C) : Option C :=
  match c with
  | .fn f caps => (sendCaps t lent caps).map fun caps => C.fn f caps
  | c => snap t.at c

def sendCs (t : Tr) (lent : List (Nat × Nat)) : List C → Option (List C)
  | [] => some []
  | c :: r => match sendC t lent c, sendCs t lent r with
    | some c, some r => some (c :: r)
    | _, _ => none

structure Sent where
  vals : List Val := []
  lends : List (List (Option Lend)) := []

def lentBoxes (md : List Bool) : Nat → List Val → List (Nat × Nat)
  | _, [] => []
  | i, (_, [.bptr s _ 0]) :: r => if md.getD i false then (s, i) :: lentBoxes md (i + 1) r else lentBoxes md (i + 1) r
  | i, _ :: r => lentBoxes md (i + 1) r

def send (t : Tr) (md : List Bool) (lent : List (Nat × Nat)) : Nat → List Val → Option Sent
  | _, [] => some {}
  | i, (sh, cs) :: r => match send t md lent (i + 1) r with
    | none => none
    | some q =>
      if md.getD i false then
        match sh, cs with
        | .one, [.bptr s bv 0] => if (t.at s).sh = .box bv then match ownBox (t.at s).cs with
            | some cs => some { vals := (.box 0, cs) :: q.vals, lends := [some (.box s)] :: q.lends }
            | none => none
          else none
        | _, _ => match lendCells t cs with
          | some (cs, ls) => some { vals := (sh, cs) :: q.vals, lends := ls :: q.lends }
          | none => none
      else match sendCs t lent cs with
        | some cs => some { vals := (sh, cs) :: q.vals, lends := q.lends }
        | none => none

def lentPlaces : List (List (Option Lend)) → List (Nat × Nat)
  | [] => []
  | ls :: r => (ls.filterMap fun | some (.cell s j _ _) => some (s, j) | some (.box s) => some (s, 0) | none => none) ++ lentPlaces r

/-- The slots whose contents a value's cells point to. -/
def C.targets : C → List Nat
  | .ref s .. => [s]
  | .bptr s .. => [s]
  | .aptr s .. => [s]
  | .fn _ caps => caps.filterMap fun | .bptr s .. => some s | _ => none
  | _ => []

/-- What comes back into a cell that was lent. -/
def backCell (t : Tr) (l : Option Lend) (c : C) : Option Tr :=
  match l with
  | none => some t
  | some (.box _) => none
  | some (.cell s j p k) =>
    let z := t.at s
    match z.cs.getD j .dead with
    | .own rv sv deep k0 l0 =>
      match p with
      | [] => match c with
        | .own _ _ d k1 l1 => if k1 = k0 then some (t.put s { z with cs := z.cs.set j (.own rv z.cnt d k1 l1), cnt := z.cnt + 1 }) else none
        | _ => some (t.put s (z.kill j))
      | _ :: _ => match c with
        | .own _ _ d k1 l1 =>
          if k1 = k ∧ (d = true ∨ k.flat = true) then
            some (t.put s { z with cs := z.cs.set j (.own rv (if k.flat then sv else z.cnt) deep k0 (modP (fun k' l' => (castL k1 l1 k').getD l') k0 l0 p)), cnt := if k.flat then z.cnt else z.cnt + 1 })
          else none
        | _ => none
    | _ => none

def backCells (t : Tr) : List (Option Lend) → List C → Option Tr
  | [], [] => some t
  | l :: ls, c :: cs => match backCell t l c with
    | some t => backCells t ls cs
    | none => none
  | _, _ => none

def back (t : Tr) : List (List (Option Lend)) → List (List C) → Option Tr
  | [], [] => some t
  | [some (.box s)] :: ls, cs :: outs =>
    let z := t.at s
    back (t.put s { z with cs := cs.map (fun | .own _ _ d k l => .own z.cnt 0 d k l | c => c), cnt := z.cnt + 1 }) ls outs
  | l :: ls, cs :: outs => match backCells t l cs with
    | some t => back t ls outs
    | none => none
  | _, _ => none

def disjoint (a b : List Nat) : Bool := a.all fun x => !b.contains x

def nodupB : List (Nat × Nat) → Bool
  | [] => true
  | x :: r => !r.contains x && nodupB r

/-- The slots that a cell that is only read looks into. -/
def readCell (lent : List (Nat × Nat)) : C → List Nat
  | .fn _ caps => caps.flatMap fun
    | .bptr s bv j => if (lent.find? (·.1 = s)).isSome then [] else [s]
    | c => c.targets
  | c => c.targets

/-- The slots that what is only read looks into. -/
def readTargets (md : List Bool) (lent : List (Nat × Nat)) : Nat → List Val → List Nat
  | _, [] => []
  | i, (_, cs) :: r => if md.getD i false then readTargets md lent (i + 1) r
    else cs.flatMap (readCell lent) ++ readTargets md lent (i + 1) r

/-- May it share data with what was only read? -/
def C.aliases : C → Bool
  | .dat k _ => !k.flat
  | .own _ _ d k _ => !d && !k.flat
  | .pim .. => true
  | .fn _ (_ :: _) => true
  | _ => false

/-- What slots own is nobody's any more. -/
def C.give : C → C
  | .own _ _ _ k l => .dat (.list k) l
  | c => c

def Tr.give (t : Tr) : List Nat → Tr
  | [] => t
  | s :: r => (t.put s (match (t.at s).sh with | .box _ => { t.at s with sh := .dead, cs := [] } | _ => { t.at s with cs := (t.at s).cs.map C.give })).give r

def callC (x : Ctx) (t : Tr) (dst : Option Nat) (f : Nat) (args : List Val) : Option Tr :=
  let md := x.md f
  match send t md (lentBoxes md 0 args) 0 args with
  | none => none
  | some q =>
    if nodupB (lentPlaces q.lends) && disjoint ((lentPlaces q.lends).map (·.1)) (readTargets md (lentBoxes md 0 args) 0 args) then
      match x.sem f q.vals with
      | none => none
      | some (v, outs) => match back (if v.2.any C.aliases || outs.any (·.any C.aliases) then t.give (readTargets md (lentBoxes md 0 args) 0 args) else t) q.lends outs with
        | none => none
        | some t => some (t.lay dst v)
    else none

def partN : Option Nat → Nat
  | none => 1
  | some n => n

def partSh : Option Nat → Sh
  | none => .one
  | some _ => .agg

def tupOff : List (Option Nat) → Nat → Nat
  | [], _ => 0
  | _, 0 => 0
  | q :: r, i + 1 => partN q + tupOff r i

/-- An integer's type. -/
def intTi (t : Ti) : Option IntKind := if t.agg then none else match t.k with
  | some (.int k) => some k
  | _ => none

/-- A type of slices of bytes. -/
def u8Row (ty : Nat → Ti) (t : Nat) : Bool := match (ty t).d with
  | .slice e => intTi (ty e) = some .u8
  | _ => false

/-- Bytes, read. -/
def bytesC (get : Nat → Slot) : C → Option (List Int)
  | .nil => some []
  | .dat (.list (.int .u8)) l => some l
  | .ref s j rv sv p lo hi (.int .u8) => (content get s j rv sv p (.int .u8)).map fun q => cut lo hi q.2
  | _ => none

/-- One operation. -/
def act (x : Ctx) (get : Nat → Slot) (o : Oper) : Option Writes :=
  let t : Tr := { get, d := o.dst }
  let done (v : Val) : Option Writes := some (t.lay o.dst v).ws
  match o.op with
  | .move a => match opd get a with
    | some v => done v
    | none => none
  | .assign a => match opd get a with
    | some v => (t.take x.vars v.2).1.own o.dst (v.1, (t.take x.vars v.2).2)
    | none => none
  | .pick c a b => match opd get c with
    | some (.one, [.dat .bool true]) => match opd get a with
      | some v => done v
      | none => none
    | some (.one, [.dat .bool false]) => match opd get b with
      | some v => done v
      | none => none
    | _ => none
  | .alloc e => if (x.ty e).zero.isSome then t.own o.dst (.box 0, (x.ty e).zeros) else none
  | .box e a => match opd get a with
    | some v => if v.2.length = (x.ty e).size ∧ whole get v = true then (t.take x.vars v.2).1.own o.dst (.box 0, (t.take x.vars v.2).2) else none
    | none => none
  | .build ty parts => match (x.ty ty).d, partVals get parts.toList with
    | .struct fs, some vs => if (fs.all fun f => (x.ty f.2).size ≠ 0) = false ∨ (x.ty ty).zero.isSome = false then none else match fillC get (fun i => (fs[i]?).map fun f => (f.1, (x.ty f.2).size)) (x.ty ty).zeros vs with
      | some cs => done (.agg, cs)
      | none => none
    | _, _ => none
  | .buildSlice ty n parts => match (x.ty ty).d, partVals get parts.toList with
    | .slice e, some vs => match (x.ty e).k with
      | none => none
      | some k => if n * k.size > 16777216 ∨ (x.ty e).zeros.length ≠ k.size ∨ (x.ty e).zero.isSome = false then none else match fillC get (fun i => if i < n then some (i * k.size, k.size) else none) (zeroRow (x.ty e).zeros n) vs with
        | none => none
        | some cs => match t.packs k (chunks k.size n cs) with
          | none => none
          | some (t, l, d) => t.own o.dst (.one, [.own 0 0 d k l])
    | _, _ => none
  | .load ty a => match opd get a with
    | some (.one, [c]) => if (x.ty ty).ok = true then match loadC get (x.ty ty).size c with
      | some cs => done (partShape (x.ty ty), cs)
      | none => none
      else none
    | _ => none
  | .store ty a b => match opd get a, opd get b with
    | some (.one, [c]), some v => if (x.ty ty).ok = true ∧ v.2.length = (x.ty ty).size ∧ whole get v = true then
        match storeC x t c v.2 with
        | some t => some (t.lay o.dst (.dead, [])).ws
        | none => none
      else none
    | _, _ => none
  | .nilCheck a => match opd get a with
    | some (.one, [.bptr s bv j]) => done (.one, [.bptr s bv j])
    | some (.one, [.aptr s j rv sv p i c k]) => done (.one, [.aptr s j rv sv p i c k])
    | some (.one, [.pim cs j]) => done (.one, [.pim cs j])
    | some (.one, [.fn f cs]) => done (.one, [.fn f cs])
    | _ => none
  | .binOp op ty a b _ => match opd get a, opd get b with
    | some (.one, [c]), some (.one, [d]) => match bin (x.ty ty).isB op c d with
      | some c => done (.one, [c])
      | none => none
    | some (.agg, cs), some (.agg, ds) => if (x.ty ty).eqI = some cs.length then match op, sameCs cs ds with
      | .eql, some b => done (.one, [.dat .bool b])
      | .neq, some b => done (.one, [.dat .bool (!b)])
      | _, _ => none
      else none
    | _, _ => none
  | .unOp op _ a => match opd get a with
    | some (.one, [c]) => match un op c with
      | some c => done (.one, [c])
      | none => none
    | _ => none
  | .convert src dst a => match opd get a with
    | some (.one, [c]) => if (x.ty src).ok = false then none else
      match c, (x.ty dst).isS, intTi (x.ty dst), u8Row x.ty dst with
      | .dat (.int _) n, false, some k, _ => done (.one, [.dat (.int k) (k.wrap n)])
      | .dat .str s, true, _, _ => done (.one, [.dat .str s])
      | .dat .str s, false, _, true => if s.length ≤ rowMost ∧ (x.ty src).isS = true then t.own o.dst (.one, [.own 0 0 true (.int .u8) (s.map fun b => ((b.toNat : Nat) : Int))]) else none
      | c, true, _, _ => if u8Row x.ty src then match bytesC get c with
          | some l => done (.one, [.dat .str (l.map fun n => UInt8.ofNat n.toNat)])
          | none => none
        else none
      | _, _, _, _ => none
    | _ => none
  | .makeFunc f first caps => match f, first.toList, opds get caps.toList with
    | .func f, [], some vs => match ones vs with
      | some cs => if cs.all (fun c => !c.isFn) then done (.one, [.fn f cs]) else none
      | none => none
    | _, _, _ => none
  | .makeSlice ty n m => match (x.ty ty).d, opd get n, opd get m with
    | .slice e, some (.one, [n]), some (.one, [m]) => match (x.ty e).k, natOf n, natOf m with
      | some k, some n, some m => if n ≤ m ∧ m ≤ rowMost ∧ m * (x.ty e).bytes ≤ byteMost ∧ isZero k (x.ty e).zeros = true then t.own o.dst (.one, [.own 0 0 true k (List.replicate n k.dflt)]) else none
      | _, _, _ => none
    | _, _, _ => none
  | .slice ty a lo hi none => match opd get a, boundOf get lo, boundOf get hi with
    | some (.one, [c]), some l, some h => if slFits x.ty ty c = false then none else match sliceC get c l h with
      | some c => done (.one, [c])
      | none => none
    | _, _, _ => none
  | .fieldAddr ty a f => match opd get a, fieldOf x.ty ty f with
    | some (.one, [c]), some (off, ft) => if (x.ty ft).size = 0 then none else match addC off c with
      | some c => done (.one, [c])
      | none => none
    | _, _ => none
  | .field ty a f => match opd get a, fieldOf x.ty ty f with
    | some (.agg, cs), some (off, ft) => if (x.ty ft).ok = true ∧ off + (x.ty ft).size ≤ cs.length then done (partShape (x.ty ft), (cs.drop off).take (x.ty ft).size) else none
    | _, _ => none
  | .indexAddr ty a b => match opd get a, opd get b with
    | some (.one, [c]), some (.one, [i]) => match natOf i with
      | some i => match indexC x.ty get ty c i with
        | some c => done (.one, [c])
        | none => none
      | none => none
    | _, _ => none
  | .index ty a b => if (x.ty ty).isS = false then none else match opd get a, opd get b with
    | some (.one, [.dat .str s]), some (.one, [i]) => match natOf i with
      | some i => if i < s.length then done (.one, [.dat (.int .u8) (((s.getD i 0).toNat : Nat) : Int)]) else none
      | none => none
    | _, _ => none
  | .extract a i => match opd get a with
    | some (.tup ps, cs) => match ps[i]? with
      | some q => done (partSh q, (cs.drop (tupOff ps i)).take (partN q))
      | none => none
    | _ => none
  | .call c0 => match c0.callee with
    | .builtin b => match b, opds get c0.args.toList with
      | .len, some [(.one, [c])] => if (c0.argTypes[0]?).isSome = false ∨ fitsTy (x.ty (c0.argTypes.getD 0 0)) c = false then none else match lenC get c with
        | some n => done (.one, [.dat (.int .i64) (n : Int)])
        | none => none
      | .append, some [(.one, [a]), (.one, [b])] => if (c0.argTypes[0]?).isSome = false ∨ (c0.argTypes[1]?).isSome = false ∨ fitsTy (x.ty (c0.argTypes.getD 1 0)) b = false then none else match appendC x.ty x.vars t (c0.argTypes.getD 0 0) a b with
        | some (t, c) => t.own o.dst (.one, [c])
        | none => none
      | .max, some [(.one, [.dat (.int k) a]), (.one, [.dat (.int k') b])] => if k = k' then done (.one, [.dat (.int k) (if b > a then b else a)]) else none
      | .min, some [(.one, [.dat (.int k) a]), (.one, [.dat (.int k') b])] => if k = k' then done (.one, [.dat (.int k) (if b < a then b else a)]) else none
      | _, _ => none
    | .value f => match opd get f, opds get c0.args.toList with
      | some (.one, [.fn g caps]), some vs => (callC x t o.dst g (vs ++ caps.map fun c => (.one, [c]))).map (·.ws)
      | _, _ => none
    | _ => none
  | _ => none

/-! ### Regions -/
def Env.puts (e : Env) : Writes → Env
  | [] => e
  | (s, x) :: r => Env.puts (e.set s x) r

def opSlots (o : Oper) : List Nat := o.dst.toList ++ o.op.operands.toList.filterMap fun | .tmp t => some t | _ => none

/-- The slots that an operation looks at. -/
def quietOp : Op → Bool
  | .move _ | .pick .. | .extract .. | .field .. | .fieldAddr .. | .nilCheck _ | .binOp .. | .unOp .. | .makeFunc .. | .makeSlice .. | .alloc _ | .index .. => true
  | _ => false

def looks (e : Env) (o : Oper) : List Nat :=
  if quietOp o.op then opSlots o else opSlots o ++ (opSlots o).flatMap fun s => (e.get s).cs.flatMap C.targets

def guardOf (ops : Array Oper) (o : Oper) : Option (Nat × Bool) := match o.guard with
  | none => none
  | some (j, want) => some (((ops[j]?).bind (·.dst)).getD 1000000, want)

/-- Is an operation wanted? -/
def wanted (e : Env) : Option (Nat × Bool) → Option Bool
  | none => some true
  | some (s, want) => match (e.get s).sh, (e.get s).cs with
    | .one, [.dat .bool b] => some (b == want)
    | .tup [], _ => some false
    | _, _ => none

/-- What an operation turns, and what it looked at. -/
structure Step where
  ws : Writes
  reads : List Nat

/-- An operation that is not wanted leaves nothing behind. -/
def skipWs (e : Env) (o : Oper) : Writes := match o.dst with
  | some d => [(d, (e.get d).lay (.tup []) [])]
  | none => []

def guardSlots (ops : Array Oper) (o : Oper) : List Nat := match guardOf ops o with
  | some (s, _) => [s]
  | none => []

def stepA (x : Ctx) (ops : Array Oper) (e : Env) (o : Oper) : Option Step :=
  if !((opSlots o).all (· < x.n) && (guardSlots ops o).all (· < x.n)) then none else
  match wanted e (guardOf ops o) with
  | none => none
  | some false => some { ws := skipWs e o, reads := guardSlots ops o ++ o.dst.toList }
  | some true =>
    match act x (fun s => if (looks e o).contains s then e.get s else {}) o with
    | none => none
    | some ws => some { ws, reads := guardSlots ops o ++ looks e o }

/-- What an operation looked at and turned. -/
abbrev Trace := List (Nat × List Nat × List Nat)

/-- A region in the order of the text, with what each operation looked at and turned. -/
def runA (x : Ctx) (ops : Array Oper) (e : Env) : List Nat → Option (Env × Trace)
  | [] => some (e, [])
  | i :: r => match ops[i]? with
    | none => none
    | some o => match stepA x ops e o with
      | none => none
      | some s => match runA x ops (e.puts s.ws) r with
        | none => none
        | some (e, tr) => some (e, (i, s.reads, s.ws.map (·.1)) :: tr)

/-- What comes before an operation in every order, as bits. -/
def befOne (acc : List Nat) : List Edge → Nat
  | [] => 0
  | d :: r => if Region.binds .any d then (2 ^ d.on ||| acc.getD d.on 0) ||| befOne acc r else befOne acc r

def befs (acc : List Nat) : List Oper → List Nat
  | [] => acc
  | o :: r => befs (acc ++ [befOne acc o.after.toList]) r

def comesBefore (b : List Nat) (i j : Nat) : Bool := (b.getD j 0).testBit i

def indep (a b : Nat × List Nat × List Nat) : Bool :=
  disjoint a.2.2 b.2.1 && disjoint a.2.2 b.2.2 && disjoint b.2.2 a.2.1

def ordered (b : List Nat) : Trace → Bool
  | [] => true
  | a :: r => r.all (fun c => comesBefore b a.1 c.1 || indep a c) && ordered b r

/-- Edges lead back in the text. -/
def edgesBack (i : Nat) : List Oper → Bool
  | [] => true
  | o :: r => o.after.toList.all (fun d => decide (d.on < i)) && edgesBack (i + 1) r

def region (x : Ctx) (ops : Array Oper) (draw : Bool) (e : Env) : Option Env :=
  match runA x ops e (List.range ops.size) with
  | none => none
  | some (e, tr) => if !draw || (edgesBack 0 ops.toList && ordered (befs [] ops.toList) tr) then some e else none

/-! ### Versions set back -/
def union (a b : List Nat) : List Nat := a ++ b.filter fun x => !a.contains x

/-- The slots that are kept: the live ones, and what they point to. -/
def keeps (e : Env) (live : List Nat) : List Nat :=
  let t (l : List Nat) := l.flatMap fun s => (e.get s).cs.flatMap C.targets
  union (union live (t live)) (t (t live))

/-- Versions set back. -/
def normC (e : Env) (ks : List Nat) : C → C
  | .own _ _ d k l => .own 0 0 d k l
  | .ref s j rv sv p lo hi k => match ks.contains s, (e.get s).cs.getD j .dead with
    | true, .own rv' sv' _ _ _ => if rv = rv' ∧ (p = [] ∨ sv = sv') then .ref s j 0 0 p lo hi k else .dead
    | _, _ => .dead
  | .aptr s j rv sv p i c k => match ks.contains s, (e.get s).cs.getD j .dead with
    | true, .own rv' sv' _ _ _ => if rv = rv' ∧ (p = [] ∨ sv = sv') then .aptr s j 0 0 p i c k else .dead
    | _, _ => .dead
  | .bptr s bv j => if ks.contains s ∧ (e.get s).sh = .box bv then .bptr s 0 j else .dead
  | .fn f caps => .fn f (caps.map fun
      | .bptr s bv j => if ks.contains s ∧ (e.get s).sh = .box bv then .bptr s 0 j else .dead
      | .pim cs j => .pim cs j
      | _ => .dead)
  | c => c

def normS (e : Env) (ks : List Nat) (s : Nat) (x : Slot) : Slot :=
  if ks.contains s then { sh := (match x.sh with | .box _ => .box 0 | h => h), cs := x.cs.map (normC e ks), cnt := 1 } else {}

def normFrom (e : Env) (ks : List Nat) : Nat → Env → Env
  | _, [] => []
  | s, x :: r => normS e ks s x :: normFrom e ks (s + 1) r

def norm (live : List Nat) (e : Env) : Env := normFrom e (keeps e live) 0 e

inductive Ex where
  | normal | exit (id : Nat) | ret
  deriving DecidableEq

def bigN : Nat := 18446744073709551616

def opdUses : Operand → List Nat
  | .tmp t => [t]
  | _ => []

/-! ### Functions -/
/-- The parameters, as slots: what is lent lies beside, in a slot of its own. -/
def inSlots (n : Nat) (md : List Bool) : Nat → List Val → List Slot × List Slot
  | _, [] => ([], [])
  | i, (sh, cs) :: r =>
    let (a, b) := inSlots n md (i + 1) r
    if md.getD i false then
      match sh with
      | .box _ => ({ sh := .box 0, cs := cs, cnt := 1 } :: a, (default : Slot) :: b)
      | sh => ({ sh, cs := copyFrom (n + i) 0 cs, cnt := 1 } :: a, { sh := .agg, cs := cs, cnt := 1 } :: b)
    else ({ sh, cs := cs, cnt := 1 } :: a, (default : Slot) :: b)

def codeVars : Code → List Nat
  | .region _ ops _ => ops.toList.filterMap fun o => match o.op with
    | .assign _ => o.dst
    | .alloc _ => o.dst
    | .box _ _ => o.dst
    | _ => none
  | .seq a b => codeVars a ++ codeVars b
  | .cond _ a b => codeVars a ++ codeVars b
  | .block _ a => codeVars a
  | .loop a => codeVars a
  | _ => []

end Go.Mach
