/- Parts of a proof, packed: see the last text for what is proved. No condition: definitions and lemmas. -/
import Derived.Orders
namespace Go.Mach
inductive K where
 | int (k : IntKind)
 | bool
 | str
 | list (k : K)
 | pair (a b : K)
 deriving DecidableEq, Repr, Inhabited
@[reducible] def K.T : K → Type
 | .int _ => Int
 | .bool => Bool
 | .str => List UInt8
 | .list k => List k.T
 | .pair a b => a.T × b.T
def K.size : K → Nat
 | .pair a b => a.size + b.size
 | _ => 1
def K.dflt : (k : K) → k.T
 | .int _ => (0 : Int)
 | .bool => false
 | .str => []
 | .list _ => []
 | .pair a b => (a.dflt, b.dflt)
def K.flat : K → Bool
 | .list _ => false
 | .pair a b => a.flat && b.flat
 | _ => true
def K.leaf : K → Nat → K
 | .pair a b, c => if c < a.size then a.leaf c else b.leaf (c - a.size)
 | k, _ => k
abbrev Sg := (k : K) × k.T
def castT (s : Sg) (k : K) (d : k.T) : k.T := if h : s.1 = k then h ▸ s.2 else d
def leafV : (k : K) → k.T → Nat → Sg
 | .int i, x, _ => ⟨.int i, x⟩
 | .bool, x, _ => ⟨.bool, x⟩
 | .str, x, _ => ⟨.str, x⟩
 | .list k, x, _ => ⟨.list k, x⟩
 | .pair a b, x, c => if c < a.size then leafV a x.1 c else leafV b x.2 (c - a.size)
def setLeaf : (k : K) → k.T → Nat → Sg → k.T
 | .int i, x, _, s => castT s (.int i) x
 | .bool, x, _, s => castT s .bool x
 | .str, x, _, s => castT s .str x
 | .list k, x, _, s => castT s (.list k) x
 | .pair a b, x, c, s => if c < a.size then (setLeaf a x.1 c s, x.2) else (x.1, setLeaf b x.2 (c - a.size) s)
def leaves : (k : K) → k.T → List Sg
 | .int i, x => [⟨.int i, x⟩]
 | .bool, x => [⟨.bool, x⟩]
 | .str, x => [⟨.str, x⟩]
 | .list k, x => [⟨.list k, x⟩]
 | .pair a b, x => leaves a x.1 ++ leaves b x.2
abbrev Path := List (Nat × Nat)
def getP : (k : K) → List k.T → Path → (k' : K) × List k'.T
 | k, l, [] => ⟨k, l⟩
 | k, l, (i, c) :: p =>
  match leafV k (l.getD i k.dflt) c with
  | ⟨.list k', y⟩ => getP k' y p
  | _ => ⟨.bool, []⟩
def modP (g : (k : K) → List k.T → List k.T) : (k : K) → List k.T → Path → List k.T
 | k, l, [] => g k l
 | k, l, (i, c) :: p =>
  let x := l.getD i k.dflt
  match leafV k x c with
  | ⟨.list k', y⟩ => l.set i (setLeaf k x c ⟨.list k', modP g k' y p⟩)
  | _ => l
def castL (k : K) (l : List k.T) (k' : K) : Option (List k'.T) := if h : k = k' then some (h ▸ l) else none
def cut {α : Type} (lo hi : Option Nat) (l : List α) : List α :=
 match lo, hi with
 | none, none => l
 | none, some b => l.take b
 | some a, none => l.drop a
 | some a, some b => (l.take b).drop a
def setLeaves (k : K) : k.T → Nat → List Sg → k.T
 | x, _, [] => x
 | x, c, s :: r => setLeaves k (setLeaf k x c s) (c + 1) r
end Go.Mach
namespace Go.Mach
set_option linter.unusedVariables false
inductive TD where
 | slice (e : Nat) | arr (n e : Nat) | struct (fs : List (Nat × Nat)) | other
 deriving Inhabited
structure Ti where
 size : Nat
 bytes : Nat
 k : Option K
 d : TD
 zero : Option Value
 isB : Bool := false
 ok : Bool := false
 isS : Bool := false
 eqI : Option Nat := none
 deriving Inhabited
def intFields (P : Program) : Nat → List Field → Bool
 | _, [] => true
 | i, f :: r => f.name != "_" && Nat.beq f.offset i && (match P.underlying f.type with | some (.int _) => true | _ => false) && (match P.info? f.type with | some t => Nat.beq t.size 1 | none => false) && intFields P (i + 1) r
def eqInts (P : Program) (t : Nat) : Option Nat := match P.underlying t with
 | some (.struct fs) => if intFields P 0 fs.toList && !P.stoodInHeld t && !P.eqGuardType P.depth t then some fs.size else none
 | _ => none
def pairs : List (Option K) → Option K
 | [] => none
 | [k] => k
 | k :: r => match k, pairs r with
  | some a, some b => some (.pair a b)
  | _, _ => none
def tyK (P : Program) : Nat → Nat → Option K
 | 0, _ => none
 | n + 1, t => match P.underlying t with
  | some (.int k) => some (.int k)
  | some .bool => some .bool
  | some .string => some .str
  | some (.slice e) => (tyK P n e).map .list
  | some (.struct fs) => pairs (fs.toList.map fun f => tyK P n f.type)
  | _ => none
def tyD (P : Program) (t : Nat) : TD := match P.underlying t with
 | some (.slice e) => .slice e
 | some (.array n e) => .arr n e
 | some (.struct fs) => .struct (fs.toList.map fun f => (f.offset, f.type))
 | _ => .other
def tyOf (P : Program) (t : Nat) : Ti := match P.info? t with
 | some i => { size := i.size, bytes := i.bytes, k := (match tyK P 12 t with | some k => if k.size = i.size then some k else none | none => none), d := tyD P t, zero := i.zero, isB := (match P.underlying t with | some .bool => true | _ => false), ok := (match P.underlying t with | some (.struct _) => true | some (.array ..) => true | some _ => i.size = 1 | none => false), isS := (match P.underlying t with | some .string => true | _ => false), eqI := eqInts P t }
 | none => { size := 0, bytes := 0, k := none, d := .other, zero := none }
def Ti.agg (t : Ti) : Bool := match t.d with
 | .struct _ => true
 | .arr _ _ => true
 | _ => false
inductive C where
 | dead
 | nil
 | dat (k : K) (x : k.T)
 | own (rv sv : Nat) (deep : Bool) (k : K) (l : List k.T)
 | ref (s j rv sv : Nat) (p : Path) (lo hi : Option Nat) (k : K)
 | bptr (s bv j : Nat)
 | aptr (s j rv sv : Nat) (p : Path) (i c : Nat) (k : K)
 | pim (cs : List C) (j : Nat)
 | fn (f : Nat) (caps : List C)
 deriving Inhabited
inductive Sh where
 | dead | one | agg | tup (ps : List (Option Nat)) | box (bv : Nat)
 deriving DecidableEq, Inhabited
structure Slot where
 sh : Sh := .dead
 cs : List C := []
 cnt : Nat := 0
 deriving Inhabited
abbrev Env := List Slot
def Sh.isV : Sh → Bool
 | .one => true
 | .agg => true
 | _ => false
def Env.get (e : Env) (s : Nat) : Slot := e.getD s {}
def litC : Value → C
 | .bool b => .dat .bool b
 | .int k n => .dat (.int k) n
 | .string s => .dat .str s.data.toList
 | .slice none 0 0 => .nil
 | _ => .dead
def Ti.zeros (t : Ti) : List C := match t.zero with
 | some (.agg vs) => vs.toList.map litC
 | some v => [litC v]
 | none => []
abbrev Val := Sh × List C
def C.copy (t j : Nat) : C → C
 | .own rv sv _ k _ => .ref t j rv sv [] none none k
 | c => c
def copyFrom (t : Nat) : Nat → List C → List C
 | _, [] => []
 | j, c :: r => c.copy t j :: copyFrom t (j + 1) r
def opd (get : Nat → Slot) : Operand → Option Val
 | .tmp t => match (get t).sh with
  | .dead => none
  | .box bv => some (.one, [.bptr t bv 0])
  | sh => some (sh, copyFrom t 0 (get t).cs)
 | .const (.agg vs) => some (.agg, vs.toList.map litC)
 | .const v => some (.one, [litC v])
 | .func f => some (.one, [.fn f []])
 | .global _ => none
def verM : Nat := 65536
def svOk (p : Path) (a b : Nat) : Bool := match p with
 | [] => true
 | [_] => Nat.beq (a / verM) (b / verM)
 | _ => Nat.beq a b
def jumpV (cnt : Nat) : Nat := (cnt / verM + 1) * verM
def nextV (p : Path) (sv cnt : Nat) : Nat := match p with
 | [] => jumpV cnt
 | _ => bif Nat.beq (cnt / verM) (sv / verM) then cnt else jumpV cnt
def content (get : Nat → Slot) (s j rv sv : Nat) (p : Path) (k : K) : Option (Bool × List k.T) :=
 match (get s).cs.getD j .dead with
 | .own rv' sv' deep k0 l0 =>
  if rv = rv' ∧ (p = [] ∨ (svOk p sv sv' = true ∧ deep = true)) then (castL (getP k0 l0 p).1 (getP k0 l0 p).2 k).map fun l => (deep, l)
  else none
 | _ => none
def C.isPtr : C → Bool
 | .bptr .. => true
 | .aptr .. => true
 | .pim .. => true
 | _ => false
def C.live : C → Bool
 | .dead => false
 | _ => true
def C.plain : C → Bool
 | .dat _ _ => true
 | .nil => true
 | _ => false
def snapIn : C → Option C
 | .dat k x => some (.dat k x)
 | .nil => some .nil
 | .own _ _ _ k l => some (.dat (.list k) l)
 | _ => none
def snapIns : List C → Option (List C)
 | [] => some []
 | c :: r => match snapIn c, snapIns r with
  | some c, some r => some (c :: r)
  | _, _ => none
def snap (get : Nat → Slot) : C → Option C
 | .dat k x => some (.dat k x)
 | .nil => some .nil
 | .ref s j rv sv p lo hi k => (content get s j rv sv p k).map fun x => .dat (.list k) (cut lo hi x.2)
 | .bptr s bv j => if (get s).sh = .box bv then (snapIns (get s).cs).map (C.pim · j) else none
 | .pim cs j => some (.pim cs j)
 | _ => none
abbrev Writes := List (Nat × Slot)
def Slot.kill (x : Slot) (j : Nat) : Slot := { x with cs := x.cs.set j .dead }
def Slot.lay (x : Slot) (sh : Sh) (cs : List C) : Slot :=
 { sh := (match sh with | .box _ => .box x.cnt | s => s), cs := cs.map (fun | .own _ _ d k l => .own x.cnt 0 d k l | c => c), cnt := x.cnt + 1 }
structure Tr where
 get : Nat → Slot
 d : Option Nat := none
 ws : Writes := []
def Tr.at (t : Tr) (s : Nat) : Slot := match t.ws.find? (·.1 = s) with
 | some w => w.2
 | none => t.get s
def Tr.put (t : Tr) (s : Nat) (x : Slot) : Tr := { t with ws := (s, x) :: t.ws.filter (·.1 ≠ s) }
def Tr.take (vars : List Nat) (t : Tr) : List C → Tr × List C
 | [] => (t, [])
 | c :: r =>
  match c with
  | .ref s j rv _ [] lo hi k =>
   match vars.contains s, (t.at s).cs.getD j .dead with
   | false, .own rv' _ d k' l =>
    if rv = rv' then
     let (t', r') := ({ t.put s ((t.at s).kill j) with } : Tr).take vars r
     (t', .own 0 0 d k' (cut lo hi l) :: r')
    else let (t', r') := t.take vars r; (t', c :: r')
   | _, _ => let (t', r') := t.take vars r; (t', c :: r')
  | _ => let (t', r') := t.take vars r; (t', c :: r')
def Tr.grab (t : Tr) (c : C) (k : K) : Option (Tr × k.T × Bool) :=
 match c with
 | .dat k' x => if k' = k then some (t, castT ⟨k', x⟩ k k.dflt, k.flat) else none
 | .nil => match k with
  | .list _ => some (t, [], true)
  | _ => none
 | .ref s j rv sv p lo hi k1 =>
  match (t.at s).cs.getD j .dead with
  | .own rv' sv' d k0 l0 =>
   if rv = rv' ∧ (p = [] ∨ (svOk p sv sv' = true ∧ d = true)) ∧ K.list k1 = k then
    match castL (getP k0 l0 p).1 (getP k0 l0 p).2 k1 with
    | none => none
    | some l =>
     match p with
     | [] => some (t.put s ((t.at s).kill j), castT ⟨.list k1, cut lo hi l⟩ k k.dflt, d)
     | _ :: _ => some (t.put s { t.at s with cs := (t.at s).cs.set j (.own rv' sv' false k0 l0) }, castT ⟨.list k1, cut lo hi l⟩ k k.dflt, false)
   else none
  | _ => none
 | _ => none
def Tr.pack (t : Tr) : (k : K) → List C → Option (Tr × k.T × Bool)
 | .pair a b, cs =>
  match t.pack a (cs.take a.size) with
  | none => none
  | some (t, x, d) => match t.pack b (cs.drop a.size) with
   | none => none
   | some (t, y, e) => some (t, (x, y), d && e)
 | .int i, cs => match cs with | [c] => t.grab c (.int i) | _ => none
 | .bool, cs => match cs with | [c] => t.grab c .bool | _ => none
 | .str, cs => match cs with | [c] => t.grab c .str | _ => none
 | .list k, cs => match cs with | [c] => t.grab c (.list k) | _ => none
def Tr.packs (t : Tr) (k : K) : List (List C) → Option (Tr × List k.T × Bool)
 | [] => some (t, [], true)
 | cs :: r => match t.pack k cs with
  | none => none
  | some (t, x, d) => match t.packs k r with
   | none => none
   | some (t, xs, e) => some (t, x :: xs, d && e)
def Tr.grabs (t : Tr) (k : K) (c : Nat) : List C → Option (Tr × List Sg × Bool)
 | [] => some (t, [], true)
 | x :: r => match t.grab x (k.leaf c) with
  | none => none
  | some (t, y, d) => match t.grabs k (c + 1) r with
   | none => none
   | some (t, ys, e) => some (t, ⟨k.leaf c, y⟩ :: ys, d && e)
def Tr.lay (t : Tr) (d : Option Nat) (v : Val) : Tr := match d with
 | some d => t.put d ((t.at d).lay v.1 v.2)
 | none => t
def Tr.own (t : Tr) (d : Option Nat) (v : Val) : Option Writes := match d with
 | some d => some (t.lay (some d) v).ws
 | none => none
def C.isFn : C → Bool
 | .fn .. => true
 | _ => false
def C.isOwn : C → Bool
 | .own .. => true
 | _ => false
def C.solid (get : Nat → Slot) : C → Bool
 | .dead => false
 | .ref s j rv sv p _ _ k => (content get s j rv sv p k).isSome
 | _ => true
def whole (get : Nat → Slot) (v : Val) : Bool := v.1.isV && v.2.all (C.solid get) && (v.1 = .agg || v.2.length = 1)
def isZero : K → List C → Bool
 | .int k, cs => match cs with
  | [.dat (.int k') n] => k = k' ∧ n = 0
  | _ => false
 | .bool, cs => match cs with
  | [.dat .bool b] => !b
  | _ => false
 | .str, cs => match cs with
  | [.dat .str s] => s.isEmpty
  | _ => false
 | .list _, cs => match cs with
  | [.nil] => true
  | _ => false
 | .pair a b, cs => isZero a (cs.take a.size) && isZero b (cs.drop a.size)
def binB (op : BinOp) (x y : Bool) : Option C := match op with
 | .eql => some (.dat .bool (x == y))
 | .neq => some (.dat .bool (!(x == y)))
 | _ => none
def binI (op : BinOp) (k : IntKind) (x y : Int) : Option C := match op with
 | .add => some (.dat (.int k) (k.wrap (x + y)))
 | .sub => some (.dat (.int k) (k.wrap (x - y)))
 | .mul => some (.dat (.int k) (k.wrap (x * y)))
 | .quo => if y = 0 then none else some (.dat (.int k) (k.wrap (x.tdiv y)))
 | .rem => if y = 0 then none else some (.dat (.int k) (x.tmod y))
 | .and => some (.dat (.int k) (k.wrap ((BitVec.ofInt k.bits x &&& BitVec.ofInt k.bits y).toNat)))
 | .or => some (.dat (.int k) (k.wrap ((BitVec.ofInt k.bits x ||| BitVec.ofInt k.bits y).toNat)))
 | .xor => some (.dat (.int k) (k.wrap ((BitVec.ofInt k.bits x ^^^ BitVec.ofInt k.bits y).toNat)))
 | .eql => some (.dat .bool (x == y))
 | .neq => some (.dat .bool (x != y))
 | .lss => some (.dat .bool (decide (x < y)))
 | .leq => some (.dat .bool (decide (x ≤ y)))
 | .gtr => some (.dat .bool (decide (x > y)))
 | .geq => some (.dat .bool (decide (x ≥ y)))
 | _ => none
def shiftI (op : BinOp) (k : IntKind) (x y : Int) : Option C :=
 if y < 0 then none else match op with
 | .shl => some (.dat (.int k) (k.wrap (x * 2 ^ (min y.toNat k.bits))))
 | .shr => some (.dat (.int k) (x.fdiv (2 ^ (min y.toNat k.bits))))
 | _ => none
def strMost : Nat := 1099511627776
def binS (op : BinOp) (x y : List UInt8) : Option C := match op with
 | .add => if x.length + y.length ≤ strMost then some (.dat .str (x ++ y)) else none
 | .eql => some (.dat .bool (x == y))
 | .neq => some (.dat .bool (!(x == y)))
 | _ => none
def bin (tk : Bool) (op : BinOp) (x y : C) : Option C :=
 match x, y with
 | .dat (.int k) a, .dat (.int k') b =>
  match op with
  | .shl => shiftI .shl k a b
  | .shr => shiftI .shr k a b
  | _ => if k = k' then binI op k a b else none
 | .dat .bool a, .dat .bool b => if tk then binB op a b else none
 | .dat .str a, .dat .str b => binS op a b
 | _, _ => none
def un (op : UnOp) (x : C) : Option C :=
 match op, x with
 | .not, .dat .bool b => some (.dat .bool (!b))
 | .neg, .dat (.int k) n => some (.dat (.int k) (k.wrap (0 - n)))
 | _, _ => none
def sameCs : List C → List C → Option Bool
 | [], [] => some true
 | .dat (.int k) a :: x, .dat (.int k') b :: y => if k = k' then (sameCs x y).map fun r => (a == b) && r else none
 | _, _ => none
def natOf : C → Option Nat
 | .dat (.int _) n => if 0 ≤ n then some n.toNat else none
 | _ => none
structure Ctx where
 n : Nat
 ty : Nat → Ti
 vars : List Nat
 rs : List Nat := []
 vr : List Nat := []
 md : Nat → List Bool
 gv : List Nat := []
 sem : Nat → List Val → Option (Val × List (List C))
def Ctx.vs (x : Ctx) (d : Option Nat) : List Nat := match d with
 | some d => match x.rs.any (Nat.beq d) with
  | true => x.vr
  | false => x.vars.filter fun v => !(Nat.beq v d)
 | none => x.vars
def rowMost : Nat := 4294967296
def byteMost : Nat := 140737488355328
def lenC (get : Nat → Slot) : C → Option Nat
 | .nil => some 0
 | .dat (.list _) l => some l.length
 | .dat .str s => some s.length
 | .ref s j rv sv p lo hi k => (content get s j rv sv p k).map fun x => (cut lo hi x.2).length
 | _ => none
def fitsTy (t : Ti) : C → Bool
 | .dat .str _ => t.isS
 | _ => match t.d with
  | .slice _ => true
  | _ => false
def slFits (ty : Nat → Ti) (t : Nat) : C → Bool
 | .dat .str _ => (ty t).isS
 | .dat (.list k) _ => match (ty t).d with
  | .slice el => (ty el).size = k.size
  | _ => false
 | .ref _ _ _ _ _ _ _ k => match (ty t).d with
  | .slice el => (ty el).size = k.size
  | _ => false
 | .nil => match (ty t).d with
  | .slice el => (ty el).size ≠ 0
  | _ => false
 | _ => false
def partShape (t : Ti) : Sh := if t.agg then .agg else .one
def offOf (a : Option Nat) (m : Nat) : Nat := match a with
 | none => m
 | some a => a + m
def subOf (a x old : Option Nat) : Option Nat := match x with
 | none => old
 | some m => some (offOf a m)
def boundOf (get : Nat → Slot) : Option Operand → Option (Option Nat)
 | none => some none
 | some z => match opd get z with
  | some (.one, [c]) => (natOf c).map some
  | _ => none
def sliceC (get : Nat → Slot) (c : C) (lo hi : Option Nat) : Option C :=
 match c with
 | .nil => if lo.getD 0 = 0 ∧ hi.getD 0 = 0 then some .nil else none
 | .dat (.list k) l => if lo.getD 0 ≤ hi.getD l.length ∧ hi.getD l.length ≤ l.length then some (.dat (.list k) (cut lo hi l)) else none
 | .dat .str l => if lo.getD 0 ≤ hi.getD l.length ∧ hi.getD l.length ≤ l.length then some (.dat .str (cut lo hi l)) else none
 | .ref s j rv sv p a b k =>
  match lenC get c with
  | none => none
  | some n =>
   if lo.getD 0 ≤ hi.getD n ∧ hi.getD n ≤ n then
    some (.ref s j rv sv p (subOf a lo a) (subOf a hi b) k)
   else none
 | _ => none
def indexC (ty : Nat → Ti) (get : Nat → Slot) (t : Nat) (c : C) (i : Nat) : Option C :=
 match (ty t).d with
 | .slice et => match c with
  | .dat (.list k) l => if i < l.length ∧ (ty et).size = k.size then some (.pim ((leaves k (l.getD i k.dflt)).map fun g => .dat g.1 g.2) 0) else none
  | .ref s j rv sv p a _ k => match lenC get c with
   | some n => if i < n ∧ (ty et).size = k.size then some (.aptr s j rv sv p (offOf a i) 0 k) else none
   | none => none
  | _ => none
 | .arr n e => match c with
  | .bptr s bv j => if i < n ∧ (ty e).size ≠ 0 then some (.bptr s bv (j + i * (ty e).size)) else none
  | _ => none
 | _ => none
def fieldOf (ty : Nat → Ti) (t f : Nat) : Option (Nat × Nat) := match (ty t).d with
 | .struct fs => fs[f]?
 | _ => none
def addC (off : Nat) : C → Option C
 | .bptr s bv j => some (.bptr s bv (j + off))
 | .aptr s j rv sv p i c k => some (.aptr s j rv sv p i (c + off) k)
 | .pim cs j => some (.pim cs (j + off))
 | _ => none
def leafC (s j rv sv : Nat) (p : Path) (i c : Nat) (deep : Bool) : Sg → C
 | ⟨.list k, l⟩ => if deep then .ref s j rv sv (p ++ [(i, c)]) none none k else .dat (.list k) l
 | ⟨k, x⟩ => .dat k x
def readLeaves (k : K) (x : k.T) (s j rv sv : Nat) (p : Path) (i : Nat) (deep : Bool) : Nat → Nat → List C
 | _, 0 => []
 | c, n + 1 => leafC s j rv sv p i c deep (leafV k x c) :: readLeaves k x s j rv sv p i deep (c + 1) n
def loadC (get : Nat → Slot) (n : Nat) : C → Option (List C)
 | .bptr s bv j => if (get s).sh = .box bv ∧ j + n ≤ (get s).cs.length then some (copyFrom s j (((get s).cs.drop j).take n)) else none
 | .pim cs j => if j + n ≤ cs.length then some ((cs.drop j).take n) else none
 | .aptr s j rv sv p i c k =>
  match (get s).cs.getD j .dead with
  | .own rv' sv' deep k0 l0 =>
   if rv = rv' ∧ (p = [] ∨ (svOk p sv sv' = true ∧ deep = true)) ∧ c + n ≤ k.size then
    match castL (getP k0 l0 p).1 (getP k0 l0 p).2 k with
    | some l => if i < l.length then some (readLeaves k (l.getD i k.dflt) s j rv' sv' p i deep c n) else none
    | none => none
   else none
  | _ => none
 | _ => none
def hitD (d : Option Nat) (l : List Nat) : Bool := match d with
 | some d => l.any (Nat.beq d)
 | none => false
def giveOne (t : Tr) (s j : Nat) : Tr := match (t.at s).cs.getD j .dead with
 | .own _ _ _ k l => t.put s { t.at s with cs := (t.at s).cs.set j (.dat (.list k) l) }
 | _ => t
def giveN (s : Nat) : Nat → Nat → Tr → Tr
 | 0, _, t => t
 | n + 1, j, t => giveN s n (j + 1) (giveOne t s j)
def chill (x : Ctx) (t : Tr) (n : Nat) : C → Tr
 | .bptr s _ j => match hitD t.d x.gv with
  | true => giveN s n j t
  | false => t
 | _ => t
def setFrom {α : Type} (cs : List α) (j : Nat) : List α → List α
 | [] => cs
 | c :: r => setFrom (cs.set j c) (j + 1) r
def hasList (k : K) (c : Nat) : Nat → Bool
 | 0 => false
 | n + 1 => !(k.leaf c).flat || hasList k (c + 1) n
def storeC (x : Ctx) (t : Tr) (a : C) (cs : List C) : Option Tr :=
 match a with
 | .bptr s bv j =>
  let (t, cs) := t.take (x.vs (some s)) cs
  let z := t.at s
  if z.sh = .box bv ∧ j + cs.length ≤ z.cs.length ∧ (s < x.n ∨ (s - x.n) % 2 = 1) then
   some (t.put s { z with cs := setFrom z.cs j (cs.map (fun | .own _ _ d k l => .own z.cnt 0 d k l | c => c)), cnt := z.cnt + 1 })
  else none
 | .aptr s j rv sv p i c k =>
  match t.grabs k c cs with
  | none => none
  | some (t, gs, d) =>
   let z := t.at s
   match z.cs.getD j .dead with
   | .own rv' sv' deep k0 l0 =>
    if rv = rv' ∧ (p = [] ∨ (svOk p sv sv' = true ∧ deep = true)) ∧ c + cs.length ≤ k.size then
     match castL (getP k0 l0 p).1 (getP k0 l0 p).2 k with
     | none => none
     | some l =>
      if i < l.length then
       let l0' := modP (fun k' l' => (castL k (l.set i (setLeaves k (l.getD i k.dflt) c gs)) k').getD l') k0 l0 p
       if hasList k c cs.length then some (t.put s { z with cs := z.cs.set j (.own rv' (nextV p sv' z.cnt) (deep && d) k0 l0'), cnt := nextV p sv' z.cnt + 1 })
       else some (t.put s { z with cs := z.cs.set j (.own rv' sv' deep k0 l0') })
      else none
    else none
   | _ => none
 | _ => none
def srcC (vars : List Nat) (t : Tr) (k : K) (y : C) : Option (Tr × List k.T × Bool) :=
 match y with
 | .dat .str s => match k with
  | .int .u8 => some (t, s.map fun b => ((b.toNat : Nat) : Int), true)
  | _ => none
 | .ref s j rv sv p lo hi k1 => match t.grab (.ref s j rv sv p lo hi k1) (.list k) with
  | none => none
  | some (t', l, d) =>
   if k.flat then some (t, l, true)
   else match (t.at s).cs.getD j .dead with
    | .own _ _ false _ _ => some (t, l, false)
    | .own rv sv true k0 l0 => if vars.contains s then some (t.put s { t.at s with cs := (t.at s).cs.set j (.own rv sv false k0 l0) }, l, false) else some (t', l, d)
    | _ => none
 | y => match t.grab y (.list k) with
  | none => none
  | some (t', l, d) => some (t', l, k.flat || d)
def appendC (ty : Nat → Ti) (vars : List Nat) (t : Tr) (st : Nat) (x y : C) : Option (Tr × C) :=
 match (ty st).d with
 | .slice e => match (ty e).k with
  | none => none
  | some k =>
   match srcC vars t k y with
   | none => none
   | some (t, ys, d) =>
    match x with
    | .nil => if ys.length ≤ rowMost ∧ (2 * ys.length + 512) * (ty e).bytes ≤ byteMost ∧ (ty e).zero.isSome = true ∧ (ty e).zeros.length = k.size then some (t, .own 0 0 d k ys) else none
    | .ref s j rv _ [] lo hi k' =>
     match (t.at s).cs.getD j .dead with
     | .own rv' _ deep k0 l0 =>
      if rv = rv' ∧ k' = k0 then
       match castL k0 (cut lo hi l0) k with
       | none => none
       | some l => if l.length + ys.length ≤ rowMost ∧ (2 * (l.length + ys.length) + 512) * (ty e).bytes ≤ byteMost ∧ (ty e).zero.isSome = true ∧ (ty e).zeros.length = k.size then some (t.put s ((t.at s).kill j), .own 0 0 (deep && d) k (l ++ ys)) else none
      else none
     | _ => none
    | .ref s j rv sv (q :: p) none none k' =>
     match (t.at s).cs.getD j .dead with
     | .own rv' sv' deep k0 l0 =>
      if rv = rv' ∧ k' = k ∧ svOk (q :: p) sv sv' = true ∧ deep = true ∧ k.flat = true then
       match castL (getP k0 l0 (q :: p)).1 (getP k0 l0 (q :: p)).2 k with
       | none => none
       | some l => if l.length + ys.length ≤ rowMost ∧ (2 * (l.length + ys.length) + 512) * (ty e).bytes ≤ byteMost ∧ (ty e).zero.isSome = true ∧ (ty e).zeros.length = k.size then some (t.put s { t.at s with cs := (t.at s).cs.set j (.own rv' sv' false k0 l0) }, .dat (.list k) (l ++ ys)) else none
      else none
     | _ => none
    | _ => none
 | _ => none
def opds (get : Nat → Slot) : List Operand → Option (List Val)
 | [] => some []
 | x :: r => match opd get x, opds get r with
  | some v, some vs => some (v :: vs)
  | _, _ => none
def one? : Val → Option C
 | (.one, [c]) => some c
 | _ => none
def ones : List Val → Option (List C)
 | [] => some []
 | v :: r => match one? v, ones r with
  | some c, some cs => some (c :: cs)
  | _, _ => none
def fillC (get : Nat → Slot) (place : Nat → Option (Nat × Nat)) (cells : List C) : List (Nat × Val) → Option (List C)
 | [] => some cells
 | (i, v) :: r => match place i with
  | some (off, size) => if v.2.length = size ∧ off + size ≤ cells.length ∧ whole get v = true then fillC get place (setFrom cells off v.2) r else none
  | none => none
def partVals (get : Nat → Slot) : List (Nat × Operand) → Option (List (Nat × Val))
 | [] => some []
 | (i, x) :: r => match opd get x, partVals get r with
  | some v, some vs => some ((i, v) :: vs)
  | _, _ => none
def chunks {α : Type} (n : Nat) : Nat → List α → List (List α)
 | 0, _ => []
 | m + 1, cs => cs.take n :: chunks n m (cs.drop n)
def zeroRow (z : List C) : Nat → List C
 | 0 => []
 | n + 1 => z ++ zeroRow z n
inductive Lend where
 | cell (s j : Nat) (p : Path) (k : K)
 | box (s : Nat)
def lendCells (t : Tr) : List C → Option (List C × List (Option Lend))
 | [] => some ([], [])
 | c :: r => match lendCells t r with
  | none => none
  | some (cs, ls) => match c with
   | .dat (.list _) _ => none
   | .dat k x => some (.dat k x :: cs, none :: ls)
   | .ref s j rv sv p none none k => match (t.at s).cs.getD j .dead with
    | .own rv' sv' deep k0 l0 =>
     if rv = rv' ∧ (p = [] ∨ (svOk p sv sv' = true ∧ deep = true)) then
      match castL (getP k0 l0 p).1 (getP k0 l0 p).2 k with
      | some l => some (.own 0 0 deep k l :: cs, some (.cell s j p k) :: ls)
      | none => none
     else none
    | _ => none
   | _ => none
def ownBox : List C → Option (List C)
 | [] => some []
 | c :: r => match ownBox r with
  | none => none
  | some cs => match c with
   | .own _ _ d k l => some (.own 0 0 d k l :: cs)
   | .dat k x => some (.dat k x :: cs)
   | .nil => some (.nil :: cs)
   | .pim a j => some (.pim a j :: cs)
   | .fn f [] => some (.fn f [] :: cs)
   | _ => none
def sendCap (t : Tr) (lent : List (Nat × Nat)) (c : C) : Option C :=
 match c with
 | .bptr s bv j => match lent.find? (·.1 = s) with
  | some (_, i) => if (t.at s).sh = .box bv then some (C.bptr i 0 j) else none
  | none => snap t.at c
 | c => snap t.at c
def sendCaps (t : Tr) (lent : List (Nat × Nat)) : List C → Option (List C)
 | [] => some []
 | c :: r => match sendCap t lent c, sendCaps t lent r with
  | some c, some r => some (c :: r)
  | _, _ => none
def sendC (t : Tr) (lent : List (Nat × Nat)) (c : C) : Option C :=
 match c with
 | .fn f caps => (sendCaps t lent caps).map fun caps => C.fn f caps
 | c => snap t.at c
def sendCs (t : Tr) (lent : List (Nat × Nat)) : List C → Option (List C)
 | [] => some []
 | c :: r => match sendC t lent c, sendCs t lent r with
  | some c, some r => some (c :: r)
  | _, _ => none
structure Sent where
 vals : List Val := []
 lends : List (List (Option Lend)) := []
def send (t : Tr) (md : List Bool) (lent : List (Nat × Nat)) : Nat → List Val → Option Sent
 | _, [] => some {}
 | i, (sh, cs) :: r => match send t md lent (i + 1) r with
  | none => none
  | some q =>
   if md.getD i false then
    match sh, cs with
    | .one, [.bptr s bv 0] => if (t.at s).sh = .box bv then match ownBox (t.at s).cs with
      | some cs => some { vals := (.box 0, cs) :: q.vals, lends := [some (.box s)] :: q.lends }
      | none => none
     else none
    | _, _ => match lendCells t cs with
     | some (cs, ls) => some { vals := (sh, cs) :: q.vals, lends := ls :: q.lends }
     | none => none
   else match sendCs t lent cs with
    | some cs => some { vals := (sh, cs) :: q.vals, lends := [] :: q.lends }
    | none => none
def Lend.slot : Lend → Nat
 | .cell s .. => s
 | .box s => s
def Lend.clash : Lend → Lend → Bool
 | .cell s j _ _, .cell s' j' _ _ => s == s' && j == j'
 | l, l' => l.slot == l'.slot
def lendsOne (i : Nat) : Nat → List (Option Lend) → List (Nat × Nat × Lend)
 | _, [] => []
 | c, none :: r => lendsOne i (c + 1) r
 | c, some l :: r => (i, c, l) :: lendsOne i (c + 1) r
def lendAt : Nat → List (List (Option Lend)) → List (Nat × Nat × Lend)
 | _, [] => []
 | i, ls :: r => lendsOne i 0 ls ++ lendAt (i + 1) r
def apartF : List (Nat × Nat × Lend) → Bool
 | [] => true
 | a :: r => r.all (fun b => !a.2.2.clash b.2.2) && apartF r
def oneSrc (l : List (Nat × Nat × Lend)) : Bool := l.all fun a => l.all fun b => !(Nat.beq a.1 b.1) || Nat.beq a.2.2.slot b.2.2.slot
def oddB (n : Nat) (l : List (Nat × Nat × Lend)) : Bool := l.all fun a => match a.2.2 with
 | .box s => Nat.blt s n || Nat.beq ((s - n) % 2) 1
 | _ => true
def C.targets : C → List Nat
 | .ref s .. => [s]
 | .bptr s .. => [s]
 | .aptr s .. => [s]
 | .fn _ caps => caps.filterMap fun | .bptr s .. => some s | _ => none
 | _ => []
def backC (z : Nat) (c0 : C) (p : Path) (k : K) (c : C) : Option C :=
 match c0 with
 | .own rv _ deep k0 l0 =>
  match p with
  | [] => match c with
   | .own _ _ d k1 l1 => if k1 = k0 then some (.own rv z d k1 l1) else none
   | _ => some .dead
  | _ :: _ => match c with
   | .own _ _ d k1 l1 => if k1 = k ∧ (d = true ∨ k.flat = true) then some (.own rv z deep k0 (modP (fun k' l' => (castL k1 l1 k').getD l') k0 l0 p)) else none
   | _ => none
 | _ => none
def reC (r : Nat) : C → C
 | .own _ _ d k l => .own r 0 d k l
 | c => c
def backOne (outs : List (List C)) (t : Tr) (q : Nat × Nat × Lend) : Option Tr := match q.2.2 with
 | .box s => some (t.put s { t.at s with cs := (outs.getD q.1 []).map (reC (t.at s).cnt), cnt := (t.at s).cnt + 1 })
 | .cell s j p k => match backC (jumpV (t.at s).cnt) ((t.at s).cs.getD j .dead) p k ((outs.getD q.1 []).getD q.2.1 .dead) with
  | some c => some (t.put s { t.at s with cs := (t.at s).cs.set j c, cnt := jumpV (t.at s).cnt + 1 })
  | none => none
def backAll (outs : List (List C)) : Tr → List (Nat × Nat × Lend) → Option Tr
 | t, [] => some t
 | t, q :: r => match backOne outs t q with
  | some t => backAll outs t r
  | none => none
def disjoint (a b : List Nat) : Bool := a.all fun x => !b.contains x
def readCell (lent : List (Nat × Nat)) : C → List Nat
 | .fn _ caps => caps.flatMap fun
  | .bptr s bv j => if (lent.find? (·.1 = s)).isSome then [] else [s]
  | c => c.targets
 | c => c.targets
def readTargets (md : List Bool) (lent : List (Nat × Nat)) : Nat → List Val → List Nat
 | _, [] => []
 | i, (_, cs) :: r => if md.getD i false then readTargets md lent (i + 1) r
  else cs.flatMap (readCell lent) ++ readTargets md lent (i + 1) r
def C.aliases : C → Bool
 | .dat k _ => !k.flat
 | .own _ _ d k _ => !d && !k.flat
 | .pim .. => true
 | .fn _ (_ :: _) => true
 | _ => false
def C.give : C → C
 | .own _ _ _ k l => .dat (.list k) l
 | c => c
def Tr.give (t : Tr) : List Nat → Tr
 | [] => t
 | s :: r => (t.put s (match (t.at s).sh with | .box _ => { t.at s with sh := .dead, cs := [] } | _ => { t.at s with cs := (t.at s).cs.map C.give })).give r
def callC (x : Ctx) (t : Tr) (dst : Option Nat) (f : Nat) (args : List Val) : Option Tr :=
 match send t (x.md f) [] 0 args with
 | none => none
 | some q =>
  if apartF (lendAt 0 q.lends) && oneSrc (lendAt 0 q.lends) && oddB x.n (lendAt 0 q.lends) && disjoint ((lendAt 0 q.lends).map (·.2.2.slot)) (readTargets (x.md f) [] 0 args) then
   match x.sem f q.vals with
   | none => none
   | some r => match backAll r.2 t (lendAt 0 q.lends) with
    | none => none
    | some t => some ((if r.1.2.any C.aliases || r.2.any (·.any C.aliases) then t.give (readTargets (x.md f) [] 0 args) else t).lay dst r.1)
  else none
def partN : Option Nat → Nat
 | none => 1
 | some n => n
def partSh : Option Nat → Sh
 | none => .one
 | some _ => .agg
def tupOff : List (Option Nat) → Nat → Nat
 | [], _ => 0
 | _, 0 => 0
 | q :: r, i + 1 => partN q + tupOff r i
def intTi (t : Ti) : Option IntKind := if t.agg then none else match t.k with
 | some (.int k) => some k
 | _ => none
def u8Row (ty : Nat → Ti) (t : Nat) : Bool := match (ty t).d with
 | .slice e => intTi (ty e) = some .u8
 | _ => false
def bytesC (get : Nat → Slot) : C → Option (List Int)
 | .nil => some []
 | .dat (.list (.int .u8)) l => some l
 | .ref s j rv sv p lo hi (.int .u8) => (content get s j rv sv p (.int .u8)).map fun q => cut lo hi q.2
 | _ => none
def act (x : Ctx) (get : Nat → Slot) (o : Oper) : Option Writes :=
 let t : Tr := { get, d := o.dst }
 let done (v : Val) : Option Writes := some (t.lay o.dst v).ws
 match o.op with
 | .move a => match opd get a with
  | some v => done v
  | none => none
 | .assign a => match opd get a with
  | some v => (t.take (x.vs o.dst) v.2).1.own o.dst (v.1, (t.take (x.vs o.dst) v.2).2)
  | none => none
 | .pick c a b => match opd get c with
  | some (.one, [.dat .bool true]) => match opd get a with
   | some v => done v
   | none => none
  | some (.one, [.dat .bool false]) => match opd get b with
   | some v => done v
   | none => none
  | _ => none
 | .alloc e => if (x.ty e).zero.isSome then t.own o.dst (.box 0, (x.ty e).zeros) else none
 | .box e a => match opd get a with
  | some v => if v.2.length = (x.ty e).size ∧ whole get v = true then (t.take x.vars v.2).1.own o.dst (.box 0, (t.take x.vars v.2).2) else none
  | none => none
 | .build ty parts => match (x.ty ty).d, partVals get parts.toList with
  | .struct fs, some vs => if (fs.all fun f => (x.ty f.2).size ≠ 0) = false ∨ (x.ty ty).zero.isSome = false then none else match fillC get (fun i => (fs[i]?).map fun f => (f.1, (x.ty f.2).size)) (x.ty ty).zeros vs with
   | some cs => done (.agg, cs)
   | none => none
  | _, _ => none
 | .buildSlice ty n parts => match (x.ty ty).d, partVals get parts.toList with
  | .slice e, some vs => match (x.ty e).k with
   | none => none
   | some k => if n * k.size > 16777216 ∨ (x.ty e).zeros.length ≠ k.size ∨ (x.ty e).zero.isSome = false then none else match fillC get (fun i => if i < n then some (i * k.size, k.size) else none) (zeroRow (x.ty e).zeros n) vs with
    | none => none
    | some cs => match t.packs k (chunks k.size n cs) with
     | none => none
     | some (t, l, d) => t.own o.dst (.one, [.own 0 0 d k l])
  | _, _ => none
 | .load ty a => match opd get a with
  | some (.one, [c]) => if (x.ty ty).ok = true then match loadC (chill x t (x.ty ty).size c).at (x.ty ty).size c with
   | some cs => some ((chill x t (x.ty ty).size c).lay o.dst (partShape (x.ty ty), cs)).ws
   | none => none
   else none
  | _ => none
 | .store ty a b => match opd get a, opd get b with
  | some (.one, [c]), some v => if (x.ty ty).ok = true ∧ v.2.length = (x.ty ty).size ∧ whole get v = true then
    match storeC x t c v.2 with
    | some t => some (t.lay o.dst (.dead, [])).ws
    | none => none
   else none
  | _, _ => none
 | .nilCheck a => match opd get a with
  | some (.one, [.bptr s bv j]) => done (.one, [.bptr s bv j])
  | some (.one, [.aptr s j rv sv p i c k]) => done (.one, [.aptr s j rv sv p i c k])
  | some (.one, [.pim cs j]) => done (.one, [.pim cs j])
  | some (.one, [.fn f cs]) => done (.one, [.fn f cs])
  | _ => none
 | .binOp op ty a b _ => match opd get a, opd get b with
  | some (.one, [c]), some (.one, [d]) => match bin (x.ty ty).isB op c d with
   | some c => done (.one, [c])
   | none => none
  | some (.agg, cs), some (.agg, ds) => if (x.ty ty).eqI = some cs.length then match op, sameCs cs ds with
   | .eql, some b => done (.one, [.dat .bool b])
   | .neq, some b => done (.one, [.dat .bool (!b)])
   | _, _ => none
   else none
  | _, _ => none
 | .unOp op _ a => match opd get a with
  | some (.one, [c]) => match un op c with
   | some c => done (.one, [c])
   | none => none
  | _ => none
 | .convert src dst a => match opd get a with
  | some (.one, [c]) => if (x.ty src).ok = false then none else
   match c, (x.ty dst).isS, intTi (x.ty dst), u8Row x.ty dst with
   | .dat (.int _) n, false, some k, _ => done (.one, [.dat (.int k) (k.wrap n)])
   | .dat .str s, true, _, _ => done (.one, [.dat .str s])
   | .dat .str s, false, _, true => if s.length ≤ rowMost ∧ (x.ty src).isS = true then t.own o.dst (.one, [.own 0 0 true (.int .u8) (s.map fun b => ((b.toNat : Nat) : Int))]) else none
   | c, true, _, _ => if u8Row x.ty src then match bytesC get c with
     | some l => done (.one, [.dat .str (l.map fun n => UInt8.ofNat n.toNat)])
     | none => none
    else none
   | _, _, _, _ => none
  | _ => none
 | .makeFunc f first caps => match f, first.toList, opds get caps.toList with
  | .func f, [], some vs => match ones vs with
   | some cs => if cs.all (fun c => !c.isFn) then done (.one, [.fn f cs]) else none
   | none => none
  | _, _, _ => none
 | .makeSlice ty n m => match (x.ty ty).d, opd get n, opd get m with
  | .slice e, some (.one, [n]), some (.one, [m]) => match (x.ty e).k, natOf n, natOf m with
   | some k, some n, some m => if n ≤ m ∧ m ≤ rowMost ∧ m * (x.ty e).bytes ≤ byteMost ∧ isZero k (x.ty e).zeros = true then t.own o.dst (.one, [.own 0 0 true k (List.replicate n k.dflt)]) else none
   | _, _, _ => none
  | _, _, _ => none
 | .slice ty a lo hi none => match opd get a, boundOf get lo, boundOf get hi with
  | some (.one, [c]), some l, some h => if slFits x.ty ty c = false then none else match sliceC get c l h with
   | some c => done (.one, [c])
   | none => none
  | _, _, _ => none
 | .fieldAddr ty a f => match opd get a, fieldOf x.ty ty f with
  | some (.one, [c]), some (off, ft) => if (x.ty ft).size = 0 then none else match addC off c with
   | some c => done (.one, [c])
   | none => none
  | _, _ => none
 | .field ty a f => match opd get a, fieldOf x.ty ty f with
  | some (.agg, cs), some (off, ft) => if (x.ty ft).ok = true ∧ off + (x.ty ft).size ≤ cs.length then done (partShape (x.ty ft), (cs.drop off).take (x.ty ft).size) else none
  | _, _ => none
 | .indexAddr ty a b => match opd get a, opd get b with
  | some (.one, [c]), some (.one, [i]) => match natOf i with
   | some i => match indexC x.ty get ty c i with
    | some c => done (.one, [c])
    | none => none
   | none => none
  | _, _ => none
 | .index ty a b => if (x.ty ty).isS = false then none else match opd get a, opd get b with
  | some (.one, [.dat .str s]), some (.one, [i]) => match natOf i with
   | some i => if i < s.length then done (.one, [.dat (.int .u8) (((s.getD i 0).toNat : Nat) : Int)]) else none
   | none => none
  | _, _ => none
 | .extract a i => match opd get a with
  | some (.tup ps, cs) => match ps[i]? with
   | some q => done (partSh q, (cs.drop (tupOff ps i)).take (partN q))
   | none => none
  | _ => none
 | .call c0 => match c0.callee with
  | .builtin b => match b, opds get c0.args.toList with
   | .len, some [(.one, [c])] => if (c0.argTypes[0]?).isSome = false ∨ fitsTy (x.ty (c0.argTypes.getD 0 0)) c = false then none else match lenC get c with
    | some n => done (.one, [.dat (.int .i64) (n : Int)])
    | none => none
   | .append, some [(.one, [a]), (.one, [b])] => if (c0.argTypes[0]?).isSome = false ∨ (c0.argTypes[1]?).isSome = false ∨ fitsTy (x.ty (c0.argTypes.getD 1 0)) b = false then none else match appendC x.ty x.vars t (c0.argTypes.getD 0 0) a b with
    | some (t, c) => t.own o.dst (.one, [c])
    | none => none
   | .max, some [(.one, [.dat (.int k) a]), (.one, [.dat (.int k') b])] => if k = k' then done (.one, [.dat (.int k) (if b > a then b else a)]) else none
   | .min, some [(.one, [.dat (.int k) a]), (.one, [.dat (.int k') b])] => if k = k' then done (.one, [.dat (.int k) (if b < a then b else a)]) else none
   | _, _ => none
  | .value f => match opd get f, opds get c0.args.toList with
   | some (.one, [.fn g caps]), some vs => (callC x t o.dst g (vs ++ caps.map fun c => (.one, [c]))).map (·.ws)
   | _, _ => none
  | _ => none
 | _ => none
def Env.puts (e : Env) : Writes → Env
 | [] => e
 | (s, x) :: r => Env.puts (e.set s x) r
def opSlots (o : Oper) : List Nat := o.dst.toList ++ o.op.operands.toList.filterMap fun | .tmp t => some t | _ => none
def quietOp : Op → Bool
 | .move _ | .pick .. | .extract .. | .field .. | .fieldAddr .. | .nilCheck _ | .binOp .. | .unOp .. | .makeFunc .. | .makeSlice .. | .alloc _ | .index .. => true
 | _ => false
def looks (e : Env) (o : Oper) : List Nat :=
 if quietOp o.op then opSlots o else opSlots o ++ (opSlots o).flatMap fun s => (e.get s).cs.flatMap C.targets
def guardOf (ops : Array Oper) (o : Oper) : Option (Nat × Bool) := match o.guard with
 | none => none
 | some (j, want) => some (((ops[j]?).bind (·.dst)).getD 1000000, want)
def wanted (e : Env) : Option (Nat × Bool) → Option Bool
 | none => some true
 | some (s, want) => match (e.get s).sh, (e.get s).cs with
  | .one, [.dat .bool b] => some (b == want)
  | .tup [], _ => some false
  | _, _ => none
abbrev Soft := Option (Nat × Nat × Nat)
def softAt (e : Env) (o : Oper) (t n : Nat) : Soft := match opd e.get (.tmp t) with
 | some (.one, [.bptr s _ j]) => match o.dst with
  | some d => if Nat.beq d s then none else some (s, j, n)
  | none => none
 | _ => none
def softOf (x : Ctx) (e : Env) (o : Oper) : Soft := match o.op with
 | .load ty (.tmp t) => match hitD o.dst x.gv with
  | true => none
  | false => softAt e o t (x.ty ty).size
 | .fieldAddr _ (.tmp t) _ => softAt e o t 0
 | _ => none
def dstIs (o : Oper) (t : Nat) : Bool := match o.dst with
 | some d => Nat.beq d t
 | none => false
def idxOf (e : Env) (o : Oper) : Option Nat := match o.op with
 | .move (.tmp t) => match (e.get t).sh, (e.get t).cs with
  | .one, [.own _ _ _ _ _] => match dstIs o t with
   | true => none
   | false => some t
  | _, _ => none
 | _ => none
def readsOf (x : Ctx) (e : Env) (o : Oper) : List Nat := match softOf x e o with
 | none => match idxOf e o with
  | none => looks e o
  | some t => (opSlots o).filter fun u => !Nat.beq u t
 | some (s, _, _) => (opSlots o).filter fun t => !Nat.beq t s
def cellSame : C → C → Bool
 | .own rv sv _ k _, .own rv' sv' _ k' _ => Nat.beq rv rv' && (Nat.beq sv sv' && decide (k = k'))
 | _, _ => false
def cellsSame : List C → List C → Nat → Bool
 | _, _, 0 => true
 | a :: r, b :: r', n + 1 => cellSame a b && cellsSame r r' n
 | _, _, _ + 1 => false
def softSame (z z' : Slot) (j n : Nat) : Bool := (match z.sh, z'.sh with | .box b, .box b' => Nat.beq b b' | _, _ => false) && (Nat.beq z.cs.length z'.cs.length && cellsSame (z.cs.drop j) (z'.cs.drop j) n)
def softOk (ch : List (Nat × Slot × Slot)) : Soft → Bool
 | none => true
 | some (s, j, n) => ch.all fun q => !Nat.beq q.1 s || softSame q.2.1 q.2.2 j n
def rootSame (z z' : Slot) : Bool := match z.sh, z.cs, z'.sh, z'.cs with
 | .one, [c], .one, [c'] => cellSame c c'
 | _, _, _, _ => false
def idxOk (ch : List (Nat × Slot × Slot)) : Option Nat → Bool
 | none => true
 | some t => ch.all fun q => !Nat.beq q.1 t || rootSame q.2.1 q.2.2
structure Step where
 ws : Writes
 reads : List Nat
 soft : Soft := none
 idx : Option Nat := none
def skipWs (e : Env) (o : Oper) : Writes := match o.dst with
 | some d => [(d, (e.get d).lay (.tup []) [])]
 | none => []
def guardSlots (ops : Array Oper) (o : Oper) : List Nat := match guardOf ops o with
 | some (s, _) => [s]
 | none => []
def stepA (x : Ctx) (ops : Array Oper) (e : Env) (o : Oper) : Option Step :=
 if !((opSlots o).all (· < x.n) && (guardSlots ops o).all (· < x.n)) then none else
 match wanted e (guardOf ops o) with
 | none => none
 | some false => some { ws := skipWs e o, reads := guardSlots ops o ++ o.dst.toList }
 | some true =>
  match act x (fun s => if (looks e o).contains s then e.get s else {}) o with
  | none => none
  | some ws => some { ws, reads := guardSlots ops o ++ readsOf x e o, soft := softOf x e o, idx := idxOf e o }
abbrev Entry := Nat × List Nat × List Nat × Soft × List (Nat × Slot × Slot) × Option Nat
abbrev Trace := List Entry
def entry (i : Nat) (e : Env) (s : Step) : Entry := (i, s.reads, s.ws.map (·.1), s.soft, (s.ws.map fun q => (q.1, e.get q.1, q.2)), s.idx)
def runA (x : Ctx) (ops : Array Oper) (e : Env) : List Nat → Option (Env × Trace)
 | [] => some (e, [])
 | i :: r => match ops[i]? with
  | none => none
  | some o => match stepA x ops e o with
   | none => none
   | some s => match runA x ops (e.puts s.ws) r with
    | none => none
    | some (e', tr) => some (e', entry i e s :: tr)
def befOne (acc : List Nat) : List Edge → Nat
 | [] => 0
 | d :: r => if Region.binds .any d then (2 ^ d.on ||| acc.getD d.on 0) ||| befOne acc r else befOne acc r
def befs (acc : List Nat) : List Oper → List Nat
 | [] => acc
 | o :: r => befs (acc ++ [befOne acc o.after.toList]) r
def comesBefore (b : List Nat) (i j : Nat) : Bool := (b.getD j 0).testBit i
def indep (a b : Entry) : Bool :=
 disjoint a.2.2.1 b.2.1 && disjoint a.2.2.1 b.2.2.1 && disjoint b.2.2.1 a.2.1 && (softOk a.2.2.2.2.1 b.2.2.2.1 && softOk b.2.2.2.2.1 a.2.2.2.1) && (idxOk a.2.2.2.2.1 b.2.2.2.2.2 && idxOk b.2.2.2.2.1 a.2.2.2.2.2)
def ordered (b : List Nat) : Trace → Bool
 | [] => true
 | a :: r => r.all (fun c => comesBefore b a.1 c.1 || indep a c) && ordered b r
def edgesBack (i : Nat) : List Oper → Bool
 | [] => true
 | o :: r => o.after.toList.all (fun d => !Region.binds .any d || decide (d.on < i)) && edgesBack (i + 1) r
def region (x : Ctx) (ops : Array Oper) (draw : Bool) (e : Env) : Option Env :=
 match runA x ops e (List.range ops.size) with
 | none => none
 | some (e, tr) => if !draw || (edgesBack 0 ops.toList && ordered (befs [] ops.toList) tr) then some e else none
def union (a b : List Nat) : List Nat := a ++ b.filter fun x => !a.contains x
def keeps (e : Env) (live : List Nat) : List Nat :=
 let t (l : List Nat) := l.flatMap fun s => (e.get s).cs.flatMap C.targets
 union (union live (t live)) (t (t live))
def normC (e : Env) (ks : List Nat) : C → C
 | .own _ _ d k l => .own 0 0 d k l
 | .ref s j rv sv p lo hi k => match ks.contains s, (e.get s).cs.getD j .dead with
  | true, .own rv' sv' _ _ _ => if rv = rv' ∧ (p = [] ∨ svOk p sv sv' = true) then .ref s j 0 0 p lo hi k else .dead
  | _, _ => .dead
 | .aptr s j rv sv p i c k => match ks.contains s, (e.get s).cs.getD j .dead with
  | true, .own rv' sv' _ _ _ => if rv = rv' ∧ (p = [] ∨ svOk p sv sv' = true) then .aptr s j 0 0 p i c k else .dead
  | _, _ => .dead
 | .bptr s bv j => if ks.contains s ∧ (e.get s).sh = .box bv then .bptr s 0 j else .dead
 | .fn f caps => .fn f (caps.map fun
   | .bptr s bv j => if ks.contains s ∧ (e.get s).sh = .box bv then .bptr s 0 j else .dead
   | .pim cs j => .pim cs j
   | _ => .dead)
 | c => c
def normS (e : Env) (ks : List Nat) (s : Nat) (x : Slot) : Slot :=
 if ks.contains s then { sh := (match x.sh with | .box _ => .box 0 | h => h), cs := x.cs.map (normC e ks), cnt := 1 } else {}
def normFrom (e : Env) (ks : List Nat) : Nat → Env → Env
 | _, [] => []
 | s, x :: r => normS e ks s x :: normFrom e ks (s + 1) r
def norm (live : List Nat) (e : Env) : Env := normFrom e (keeps e live) 0 e
inductive Ex where
 | normal | exit (id : Nat) | ret
 deriving DecidableEq
def bigN : Nat := 18446744073709551616
def opdUses : Operand → List Nat
 | .tmp t => [t]
 | _ => []
def inSlots (n : Nat) (md : List Bool) : Nat → List Val → List Slot × List Slot
 | _, [] => ([], [])
 | i, (sh, cs) :: r =>
  let (a, b) := inSlots n md (i + 1) r
  if md.getD i false then
   match sh with
   | .box _ => ({ sh := .one, cs := [.bptr (n + 2 * i + 1) 0 0], cnt := 1 } :: a, (default : Slot) :: { sh := .box 0, cs := cs, cnt := 1 } :: b)
   | sh => ({ sh, cs := copyFrom (n + 2 * i) 0 cs, cnt := 1 } :: a, { sh := .agg, cs := cs, cnt := 1 } :: (default : Slot) :: b)
  else ({ sh, cs := cs, cnt := 1 } :: a, (default : Slot) :: (default : Slot) :: b)
def opdsUse (lp : Nat) : List Operand → List (Nat × Nat × Nat)
 | [] => []
 | .tmp t :: r => (t, 3, lp) :: opdsUse lp r
 | _ :: r => opdsUse lp r
def opUse (lp : Nat) (o : Oper) : List (Nat × Nat × Nat) := match o.op with
 | .alloc _ => match o.dst with
  | some d => [(d, 0, lp)]
  | none => []
 | .store _ (.tmp t) y => (t, 1, lp) :: opdsUse lp [y]
 | .load _ (.tmp t) => [(t, 2, lp)]
 | op => opdsUse lp op.operands.toList
def codeUse (pos lp : Nat) : Code → List (Nat × Nat × Nat)
 | .region _ ops _ => ops.toList.flatMap (opUse lp)
 | .seq a b => codeUse (2 * pos) lp a ++ codeUse (2 * pos + 1) lp b
 | .cond _ a b => codeUse (2 * pos) lp a ++ codeUse (2 * pos + 1) lp b
 | .block _ a => codeUse (2 * pos) lp a
 | .loop a => codeUse (2 * pos) pos a
 | _ => []
def movesOn (us : List (Nat × Nat × Nat)) (v : Nat) : Bool := match us.filter (fun u => Nat.beq u.1 v) with
 | l => match l.filter (fun u => Nat.beq u.2.1 0), l.filter (fun u => Nat.beq u.2.1 2) with
  | [a], [b] => Nat.beq a.2.2 b.2.2 && l.all (fun u => Nat.ble u.2.1 2)
  | _, _ => false
def codeVars0 : Code → List Nat
 | .region _ ops _ => ops.toList.filterMap fun o => match o.op with
  | .assign _ => o.dst
  | .alloc _ => o.dst
  | .box _ _ => o.dst
  | _ => none
 | .seq a b => codeVars0 a ++ codeVars0 b
 | .cond _ a b => codeVars0 a ++ codeVars0 b
 | .block _ a => codeVars0 a
 | .loop a => codeVars0 a
 | _ => []
def opFrom : Op → Option Nat
 | .fieldAddr _ (.tmp t) _ => some t
 | .indexAddr _ (.tmp t) _ => some t
 | .load _ (.tmp t) => some t
 | .slice _ (.tmp t) _ _ _ => some t
 | .move (.tmp t) => some t
 | _ => none
def rootOf (ops : List Oper) : Nat → Nat → Nat
 | 0, t => t
 | m + 1, t => match ops.find? fun o => match o.dst with | some d => Nat.beq d t | none => false with
  | some o => match opFrom o.op with
   | some u => rootOf ops m u
   | none => t
  | none => t
def cutRoots (ops : List Oper) : List Nat := ops.filterMap fun o => match o.op with
 | .slice _ (.tmp t) _ _ _ => some (rootOf ops 9 t)
 | _ => none
def fzSlots (ops : List Oper) : List Nat := match cutRoots ops with
 | [] => []
 | rs => rs.filter fun r => ops.any fun o => match o.op with
  | .indexAddr _ (.tmp t) _ => Nat.beq (rootOf ops 9 t) r
  | _ => false
def madeBy (ops : List Oper) (t : Nat) : Option Op := match ops.find? fun o => match o.dst with | some d => Nat.beq d t | none => false with
 | some o => some o.op
 | none => none
def ldSlots (ops : List Oper) : List Nat := ops.filterMap fun o => match o.op with
 | .store _ (.tmp _) (.tmp u) => match madeBy ops u with
  | some (.load _ (.tmp a)) => match madeBy ops a with
   | some (.indexAddr _ (.tmp b) _) => some (rootOf ops 9 b)
   | _ => none
  | _ => none
 | _ => none
def K.slices : K → Nat
 | .list _ => 1
 | .pair a b => a.slices + b.slices
 | _ => 0
def gvCode (al : Nat → Bool) : Code → List Nat
 | .region _ ops _ => ops.toList.flatMap fun o => match o.op with
  | .call c0 => match c0.callee with
   | .value (.func f) => match al f with
    | true => c0.args.toList.filterMap fun | .tmp t => some t | _ => none
    | false => []
   | _ => []
  | _ => []
 | .seq a b => gvCode al a ++ gvCode al b
 | .cond _ a b => gvCode al a ++ gvCode al b
 | .block _ a => gvCode al a
 | .loop a => gvCode al a
 | _ => []
def codeVars (c : Code) : List Nat := (codeVars0 c).filter fun v => !movesOn (codeUse 1 0 c) v
end Go.Mach
namespace Go.Mach
inductive LT where
 | leaf | nil | node (b off cap : Nat) (rows : List LT) | pair (a b : LT)
 deriving Inhabited
def RowAt (w : World) (b o : Nat) (vs : List Value) : Prop := ∀ i v, vs[i]? = some v → w.cell? ⟨b, o + i, none⟩ = some v
def Room (w : World) (b n : Nat) : Prop := ∃ c e fr, w.heap[b]? = some (.cells c e fr) ∧ n ≤ c.size ∧ (c.size ≤ fr.1 ∨ fr.2 ≤ fr.1)
def RepL (dr : Bool) (w : World) (sz : Nat) {α : Type} (R : α → LT → List Value → Prop) (l : List α) (L : LT) (v : Value) : Prop :=
 (L = .nil ∧ l = [] ∧ ∃ a cap, v = .slice a 0 cap ∧ (dr = true → cap = 0)) ∨
 (∃ b off cap rows, L = .node b off cap rows ∧ v = .slice (some ⟨b, off, none⟩) l.length cap ∧ l.length ≤ cap ∧ rows.length = l.length ∧ w.heap[b]? ≠ none ∧
  (dr = true → Room w b (off + cap * sz)) ∧
  ∀ i x r, l[i]? = some x → rows[i]? = some r → ∃ vs, RowAt w b (off + i * sz) vs ∧ R x r vs)
def Rep (d : Bool) (w : World) : (k : K) → k.T → LT → List Value → Prop
 | .int ik, x, _, cs => cs = [.int ik x]
 | .bool, x, _, cs => cs = [.bool x]
 | .str, x, _, cs => cs = [.string ⟨⟨x⟩⟩]
 | .list k, l, L, cs => ∃ v, cs = [v] ∧ RepL d w k.size (Rep d w k) l L v
 | .pair a b, x, L, cs => ∃ La Lb c1 c2, L = .pair La Lb ∧ cs = c1 ++ c2 ∧ Rep d w a x.1 La c1 ∧ Rep d w b x.2 Lb c2
def fp : K → LT → List Nat
 | .list k, L => match L with
  | .node b _ _ rows => b :: rows.flatMap (fp k)
  | _ => []
 | .pair a b, L => match L with
  | .pair x y => fp a x ++ fp b y
  | _ => []
 | _, _ => []
theorem Rep.size {d : Bool} {w : World} : ∀ {k : K} {x : k.T} {L : LT} {cs : List Value}, Rep d w k x L cs → cs.length = k.size
 | .int _, _, _, _, h => by simp only [Rep] at h; simp [h, K.size]
 | .bool, _, _, _, h => by simp only [Rep] at h; simp [h, K.size]
 | .str, _, _, _, h => by simp only [Rep] at h; simp [h, K.size]
 | .list _, _, _, _, h => by simp only [Rep] at h; obtain ⟨v, rfl, _⟩ := h; simp [K.size]
 | .pair a b, _, _, _, h => by
  simp only [Rep] at h
  obtain ⟨La, Lb, c1, c2, _, rfl, h1, h2⟩ := h
  simp [K.size, h1.size, h2.size]
theorem K.size_pos : ∀ k : K, 0 < k.size
 | .int _ => by simp [K.size]
 | .bool => by simp [K.size]
 | .str => by simp [K.size]
 | .list _ => by simp [K.size]
 | .pair a b => by simp only [K.size]; have := a.size_pos; omega
def Same (w w' : World) (bs : List Nat) : Prop := ∀ b ∈ bs, w'.heap[b]? = w.heap[b]?
theorem cell_same {w w' : World} {b o : Nat} (h : w'.heap[b]? = w.heap[b]?) : w'.cell? ⟨b, o, none⟩ = w.cell? ⟨b, o, none⟩ := by
 simp only [World.cell?, h]
theorem RowAt.same {w w' : World} {b o : Nat} {vs : List Value} (h : RowAt w b o vs) (hs : w'.heap[b]? = w.heap[b]?) : RowAt w' b o vs :=
 fun i v hv => by rw [cell_same hs]; exact h i v hv
theorem Room.same {w w' : World} {b n : Nat} (h : Room w b n) (hs : w'.heap[b]? = w.heap[b]?) : Room w' b n := by
 obtain ⟨c, e, fr, h1, h2⟩ := h
 exact ⟨c, e, fr, by rw [hs]; exact h1, h2⟩
theorem Rep.same {d : Bool} {w w' : World} : ∀ {k : K} {x : k.T} {L : LT} {cs : List Value}, Rep d w k x L cs → Same w w' (fp k L) → Rep d w' k x L cs
 | .int _, _, _, _, h, _ => h
 | .bool, _, _, _, h, _ => h
 | .str, _, _, _, h, _ => h
 | .list k, l, L, cs, h, hs => by
  simp only [Rep] at h ⊢
  obtain ⟨v, hv, h⟩ := h
  refine ⟨v, hv, ?_⟩
  rcases h with h | ⟨b, off, cap, rows, rfl, h1, h2, h3, h0, h4, h5⟩
  ·exact .inl h
  ·have hb : w'.heap[b]? = w.heap[b]? := hs b (by simp [fp])
   refine .inr ⟨b, off, cap, rows, rfl, h1, h2, h3, by rw [hb]; exact h0, fun hd => (h4 hd).same hb, fun i x r hx hr => ?_⟩
   obtain ⟨vs, g1, g2⟩ := h5 i x r hx hr
   refine ⟨vs, g1.same hb, g2.same fun b' hb' => hs b' ?_⟩
   simp only [fp, List.mem_cons, List.mem_flatMap]
   exact .inr ⟨r, List.mem_of_getElem? hr, hb'⟩
 | .pair a b, x, L, cs, h, hs => by
  simp only [Rep] at h ⊢
  obtain ⟨La, Lb, c1, c2, rfl, rfl, h1, h2⟩ := h
  exact ⟨La, Lb, c1, c2, rfl, rfl, h1.same fun b hb => hs b (by simp [fp, hb]), h2.same fun b hb => hs b (by simp [fp, hb])⟩
theorem Rep.weaken {d : Bool} {w : World} : ∀ {k : K} {x : k.T} {L : LT} {cs : List Value}, Rep d w k x L cs → Rep false w k x L cs
 | .int _, _, _, _, h => h
 | .bool, _, _, _, h => h
 | .str, _, _, _, h => h
 | .list k, l, L, cs, h => by
  simp only [Rep] at h ⊢
  obtain ⟨v, hv, h⟩ := h
  refine ⟨v, hv, ?_⟩
  rcases h with ⟨h1, h2, a, cap, h3, _⟩ | ⟨b, off, cap, rows, rfl, h1, h2, h3, h0, h4, h5⟩
  ·exact .inl ⟨h1, h2, a, cap, h3, by simp⟩
  ·refine .inr ⟨b, off, cap, rows, rfl, h1, h2, h3, h0, by simp, fun i x r hx hr => ?_⟩
   obtain ⟨vs, g1, g2⟩ := h5 i x r hx hr
   exact ⟨vs, g1, g2.weaken⟩
 | .pair a b, x, L, cs, h => by
  simp only [Rep] at h ⊢
  obtain ⟨La, Lb, c1, c2, rfl, rfl, h1, h2⟩ := h
  exact ⟨La, Lb, c1, c2, rfl, rfl, h1.weaken, h2.weaken⟩
theorem fp_flat : ∀ {k : K} {L : LT}, k.flat = true → fp k L = []
 | .int _, _, _ => rfl
 | .bool, _, _ => rfl
 | .str, _, _ => rfl
 | .list _, _, h => by simp [K.flat] at h
 | .pair a b, L, h => by
  simp only [K.flat, Bool.and_eq_true] at h
  cases L <;> simp [fp, fp_flat h.1, fp_flat h.2]
theorem Rep.flat {d d' : Bool} {w w' : World} : ∀ {k : K} {x : k.T} {L : LT} {cs : List Value}, k.flat = true → Rep d w k x L cs → Rep d' w' k x L cs
 | .int _, _, _, _, _, h => h
 | .bool, _, _, _, _, h => h
 | .str, _, _, _, _, h => h
 | .list _, _, _, _, hf, _ => by simp [K.flat] at hf
 | .pair a b, x, L, cs, hf, h => by
  simp only [K.flat, Bool.and_eq_true] at hf
  simp only [Rep] at h ⊢
  obtain ⟨La, Lb, c1, c2, rfl, rfl, h1, h2⟩ := h
  exact ⟨La, Lb, c1, c2, rfl, rfl, h1.flat hf.1, h2.flat hf.2⟩
def leafL : K → LT → Nat → LT
 | .pair a b, L, c => match L with
  | .pair x y => if c < a.size then leafL a x c else leafL b y (c - a.size)
  | _ => .leaf
 | _, L, _ => L
def setLeafL : K → LT → Nat → LT → LT
 | .pair a b, L, c, M => match L with
  | .pair x y => if c < a.size then .pair (setLeafL a x c M) y else .pair x (setLeafL b y (c - a.size) M)
  | _ => L
 | _, _, _, M => M
theorem leafV_kind : ∀ (k : K) (x : k.T) (c : Nat), (leafV k x c).1 = k.leaf c
 | .int _, _, _ => rfl
 | .bool, _, _ => rfl
 | .str, _, _ => rfl
 | .list _, _, _ => rfl
 | .pair a b, x, c => by
  simp only [leafV, K.leaf]
  split
  ·exact leafV_kind a x.1 c
  ·exact leafV_kind b x.2 _
theorem Rep.leaf {d : Bool} {w : World} : ∀ {k : K} {x : k.T} {L : LT} {cs : List Value} {c : Nat}, Rep d w k x L cs → c < k.size →
  ∃ v, cs[c]? = some v ∧ Rep d w (leafV k x c).1 (leafV k x c).2 (leafL k L c) [v] ∧ ∀ b ∈ fp (leafV k x c).1 (leafL k L c), b ∈ fp k L
 | .int _, _, _, cs, c, h, hc => by
  simp only [Rep] at h; simp only [K.size] at hc
  obtain rfl : c = 0 := by omega
  exact ⟨_, by rw [h]; rfl, by simp [leafV, Rep], by simp [leafV, fp]⟩
 | .bool, _, _, cs, c, h, hc => by
  simp only [Rep] at h; simp only [K.size] at hc
  obtain rfl : c = 0 := by omega
  exact ⟨_, by rw [h]; rfl, by simp [leafV, Rep], by simp [leafV, fp]⟩
 | .str, _, _, cs, c, h, hc => by
  simp only [Rep] at h; simp only [K.size] at hc
  obtain rfl : c = 0 := by omega
  exact ⟨_, by rw [h]; rfl, by simp [leafV, Rep], by simp [leafV, fp]⟩
 | .list k, l, L, cs, c, h, hc => by
  simp only [K.size] at hc
  obtain rfl : c = 0 := by omega
  have h' := h
  simp only [Rep] at h'
  obtain ⟨v, rfl, _⟩ := h'
  exact ⟨v, rfl, by simpa [leafV, leafL] using h, by simp [leafV, leafL]⟩
 | .pair a b, x, L, cs, c, h, hc => by
  simp only [Rep] at h
  obtain ⟨La, Lb, c1, c2, rfl, rfl, h1, h2⟩ := h
  have s1 := h1.size
  simp only [K.size] at hc
  by_cases hlt : c < a.size
  ·have q : leafV (.pair a b) x c = leafV a x.1 c := if_pos hlt
   have q' : leafL (.pair a b) (.pair La Lb) c = leafL a La c := if_pos hlt
   rw [q, q']
   obtain ⟨v, e1, e2, e3⟩ := h1.leaf hlt
   refine ⟨v, ?_, e2, fun b hb => by simp [fp, e3 b hb]⟩
   rw [List.getElem?_append_left (by omega)]; exact e1
  ·have q : leafV (.pair a b) x c = leafV b x.2 (c - a.size) := if_neg hlt
   have q' : leafL (.pair a b) (.pair La Lb) c = leafL b Lb (c - a.size) := if_neg hlt
   rw [q, q']
   obtain ⟨v, e1, e2, e3⟩ := h2.leaf (c := c - a.size) (by omega)
   refine ⟨v, ?_, e2, fun b hb => by simp [fp, e3 b hb]⟩
   rw [List.getElem?_append_right (by omega), s1]; exact e1
theorem castT_same (k : K) (y d : k.T) : castT ⟨k, y⟩ k d = y := by simp [castT]
theorem Rep.setLeaf {d : Bool} {w : World} : ∀ {k : K} {x : k.T} {L : LT} {cs : List Value} {c : Nat} {s : Sg} {M : LT} {v : Value}, Rep d w k x L cs → c < k.size →
  s.1 = k.leaf c → Rep d w s.1 s.2 M [v] → Rep d w k (setLeaf k x c s) (setLeafL k L c M) (cs.set c v)
 | .int i, x, L, cs, c, ⟨k', y⟩, M, v, h, hc, hk, hv => by
  simp only [Rep] at h; simp only [K.size] at hc
  obtain rfl : c = 0 := by omega
  simp only [K.leaf] at hk
  subst hk
  simp only [Rep] at hv ⊢
  rw [h]
  simp only [Mach.setLeaf, castT_same, List.set_cons_zero]
  exact hv
 | .bool, x, L, cs, c, ⟨k', y⟩, M, v, h, hc, hk, hv => by
  simp only [Rep] at h; simp only [K.size] at hc
  obtain rfl : c = 0 := by omega
  simp only [K.leaf] at hk
  subst hk
  simp only [Rep] at hv ⊢
  rw [h]
  simp only [Mach.setLeaf, castT_same, List.set_cons_zero]
  exact hv
 | .str, x, L, cs, c, ⟨k', y⟩, M, v, h, hc, hk, hv => by
  simp only [Rep] at h; simp only [K.size] at hc
  obtain rfl : c = 0 := by omega
  simp only [K.leaf] at hk
  subst hk
  simp only [Rep] at hv ⊢
  rw [h]
  simp only [Mach.setLeaf, castT_same, List.set_cons_zero]
  exact hv
 | .list k, x, L, cs, c, ⟨k', y⟩, M, v, h, hc, hk, hv => by
  simp only [K.size] at hc
  obtain rfl : c = 0 := by omega
  simp only [K.leaf] at hk
  subst hk
  have h' := h
  simp only [Rep] at h'
  obtain ⟨u, rfl, _⟩ := h'
  simpa [Mach.setLeaf, castT_same, setLeafL] using hv
 | .pair a b, x, L, cs, c, s, M, v, h, hc, hk, hv => by
  simp only [Rep] at h
  obtain ⟨La, Lb, c1, c2, rfl, rfl, h1, h2⟩ := h
  have s1 := h1.size
  simp only [K.size] at hc
  simp only [K.leaf] at hk
  simp only [Mach.setLeaf, setLeafL]
  by_cases hlt : c < a.size
  ·simp only [hlt, if_true] at hk ⊢
   simp only [Rep]
   exact ⟨_, _, c1.set c v, c2, rfl, by rw [List.set_append_left _ _ (by omega)], h1.setLeaf hlt hk hv, h2⟩
  ·simp only [hlt, if_false] at hk ⊢
   simp only [Rep]
   exact ⟨_, _, c1, c2.set (c - a.size) v, rfl, by rw [List.set_append_right _ _ (by omega), s1], h1, h2.setLeaf (by omega) hk hv⟩
def restL : K → LT → Nat → List Nat
 | .pair a b, L, c => match L with
  | .pair x y => if c < a.size then restL a x c ++ fp b y else fp a x ++ restL b y (c - a.size)
  | _ => []
 | _, _, _ => []
theorem leaf_perm {d : Bool} {w : World} : ∀ {k : K} {x : k.T} {L : LT} {cs : List Value} {c : Nat}, Rep d w k x L cs → c < k.size →
  (fp k L).Perm (fp (k.leaf c) (leafL k L c) ++ restL k L c) ∧ ∀ M, (fp k (setLeafL k L c M)).Perm (fp (k.leaf c) M ++ restL k L c)
 | .int i, _, L, _, _, _, _ => ⟨by simp [fp, restL, K.leaf], fun M => by simp [fp, restL, K.leaf]⟩
 | .bool, _, L, _, _, _, _ => ⟨by simp [fp, restL, K.leaf], fun M => by simp [fp, restL, K.leaf]⟩
 | .str, _, L, _, _, _, _ => ⟨by simp [fp, restL, K.leaf], fun M => by simp [fp, restL, K.leaf]⟩
 | .list k, _, L, _, _, _, _ => ⟨by simp [K.leaf, leafL, restL], fun M => by simp [K.leaf, setLeafL, restL]⟩
 | .pair a b, x, L, cs, c, h, hc => by
  simp only [Rep] at h
  obtain ⟨La, Lb, c1, c2, rfl, rfl, h1, h2⟩ := h
  simp only [K.size] at hc
  by_cases hlt : c < a.size
  ·obtain ⟨p1, p2⟩ := leaf_perm h1 hlt
   refine ⟨?_, fun M => ?_⟩
   ·simp only [K.leaf, leafL, restL, if_pos hlt, fp]
    rw [← List.append_assoc]
    exact p1.append_right _
   ·simp only [K.leaf, setLeafL, restL, if_pos hlt, fp]
    rw [← List.append_assoc]
    exact (p2 M).append_right _
  ·obtain ⟨p1, p2⟩ := leaf_perm h2 (c := c - a.size) (by omega)
   refine ⟨?_, fun M => ?_⟩
   ·simp only [K.leaf, leafL, restL, if_neg hlt, fp]
    refine (p1.append_left (fp a La)).trans ?_
    rw [← List.append_assoc, ← List.append_assoc]
    exact List.perm_append_comm.append_right _
   ·simp only [K.leaf, setLeafL, restL, if_neg hlt, fp]
    refine ((p2 M).append_left (fp a La)).trans ?_
    rw [← List.append_assoc, ← List.append_assoc]
    exact List.perm_append_comm.append_right _
theorem row_back {vs : List Value} {c : Nat} {v : Value} (h : vs[c]? = some v) : vs.set c v = vs := by
 apply List.ext_getElem?
 intro i
 by_cases e : c = i
 ·subst e
  rw [h]
  have : c < vs.length := by
   rcases Nat.lt_or_ge c vs.length with g | g
   ·exact g
   ·rw [List.getElem?_eq_none g] at h; simp at h
  simp [this]
 ·rw [List.getElem?_set_ne e]
theorem Rep.setLeaf_same {d : Bool} {w w' : World} : ∀ {k : K} {x : k.T} {L : LT} {cs : List Value} {c : Nat} {s : Sg} {M : LT} {v : Value}, Rep d w k x L cs → c < k.size →
  s.1 = k.leaf c → Rep d w' s.1 s.2 M [v] → Same w w' (restL k L c) → Rep d w' k (Mach.setLeaf k x c s) (setLeafL k L c M) (cs.set c v)
 | .int i, x, L, cs, c, ⟨k', y⟩, M, v, h, hc, hk, hv, _ => Rep.setLeaf (k := .int i) (w := w') (x := x) (L := L) h hc hk hv
 | .bool, x, L, cs, c, ⟨k', y⟩, M, v, h, hc, hk, hv, _ => Rep.setLeaf (k := .bool) (w := w') (x := x) (L := L) h hc hk hv
 | .str, x, L, cs, c, ⟨k', y⟩, M, v, h, hc, hk, hv, _ => Rep.setLeaf (k := .str) (w := w') (x := x) (L := L) h hc hk hv
 | .list k, x, L, cs, c, ⟨k', y⟩, M, v, h, hc, hk, hv, _ => by
  simp only [K.size] at hc
  obtain rfl : c = 0 := by omega
  simp only [K.leaf] at hk
  subst hk
  have h' := h
  simp only [Rep] at h'
  obtain ⟨u, rfl, _⟩ := h'
  simpa [Mach.setLeaf, castT_same, setLeafL] using hv
 | .pair a b, x, L, cs, c, s, M, v, h, hc, hk, hv, hs => by
  simp only [Rep] at h
  obtain ⟨La, Lb, c1, c2, rfl, rfl, h1, h2⟩ := h
  have s1 := h1.size
  simp only [K.size] at hc
  simp only [K.leaf] at hk
  simp only [Mach.setLeaf, setLeafL]
  by_cases hlt : c < a.size
  ·simp only [hlt, if_true] at hk ⊢
   simp only [restL, if_pos hlt] at hs
   simp only [Rep]
   exact ⟨_, _, c1.set c v, c2, rfl, by rw [List.set_append_left _ _ (by omega)], h1.setLeaf_same hlt hk hv (fun b hb => hs b (by simp [hb])), h2.same (fun b hb => hs b (by simp [hb]))⟩
  ·simp only [hlt, if_false] at hk ⊢
   simp only [restL, if_neg hlt] at hs
   simp only [Rep]
   exact ⟨_, _, c1, c2.set (c - a.size) v, rfl, by rw [List.set_append_right _ _ (by omega), s1], h1.same (fun b hb => hs b (by simp [hb])), h2.setLeaf_same (by omega) hk hv (fun b hb => hs b (by simp [hb]))⟩
def restRows {α β : Type} (f : α → List β) (rows : List α) (i : Nat) : List β := (rows.take i ++ rows.drop (i + 1)).flatMap f
theorem flat_perm {α β : Type} (f : α → List β) (rows : List α) (i : Nat) (r : α) (h : rows[i]? = some r) :
  (rows.flatMap f).Perm (f r ++ restRows f rows i) ∧ ∀ r', ((rows.set i r').flatMap f).Perm (f r' ++ restRows f rows i) := by
 induction rows generalizing i with
 | nil => simp at h
 | cons a rows ih =>
  cases i with
  | zero =>
   simp at h
   subst h
   exact ⟨by simp [restRows], fun r' => by simp [restRows]⟩
  | succ i =>
   simp at h
   obtain ⟨p1, p2⟩ := ih i h
   refine ⟨?_, fun r' => ?_⟩
   ·simp only [List.flatMap_cons, restRows, List.take_succ_cons, List.drop_succ_cons, List.cons_append]
    refine (p1.append_left (f a)).trans ?_
    rw [← List.append_assoc, ← List.append_assoc]
    exact List.perm_append_comm.append_right _
   ·simp only [List.set_cons_succ, List.flatMap_cons, restRows, List.take_succ_cons, List.drop_succ_cons, List.cons_append]
    refine ((p2 r').append_left (f a)).trans ?_
    rw [← List.append_assoc, ← List.append_assoc]
    exact List.perm_append_comm.append_right _
theorem flat_rest {α β : Type} (f : α → List β) (rows : List α) {i i' : Nat} {r' : α} (h : rows[i']? = some r') (hne : i ≠ i') {b : β} (hb : b ∈ f r') : b ∈ restRows f rows i := by
 refine List.mem_flatMap.2 ⟨r', ?_, hb⟩
 rw [List.mem_append]
 rcases Nat.lt_or_gt_of_ne hne with g | g
 ·right
  refine List.mem_of_getElem? (i := i' - (i + 1)) ?_
  rw [List.getElem?_drop, ← h]
  congr 1
  omega
 ·left
  refine List.mem_of_getElem? (i := i') ?_
  rw [List.getElem?_take_of_lt g, h]
theorem RepL.elem {dr d : Bool} {w : World} {k : K} {l : List k.T} {L : LT} {v : Value} (h : RepL dr w k.size (Rep d w k) l L v) {i : Nat} (hi : i < l.length) :
  ∃ b off cap rows r vs, L = .node b off cap rows ∧ v = .slice (some ⟨b, off, none⟩) l.length cap ∧ l.length ≤ cap ∧ rows.length = l.length ∧ rows[i]? = some r ∧
   RowAt w b (off + i * k.size) vs ∧ Rep d w k (l.getD i k.dflt) r vs := by
 rcases h with ⟨_, h, _⟩ | ⟨b, off, cap, rows, h1, h2, h3, h4, _, _, h5⟩
 ·subst h; simp at hi
 ·have hr : rows[i]? = some (rows[i]'(by omega)) := List.getElem?_eq_getElem (by omega)
  have hx : l[i]? = some (l.getD i k.dflt) := by simp [List.getElem?_eq_getElem hi]
  obtain ⟨vs, g1, g2⟩ := h5 i _ _ hx hr
  exact ⟨b, off, cap, rows, _, vs, h1, h2, h3, h4, hr, g1, g2⟩
def PathOk : (k : K) → List k.T → Path → Prop
 | _, _, [] => True
 | k, l, (i, c) :: p => i < l.length ∧ c < k.size ∧
  match leafV k (l.getD i k.dflt) c with
  | ⟨.list k', y⟩ => PathOk k' y p
  | _ => False
def subL : K → LT → Path → LT
 | _, L, [] => L
 | k, L, (i, c) :: p => match L, k.leaf c with
  | .node _ _ _ rows, .list k' => subL k' (leafL k (rows.getD i .leaf) c) p
  | _, _ => .leaf
def setSub (k : K) (L : LT) (M : LT) : Path → LT
 | [] => M
 | (i, c) :: p => match L, k.leaf c with
  | .node b off cap rows, .list k' => .node b off cap (rows.set i (setLeafL k (rows.getD i .leaf) c (setSub k' (leafL k (rows.getD i .leaf) c) M p)))
  | _, _ => .leaf
theorem leafV_list {k : K} {x : k.T} {c : Nat} {k' : K} {y : List k'.T} (h : leafV k x c = ⟨.list k', y⟩) : k.leaf c = .list k' := by
 rw [← leafV_kind k x c, h]
theorem Rep.any {w : World} {k : K} {x : k.T} {L : LT} {cs : List Value} (dd : Bool) (h : Rep true w k x L cs) : Rep dd w k x L cs := by
 cases dd
 ·exact h.weaken
 ·exact h
theorem RepL.any {d : Bool} {w : World} {k : K} {l : List k.T} {L : LT} {v : Value} (dd : Bool) (h : RepL true w k.size (Rep d w k) l L v) : RepL dd w k.size (Rep d w k) l L v := by
 cases dd
 ·rcases h with ⟨h1, h2, a, cap, h3, _⟩ | ⟨b, off, cap, rows, h1, h2, h3, h4, h0, _, h6⟩
  ·exact .inl ⟨h1, h2, a, cap, h3, by simp⟩
  ·exact .inr ⟨b, off, cap, rows, h1, h2, h3, h4, h0, by simp, h6⟩
 ·exact h
theorem focus {w : World} (g : (k : K) → List k.T → List k.T) : ∀ (p : Path) (k : K) (l : List k.T) (L : LT) (v : Value), RepL true w k.size (Rep true w k) l L v → PathOk k l p →
  ∃ v' rest, RepL true w (getP k l p).1.size (Rep true w (getP k l p).1) (getP k l p).2 (subL k L p) v' ∧
   (fp (.list k) L).Perm (fp (.list (getP k l p).1) (subL k L p) ++ rest) ∧
   ∀ w' M dd, Same w w' rest → RepL true w' (getP k l p).1.size (Rep dd w' (getP k l p).1) (g (getP k l p).1 (getP k l p).2) M v' →
    RepL true w' k.size (Rep dd w' k) (modP g k l p) (setSub k L M p) v ∧ (fp (.list k) (setSub k L M p)).Perm (fp (.list (getP k l p).1) M ++ rest)
 | [], k, l, L, v, h, _ => ⟨v, [], by simpa [getP, subL] using h, by simp [getP, subL], fun w' M dd _ hM => ⟨by simpa [getP, modP, setSub] using hM, by simp [getP, setSub]⟩⟩
 | (i, c) :: p, k, l, L, v, h, hp => by
  simp only [PathOk] at hp
  obtain ⟨hi, hc, hp⟩ := hp
  have hlen := h.elem hi
  obtain ⟨b, off, cap, rows, r, vs, rfl, rfl, hcap, hrl, hr, hrow, hrep⟩ := hlen
  obtain ⟨v1, hv1, hleaf, hsub⟩ := hrep.leaf hc
  obtain ⟨q1, q2⟩ := leaf_perm hrep hc
  obtain ⟨q3, q4⟩ := flat_perm (fp k) rows i r hr
  have hrd : rows.getD i .leaf = r := by simp [hr]
  cases hl : leafV k (l.getD i k.dflt) c with
  | mk k1 y =>
   have hk := leafV_kind k (l.getD i k.dflt) c
   rw [hl] at hk hp hleaf hsub
   simp only at hk hleaf hsub
   cases k1 with
   | list k' =>
    simp only at hp
    simp only [Rep] at hleaf
    obtain ⟨u, hu, hleaf⟩ := hleaf
    simp only [List.cons.injEq, and_true] at hu
    subst hu
    obtain ⟨v', rest, f1, f2, f3⟩ := focus g p k' y (leafL k r c) v1 hleaf hp
    have eg : getP k l ((i, c) :: p) = getP k' y p := by simp only [getP, hl]
    have es : subL k (.node b off cap rows) ((i, c) :: p) = subL k' (leafL k r c) p := by simp only [subL, ← hk, hrd]
    rw [eg, es]
    rw [← hk] at q1 q2
    refine ⟨v', rest ++ (restL k r c ++ (b :: restRows (fp k) rows i)), f1, ?_, fun w' M dd hs hM => ?_⟩
    ·simp only [fp] at q1 f2 q3 ⊢
     have : (b :: rows.flatMap (fp k)).Perm (fp k r ++ (b :: restRows (fp k) rows i)) := (List.Perm.cons b q3).trans List.perm_middle.symm
     refine this.trans ?_
     refine (q1.append_right _).trans ?_
     rw [List.append_assoc]
     refine (f2.append_right _).trans ?_
     rw [List.append_assoc]
    ·obtain ⟨g1, g2⟩ := f3 w' M dd (fun b hb => hs b (by simp [hb])) hM
     have hb : w'.heap[b]? = w.heap[b]? := hs b (by simp)
     have em : modP g k l ((i, c) :: p) = l.set i (setLeaf k (l.getD i k.dflt) c ⟨.list k', modP g k' y p⟩) := by simp only [modP, hl]
     have eS : setSub k (.node b off cap rows) M ((i, c) :: p) = .node b off cap (rows.set i (setLeafL k r c (setSub k' (leafL k r c) M p))) := by simp only [setSub, ← hk, hrd]
     rw [em, eS]
     constructor
     ·rcases h with ⟨h, _⟩ | ⟨b', off', cap', rows', e1, e2, h3, h4, h0, h5, h6⟩
      ·simp at h
      simp only [LT.node.injEq] at e1
      obtain ⟨rfl, rfl, rfl, rfl⟩ := e1
      refine .inr ⟨b, off, cap, _, rfl, by simp, by simpa using hcap, by simpa using hrl, by rw [hb]; exact h0, fun hd => (h5 hd).same hb, fun i' x' r' hx' hr' => ?_⟩
      by_cases e : i = i'
      ·subst e
       rw [List.getElem?_set_self (by omega)] at hx' hr'
       simp only [Option.some.injEq] at hx' hr'
       subst hx' hr'
       refine ⟨vs, hrow.same hb, ?_⟩
       have := (hrep.any dd).setLeaf_same (w' := w') (s := ⟨.list k', modP g k' y p⟩) (M := setSub k' (leafL k r c) M p) (v := v1) hc hk (by simp only [Rep]; exact ⟨v1, rfl, g1.any dd⟩) (fun b' hb' => hs b' (by simp [hb']))
       rw [row_back hv1] at this
       exact this
      ·rw [List.getElem?_set_ne e] at hx' hr'
       obtain ⟨vs', a1, a2⟩ := h6 i' x' r' hx' hr'
       refine ⟨vs', a1.same hb, (a2.any dd).same fun b' hb' => hs b' ?_⟩
       have := flat_rest (fp k) rows hr' e hb'
       simp [this]
     ·simp only [fp]
      have : (b :: (rows.set i (setLeafL k r c (setSub k' (leafL k r c) M p))).flatMap (fp k)).Perm (fp k (setLeafL k r c (setSub k' (leafL k r c) M p)) ++ (b :: restRows (fp k) rows i)) :=
       (List.Perm.cons b (q4 _)).trans List.perm_middle.symm
      refine this.trans ?_
      refine ((q2 _).append_right _).trans ?_
      rw [List.append_assoc]
      simp only [fp] at g2
      refine (g2.append_right _).trans ?_
      rw [List.append_assoc]
   | _ => exact hp.elim
theorem Rep.there {d : Bool} {w : World} : ∀ {k : K} {x : k.T} {L : LT} {cs : List Value}, Rep d w k x L cs → ∀ b ∈ fp k L, w.heap[b]? ≠ none
 | .int _, _, _, _, _, b, hb => by simp [fp] at hb
 | .bool, _, _, _, _, b, hb => by simp [fp] at hb
 | .str, _, _, _, _, b, hb => by simp [fp] at hb
 | .list k, l, L, cs, h, b, hb => by
  simp only [Rep] at h
  obtain ⟨v, hv, h⟩ := h
  rcases h with ⟨rfl, _⟩ | ⟨b', off, cap, rows, rfl, h1, h2, h3, h0, h4, h5⟩
  ·simp [fp] at hb
  ·simp only [fp, List.mem_cons, List.mem_flatMap] at hb
   rcases hb with rfl | ⟨r, hr, hb⟩
   ·exact h0
   ·obtain ⟨i, hi⟩ := List.getElem?_of_mem hr
    have hlt : i < rows.length := by
     rcases Nat.lt_or_ge i rows.length with g | g
     ·exact g
     ·rw [List.getElem?_eq_none g] at hi; simp at hi
    obtain ⟨vs, _, g⟩ := h5 i (l[i]'(by omega)) r (List.getElem?_eq_getElem (by omega)) hi
    exact g.there b hb
 | .pair a b, x, L, cs, h, b', hb => by
  simp only [Rep] at h
  obtain ⟨La, Lb, c1, c2, rfl, rfl, h1, h2⟩ := h
  simp only [fp, List.mem_append] at hb
  rcases hb with hb | hb
  ·exact h1.there b' hb
  ·exact h2.there b' hb
theorem RepL.same {dr d : Bool} {w w' : World} {k : K} {l : List k.T} {L : LT} {v : Value} (h : RepL dr w k.size (Rep d w k) l L v) (hs : Same w w' (fp (.list k) L)) :
  RepL dr w' k.size (Rep d w' k) l L v := by
 rcases h with h | ⟨b, off, cap, rows, rfl, h1, h2, h3, h0, h4, h5⟩
 ·exact .inl h
 ·have hb : w'.heap[b]? = w.heap[b]? := hs b (by simp [fp])
  refine .inr ⟨b, off, cap, rows, rfl, h1, h2, h3, by rw [hb]; exact h0, fun hd => (h4 hd).same hb, fun i x r hx hr => ?_⟩
  obtain ⟨vs, g1, g2⟩ := h5 i x r hx hr
  refine ⟨vs, g1.same hb, g2.same fun b' hb' => hs b' ?_⟩
  simp only [fp, List.mem_cons, List.mem_flatMap]
  exact .inr ⟨r, List.mem_of_getElem? hr, hb'⟩
theorem RepL.weaken {dr d : Bool} {w : World} {k : K} {l : List k.T} {L : LT} {v : Value} (h : RepL dr w k.size (Rep d w k) l L v) : RepL dr w k.size (Rep false w k) l L v := by
 rcases h with h | ⟨b, off, cap, rows, rfl, h1, h2, h3, h0, h4, h5⟩
 ·exact .inl h
 ·refine .inr ⟨b, off, cap, rows, rfl, h1, h2, h3, h0, h4, fun i x r hx hr => ?_⟩
  obtain ⟨vs, g1, g2⟩ := h5 i x r hx hr
  exact ⟨vs, g1, g2.weaken⟩
theorem RepL.root {dr d : Bool} {w : World} {k : K} {l : List k.T} {L : LT} {v : Value} (h : RepL dr w k.size (Rep d w k) l L v) : RepL false w k.size (Rep d w k) l L v := by
 rcases h with ⟨h1, h2, a, cap, h3, _⟩ | ⟨b, off, cap, rows, rfl, h1, h2, h3, h0, h4, h5⟩
 ·exact .inl ⟨h1, h2, a, cap, h3, by simp⟩
 ·exact .inr ⟨b, off, cap, rows, rfl, h1, h2, h3, h0, by simp, h5⟩
theorem RepL.there {dr d : Bool} {w : World} {k : K} {l : List k.T} {L : LT} {v : Value} (h : RepL dr w k.size (Rep d w k) l L v) : ∀ b ∈ fp (.list k) L, w.heap[b]? ≠ none :=
 Rep.there (d := false) (k := .list k) (x := l) (cs := [v]) (by simp only [Rep]; exact ⟨v, rfl, h.root.weaken⟩)
end Go.Mach
namespace Go.Mach
set_option linter.unusedVariables false
structure Gh where
 vs : Nat → List Value
 lt : Nat → Nat → LT
 bk : Nat → Nat
 ow : Nat → Option Nat
def hdOf : LT → Option (Nat × Nat × Nat)
 | .node b off cap _ => some (b, off, cap)
 | _ => none
def Loc (k0 : K) (l0 : List k0.T) (L : LT) (p : Path) (k : K) (n : Nat) (hd : Option (Nat × Nat × Nat)) : Prop :=
 PathOk k0 l0 p ∧ (getP k0 l0 p).1 = k ∧ (getP k0 l0 p).2.length = n ∧ hdOf (subL k0 L p) = hd
def SliceIs (sz n : Nat) (hd : Option (Nat × Nat × Nat)) (lo hi : Option Nat) (v : Value) : Prop :=
 lo.getD 0 ≤ hi.getD n ∧ hi.getD n ≤ n ∧
 match hd with
 | none => ∃ a, v = .slice a 0 0 ∧ n = 0
 | some (b, off, cap) => n ≤ cap ∧ ∃ o, v = .slice (some ⟨b, o, none⟩) (hi.getD n - lo.getD 0) (cap - lo.getD 0) ∧ (cap - lo.getD 0 ≠ 0 → o = off + lo.getD 0 * sz)
def ownB : C → LT → List Nat
 | .own _ _ true k _, L => fp (.list k) L
 | .own _ _ false _ _, L => (hdOf L).toList.map (·.1)
 | _, _ => []
def inner (k : K) : LT → List Nat
 | .node _ _ _ rows => rows.flatMap (fp k)
 | _ => []
def Fits (e : Env) (s j rv sv : Nat) (p : Path) (Q : (k0 : K) → List k0.T → Prop) : Prop :=
 ∀ sv' d k0 l0, (e.get s).cs.getD j .dead = .own rv sv' d k0 l0 → (p = [] ∨ (svOk p sv sv' = true ∧ d = true)) → Q k0 l0
def DatOk (w : World) (ow : Nat → Option Nat) : C → Value → LT → Prop
 | .nil, v, _ => v = .slice none 0 0
 | .dat k x, v, L => Rep false w k x L [v] ∧ ∀ b ∈ fp k L, ow b = none
 | _, _, _ => False
def IsPtr (v : Value) : Prop := ∃ b o, v = .pointer (some ⟨b, o, none⟩)
def CellOk0 (e : Env) (w : World) (G : Gh) : C → Value → LT → Prop
 | .dead, _, _ => True
 | .nil, v, _ => v = .slice none 0 0
 | .dat k x, v, L => Rep false w k x L [v] ∧ ∀ b ∈ fp k L, G.ow b = none
 | .own _ _ d k l, v, L => RepL true w k.size (Rep d w k) l L v ∧ (d = false → ∀ b ∈ inner k L, G.ow b = none)
 | .ref s j rv sv p lo hi k, v, _ => rv < (e.get s).cnt ∧ (p ≠ [] → sv < (e.get s).cnt) ∧
   Fits e s j rv sv p fun k0 l0 => ∃ n hd, Loc k0 l0 (G.lt s j) p k n hd ∧ SliceIs k.size n hd lo hi v
 | .bptr s bv j, v, _ => bv < (e.get s).cnt ∧ ((e.get s).sh = .box bv → v = .pointer (some ⟨G.bk s, j, none⟩)) ∧ IsPtr v
 | .aptr s j rv sv p i c k, v, _ => IsPtr v ∧ rv < (e.get s).cnt ∧ (p ≠ [] → sv < (e.get s).cnt) ∧
   Fits e s j rv sv p fun k0 l0 => ∃ n b off cap, Loc k0 l0 (G.lt s j) p k n (some (b, off, cap)) ∧ i < n ∧ v = .pointer (some ⟨b, off + i * k.size + c, none⟩)
 | .pim cs j, v, _ => ∃ (b o : Nat) (vs : List Value) (Ls : Nat → LT), v = .pointer (some ⟨b, o + j, none⟩) ∧ G.ow b = none ∧ w.heap[b]? ≠ none ∧ RowAt w b o vs ∧ vs.length = cs.length ∧
   ∀ (i : Nat) c u, cs[i]? = some c → vs[i]? = some u → DatOk w G.ow c u (Ls i)
 | .fn _ _, _, _ => False
def CellOk (e : Env) (w : World) (G : Gh) : C → Value → LT → Prop
 | .fn f caps, v, _ => ∃ (us : List Value) (Ls : Nat → LT), v = .func (.func f) #[] us.toArray ∧ us.length = caps.length ∧
   ∀ (i : Nat) c u, caps[i]? = some c → us[i]? = some u → c.isFn = false ∧ c.isOwn = false ∧ CellOk0 e w G c u (Ls i)
 | c, v, L => CellOk0 e w G c v L
def cutVals : List (Option Nat) → List Value → List Value
 | [], _ => []
 | none :: r, vs => vs.headD (.tuple #[]) :: cutVals r (vs.drop 1)
 | some n :: r, vs => .agg (vs.take n).toArray :: cutVals r (vs.drop n)
def form : Sh → List Value → Value
 | .one, vs => vs.headD (.tuple #[])
 | .agg, vs => .agg vs.toArray
 | .tup ps, vs => .tuple (cutVals ps vs).toArray
 | _, _ => .tuple #[]
def fpCells (lt : Nat → LT) : Nat → List C → List Nat
 | _, [] => []
 | j, c :: r => ownB c (lt j) ++ fpCells lt (j + 1) r
def fpS (G : Gh) (s : Nat) (x : Slot) : List Nat :=
 (match x.sh with | .box _ => [G.bk s] | _ => []) ++ (match x.sh with | .dead => [] | _ => fpCells (G.lt s) 0 x.cs)
def FormIs (tm : Array Value) (s : Nat) (sh : Sh) (vs : List Value) (bk : Nat) : Prop := match sh with
 | .dead => True
 | .box _ => tm[s]? = some (.pointer (some ⟨bk, 0, none⟩))
 | sh => tm[s]? = some (form sh vs)
structure SlotOk (n : Nat) (e : Env) (tm : Array Value) (w : World) (G : Gh) (s : Nat) : Prop where
 form : s < n → FormIs tm s (e.get s).sh (G.vs s) (G.bk s)
 box : ∀ bv, (e.get s).sh = .box bv → bv < (e.get s).cnt ∧ ∃ ty, w.heap[G.bk s]? = some (.cells (G.vs s).toArray ty (0, 0))
 len : (e.get s).sh ≠ .dead → (G.vs s).length = (e.get s).cs.length
 cells : (e.get s).sh ≠ .dead → ∀ (j : Nat) c v, (e.get s).cs[j]? = some c → (G.vs s)[j]? = some v → CellOk e w G c v (G.lt s j)
 vers : (e.get s).sh ≠ .dead → ∀ (j : Nat) rv sv d k l, (e.get s).cs[j]? = some (.own rv sv d k l) → rv < (e.get s).cnt ∧ sv < (e.get s).cnt
 nodup : (fpS G s (e.get s)).Nodup
 own : ∀ b ∈ fpS G s (e.get s), G.ow b = some s
 dead : (e.get s).sh = .dead → (e.get s).cs = []
structure Inv (n : Nat) (e : Env) (tm : Array Value) (w : World) (G : Gh) : Prop where
 size : tm.size = n
 elen : n ≤ e.length
 slot : ∀ s, SlotOk n e tm w G s
 lt : ∀ b s, G.ow b = some s → b < w.heap.size
structure Keep (ow : Nat → Option Nat) (w w' : World) : Prop where
 size : w.heap.size ≤ w'.heap.size
 same : ∀ b, b < w.heap.size → ow b = none → w'.heap[b]? = w.heap[b]?
def Still (w w' : World) (ow ow' : Nat → Option Nat) : Prop := ∀ b, ow b = none → w.heap[b]? ≠ none → w'.heap[b]? = w.heap[b]? ∧ ow' b = none
theorem Rep.still {w w' : World} {ow ow' : Nat → Option Nat} {d : Bool} {k : K} {x : k.T} {L : LT} {cs : List Value} (h : Rep d w k x L cs) (ho : ∀ b ∈ fp k L, ow b = none) (hs : Still w w' ow ow') :
  Rep d w' k x L cs ∧ ∀ b ∈ fp k L, ow' b = none :=
 ⟨h.same fun b hb => (hs b (ho b hb) (h.there b hb)).1, fun b hb => (hs b (ho b hb) (h.there b hb)).2⟩
theorem DatOk.still {w w' : World} {ow ow' : Nat → Option Nat} {c : C} {v : Value} {L : LT} (h : DatOk w ow c v L) (hs : Still w w' ow ow') : DatOk w' ow' c v L := by
 cases c with
 | nil => exact h
 | dat k x => exact h.1.still h.2 hs
 | _ => exact h
structure TM (e e' : Env) (G G' : Gh) (t : Nat) : Prop where
 cnt : (e.get t).cnt ≤ (e'.get t).cnt
 loc : ∀ j rv sv' d' k0 l0', (e'.get t).cs.getD j .dead = .own rv sv' d' k0 l0' → rv < (e.get t).cnt →
  ∃ sv d l0, (e.get t).cs.getD j .dead = .own rv sv d k0 l0 ∧ (∀ k n hd, Loc k0 l0 (G.lt t j) [] k n hd → Loc k0 l0' (G'.lt t j) [] k n hd) ∧
   (d' = true → ∀ p a, p ≠ [] → a < (e.get t).cnt → svOk p a sv' = true → svOk p a sv = true ∧ d = true ∧ ∀ k n hd, Loc k0 l0 (G.lt t j) p k n hd → Loc k0 l0' (G'.lt t j) p k n hd)
 box : ∀ bv, (e'.get t).sh = .box bv → bv < (e.get t).cnt → (e.get t).sh = .box bv ∧ G'.bk t = G.bk t
theorem TM.refl {e e' : Env} {G G' : Gh} {t : Nat} (h : e'.get t = e.get t) (hl : ∀ j, G'.lt t j = G.lt t j) (hb : G'.bk t = G.bk t) : TM e e' G G' t where
 cnt := by rw [h]; exact Nat.le_refl _
 loc := by
  intro j rv sv' d' k0 l0' h1 _
  rw [h] at h1
  exact ⟨sv', d', l0', h1, fun k n hd hh => by rw [hl]; exact hh, fun hd p a _ _ ha => ⟨ha, hd, fun k n hd hh => by rw [hl]; exact hh⟩⟩
 box := by
  intro bv h1 _
  rw [h] at h1
  exact ⟨h1, hb⟩
theorem TM.fresh {e e' : Env} {G G' : Gh} {t : Nat} (hc : (e.get t).cnt ≤ (e'.get t).cnt)
  (h : ∀ j rv sv d k l, (e'.get t).cs.getD j .dead = .own rv sv d k l → (e.get t).cnt ≤ rv) (hb : ∀ bv, (e'.get t).sh = .box bv → (e.get t).cnt ≤ bv) : TM e e' G G' t where
 cnt := hc
 loc := by
  intro j rv sv' d' k0 l0' h1 h2
  have := h _ _ _ _ _ _ h1
  omega
 box := by
  intro bv h1 h2
  have := hb _ h1
  omega
theorem Fits.mono {e e' : Env} {G G' : Gh} {s j rv sv : Nat} {p : Path} (ht : TM e e' G G' s) (hrv : rv < (e.get s).cnt) (hsv : p ≠ [] → sv < (e.get s).cnt)
  {k : K} {R : Nat → Option (Nat × Nat × Nat) → Prop}
  (h : Fits e s j rv sv p fun k0 l0 => ∃ n hd, Loc k0 l0 (G.lt s j) p k n hd ∧ R n hd) :
  Fits e' s j rv sv p fun k0 l0 => ∃ n hd, Loc k0 l0 (G'.lt s j) p k n hd ∧ R n hd := by
 intro sv' d k0 l0 h1 h2
 obtain ⟨sv1, d1, l1, h3, h4, h5⟩ := ht.loc _ _ _ _ _ _ h1 hrv
 rcases h2 with rfl | ⟨h2, rfl⟩
 ·obtain ⟨n, hd, g1, g2⟩ := h sv1 d1 k0 l1 h3 (.inl rfl)
  exact ⟨n, hd, h4 _ _ _ g1, g2⟩
 ·by_cases hp : p = []
  ·subst hp
   obtain ⟨n, hd, g1, g2⟩ := h sv1 d1 k0 l1 h3 (.inl rfl)
   exact ⟨n, hd, h4 _ _ _ g1, g2⟩
  ·obtain ⟨q1, q2, q3⟩ := h5 rfl p sv hp (hsv hp) h2
   obtain ⟨n, hd, g1, g2⟩ := h sv1 d1 k0 l1 h3 (.inr ⟨q1, q2⟩)
   exact ⟨n, hd, q3 _ _ _ g1, g2⟩
theorem CellOk0.frame {e e' : Env} {w w' : World} {G G' : Gh} {c : C} {v : Value} {L : LT} (h : CellOk0 e w G c v L) (ht : ∀ t, TM e e' G G' t)
  (hs : Still w w' G.ow G'.ow) (ho : Same w w' (ownB c L)) : CellOk0 e' w' G' c v L := by
 cases c with
 | dead => exact h
 | nil => exact h
 | dat k x => exact h.1.still h.2 hs
 | own rv sv d k l =>
  obtain ⟨h1, h2⟩ := h
  cases d with
  | true => exact ⟨h1.same ho, fun hd => by cases hd⟩
  | false =>
   have h2 := h2 rfl
   have hin : ∀ b ∈ inner k L, w'.heap[b]? = w.heap[b]? ∧ G'.ow b = none := fun b hb => by
    refine hs b (h2 b hb) (h1.there b ?_)
    cases L <;> simp_all [inner, fp]
   refine ⟨h1.same fun b hb => ?_, fun _ b hb => (hin b hb).2⟩
   cases L with
   | node b' off cap rows =>
    simp only [fp, List.mem_cons] at hb
    rcases hb with rfl | hb
    ·exact ho b (by simp [ownB, hdOf])
    ·exact (hin b (by simpa [inner] using hb)).1
   | _ => simp [fp] at hb
 | ref s j rv sv p lo hi k =>
  obtain ⟨h1, h2, h3⟩ := h
  exact ⟨Nat.lt_of_lt_of_le h1 (ht s).cnt, fun hp => Nat.lt_of_lt_of_le (h2 hp) (ht s).cnt, Fits.mono (ht s) h1 h2 h3⟩
 | bptr s bv j =>
  obtain ⟨h1, h2, h3⟩ := h
  refine ⟨Nat.lt_of_lt_of_le h1 (ht s).cnt, fun hb => ?_, h3⟩
  obtain ⟨q1, q2⟩ := (ht s).box bv hb h1
  rw [q2]
  exact h2 q1
 | aptr s j rv sv p i c k =>
  obtain ⟨h0, h1, h2, h3⟩ := h
  refine ⟨h0, Nat.lt_of_lt_of_le h1 (ht s).cnt, fun hp => Nat.lt_of_lt_of_le (h2 hp) (ht s).cnt, ?_⟩
  have := Fits.mono (k := k) (R := fun n hd => ∃ b off cap, hd = some (b, off, cap) ∧ i < n ∧ v = .pointer (some ⟨b, off + i * k.size + c, none⟩)) (ht s) h1 h2
   (fun sv' d k0 l0 a1 a2 => by
    obtain ⟨n, b, off, cap, a3, a4⟩ := h3 sv' d k0 l0 a1 a2
    exact ⟨n, _, a3, b, off, cap, rfl, a4⟩)
  intro sv' d k0 l0 a1 a2
  obtain ⟨n, hd, a3, b, off, cap, rfl, a4⟩ := this sv' d k0 l0 a1 a2
  exact ⟨n, b, off, cap, a3, a4⟩
 | pim cs j =>
  obtain ⟨b, o, vs, Ls, h1, h2, h3, h4, h5, h6⟩ := h
  obtain ⟨q1, q2⟩ := hs b h2 h3
  exact ⟨b, o, vs, Ls, h1, q2, by rw [q1]; exact h3, h4.same q1, h5, fun i c u hc hu => (h6 i c u hc hu).still hs⟩
 | fn _ _ => exact h
theorem CellOk.frame {e e' : Env} {w w' : World} {G G' : Gh} {c : C} {v : Value} {L : LT} (h : CellOk e w G c v L) (ht : ∀ t, TM e e' G G' t)
  (hs : Still w w' G.ow G'.ow) (ho : Same w w' (ownB c L)) : CellOk e' w' G' c v L := by
 cases c with
 | fn f caps =>
  obtain ⟨us, Ls, h1, h2, h3⟩ := h
  refine ⟨us, Ls, h1, h2, fun i c u hc hu => ?_⟩
  obtain ⟨g1, g2, g3⟩ := h3 i c u hc hu
  refine ⟨g1, g2, g3.frame ht hs fun b hb => ?_⟩
  cases c with
  | own _ _ d k l => simp [C.isOwn] at g2
  | _ => simp [ownB] at hb
 | dead => trivial
 | nil => exact CellOk0.frame (c := .nil) h ht hs ho
 | dat k x => exact CellOk0.frame (c := .dat k x) h ht hs ho
 | own rv sv d k l => exact CellOk0.frame (c := .own rv sv d k l) h ht hs ho
 | ref s j rv sv p lo hi k => exact CellOk0.frame (c := .ref s j rv sv p lo hi k) h ht hs ho
 | bptr s bv j => exact CellOk0.frame (c := .bptr s bv j) h ht hs ho
 | aptr s j rv sv p i c k => exact CellOk0.frame (c := .aptr s j rv sv p i c k) h ht hs ho
 | pim cs j => exact CellOk0.frame (c := .pim cs j) h ht hs ho
theorem SlotOk.frame {n : Nat} {e e' : Env} {tm tm' : Array Value} {w w' : World} {G G' : Gh} {s : Nat} (h : SlotOk n e tm w G s) (hx : e'.get s = e.get s)
  (htm : s < n → tm'[s]? = tm[s]?) (hv : G'.vs s = G.vs s) (hl : ∀ j, G'.lt s j = G.lt s j) (hb : G'.bk s = G.bk s)
  (ht : ∀ t, TM e e' G G' t) (hs : Still w w' G.ow G'.ow) (ho : ∀ b ∈ fpS G s (e.get s), w'.heap[b]? = w.heap[b]? ∧ G'.ow b = some s) : SlotOk n e' tm' w' G' s := by
 have hl' : G'.lt s = G.lt s := funext hl
 have hf : fpS G' s (e'.get s) = fpS G s (e.get s) := by simp only [fpS, hx, hb, hl']
 have hcell : ∀ (j : Nat) c, (e.get s).sh ≠ .dead → (e.get s).cs[j]? = some c → ∀ b ∈ ownB c (G.lt s j), b ∈ fpS G s (e.get s) := by
  intro j c hsh hc b hb
  have key : ∀ (cs : List C) (i j : Nat), cs[j]? = some c → b ∈ ownB c (G.lt s (i + j)) → b ∈ fpCells (G.lt s) i cs := by
   intro cs
   induction cs with
   | nil => intro i j h; simp at h
   | cons a cs ih =>
    intro i j h hb
    cases j with
    | zero => simp at h; subst h; simp only [fpCells, List.mem_append]; left; simpa using hb
    | succ j =>
     simp at h
     simp only [fpCells, List.mem_append]
     right
     exact ih (i + 1) j h (by rw [show i + 1 + j = i + (j + 1) by omega]; exact hb)
  have := key (e.get s).cs 0 j hc (by simpa using hb)
  simp only [fpS, List.mem_append]
  right
  cases hh : (e.get s).sh <;> simp_all
 refine ⟨?_, ?_, ?_, ?_, ?_, ?_, ?_, ?_⟩
 ·intro hn
  have := h.form hn
  rw [hx, hv, hb]
  simp only [FormIs] at this ⊢
  rw [htm hn]
  exact this
 ·intro bv hbv
  rw [hx] at hbv
  obtain ⟨g1, ty, g2⟩ := h.box bv hbv
  refine ⟨by rw [hx]; exact g1, ty, ?_⟩
  rw [hb, hv, (ho (G.bk s) (by simp only [fpS, hbv]; simp)).1]
  exact g2
 ·rw [hx, hv]; exact h.len
 ·rw [hx, hv]
  intro hsh j c v hc hvj
  rw [hl]
  exact (h.cells hsh j c v hc hvj).frame ht hs fun b hb => (ho b (hcell j c hsh hc b hb)).1
 ·rw [hx]; exact h.vers
 ·rw [hf]; exact h.nodup
 ·rw [hf]; exact fun b hb => (ho b hb).2
 ·rw [hx]; exact h.dead
end Go.Mach
namespace Go.Mach
set_option linter.unusedVariables false
theorem get_set (e : Env) (s t : Nat) (x : Slot) : Env.get (e.set s x) t = if t = s ∧ s < e.length then x else e.get t := by
 simp only [Env.get, List.getD_eq_getElem?_getD, List.getElem?_set]
 by_cases h : s = t
 ·subst h
  by_cases g : s < e.length
  ·simp [g]
  ·simp [g]
 ·have : ¬ t = s := fun q => h q.symm
  simp [h, this]
theorem get_set_ne {e : Env} {s t : Nat} {x : Slot} (h : t ≠ s) : Env.get (e.set s x) t = e.get t := by
 rw [get_set, if_neg (fun g => h g.1)]
theorem get_set_self {e : Env} {s : Nat} {x : Slot} (h : s < e.length) : Env.get (e.set s x) s = x := by
 rw [get_set, if_pos ⟨rfl, h⟩]
theorem get_out {e : Env} {s : Nat} (h : ¬ s < e.length) : e.get s = {} := by
 simp [Env.get, List.getElem?_eq_none (Nat.le_of_not_lt h)]
theorem set_out {e : Env} {s : Nat} {x : Slot} (h : ¬ s < e.length) : e.set s x = e := by
 apply List.ext_getElem?
 intro i
 rw [List.getElem?_set]
 by_cases g : s = i
 ·subst g; simp [h]
 ·simp [g]
theorem fpCells_mem {lt : Nat → LT} {b : Nat} : ∀ {cs : List C} {i j : Nat} {c : C}, cs[j]? = some c → b ∈ ownB c (lt (i + j)) → b ∈ fpCells lt i cs
 | [], i, j, c, h, _ => by simp at h
 | a :: cs, i, 0, c, h, hb => by
  simp at h
  subst h
  simp only [fpCells, List.mem_append]
  exact .inl (by simpa using hb)
 | a :: cs, i, j + 1, c, h, hb => by
  simp at h
  simp only [fpCells, List.mem_append]
  exact .inr (fpCells_mem (i := i + 1) h (by rw [show i + 1 + j = i + (j + 1) by omega]; exact hb))
theorem fpCells_of {lt : Nat → LT} {b : Nat} : ∀ {cs : List C} {i : Nat}, b ∈ fpCells lt i cs → ∃ j c, cs[j]? = some c ∧ b ∈ ownB c (lt (i + j))
 | [], i, h => by simp [fpCells] at h
 | a :: cs, i, h => by
  simp only [fpCells, List.mem_append] at h
  rcases h with h | h
  ·exact ⟨0, a, rfl, by simpa using h⟩
  ·obtain ⟨j, c, h1, h2⟩ := fpCells_of h
   exact ⟨j + 1, c, by simpa using h1, by rw [show i + (j + 1) = i + 1 + j by omega]; exact h2⟩
theorem fpCells_congr {lt lt' : Nat → LT} : ∀ {cs cs' : List C} {i : Nat}, cs'.length = cs.length → (∀ (j : Nat) c c', cs[j]? = some c → cs'[j]? = some c' → ownB c' (lt' (i + j)) = ownB c (lt (i + j))) →
  fpCells lt' i cs' = fpCells lt i cs
 | [], [], _, _, _ => rfl
 | [], _ :: _, _, h, _ => by simp at h
 | _ :: _, [], _, h, _ => by simp at h
 | a :: cs, a' :: cs', i, hl, h => by
  simp only [fpCells]
  have h0 := h 0 a a' rfl rfl
  simp only [Nat.add_zero] at h0
  rw [h0, fpCells_congr (i := i + 1) (by simpa using hl) (fun j c c' hc hc' => by
   have := h (j + 1) c c' (by simpa using hc) (by simpa using hc')
   rw [show i + 1 + j = i + (j + 1) by omega]
   exact this)]
theorem fpCells_perm {lt : Nat → LT} : ∀ {cs : List C} {i j : Nat} {c : C}, cs[j]? = some c →
  ∃ rest, (fpCells lt i cs).Perm (ownB c (lt (i + j)) ++ rest) ∧ ∀ (lt' : Nat → LT) (c' : C), (∀ m, m ≠ i + j → lt' m = lt m) → (fpCells lt' i (cs.set j c')).Perm (ownB c' (lt' (i + j)) ++ rest)
 | [], i, j, c, h => by simp at h
 | a :: cs, i, 0, c, h => by
  simp at h
  subst h
  refine ⟨fpCells lt (i + 1) cs, by simp [fpCells], fun lt' c' hl => ?_⟩
  simp only [List.set_cons_zero, fpCells, Nat.add_zero]
  rw [fpCells_congr (lt := lt) (lt' := lt') (cs := cs) (cs' := cs) rfl (fun j c c' hc hc' => by
   rw [hc] at hc'; simp at hc'; subst hc'; rw [hl _ (by omega)])]
 | a :: cs, i, j + 1, c, h => by
  simp at h
  obtain ⟨rest, p1, p2⟩ := fpCells_perm (lt := lt) (i := i + 1) h
  have e : i + 1 + j = i + (j + 1) := by omega
  rw [e] at p1 p2
  refine ⟨ownB a (lt i) ++ rest, ?_, fun lt' c' hl => ?_⟩
  ·simp only [fpCells]
   refine (p1.append_left _).trans ?_
   rw [← List.append_assoc, ← List.append_assoc]
   exact List.perm_append_comm.append_right _
  ·simp only [List.set_cons_succ, fpCells]
   rw [hl i (by omega)]
   refine ((p2 lt' c' hl).append_left _).trans ?_
   rw [← List.append_assoc, ← List.append_assoc]
   exact List.perm_append_comm.append_right _
theorem SlotOk.nothing {n : Nat} {e : Env} {tm : Array Value} {w : World} {G : Gh} {s : Nat} (h : e.get s = {}) : SlotOk n e tm w G s := by
 refine ⟨?_, ?_, ?_, ?_, ?_, ?_, ?_, ?_⟩ <;> rw [h]
 ·intro _; trivial
 ·intro bv hb; cases hb
 ·intro hh; exact absurd rfl hh
 ·intro hh; exact absurd rfl hh
 ·intro hh; exact absurd rfl hh
 ·simp [fpS]
 ·simp [fpS]
 ·intro _; rfl
theorem Inv.turn {n : Nat} {e : Env} {tm tm' : Array Value} {w w' : World} {G G' : Gh} (h : Inv n e tm w G) (s : Nat) (x : Slot) (hsz : tm'.size = n)
  (hG : ∀ t, t ≠ s → G'.vs t = G.vs t ∧ (∀ j, G'.lt t j = G.lt t j) ∧ G'.bk t = G.bk t) (htm : ∀ t, t ≠ s → t < n → tm'[t]? = tm[t]?)
  (hTM : s < e.length → TM e (e.set s x) G G' s) (hst : Still w w' G.ow G'.ow)
  (hown : ∀ t, t ≠ s → ∀ b ∈ fpS G t (e.get t), w'.heap[b]? = w.heap[b]? ∧ G'.ow b = some t)
  (hself : s < e.length → SlotOk n (e.set s x) tm' w' G' s) (hlt : ∀ b t, G'.ow b = some t → b < w'.heap.size) : Inv n (e.set s x) tm' w' G' := by
 by_cases hs : s < e.length
 ·have ht : ∀ t, TM e (e.set s x) G G' t := fun t => by
   by_cases g : t = s
   ·subst g; exact hTM hs
   ·exact TM.refl (get_set_ne g) (hG t g).2.1 (hG t g).2.2
  refine ⟨hsz, by simpa using h.elen, fun t => ?_, hlt⟩
  by_cases g : t = s
  ·subst g; exact hself hs
  ·obtain ⟨g1, g2, g3⟩ := hG t g
   exact (h.slot t).frame (get_set_ne g) (htm t g) g1 g2 g3 ht hst (hown t g)
 ·rw [set_out hs]
  have ht : ∀ t, TM e e G G' t := fun t => by
   by_cases g : t = s
   ·subst g
    have := get_out hs
    refine TM.fresh (Nat.le_refl _) ?_ ?_
    ·intro j rv sv d k l hh; rw [this] at hh; simp at hh
    ·intro bv hh; rw [this] at hh; cases hh
   ·exact TM.refl rfl (hG t g).2.1 (hG t g).2.2
  refine ⟨hsz, h.elen, fun t => ?_, hlt⟩
  by_cases g : t = s
  ·subst g; exact SlotOk.nothing (get_out hs)
  ·obtain ⟨g1, g2, g3⟩ := hG t g
   exact (h.slot t).frame rfl (htm t g) g1 g2 g3 ht hst (hown t g)
def Loose (e : Env) (G : Gh) (b : Nat) : Prop := ∀ t, b ∉ fpS G t (e.get t)
theorem still_refl {w : World} {ow : Nat → Option Nat} : Still w w ow ow := fun b h1 h2 => ⟨rfl, h1⟩
theorem getD_set_ne {cs : List C} {i j : Nat} {c d : C} (h : i ≠ j) : (cs.set j c).getD i d = cs.getD i d := by
 simp [List.getD_eq_getElem?_getD, Ne.symm h]
theorem getD_some {cs : List C} {j : Nat} {c : C} (h : cs[j]? = some c) (d : C) : cs.getD j d = c := by
 simp [List.getD_eq_getElem?_getD, h]
theorem some_of_getD {cs : List C} {j : Nat} {c : C} (h : cs.getD j .dead = c) (hc : c ≠ .dead) : cs[j]? = some c := by
 rw [List.getD_eq_getElem?_getD] at h
 cases g : cs[j]? with
 | none => rw [g] at h; exact absurd h.symm hc
 | some y => rw [g] at h; simp at h; rw [h]
theorem Inv.kill {n : Nat} {e : Env} {tm : Array Value} {w : World} {G : Gh} (h : Inv n e tm w G) (s j : Nat) : Inv n (e.set s ((e.get s).kill j)) tm w G := by
 have hk : ∀ i c, ((e.get s).kill j).cs[i]? = some c → c = .dead ∨ ((e.get s).cs[i]? = some c ∧ i ≠ j) := by
  intro i c hc
  simp only [Slot.kill, List.getElem?_set] at hc
  by_cases g : j = i
  ·subst g
   simp at hc
   exact .inl hc.2.symm
  ·rw [if_neg g] at hc
   exact .inr ⟨hc, fun q => g q.symm⟩
 have hs := h.slot s
 have hfp : (fpCells (G.lt s) 0 ((e.get s).kill j).cs).Sublist (fpCells (G.lt s) 0 (e.get s).cs) := by
  have key : ∀ (cs : List C) (i j : Nat), (fpCells (G.lt s) i (cs.set j .dead)).Sublist (fpCells (G.lt s) i cs) := by
   intro cs
   induction cs with
   | nil => intro i j; simp [fpCells]
   | cons a cs ih =>
    intro i j
    cases j with
    | zero => simp only [List.set_cons_zero, fpCells, ownB, List.nil_append]; exact List.sublist_append_right _ _
    | succ j => simp only [List.set_cons_succ, fpCells]; exact (ih (i + 1) j).append_left _
  exact key _ 0 j
 have hfpS : (fpS G s ((e.get s).kill j)).Sublist (fpS G s (e.get s)) := by
  simp only [fpS, Slot.kill] at hfp ⊢
  refine List.Sublist.append (List.Sublist.refl _) ?_
  cases (e.get s).sh <;> first | exact List.Sublist.refl _ | exact hfp
 refine h.turn s _ h.size (fun t _ => ⟨rfl, fun _ => rfl, rfl⟩) (fun t _ _ => rfl) (fun hlen => ?_) still_refl (fun t _ b hb => ⟨rfl, (h.slot t).own b hb⟩) (fun hlen => ?_) h.lt
 ·refine ⟨by rw [get_set_self hlen]; exact Nat.le_refl _, ?_, ?_⟩
  ·intro i rv sv d k l h1 h2
   rw [get_set_self hlen] at h1
   have h3 := hk i _ (some_of_getD h1 (by simp))
   rcases h3 with h3 | ⟨h3, _⟩
   ·cases h3
   ·exact ⟨sv, d, l, getD_some h3 _, fun _ _ _ q => q, fun hd _ _ _ _ ha => ⟨ha, hd, fun _ _ _ q => q⟩⟩
  ·intro bv h1 _
   rw [get_set_self hlen] at h1
   exact ⟨h1, rfl⟩
 ·have hT : ∀ t, TM e (e.set s ((e.get s).kill j)) G G t := fun t => by
   by_cases g : t = s
   ·subst g
    refine ⟨by rw [get_set_self hlen]; exact Nat.le_refl _, ?_, ?_⟩
    ·intro i rv sv d k l h1 h2
     rw [get_set_self hlen] at h1
     have h3 := hk i _ (some_of_getD h1 (by simp))
     rcases h3 with h3 | ⟨h3, _⟩
     ·cases h3
     ·exact ⟨sv, d, l, getD_some h3 _, fun _ _ _ q => q, fun hd _ _ _ _ ha => ⟨ha, hd, fun _ _ _ q => q⟩⟩
    ·intro bv h1 _
     rw [get_set_self hlen] at h1
     exact ⟨h1, rfl⟩
   ·exact TM.refl (get_set_ne g) (fun _ => rfl) rfl
  refine ⟨?_, ?_, ?_, ?_, ?_, ?_, ?_, ?_⟩ <;> rw [get_set_self hlen]
  ·exact hs.form
  ·exact hs.box
  ·intro hh
   have := hs.len hh
   simpa [Slot.kill] using this
  ·intro hh i c v hc hv
   rcases hk i c hc with rfl | ⟨hc, _⟩
   ·trivial
   ·exact (hs.cells hh i c v hc hv).frame hT still_refl fun b _ => rfl
  ·intro hh i rv sv d k l hc
   rcases hk i _ hc with hc | ⟨hc, _⟩
   ·cases hc
   ·exact hs.vers hh i rv sv d k l hc
  ·exact hs.nodup.sublist hfpS
  ·exact fun b hb => hs.own b (hfpS.subset hb)
  ·intro hh
   simp only [Slot.kill] at hh ⊢
   simp [hs.dead hh]
theorem Inv.loose {n : Nat} {e : Env} {tm : Array Value} {w : World} {G : Gh} (h : Inv n e tm w G) {s j : Nat} {c : C} (hc : (e.get s).cs[j]? = some c) {b : Nat} (hb : b ∈ ownB c (G.lt s j)) :
  G.ow b = some s ∧ Loose (e.set s ((e.get s).kill j)) G b := by
 have hs := h.slot s
 have hsh : (e.get s).sh ≠ .dead := fun q => by rw [hs.dead q] at hc; simp at hc
 have hlen : s < e.length := by
  rcases Nat.lt_or_ge s e.length with g | g
  ·exact g
  ·rw [get_out (by omega)] at hc; simp at hc
 have hmem : b ∈ fpS G s (e.get s) := by
  simp only [fpS, List.mem_append]
  right
  have := fpCells_mem (lt := G.lt s) (i := 0) hc (by simpa using hb)
  cases hh : (e.get s).sh <;> simp_all
 have how := hs.own b hmem
 refine ⟨how, fun t ht => ?_⟩
 by_cases g : t = s
 ·subst g
  rw [get_set_self hlen] at ht
  obtain ⟨rest, p1, p2⟩ := fpCells_perm (lt := G.lt t) (i := 0) hc
  have p2 := p2 (G.lt t) .dead (fun _ _ => rfl)
  have hnd := hs.nodup
  simp only [fpS, List.mem_append] at ht hnd
  have key : ((match (e.get t).sh with | .box _ => [G.bk t] | _ => []) ++ fpCells (G.lt t) 0 (e.get t).cs).Nodup := by
   cases hh : (e.get t).sh <;> simp_all
  have hin : b ∈ (match (e.get t).sh with | .box _ => [G.bk t] | _ => []) ++ rest := by
   rcases ht with ht | ht
   ·simp only [List.mem_append]; exact .inl ht
   ·have : b ∈ fpCells (G.lt t) 0 ((e.get t).cs.set j .dead) := by
     simp only [Slot.kill] at ht
     cases hh : (e.get t).sh <;> simp_all
    have := p2.mem_iff.1 this
    simp only [ownB, List.nil_append] at this
    simp only [List.mem_append]; exact .inr this
  have hp : ((match (e.get t).sh with | .box _ => [G.bk t] | _ => []) ++ fpCells (G.lt t) 0 (e.get t).cs).Perm (ownB c (G.lt t (0 + j)) ++ ((match (e.get t).sh with | .box _ => [G.bk t] | _ => []) ++ rest)) := by
   refine (p1.append_left _).trans ?_
   rw [← List.append_assoc, ← List.append_assoc]
   exact List.perm_append_comm.append_right _
  have hnd2 := hp.nodup_iff.1 key
  rw [List.nodup_append] at hnd2
  exact hnd2.2.2 b (by simpa using hb) b hin rfl
 ·rw [get_set_ne g] at ht
  have := (h.slot t).own b ht
  rw [how] at this
  simp at this
  exact g this.symm
def layC (r : Nat) : C → C
 | .own _ _ d k l => .own r 0 d k l
 | c => c
theorem lay_cs (x : Slot) (sh : Sh) (cs : List C) : (x.lay sh cs).cs = cs.map (layC x.cnt) := by
 simp only [Slot.lay]
 congr 1
theorem ownB_lay (r : Nat) (c : C) (L : LT) : ownB (layC r c) L = ownB c L := by
 cases c with
 | own _ _ d k l => cases d <;> rfl
 | _ => rfl
def upd {α : Type} (f : Nat → α) (s : Nat) (a : α) : Nat → α := fun t => if t = s then a else f t
theorem upd_self {α : Type} (f : Nat → α) (s : Nat) (a : α) : upd f s a s = a := by simp [upd]
theorem upd_ne {α : Type} (f : Nat → α) {s t : Nat} (a : α) (h : t ≠ s) : upd f s a t = f t := by simp [upd, h]
def Gh.lay (G : Gh) (d : Nat) (vs : List Value) (lt : Nat → LT) (bk : Nat) (H : List Nat) : Gh :=
 { vs := upd G.vs d vs, lt := upd G.lt d lt, bk := upd G.bk d bk, ow := fun b => if b ∈ H then some d else G.ow b }
def NewOk (e : Env) (w : World) (G : Gh) (w' : World) (H : List Nat) (c : C) (v : Value) (L : LT) : Prop :=
 match c with
 | .own _ _ d k l => RepL true w' k.size (Rep d w' k) l L v ∧ (d = false → ∀ b ∈ inner k L, G.ow b = none ∧ b ∉ H)
 | c => CellOk e w G c v L
def boxB (sh : Sh) (bk : Nat) : List Nat := match sh with
 | .box _ => [bk]
 | _ => []
theorem Inv.lay {n : Nat} {e : Env} {tm : Array Value} {w w' : World} {G : Gh} (h : Inv n e tm w G) (d : Nat) (sh : Sh) (cs : List C) (vs : List Value) (lt : Nat → LT) (bk : Nat) (H : List Nat)
  (hsize : w.heap.size ≤ w'.heap.size) (hsame : ∀ b, b ∉ H → w.heap[b]? ≠ none → w'.heap[b]? = w.heap[b]?)
  (hH : ∀ b ∈ H, Loose e G b ∧ (G.ow b ≠ none ∨ w.heap[b]? = none) ∧ b < w'.heap.size)
  (hlen : vs.length = cs.length) (hcell : ∀ (j : Nat) c v, cs[j]? = some c → vs[j]? = some v → NewOk e w G w' H c v (lt j))
  (hnd : (boxB sh bk ++ fpCells lt 0 cs).Nodup) (hsub : ∀ b ∈ boxB sh bk ++ fpCells lt 0 cs, b ∈ H)
  (hdead : sh = .dead → cs = [])
  (hbox : ∀ bv, sh = .box bv → ∃ ty, w'.heap[bk]? = some (.cells vs.toArray ty (0, 0)))
  (tm' : Array Value) (htsz : tm'.size = n) (htm : ∀ t, t ≠ d → t < n → tm'[t]? = tm[t]?)
  (hform : d < n → FormIs tm' d sh vs bk) :
  Inv n (e.set d ((e.get d).lay sh cs)) tm' w' (G.lay d vs lt bk H) := by
 have hst : Still w w' G.ow (G.lay d vs lt bk H).ow := fun b h1 h2 => by
  have : b ∉ H := fun hb => by
   rcases (hH b hb).2.1 with q | q
   ·exact q h1
   ·exact h2 q
  exact ⟨hsame b this h2, by simp [Gh.lay, this, h1]⟩
 have hTM : d < e.length → TM e (e.set d ((e.get d).lay sh cs)) G (G.lay d vs lt bk H) d := fun hl => by
  refine TM.fresh (by rw [get_set_self hl]; simp [Slot.lay]) ?_ ?_
  ·intro j rv sv d' k l hh
   rw [get_set_self hl, lay_cs] at hh
   have := some_of_getD hh (by simp)
   rw [List.getElem?_map] at this
   cases g : cs[j]? with
   | none => rw [g] at this; simp at this
   | some c =>
    rw [g] at this
    simp only [Option.map_some, Option.some.injEq] at this
    cases c with
    | own _ _ _ _ _ => simp only [layC, C.own.injEq] at this; omega
    | _ => simp [layC] at this
  ·intro bv hh
   rw [get_set_self hl] at hh
   cases sh <;> simp [Slot.lay] at hh
   omega
 have hT : d < e.length → ∀ t, TM e (e.set d ((e.get d).lay sh cs)) G (G.lay d vs lt bk H) t := fun hl t => by
  by_cases g : t = d
  ·subst g; exact hTM hl
  ·exact TM.refl (get_set_ne g) (fun j => by simp [Gh.lay, upd_ne _ _ g]) (by simp [Gh.lay, upd_ne _ _ g])
 refine h.turn d _ htsz (fun t g => ⟨by simp [Gh.lay, upd_ne _ _ g], fun j => by simp [Gh.lay, upd_ne _ _ g], by simp [Gh.lay, upd_ne _ _ g]⟩) htm hTM hst ?_ ?_ ?_
 ·intro t g b hb
  have hbH : b ∉ H := fun q => (hH b q).1 t hb
  have how := (h.slot t).own b hb
  refine ⟨hsame b hbH ?_, by simp [Gh.lay, hbH, how]⟩
  have := h.lt b t how
  simp [Array.getElem?_eq_getElem this]
 ·intro hl
  have hT := hT hl
  have hfp : fpCells lt 0 (cs.map (layC (e.get d).cnt)) = fpCells lt 0 cs := fpCells_congr (by simp) fun j c c' hc hc' => by
   rw [List.getElem?_map, hc] at hc'
   simp at hc'
   subst hc'
   exact ownB_lay _ _ _
  have hfpS : fpS (G.lay d vs lt bk H) d ((e.get d).lay sh cs) = boxB sh bk ++ fpCells lt 0 cs := by
   simp only [fpS, lay_cs]
   cases sh <;> simp_all [Slot.lay, Gh.lay, upd_self, boxB, fpCells]
  refine ⟨?_, ?_, ?_, ?_, ?_, ?_, ?_, ?_⟩ <;> rw [get_set_self hl]
  ·intro hn
   have := hform hn
   cases sh <;> simp_all [FormIs, Slot.lay, Gh.lay, upd_self]
  ·intro bv hb
   cases sh with
   | box b0 =>
    simp only [Slot.lay, Sh.box.injEq] at hb
    subst hb
    obtain ⟨ty, hty⟩ := hbox b0 rfl
    exact ⟨by simp [Slot.lay], ty, by simpa [Gh.lay, upd_self] using hty⟩
   | _ => simp [Slot.lay] at hb
  ·intro _
   simp [lay_cs, Gh.lay, upd_self, hlen]
  ·intro _ j c v hc hv
   rw [lay_cs, List.getElem?_map] at hc
   simp only [Gh.lay, upd_self] at hv
   cases g : cs[j]? with
   | none => rw [g] at hc; simp at hc
   | some c0 =>
    rw [g] at hc
    simp only [Option.map_some, Option.some.injEq] at hc
    have := hcell j c0 v g hv
    simp only [Gh.lay, upd_self]
    cases c0 with
    | own r1 r2 d' k l =>
     simp only [layC] at hc
     subst hc
     obtain ⟨a1, a2⟩ := this
     refine ⟨a1, fun hd b hb => ?_⟩
     have := a2 hd b hb
     simp [this.2, this.1]
    | dead => subst hc; trivial
    | nil => subst hc; exact (CellOk.frame (c := .nil) (v := v) (L := lt j) this hT hst fun b hb => by simp [ownB] at hb)
    | dat k x => subst hc; exact (CellOk.frame (c := .dat k x) this hT hst fun b hb => by simp [ownB] at hb)
    | ref _ _ _ _ _ _ _ _ => subst hc; exact (CellOk.frame (c := .ref ..) (v := v) (L := lt j) this hT hst fun b hb => by simp [ownB] at hb)
    | bptr _ _ _ => subst hc; exact (CellOk.frame (c := .bptr ..) (v := v) (L := lt j) this hT hst fun b hb => by simp [ownB] at hb)
    | aptr _ _ _ _ _ _ _ _ => subst hc; exact (CellOk.frame (c := .aptr ..) (v := v) (L := lt j) this hT hst fun b hb => by simp [ownB] at hb)
    | pim _ _ => subst hc; exact (CellOk.frame (c := .pim ..) (v := v) (L := lt j) this hT hst fun b hb => by simp [ownB] at hb)
    | fn _ _ => subst hc; exact (CellOk.frame (c := .fn ..) (v := v) (L := lt j) this hT hst fun b hb => by simp [ownB] at hb)
  ·intro _ j rv sv d' k l hc
   rw [lay_cs, List.getElem?_map] at hc
   cases g : cs[j]? with
   | none => rw [g] at hc; simp at hc
   | some c0 =>
    rw [g] at hc
    simp only [Option.map_some, Option.some.injEq] at hc
    cases c0 with
    | own _ _ _ _ _ => simp only [layC, C.own.injEq] at hc; simp [Slot.lay]; omega
    | _ => simp [layC] at hc
  ·rw [hfpS]; exact hnd
  ·rw [hfpS]; intro b hb; simp [Gh.lay, hsub b hb]
  ·intro hh
   cases sh <;> simp_all [Slot.lay]
 ·intro b t hb
  simp only [Gh.lay] at hb
  by_cases q : b ∈ H
  ·exact (hH b q).2.2
  ·rw [if_neg q] at hb
   exact Nat.lt_of_lt_of_le (h.lt b t hb) hsize
def Gh.turn (G : Gh) (s j : Nat) (L : LT) (H F : List Nat) : Gh :=
 { vs := G.vs, lt := upd G.lt s (upd (G.lt s) j L), bk := G.bk, ow := fun b => if b ∈ F then none else if b ∈ H then some s else G.ow b }
theorem Inv.own {n : Nat} {e : Env} {tm : Array Value} {w w' : World} {G : Gh} (h : Inv n e tm w G) {s j rv sv : Nat} {d : Bool} {k : K} {l : List k.T} {v : Value}
  (hc : (e.get s).cs[j]? = some (.own rv sv d k l)) (hv : (G.vs s)[j]? = some v) (sv' cnt' : Nat) (d' : Bool) (l' : List k.T) (L : LT) (H F : List Nat)
  (hsize : w.heap.size ≤ w'.heap.size) (hsame : ∀ b, b ∉ ownB (.own rv sv d k l) (G.lt s j) → b ∉ H → w.heap[b]? ≠ none → w'.heap[b]? = w.heap[b]?)
  (hH : ∀ b ∈ H, Loose e G b ∧ (G.ow b ≠ none ∨ w.heap[b]? = none) ∧ b < w'.heap.size)
  (hrep : RepL true w' k.size (Rep d' w' k) l' L v)
  (hsub : ∀ b ∈ ownB (.own rv sv' d' k l') L, b ∈ ownB (.own rv sv d k l) (G.lt s j) ∨ b ∈ H) (hnd : (ownB (.own rv sv' d' k l') L).Nodup)
  (hF : ∀ b ∈ F, (b ∈ ownB (.own rv sv d k l) (G.lt s j) ∨ b ∈ H) ∧ b ∉ ownB (.own rv sv' d' k l') L)
  (hin : d' = false → ∀ b ∈ inner k L, (G.ow b = none ∧ b ∉ H) ∨ b ∈ F)
  (hlen : l'.length = l.length) (hhd : hdOf L = hdOf (G.lt s j))
  (hvers : (sv' = sv ∧ cnt' = (e.get s).cnt ∧ (d' = true → d = true ∧ ∀ p k1 n hd, Loc k l (G.lt s j) p k1 n hd → Loc k l' L p k1 n hd)) ∨
   ((e.get s).cnt ≤ sv' ∧ sv' < cnt' ∧ ((e.get s).cnt / verM < sv' / verM ∨ (sv' / verM = sv / verM ∧ (d' = true → d = true ∧ ∀ q k1 n hd, Loc k l (G.lt s j) [q] k1 n hd → Loc k l' L [q] k1 n hd))))) :
  Inv n (e.set s { e.get s with cs := (e.get s).cs.set j (.own rv sv' d' k l'), cnt := cnt' }) tm w' (G.turn s j L H F) := by
 have hs := h.slot s
 have hsh : (e.get s).sh ≠ .dead := fun q => by rw [hs.dead q] at hc; simp at hc
 have hjl : j < (e.get s).cs.length := by
  rcases Nat.lt_or_ge j (e.get s).cs.length with g | g
  ·exact g
  ·rw [List.getElem?_eq_none g] at hc; simp at hc
 have hcnt : (e.get s).cnt ≤ cnt' := by rcases hvers with ⟨_, q, _⟩ | ⟨_, q, _⟩ <;> omega
 have hold : ∀ b ∈ ownB (.own rv sv d k l) (G.lt s j), b ∈ fpS G s (e.get s) := fun b hb => by
  simp only [fpS, List.mem_append]
  right
  have := fpCells_mem (lt := G.lt s) (i := 0) hc (by simpa using hb)
  cases hh : (e.get s).sh <;> simp_all
 have hst : Still w w' G.ow (G.turn s j L H F).ow := fun b h1 h2 => by
  have q1 : b ∉ ownB (.own rv sv d k l) (G.lt s j) := fun hb => by
   have := hs.own b (hold b hb); rw [h1] at this; simp at this
  have q2 : b ∉ H := fun hb => by
   rcases (hH b hb).2.1 with q | q
   ·exact q h1
   ·exact h2 q
  exact ⟨hsame b q1 q2 h2, by simp [Gh.turn, q2, h1]⟩
 have hvs := hs.vers hsh j rv sv d k l hc
 have hTM : s < e.length → TM e (e.set s { e.get s with cs := (e.get s).cs.set j (.own rv sv' d' k l'), cnt := cnt' }) G (G.turn s j L H F) s := fun hl => by
  refine ⟨by rw [get_set_self hl]; exact hcnt, ?_, ?_⟩
  ·intro i rv1 sv1 d1 k1 l1 h1 h2
   rw [get_set_self hl] at h1
   by_cases g : i = j
   ·subst g
    have : (((e.get s).cs.set i (.own rv sv' d' k l')).getD i .dead) = .own rv sv' d' k l' := getD_some (by simp [hjl]) _
    simp only at h1
    rw [this] at h1
    simp only [C.own.injEq] at h1
    obtain ⟨rfl, rfl, rfl, rfl, hll⟩ := h1
    have hll := eq_of_heq hll
    subst hll
    refine ⟨sv, d, l, getD_some hc _, ?_, ?_⟩
    ·rintro k1 n1 hd ⟨a1, a2, a3, a4⟩
     exact ⟨trivial, a2, by simpa [getP, hlen] using a3, by simpa [subL, Gh.turn, upd_self, hhd] using a4⟩
    ·intro hd' p1 a hp1 ha hok
     rcases hvers with ⟨q1, q2, q3⟩ | ⟨q1, q2, q3⟩
     ·obtain ⟨q4, q5⟩ := q3 hd'
      exact ⟨by rw [← q1]; exact hok, q4, fun k1 n1 hd hh => by simpa [Gh.turn, upd_self] using q5 p1 k1 n1 hd hh⟩
     ·match p1, hp1 with
      | [x], _ =>
       simp only [svOk, Nat.beq_eq] at hok
       rcases q3 with q3 | ⟨q3, q4⟩
       ·have : a / verM ≤ (e.get s).cnt / verM := Nat.div_le_div_right (by omega)
        omega
       ·obtain ⟨q5, q6⟩ := q4 hd'
        exact ⟨by simp only [svOk, Nat.beq_eq]; omega, q5, fun k1 n1 hd hh => by simpa [Gh.turn, upd_self] using q6 x k1 n1 hd hh⟩
      | x :: y :: r, _ =>
       simp only [svOk, Nat.beq_eq] at hok
       omega
   ·simp only at h1
    rw [getD_set_ne g] at h1
    refine ⟨sv1, d1, l1, h1, fun k n hd hh => ?_, fun hd p a _ _ ha => ⟨ha, hd, fun k n hd hh => ?_⟩⟩
    ·simpa [Gh.turn, upd_self, upd_ne _ _ g] using hh
    ·simpa [Gh.turn, upd_self, upd_ne _ _ g] using hh
  ·intro bv h1 _
   rw [get_set_self hl] at h1
   exact ⟨h1, rfl⟩
 have hT : s < e.length → ∀ t, TM e (e.set s { e.get s with cs := (e.get s).cs.set j (.own rv sv' d' k l'), cnt := cnt' }) G (G.turn s j L H F) t := fun hl t => by
  by_cases g : t = s
  ·subst g; exact hTM hl
  ·exact TM.refl (get_set_ne g) (fun j => by simp [Gh.turn, upd_ne _ _ g]) rfl
 have hfar : ∀ b, b ∉ ownB (.own rv sv d k l) (G.lt s j) → b ∉ H → ∀ t, G.ow b = some t → w'.heap[b]? = w.heap[b]? ∧ (G.turn s j L H F).ow b = some t := fun b q1 q2 t q3 => by
  have hF' : b ∉ F := fun q => by
   rcases (hF b q).1 with q | q
   ·exact q1 q
   ·exact q2 q
  refine ⟨hsame b q1 q2 ?_, by simp [Gh.turn, hF', q2, q3]⟩
  have := h.lt b t q3
  simp [Array.getElem?_eq_getElem this]
 obtain ⟨rest, p1, p2⟩ := fpCells_perm (lt := G.lt s) (i := 0) hc
 have p2 := p2 (upd (G.lt s) j L) (.own rv sv' d' k l') (fun m hm => upd_ne _ _ (by omega))
 simp only [Nat.zero_add, upd_self] at p1 p2
 have hnd0 : (boxB (e.get s).sh (G.bk s) ++ (ownB (.own rv sv d k l) (G.lt s j) ++ rest)).Nodup := by
  have := hs.nodup
  have q : (boxB (e.get s).sh (G.bk s) ++ fpCells (G.lt s) 0 (e.get s).cs).Nodup := by
   simp only [fpS] at this
   cases hh : (e.get s).sh <;> simp_all [boxB]
  exact ((p1.append_left _).nodup_iff).1 q
 have hown0 : ∀ b ∈ boxB (e.get s).sh (G.bk s) ++ (ownB (.own rv sv d k l) (G.lt s j) ++ rest), b ∈ fpS G s (e.get s) := by
  intro b hb
  have : b ∈ boxB (e.get s).sh (G.bk s) ++ fpCells (G.lt s) 0 (e.get s).cs := ((p1.append_left _).mem_iff).2 hb
  simp only [fpS]
  cases hh : (e.get s).sh <;> simp_all [boxB]
 have hrest : ∀ b ∈ boxB (e.get s).sh (G.bk s) ++ rest, b ∉ ownB (.own rv sv d k l) (G.lt s j) ∧ b ∉ H := by
  intro b hb
  constructor
  ·intro q
   rw [List.mem_append] at hb
   rw [List.nodup_append] at hnd0
   rcases hb with hb | hb
   ·exact hnd0.2.2 b hb b (by simp [q]) rfl
   ·have := hnd0.2.1
    rw [List.nodup_append] at this
    exact this.2.2 b q b hb rfl
  ·intro q
   exact (hH b q).1 s (hown0 b (by simp only [List.mem_append] at hb ⊢; rcases hb with hb | hb <;> simp [hb]))
 refine h.turn s _ h.size (fun t g => ⟨rfl, fun i => by simp [Gh.turn, upd_ne _ _ g], rfl⟩) (fun _ _ _ => rfl) hTM hst ?_ ?_ ?_
 ·intro t g b hb
  have how := (h.slot t).own b hb
  refine hfar b (fun q => ?_) (fun q => (hH b q).1 t hb) t how
  have := hs.own b (hold b q)
  rw [how] at this
  simp at this
  exact g this
 ·intro hl
  have hT := hT hl
  have hfpS : fpS (G.turn s j L H F) s { e.get s with cs := (e.get s).cs.set j (.own rv sv' d' k l'), cnt := cnt' } = boxB (e.get s).sh (G.bk s) ++ fpCells (upd (G.lt s) j L) 0 ((e.get s).cs.set j (.own rv sv' d' k l')) := by
   simp only [fpS, Gh.turn, upd_self]
   cases hh : (e.get s).sh <;> simp_all [boxB]
  refine ⟨?_, ?_, ?_, ?_, ?_, ?_, ?_, ?_⟩ <;> rw [get_set_self hl]
  ·exact hs.form
  ·intro bv hb
   obtain ⟨g1, ty, g2⟩ := hs.box bv hb
   refine ⟨by simp only; omega, ty, ?_⟩
   have hbm : G.bk s ∈ boxB (e.get s).sh (G.bk s) ++ rest := by simp only at hb; rw [hb]; simp [boxB]
   have := hrest _ hbm
   have how := hs.own (G.bk s) (hown0 _ (by simp only at hb; rw [hb]; simp [boxB]))
   simp only [Gh.turn]
   rw [(hfar _ this.1 this.2 s how).1]
   exact g2
  ·intro _
   have := hs.len hsh
   simp [Gh.turn, this]
  ·intro _ i c u hc' hu
   simp only [Gh.turn] at hu
   by_cases g : i = j
   ·subst g
    simp only at hc'
    rw [List.getElem?_set_self hjl] at hc'
    simp only [Option.some.injEq] at hc'
    subst hc'
    rw [hv] at hu
    simp only [Option.some.injEq] at hu
    subst hu
    simp only [CellOk, CellOk0, Gh.turn, upd_self]
    refine ⟨hrep, fun hd b hb => ?_⟩
    rcases hin hd b hb with q | q
    ·by_cases qF : b ∈ F <;> simp [qF, q.1, q.2]
    ·simp [q]
   ·simp only at hc'
    rw [List.getElem?_set_ne (fun q => g q.symm)] at hc'
    have := hs.cells hsh i c u hc' hu
    simp only [Gh.turn, upd_self, upd_ne _ _ g]
    refine this.frame hT hst fun b hb => ?_
    have hbr : b ∈ rest := by
     have h1 : b ∈ fpCells (upd (G.lt s) j L) 0 ((e.get s).cs.set j (.own rv sv' d' k l')) :=
      fpCells_mem (j := i) (c := c) (by rw [List.getElem?_set_ne (fun q => g q.symm)]; exact hc') (by simpa [upd_ne _ _ g] using hb)
     have h2 : b ∈ fpCells (G.lt s) 0 (e.get s).cs := fpCells_mem hc' (by simpa using hb)
     rw [p1.mem_iff, List.mem_append] at h2
     rcases h2 with h2 | h2
     ·
      exfalso
      obtain ⟨rest', r1, r2⟩ := fpCells_perm (lt := G.lt s) (i := 0) hc'
      have r2 := r2 (G.lt s) .dead (fun _ _ => rfl)
      have hb2 : b ∈ fpCells (G.lt s) 0 ((e.get s).cs.set i .dead) := fpCells_mem (j := j) (c := .own rv sv d k l) (by rw [List.getElem?_set_ne g]; exact hc) (by simpa using h2)
      rw [r2.mem_iff] at hb2
      simp only [ownB, List.nil_append] at hb2
      have : (fpCells (G.lt s) 0 (e.get s).cs).Nodup := by
       have := hs.nodup
       simp only [fpS] at this
       rw [List.nodup_append] at this
       have := this.2.1
       cases hh : (e.get s).sh <;> simp_all
      have := r1.nodup_iff.1 this
      rw [List.nodup_append] at this
      exact this.2.2 b (by simpa using hb) b hb2 rfl
     ·exact h2
    have q := hrest b (by simp [hbr])
    exact (hfar b q.1 q.2 s (hs.own b (hown0 b (by simp [hbr])))).1
  ·intro _ i rv1 sv1 d1 k1 l1 hc'
   by_cases g : i = j
   ·subst g
    simp only at hc'
    rw [List.getElem?_set_self hjl] at hc'
    simp only [Option.some.injEq, C.own.injEq] at hc'
    obtain ⟨rfl, rfl, _⟩ := hc'
    simp only
    refine ⟨by omega, ?_⟩
    rcases hvers with ⟨q1, q2, _⟩ | ⟨q1, q2, _⟩ <;> omega
   ·simp only at hc'
    rw [List.getElem?_set_ne (fun q => g q.symm)] at hc'
    have := hs.vers hsh i rv1 sv1 d1 k1 l1 hc'
    simp only
    omega
  ·rw [hfpS]
   refine ((p2.append_left _).nodup_iff).2 ?_
   rw [← List.append_assoc] at hnd0 ⊢
   have hp : (boxB (e.get s).sh (G.bk s) ++ ownB (.own rv sv' d' k l') L ++ rest).Perm (ownB (.own rv sv' d' k l') L ++ (boxB (e.get s).sh (G.bk s) ++ rest)) := by
    rw [← List.append_assoc]
    exact List.perm_append_comm.append_right _
   refine hp.nodup_iff.2 ?_
   rw [List.nodup_append]
   refine ⟨hnd, ?_, ?_⟩
   ·have hp2 : (boxB (e.get s).sh (G.bk s) ++ ownB (.own rv sv d k l) (G.lt s j) ++ rest).Perm (ownB (.own rv sv d k l) (G.lt s j) ++ (boxB (e.get s).sh (G.bk s) ++ rest)) := by
     rw [← List.append_assoc]
     exact List.perm_append_comm.append_right _
    have := hp2.nodup_iff.1 hnd0
    rw [List.nodup_append] at this
    exact this.2.1
   ·intro a ha b hb hab
    subst hab
    have q := hrest a hb
    rcases hsub a ha with z | z
    ·exact q.1 z
    ·exact q.2 z
  ·rw [hfpS]
   intro b hb
   have hb := ((p2.append_left (boxB (e.get s).sh (G.bk s))).mem_iff).1 hb
   have hb : b ∈ ownB (.own rv sv' d' k l') L ∨ b ∈ boxB (e.get s).sh (G.bk s) ++ rest := by
    simp only [List.mem_append] at hb ⊢
    rcases hb with hb | hb | hb <;> simp [hb]
   rcases hb with hb | hb
   ·have hbF : b ∉ F := fun q => (hF b q).2 hb
    rcases hsub b hb with z | z
    ·have := hs.own b (hold b z)
     by_cases q : b ∈ H
     ·simp [Gh.turn, hbF, q]
     ·simp [Gh.turn, hbF, q, this]
    ·simp [Gh.turn, hbF, z]
   ·have q := hrest b hb
    exact (hfar b q.1 q.2 s (hs.own b (hown0 b (by simp only [List.mem_append] at hb ⊢; rcases hb with hb | hb <;> simp [hb])))).2
  ·intro hh
   exact absurd hh hsh
 ·intro b t hb
  simp only [Gh.turn] at hb
  by_cases qF : b ∈ F
  ·simp [qF] at hb
  ·by_cases q : b ∈ H
   ·exact (hH b q).2.2
   ·rw [if_neg qF, if_neg q] at hb
    exact Nat.lt_of_lt_of_le (h.lt b t hb) hsize
def Gh.cells (G : Gh) (s : Nat) (vs : List Value) (lt : Nat → LT) (H : List Nat) : Gh :=
 { vs := upd G.vs s vs, lt := upd G.lt s lt, bk := G.bk, ow := fun b => if b ∈ H then some s else G.ow b }
theorem Inv.box {n : Nat} {e : Env} {tm : Array Value} {w w' : World} {G : Gh} (h : Inv n e tm w G) {s bv : Nat} (hb : (e.get s).sh = .box bv)
  (cs : List C) (vs : List Value) (lt : Nat → LT) (H : List Nat)
  (hsize : w.heap.size ≤ w'.heap.size) (hsame : ∀ b, b ≠ G.bk s → b ∉ H → w.heap[b]? ≠ none → w'.heap[b]? = w.heap[b]?)
  (hblk : ∃ ty, w'.heap[G.bk s]? = some (.cells vs.toArray ty (0, 0)))
  (hH : ∀ b ∈ H, Loose e G b ∧ (G.ow b ≠ none ∨ w.heap[b]? = none) ∧ b < w'.heap.size)
  (hlen : vs.length = cs.length)
  (hcell : ∀ (j : Nat) c v, cs[j]? = some c → vs[j]? = some v → ((e.get s).cs[j]? = some c ∧ (G.vs s)[j]? = some v ∧ lt j = G.lt s j ∧ ∀ b ∈ ownB c (lt j), b ≠ G.bk s ∧ b ∉ H) ∨
   (NewOk e w G w' H c v (lt j) ∧ ∀ r1 r2 d k l, c = .own r1 r2 d k l → r1 = (e.get s).cnt ∧ r2 = 0))
  (hnd : (G.bk s :: fpCells lt 0 cs).Nodup) (hsub : ∀ b ∈ fpCells lt 0 cs, b ∈ H ∨ b ∈ fpS G s (e.get s)) :
  Inv n (e.set s { e.get s with cs := cs, cnt := (e.get s).cnt + 1 }) tm w' (G.cells s vs lt H) := by
 have hs := h.slot s
 have hsh : (e.get s).sh ≠ .dead := by rw [hb]; simp
 have hbk : G.bk s ∈ fpS G s (e.get s) := by simp only [fpS, hb]; simp
 have hbo := hs.own _ hbk
 have hbH : G.bk s ∉ H := fun q => (hH _ q).1 s hbk
 have hst : Still w w' G.ow (G.cells s vs lt H).ow := fun b h1 h2 => by
  have q1 : b ≠ G.bk s := fun q => by rw [q, hbo] at h1; simp at h1
  have q2 : b ∉ H := fun hb => by
   rcases (hH b hb).2.1 with q | q
   ·exact q h1
   ·exact h2 q
  exact ⟨hsame b q1 q2 h2, by simp [Gh.cells, q2, h1]⟩
 have hfar : ∀ b, b ≠ G.bk s → b ∉ H → ∀ t, G.ow b = some t → w'.heap[b]? = w.heap[b]? ∧ (G.cells s vs lt H).ow b = some t := fun b q1 q2 t q3 => by
  refine ⟨hsame b q1 q2 ?_, by simp [Gh.cells, q2, q3]⟩
  have := h.lt b t q3
  simp [Array.getElem?_eq_getElem this]
 have hTM : s < e.length → TM e (e.set s { e.get s with cs := cs, cnt := (e.get s).cnt + 1 }) G (G.cells s vs lt H) s := fun hl => by
  refine ⟨by rw [get_set_self hl]; simp, ?_, ?_⟩
  ·intro i rv1 sv1 d1 k1 l1 h1 h2
   rw [get_set_self hl] at h1
   have h3 := some_of_getD h1 (by simp)
   have hil : i < cs.length := by
    rcases Nat.lt_or_ge i cs.length with g | g
    ·exact g
    ·simp only at h3; rw [List.getElem?_eq_none g] at h3; simp at h3
   rcases hcell i _ (vs[i]'(by omega)) h3 (List.getElem?_eq_getElem (by omega)) with ⟨q1, q2, q3, _⟩ | ⟨_, q⟩
   ·refine ⟨sv1, d1, l1, getD_some q1 _, fun k n hd hh => ?_, fun hd p a _ _ ha => ⟨ha, hd, fun k n hd hh => ?_⟩⟩
    ·simpa [Gh.cells, upd_self, q3] using hh
    ·simpa [Gh.cells, upd_self, q3] using hh
   ·have := (q _ _ _ _ _ rfl).1
    omega
  ·intro bv' h1 _
   rw [get_set_self hl] at h1
   exact ⟨h1, rfl⟩
 have hT : s < e.length → ∀ t, TM e (e.set s { e.get s with cs := cs, cnt := (e.get s).cnt + 1 }) G (G.cells s vs lt H) t := fun hl t => by
  by_cases g : t = s
  ·subst g; exact hTM hl
  ·exact TM.refl (get_set_ne g) (fun j => by simp [Gh.cells, upd_ne _ _ g]) rfl
 refine h.turn s _ h.size (fun t g => ⟨by simp [Gh.cells, upd_ne _ _ g], fun i => by simp [Gh.cells, upd_ne _ _ g], rfl⟩) (fun _ _ _ => rfl) hTM hst ?_ ?_ ?_
 ·intro t g b hb'
  have how := (h.slot t).own b hb'
  refine hfar b (fun q => ?_) (fun q => (hH b q).1 t hb') t how
  rw [q, hbo] at how
  simp at how
  exact g how.symm
 ·intro hl
  have hT := hT hl
  have hfpS : fpS (G.cells s vs lt H) s { e.get s with cs := cs, cnt := (e.get s).cnt + 1 } = G.bk s :: fpCells lt 0 cs := by
   simp only [fpS, Gh.cells, upd_self, hb]
   rfl
  refine ⟨?_, ?_, ?_, ?_, ?_, ?_, ?_, ?_⟩ <;> rw [get_set_self hl]
  ·intro hn
   have := hs.form hn
   simp only [FormIs, hb] at this ⊢
   exact this
  ·intro bv' hb'
   obtain ⟨g1, _⟩ := hs.box bv' hb'
   obtain ⟨ty, hty⟩ := hblk
   exact ⟨by simp only; omega, ty, by simpa [Gh.cells, upd_self] using hty⟩
  ·intro _
   simp [Gh.cells, upd_self, hlen]
  ·intro _ j c v hc hv
   simp only [Gh.cells, upd_self] at hv ⊢
   rcases hcell j c v hc hv with ⟨q1, q2, q3, q4⟩ | ⟨q, _⟩
   ·rw [q3]
    refine (hs.cells hsh j c v q1 q2).frame hT hst fun b hb' => ?_
    have hmem : b ∈ fpS G s (e.get s) := by
     simp only [fpS, hb, List.mem_append]
     right
     exact fpCells_mem (lt := G.lt s) (i := 0) q1 (by simpa using hb')
    have := q4 b (by rw [q3]; exact hb')
    exact (hfar b this.1 this.2 s (hs.own b hmem)).1
   ·cases c with
    | own r1 r2 d' k l =>
     obtain ⟨a1, a2⟩ := q
     refine ⟨a1, fun hd b hb => ?_⟩
     have := a2 hd b hb
     simp [this.2, this.1]
    | dead => trivial
    | nil => exact (CellOk.frame (c := .nil) (v := v) (L := lt j) q hT hst fun b hb => by simp [ownB] at hb)
    | dat k x => exact (CellOk.frame (c := .dat k x) q hT hst fun b hb => by simp [ownB] at hb)
    | ref _ _ _ _ _ _ _ _ => exact (CellOk.frame (c := .ref ..) (v := v) (L := lt j) q hT hst fun b hb => by simp [ownB] at hb)
    | bptr _ _ _ => exact (CellOk.frame (c := .bptr ..) (v := v) (L := lt j) q hT hst fun b hb => by simp [ownB] at hb)
    | aptr _ _ _ _ _ _ _ _ => exact (CellOk.frame (c := .aptr ..) (v := v) (L := lt j) q hT hst fun b hb => by simp [ownB] at hb)
    | pim _ _ => exact (CellOk.frame (c := .pim ..) (v := v) (L := lt j) q hT hst fun b hb => by simp [ownB] at hb)
    | fn _ _ => exact (CellOk.frame (c := .fn ..) (v := v) (L := lt j) q hT hst fun b hb => by simp [ownB] at hb)
  ·intro _ j r1 r2 d' k l hc
   have hjl : j < cs.length := by
    rcases Nat.lt_or_ge j cs.length with g | g
    ·exact g
    ·simp only at hc; rw [List.getElem?_eq_none g] at hc; simp at hc
   rcases hcell j _ (vs[j]'(by omega)) hc (List.getElem?_eq_getElem (by omega)) with ⟨q1, _⟩ | ⟨_, q⟩
   ·have := hs.vers hsh j r1 r2 d' k l q1
    simp only
    omega
   ·have := q _ _ _ _ _ rfl
    simp only
    omega
  ·rw [hfpS]; exact hnd
  ·rw [hfpS]
   intro b hb'
   rw [List.mem_cons] at hb'
   rcases hb' with rfl | hb'
   ·simp [Gh.cells, hbH, hbo]
   ·rcases hsub b hb' with q | q
    ·simp [Gh.cells, q]
    ·by_cases z : b ∈ H
     ·simp [Gh.cells, z]
     ·simp [Gh.cells, z, hs.own b q]
  ·intro hh
   exact absurd hh hsh
 ·intro b t hb'
  simp only [Gh.cells] at hb'
  by_cases q : b ∈ H
  ·exact (hH b q).2.2
  ·rw [if_neg q] at hb'
   exact Nat.lt_of_lt_of_le (h.lt b t hb') hsize
end Go.Mach
namespace Go.Mach
set_option linter.unusedVariables false
def Sees (get : Nat → Slot) (e : Env) : Prop := ∀ s, get s = e.get s ∨ get s = {}
structure CellsOk (e : Env) (w : World) (G : Gh) (cs : List C) (vs : List Value) (Ls : Nat → LT) : Prop where
 len : vs.length = cs.length
 cell : ∀ (j : Nat) c v, cs[j]? = some c → vs[j]? = some v → CellOk e w G c v (Ls j)
structure ValOk (e : Env) (w : World) (G : Gh) (x : Val) (u : Value) (vs : List Value) (Ls : Nat → LT) : Prop where
 cells : CellsOk e w G x.2 vs Ls
 form : u = Mach.form x.1 vs
 noOwn : ∀ c ∈ x.2, c.isOwn = false
 sh : ∀ bv, x.1 ≠ .box bv
 alive : x.1 ≠ .dead
theorem getP_nil (k : K) (l : List k.T) : getP k l [] = ⟨k, l⟩ := by simp [getP]
theorem hd_of_repl {dr d : Bool} {w : World} {k : K} {l : List k.T} {L : LT} {v : Value} (h : RepL dr w k.size (Rep d w k) l L v) (hdr : dr = true) :
  SliceIs k.size l.length (hdOf L) none none v := by
 refine ⟨by simp, by simp, ?_⟩
 rcases h with ⟨rfl, rfl, a, cap, rfl, hh⟩ | ⟨b, off, cap, rows, rfl, rfl, h3, h4, h0, h5, h6⟩
 ·obtain rfl := hh hdr
  exact ⟨a, rfl, rfl⟩
 ·simp only [hdOf]
  exact ⟨h3, off, by simp, by simp⟩
theorem SlotOk.copyOwn {n : Nat} {e : Env} {tm : Array Value} {w : World} {G : Gh} {s j : Nat} (h : SlotOk n e tm w G s) {rv sv : Nat} {d : Bool} {k : K} {l : List k.T} {v : Value}
  (hc : (e.get s).cs[j]? = some (.own rv sv d k l)) (hv : (G.vs s)[j]? = some v) (L : LT) : CellOk e w G (.ref s j rv sv [] none none k) v L := by
 have hsh : (e.get s).sh ≠ .dead := fun q => by rw [h.dead q] at hc; simp at hc
 have hvs := h.vers hsh j rv sv d k l hc
 refine ⟨hvs.1, fun hp => absurd rfl hp, ?_⟩
 intro sv' d' k0 l0 h1 _
 rw [getD_some hc] at h1
 simp only [C.own.injEq] at h1
 obtain ⟨_, rfl, rfl, rfl, hl⟩ := h1
 have hl := eq_of_heq hl
 subst hl
 have hcell : CellOk e w G (.own rv sv d k l) v (G.lt s j) := h.cells hsh j _ v hc hv
 exact ⟨l.length, hdOf (G.lt s j), ⟨trivial, by rw [getP_nil], by rw [getP_nil], by simp [subL]⟩, hd_of_repl hcell.1 rfl⟩
theorem copyFrom_get (t : Nat) : ∀ (cs : List C) (j i : Nat), (copyFrom t j cs)[i]? = (cs[i]?).map (C.copy t (j + i))
 | [], j, i => by simp [copyFrom]
 | c :: r, j, 0 => by simp [copyFrom]
 | c :: r, j, i + 1 => by
  simp only [copyFrom, List.getElem?_cons_succ]
  rw [copyFrom_get t r (j + 1) i, show j + 1 + i = j + (i + 1) by omega]
theorem copyFrom_length (t : Nat) : ∀ (cs : List C) (j : Nat), (copyFrom t j cs).length = cs.length
 | [], j => rfl
 | c :: r, j => by simp [copyFrom, copyFrom_length t r]
theorem isOwn_copy (t j : Nat) (c : C) : (c.copy t j).isOwn = false := by cases c <;> rfl
theorem copyFrom_noOwn (t : Nat) (cs : List C) (j : Nat) : ∀ c ∈ copyFrom t j cs, c.isOwn = false := by
 intro c hc
 obtain ⟨i, hi⟩ := List.getElem?_of_mem hc
 rw [copyFrom_get] at hi
 cases h : cs[i]? with
 | none => rw [h] at hi; simp at hi
 | some c0 => rw [h] at hi; simp at hi; rw [← hi]; exact isOwn_copy _ _ _
theorem SlotOk.copy {n : Nat} {e : Env} {tm : Array Value} {w : World} {G : Gh} {s j : Nat} (h : SlotOk n e tm w G s) {c : C} {v : Value}
  (hc : (e.get s).cs[j]? = some c) (hv : (G.vs s)[j]? = some v) : CellOk e w G (c.copy s j) v (G.lt s j) := by
 have hsh : (e.get s).sh ≠ .dead := fun q => by rw [h.dead q] at hc; simp at hc
 cases c with
 | own rv sv d k l => exact h.copyOwn hc hv _
 | _ => exact h.cells hsh j _ v hc hv
theorem litC_ok (e : Env) (w : World) (G : Gh) (v : Value) : CellOk e w G (litC v) v .leaf ∧ (litC v).isOwn = false := by
 cases v with
 | bool b => exact ⟨⟨by simp [Rep], by simp [fp]⟩, rfl⟩
 | int k n => exact ⟨⟨by simp [Rep], by simp [fp]⟩, rfl⟩
 | string s => exact ⟨⟨by simp [Rep], by simp [fp]⟩, rfl⟩
 | slice a len cap =>
  cases a with
  | some a => exact ⟨trivial, rfl⟩
  | none =>
   cases len with
   | succ m => exact ⟨trivial, rfl⟩
   | zero =>
    cases cap with
    | succ m => exact ⟨trivial, rfl⟩
    | zero => exact ⟨rfl, rfl⟩
 | _ => exact ⟨trivial, rfl⟩
theorem lits_ok (e : Env) (w : World) (G : Gh) (vs : List Value) : CellsOk e w G (vs.map litC) vs (fun _ => .leaf) ∧ ∀ c ∈ vs.map litC, c.isOwn = false := by
 refine ⟨⟨by simp, fun j c v hc hv => ?_⟩, fun c hc => ?_⟩
 ·rw [List.getElem?_map, hv] at hc
  simp only [Option.map_some, Option.some.injEq] at hc
  subst hc
  exact (litC_ok e w G v).1
 ·obtain ⟨v, _, rfl⟩ := List.mem_map.1 hc
  exact (litC_ok e w G v).2
theorem one_ok {e : Env} {w : World} {G : Gh} {c : C} {v : Value} {L : LT} (h : CellOk e w G c v L) (ho : c.isOwn = false) : ValOk e w G (.one, [c]) v [v] (fun _ => L) := by
 refine ⟨⟨rfl, fun j c' v' hc hv => ?_⟩, rfl, by simpa using ho, by simp, by simp⟩
 cases j with
 | zero => simp at hc hv; subst hc hv; exact h
 | succ j => simp at hc
theorem opd_ok {n : Nat} {e : Env} {a : Act} {w : World} {G : Gh} {get : Nat → Slot} (h : Inv n e a.tmps w G) (hg : Sees get e) {x : Operand} (hx : ∀ t, x = .tmp t → t < n) {v : Val}
  (hv : opd get x = some v) : ∃ vs Ls, ValOk e w G v (a.eval x) vs Ls := by
 cases x with
 | tmp t =>
  have ht := hx t rfl
  have hs := h.slot t
  simp only [opd] at hv
  rcases hg t with q | q
  ·rw [q] at hv
   have hf := hs.form ht
   have hsz := h.size
   have hev : ∀ u, a.tmps[t]? = some u → a.eval (.tmp t) = u := fun u hu => by simp only [Act.eval, Array.getD_eq_getD_getElem?, hu, Option.getD_some]
   cases hsh : (e.get t).sh with
   | dead => rw [hsh] at hv; simp at hv
   | box bv =>
    rw [hsh] at hv hf
    simp only [FormIs] at hf
    simp only [Option.some.injEq] at hv
    subst hv
    rw [hev _ hf]
    refine ⟨_, _, one_ok (L := .leaf) ⟨(hs.box bv hsh).1, fun _ => rfl, _, _, rfl⟩ rfl⟩
   | one =>
    rw [hsh] at hv hf
    simp only [FormIs] at hf
    simp only [Option.some.injEq] at hv
    subst hv
    have hd : (e.get t).sh ≠ .dead := by rw [hsh]; simp
    refine ⟨G.vs t, G.lt t, ⟨by rw [copyFrom_length]; exact hs.len hd, fun j c u hc hu => ?_⟩, hev _ hf, copyFrom_noOwn _ _ _, by simp, by simp⟩
    simp only [copyFrom_get, Nat.zero_add] at hc
    cases hcj : (e.get t).cs[j]? with
    | none => rw [hcj] at hc; simp at hc
    | some c0 => rw [hcj] at hc; simp at hc; subst hc; exact hs.copy hcj hu
   | agg =>
    rw [hsh] at hv hf
    simp only [FormIs] at hf
    simp only [Option.some.injEq] at hv
    subst hv
    have hd : (e.get t).sh ≠ .dead := by rw [hsh]; simp
    refine ⟨G.vs t, G.lt t, ⟨by rw [copyFrom_length]; exact hs.len hd, fun j c u hc hu => ?_⟩, hev _ hf, copyFrom_noOwn _ _ _, by simp, by simp⟩
    simp only [copyFrom_get, Nat.zero_add] at hc
    cases hcj : (e.get t).cs[j]? with
    | none => rw [hcj] at hc; simp at hc
    | some c0 => rw [hcj] at hc; simp at hc; subst hc; exact hs.copy hcj hu
   | tup ps =>
    rw [hsh] at hv hf
    simp only [FormIs] at hf
    simp only [Option.some.injEq] at hv
    subst hv
    have hd : (e.get t).sh ≠ .dead := by rw [hsh]; simp
    refine ⟨G.vs t, G.lt t, ⟨by rw [copyFrom_length]; exact hs.len hd, fun j c u hc hu => ?_⟩, hev _ hf, copyFrom_noOwn _ _ _, by simp, by simp⟩
    simp only [copyFrom_get, Nat.zero_add] at hc
    cases hcj : (e.get t).cs[j]? with
    | none => rw [hcj] at hc; simp at hc
    | some c0 => rw [hcj] at hc; simp at hc; subst hc; exact hs.copy hcj hu
  ·rw [q] at hv
   simp at hv
 | const u =>
  cases u with
  | agg us =>
   simp only [opd, Option.some.injEq] at hv
   subst hv
   have := lits_ok e w G us.toList
   exact ⟨us.toList, _, this.1, by simp [Act.eval, form], this.2, by simp, by simp⟩
  | _ =>
   simp only [opd, Option.some.injEq] at hv
   subst hv
   exact ⟨_, _, one_ok (litC_ok e w G _).1 (litC_ok e w G _).2⟩
 | func f =>
  simp only [opd, Option.some.injEq] at hv
  subst hv
  refine ⟨_, _, one_ok (v := a.eval (.func f)) (L := .leaf) ⟨[], fun _ => .leaf, rfl, rfl, fun i c u hc => by simp at hc⟩ rfl⟩
 | global g => simp [opd] at hv
theorem opd_one {n : Nat} {e : Env} {a : Act} {w : World} {G : Gh} {get : Nat → Slot} (h : Inv n e a.tmps w G) (hg : Sees get e) {x : Operand} (hx : ∀ t, x = .tmp t → t < n) {c : C}
  (hv : opd get x = some (.one, [c])) : ∃ L, CellOk e w G c (a.eval x) L ∧ c.isOwn = false := by
 obtain ⟨vs, Ls, h1⟩ := opd_ok h hg hx hv
 have hl := h1.cells.len
 match vs, hl with
 | [u], _ =>
  have hf := h1.form
  simp only [form, List.headD_cons] at hf
  rw [hf]
  exact ⟨Ls 0, h1.cells.cell 0 c u rfl rfl, h1.noOwn c (by simp)⟩
theorem castL_some {k : K} {l : List k.T} {k' : K} {l' : List k'.T} (h : castL k l k' = some l') : (⟨k, l⟩ : (k : K) × List k.T) = ⟨k', l'⟩ := by
 unfold castL at h
 split at h
 ·rename_i e
  subst e
  simp only [Option.some.injEq] at h
  rw [← h]
 ·simp at h
theorem castL_self {k : K} {l : List k.T} : castL k l k = some l := by simp [castL]
theorem content_ok {get : Nat → Slot} {e : Env} (hg : Sees get e) {s j rv sv : Nat} {p : Path} {k : K} {d : Bool} {l : List k.T} (h : content get s j rv sv p k = some (d, l)) :
  ∃ sv' k0 l0, (e.get s).cs[j]? = some (.own rv sv' d k0 l0) ∧ (p = [] ∨ (svOk p sv sv' = true ∧ d = true)) ∧ getP k0 l0 p = ⟨k, l⟩ := by
 unfold content at h
 split at h
 ·rename_i rv' sv' deep k0 l0 hc
  split at h
  ·rename_i hh
   obtain ⟨rfl, hp⟩ := hh
   cases hcast : castL (getP k0 l0 p).1 (getP k0 l0 p).2 k with
   | none => rw [hcast] at h; simp at h
   | some l1 =>
    rw [hcast] at h
    simp only [Option.map_some, Option.some.injEq, Prod.mk.injEq] at h
    obtain ⟨rfl, rfl⟩ := h
    have := some_of_getD hc (by simp)
    rcases hg s with q | q
    ·rw [q] at this
     exact ⟨sv', k0, l0, this, hp, castL_some hcast⟩
    ·rw [q] at this
     simp at this
  ·simp at h
 ·simp at h
theorem cut_length {α : Type} (lo hi : Option Nat) (l : List α) (h : hi.getD l.length ≤ l.length) : (cut lo hi l).length = hi.getD l.length - lo.getD 0 := by
 cases lo <;> cases hi <;> simp_all [cut]
theorem cut_get {α : Type} (lo hi : Option Nat) (l : List α) (i : Nat) (h : i + lo.getD 0 < hi.getD l.length) : (cut lo hi l)[i]? = l[i + lo.getD 0]? := by
 cases lo <;> cases hi <;> simp_all [cut, Nat.add_comm]
def cutL (sz : Nat) (lo hi : Option Nat) (n : Nat) : LT → LT
 | .node b off cap rows => if cap - lo.getD 0 = 0 then .nil else .node b (off + lo.getD 0 * sz) (cap - lo.getD 0) (cut lo (some (hi.getD n)) rows)
 | L => L
theorem cut_sublist {α : Type} (lo hi : Option Nat) (l : List α) : (cut lo hi l).Sublist l := by
 cases lo <;> cases hi <;> simp only [cut]
 ·exact List.Sublist.refl _
 ·exact List.take_sublist _ _
 ·exact List.drop_sublist _ _
 ·exact (List.drop_sublist _ _).trans (List.take_sublist _ _)
theorem sub_flatMap {α β : Type} {f : α → List β} : ∀ {l l' : List α}, l.Sublist l' → (l.flatMap f).Sublist (l'.flatMap f)
 | _, _, .slnil => by simp
 | _, _, .cons a h => by simp only [List.flatMap_cons]; exact (sub_flatMap h).trans (List.sublist_append_right _ _)
 | _, _, .cons_cons a h => by simp only [List.flatMap_cons]; exact (sub_flatMap h).append_left _
theorem cutL_sublist (k : K) (sz : Nat) (lo hi : Option Nat) (n : Nat) (L : LT) : (fp (.list k) (cutL sz lo hi n L)).Sublist (fp (.list k) L) := by
 cases L with
 | node b off cap rows =>
  simp only [cutL]
  split
  ·simp [fp]
  ·simp only [fp]
   exact (sub_flatMap (f := fp k) (cut_sublist lo (some (hi.getD n)) rows)).cons_cons b
 | _ => simp [cutL]
theorem RepL.cut {dr d : Bool} {w : World} {k : K} {l : List k.T} {L : LT} {u v : Value} {lo hi : Option Nat} (h : RepL dr w k.size (Rep d w k) l L u)
  (hs : SliceIs k.size l.length (hdOf L) lo hi v) : RepL dr w k.size (Rep d w k) (Mach.cut lo hi l) (cutL k.size lo hi l.length L) v := by
 obtain ⟨h1, h2, h3⟩ := hs
 rcases h with ⟨rfl, rfl, a, cap, rfl, _⟩ | ⟨b, off, cap, rows, rfl, rfl, g1, g2, g0, g3, g4⟩
 ·simp only [hdOf] at h3
  obtain ⟨a', rfl, _⟩ := h3
  refine .inl ⟨rfl, ?_, a', 0, rfl, by simp⟩
  refine List.eq_nil_of_length_eq_zero ?_
  rw [cut_length lo hi ([] : List k.T) h2]
  simp only [List.length_nil] at h2
  simp only [List.length_nil]
  omega
 ·simp only [hdOf] at h3
  obtain ⟨hcap, o, rfl, ho⟩ := h3
  have hl := cut_length lo hi l h2
  simp only [cutL]
  by_cases hz : cap - lo.getD 0 = 0
  ·rw [if_pos hz]
   have h0 : (Mach.cut lo hi l).length = 0 := by rw [hl]; omega
   refine .inl ⟨rfl, List.eq_nil_of_length_eq_zero h0, some ⟨b, o, none⟩, cap - lo.getD 0, ?_, fun _ => hz⟩
   rw [show hi.getD l.length - lo.getD 0 = 0 by omega]
  ·rw [if_neg hz]
   have ho := ho hz
   subst ho
   have hrl : (Mach.cut lo (some (hi.getD l.length)) rows).length = hi.getD l.length - lo.getD 0 := by
    have := cut_length lo (some (hi.getD l.length)) rows (by simp; omega)
    simpa using this
   refine .inr ⟨b, _, _, _, rfl, by rw [hl], by rw [hl]; omega, by rw [hrl, hl], g0, fun hd => ?_, fun i x r hx hr => ?_⟩
   ·have := g3 hd
    rw [show off + lo.getD 0 * k.size + (cap - lo.getD 0) * k.size = off + cap * k.size by
     rw [Nat.add_assoc, ← Nat.add_mul]; congr 2; omega]
    exact this
   ·have hi' : i < (Mach.cut lo hi l).length := by
     rcases Nat.lt_or_ge i (Mach.cut lo hi l).length with g | g
     ·exact g
     ·rw [List.getElem?_eq_none g] at hx; simp at hx
    rw [cut_get lo hi l i (by omega)] at hx
    have := cut_get lo (some (hi.getD l.length)) rows i (by simp; omega)
    rw [this] at hr
    obtain ⟨vs, q1, q2⟩ := g4 _ _ _ hx hr
    refine ⟨vs, ?_, q2⟩
    rw [show off + lo.getD 0 * k.size + i * k.size = off + (i + lo.getD 0) * k.size by rw [Nat.add_mul]; omega]
    exact q1
theorem CellOk.refFits {e : Env} {w : World} {G : Gh} {s j rv sv : Nat} {p : Path} {lo hi : Option Nat} {k : K} {v : Value} {L : LT} (hc : CellOk e w G (.ref s j rv sv p lo hi k) v L)
  {sv' : Nat} {d : Bool} {k0 : K} {l0 : List k0.T} (h1 : (e.get s).cs[j]? = some (.own rv sv' d k0 l0)) (h2 : p = [] ∨ (svOk p sv sv' = true ∧ d = true)) :
  ∃ n hd, Loc k0 l0 (G.lt s j) p k n hd ∧ SliceIs k.size n hd lo hi v := hc.2.2 sv' d k0 l0 (getD_some h1 _) h2
theorem slot_alive {e : Env} {s j : Nat} {c : C} (h : (e.get s).cs[j]? = some c) : s < e.length := by
 rcases Nat.lt_or_ge s e.length with g | g
 ·exact g
 ·rw [get_out (by omega)] at h; simp at h
theorem Inv.val {n : Nat} {e : Env} {tm : Array Value} {w : World} {G : Gh} (h : Inv n e tm w G) {s j : Nat} {c : C} (hc : (e.get s).cs[j]? = some c) :
  ∃ v, (G.vs s)[j]? = some v ∧ CellOk e w G c v (G.lt s j) := by
 have hs := h.slot s
 have hsh : (e.get s).sh ≠ .dead := fun q => by rw [hs.dead q] at hc; simp at hc
 have hl := hs.len hsh
 have hj : j < (e.get s).cs.length := by
  rcases Nat.lt_or_ge j (e.get s).cs.length with g | g
  ·exact g
  ·rw [List.getElem?_eq_none g] at hc; simp at hc
 exact ⟨_, List.getElem?_eq_getElem (by omega), hs.cells hsh j c _ hc (List.getElem?_eq_getElem (by omega))⟩
theorem Inv.ownBlocks {n : Nat} {e : Env} {tm : Array Value} {w : World} {G : Gh} (h : Inv n e tm w G) {s j rv sv : Nat} {d : Bool} {k : K} {l : List k.T} (hc : (e.get s).cs[j]? = some (.own rv sv d k l)) :
  (∀ b ∈ ownB (.own rv sv d k l) (G.lt s j), G.ow b = some s) ∧ (d = false → ∀ b ∈ inner k (G.lt s j), G.ow b = none) ∧ (ownB (.own rv sv d k l) (G.lt s j)).Nodup := by
 have hs := h.slot s
 have hsh : (e.get s).sh ≠ .dead := fun q => by rw [hs.dead q] at hc; simp at hc
 have hmem : ∀ b ∈ ownB (.own rv sv d k l) (G.lt s j), b ∈ fpS G s (e.get s) := fun b hb => by
  simp only [fpS, List.mem_append]
  right
  have := fpCells_mem (lt := G.lt s) (i := 0) hc (by simpa using hb)
  cases hh : (e.get s).sh <;> simp_all
 obtain ⟨v, hv, hcell⟩ := h.val hc
 refine ⟨fun b hb => hs.own b (hmem b hb), hcell.2, ?_⟩
 obtain ⟨rest, p1, _⟩ := fpCells_perm (lt := G.lt s) (i := 0) hc
 have hnd := hs.nodup
 have : (fpCells (G.lt s) 0 (e.get s).cs).Nodup := by
  simp only [fpS] at hnd
  rw [List.nodup_append] at hnd
  have := hnd.2.1
  cases hh : (e.get s).sh <;> simp_all
 have := p1.nodup_iff.1 this
 rw [List.nodup_append] at this
 simpa using this.1
theorem fp_list (k : K) (L : LT) : fp (.list k) L = (hdOf L).toList.map (·.1) ++ inner k L := by
 cases L <;> simp [fp, hdOf, inner]
theorem Inv.at_path {n : Nat} {e : Env} {tm : Array Value} {w : World} {G : Gh} (h : Inv n e tm w G) {s j rv sv : Nat} {d : Bool} {k0 : K} {l0 : List k0.T} (hc : (e.get s).cs[j]? = some (.own rv sv d k0 l0))
  {p : Path} (hp : PathOk k0 l0 p) (hd : p = [] ∨ d = true) {k : K} {l : List k.T} (hl : getP k0 l0 p = ⟨k, l⟩) :
  ∃ u, RepL true w k.size (Rep d w k) l (subL k0 (G.lt s j) p) u ∧ (∀ b ∈ fp (.list k) (subL k0 (G.lt s j) p), b ∈ fp (.list k0) (G.lt s j)) := by
 obtain ⟨v, hv, hcell⟩ := h.val hc
 have hrep := hcell.1
 by_cases hp0 : p = []
 ·subst hp0
  rw [getP_nil] at hl
  simp only [Sigma.mk.injEq] at hl
  obtain ⟨rfl, hl⟩ := hl
  have hl := eq_of_heq hl
  subst hl
  exact ⟨v, by simpa [subL] using hrep, by simp [subL]⟩
 ·rcases hd with hd | rfl
  ·exact absurd hd hp0
  ·obtain ⟨u, rest, f1, f2, _⟩ := focus (fun _ l => l) p k0 l0 (G.lt s j) v hrep hp
   rw [hl] at f1 f2
   exact ⟨u, f1, fun b hb => f2.mem_iff.2 (by simp [hb])⟩
theorem ref_reads {n : Nat} {e : Env} {tm : Array Value} {w : World} {G : Gh} (h : Inv n e tm w G) {s j rv sv : Nat} {p : Path} {lo hi : Option Nat} {k : K} {v : Value} {L : LT}
  (hc : CellOk e w G (.ref s j rv sv p lo hi k) v L) {sv' : Nat} {d : Bool} {k0 : K} {l0 : List k0.T} (h1 : (e.get s).cs[j]? = some (.own rv sv' d k0 l0)) (h2 : p = [] ∨ (svOk p sv sv' = true ∧ d = true))
  {l : List k.T} (hl : getP k0 l0 p = ⟨k, l⟩) :
  SliceIs k.size l.length (hdOf (subL k0 (G.lt s j) p)) lo hi v ∧ PathOk k0 l0 p ∧
  RepL true w k.size (Rep d w k) (cut lo hi l) (cutL k.size lo hi l.length (subL k0 (G.lt s j) p)) v ∧
   (∀ b ∈ fp (.list k) (cutL k.size lo hi l.length (subL k0 (G.lt s j) p)), b ∈ fp (.list k0) (G.lt s j)) := by
 obtain ⟨m, hd, ⟨q1, q2, q3, q4⟩, q5⟩ := hc.refFits h1 h2
 rw [hl] at q3
 simp only at q3
 subst q3
 rw [← q4] at q5
 obtain ⟨u, r1, r2⟩ := h.at_path h1 q1 (h2.imp id And.right) hl
 exact ⟨q5, q1, r1.cut q5, fun b hb => r2 b ((cutL_sublist k k.size lo hi l.length _).subset hb)⟩
theorem leafL_sub : ∀ (k : K) (L : LT) (c : Nat), ∀ b ∈ fp (k.leaf c) (leafL k L c), b ∈ fp k L
 | .int _, L, c, b, hb => by simp [K.leaf, fp] at hb
 | .bool, L, c, b, hb => by simp [K.leaf, fp] at hb
 | .str, L, c, b, hb => by simp [K.leaf, fp] at hb
 | .list k, L, c, b, hb => by simpa [K.leaf, leafL] using hb
 | .pair x y, L, c, b, hb => by
  cases L with
  | pair p q =>
   simp only [K.leaf, leafL] at hb
   simp only [fp, List.mem_append]
   by_cases h : c < x.size
   ·simp only [h, if_true] at hb
    exact .inl (leafL_sub x p c b hb)
   ·simp only [h, if_false] at hb
    exact .inr (leafL_sub y q _ b hb)
  | _ =>
   simp only [leafL] at hb
   cases hk : (K.pair x y).leaf c <;> rw [hk] at hb <;> simp [fp] at hb
theorem subL_sub : ∀ (p : Path) (k : K) (l : List k.T) (L : LT), PathOk k l p → ∀ b ∈ fp (.list (getP k l p).1) (subL k L p), b ∈ fp (.list k) L
 | [], k, l, L, _, b, hb => by simpa [getP, subL] using hb
 | (i, c) :: p, k, l, L, hp, b, hb => by
  simp only [PathOk] at hp
  obtain ⟨_, _, hp⟩ := hp
  cases hl : leafV k (l.getD i k.dflt) c with
  | mk k1 y =>
   rw [hl] at hp
   cases k1 with
   | list k' =>
    simp only at hp
    have hk := leafV_list hl
    have eg : getP k l ((i, c) :: p) = getP k' y p := by simp only [getP, hl]
    rw [eg] at hb
    cases L with
    | node b0 off cap rows =>
     have es : subL k (.node b0 off cap rows) ((i, c) :: p) = subL k' (leafL k (rows.getD i .leaf) c) p := by simp only [subL, hk]
     rw [es] at hb
     have h1 := subL_sub p k' y _ hp b hb
     rw [← hk] at h1
     have h2 := leafL_sub k _ c b h1
     simp only [fp, List.mem_cons, List.mem_flatMap]
     right
     rcases Nat.lt_or_ge i rows.length with g | g
     ·rw [List.getD_eq_getElem?_getD, List.getElem?_eq_getElem g] at h2
      exact ⟨_, List.getElem_mem g, by simpa using h2⟩
     ·rw [List.getD_eq_getElem?_getD, List.getElem?_eq_none g] at h2
      simp only [Option.getD_none] at h2
      cases k <;> simp [fp] at h2
    | _ => simp [subL, fp] at hb
   | _ => exact hp.elim
theorem subL_inner (p : Path) (hp0 : p ≠ []) (k : K) (l : List k.T) (L : LT) (hp : PathOk k l p) : ∀ b ∈ fp (.list (getP k l p).1) (subL k L p), b ∈ inner k L := by
 intro b hb
 match p, hp0 with
 | (i, c) :: p, _ =>
  simp only [PathOk] at hp
  obtain ⟨_, _, hp⟩ := hp
  cases hl : leafV k (l.getD i k.dflt) c with
  | mk k1 y =>
   rw [hl] at hp
   cases k1 with
   | list k' =>
    simp only at hp
    have hk := leafV_list hl
    have eg : getP k l ((i, c) :: p) = getP k' y p := by simp only [getP, hl]
    rw [eg] at hb
    cases L with
    | node b0 off cap rows =>
     have es : subL k (.node b0 off cap rows) ((i, c) :: p) = subL k' (leafL k (rows.getD i .leaf) c) p := by simp only [subL, hk]
     rw [es] at hb
     have h1 := subL_sub p k' y _ hp b hb
     rw [← hk] at h1
     have h2 := leafL_sub k _ c b h1
     simp only [inner, List.mem_flatMap]
     rcases Nat.lt_or_ge i rows.length with g | g
     ·rw [List.getD_eq_getElem?_getD, List.getElem?_eq_getElem g] at h2
      exact ⟨_, List.getElem_mem g, by simpa using h2⟩
     ·rw [List.getD_eq_getElem?_getD, List.getElem?_eq_none g] at h2
      simp only [Option.getD_none] at h2
      cases k <;> simp [fp] at h2
    | _ => simp [subL, fp] at hb
   | _ => exact hp.elim
end Go.Mach
namespace Go.Mach
set_option linter.unusedVariables false
theorem puts_set (ws : Writes) : ∀ (e : Env) (s : Nat) (x : Slot), Env.puts (e.set s x) (ws.filter (·.1 ≠ s)) = (Env.puts e ws).set s x := by
 induction ws with
 | nil => intro e s x; rfl
 | cons a ws ih =>
  obtain ⟨s', y⟩ := a
  intro e s x
  by_cases h : s' = s
  ·subst h
   simp only [ne_eq, not_true_eq_false, decide_false, Bool.false_eq_true, not_false_eq_true, List.filter_cons_of_neg, Env.puts]
   rw [← ih (e.set s' y) s' x]
   simp
  ·simp only [ne_eq, h, not_false_eq_true, decide_true, List.filter_cons_of_pos, Env.puts]
   rw [← ih (e.set s' y) s x]
   rw [List.set_comm _ _ (fun q => h q.symm)]
theorem puts_length (ws : Writes) : ∀ (e : Env), (Env.puts e ws).length = e.length := by
 induction ws with
 | nil => intro e; rfl
 | cons a ws ih => obtain ⟨s', y⟩ := a; intro e; simp only [Env.puts]; rw [ih]; simp
structure TrOk (e0 : Env) (t : Tr) (e : Env) : Prop where
 sees : ∀ s, t.at s = e.get s ∨ t.at s = {}
 puts : e0.puts t.ws = e
 dst : ∀ d, t.d = some d → t.at d = e.get d
theorem TrOk.length {e0 : Env} {t : Tr} {e : Env} (h : TrOk e0 t e) : e.length = e0.length := by rw [← h.puts, puts_length]
theorem at_put_self (t : Tr) (s : Nat) (x : Slot) : (t.put s x).at s = x := by simp [Tr.at, Tr.put]
theorem at_put_ne (t : Tr) {s s' : Nat} (x : Slot) (h : s' ≠ s) : (t.put s x).at s' = t.at s' := by
 have : (t.ws.filter (·.1 ≠ s)).find? (·.1 = s') = t.ws.find? (·.1 = s') := by
  rw [List.find?_filter]
  congr 1
  funext a
  by_cases g : a.1 = s' <;> simp [g, h]
 simp only [Tr.at, Tr.put]
 rw [List.find?_cons_of_neg (by simpa using fun q => h q.symm)]
 rw [this]
theorem TrOk.put {e0 : Env} {t : Tr} {e : Env} (h : TrOk e0 t e) {s : Nat} (x : Slot) (hs : s < e.length) : TrOk e0 (t.put s x) (e.set s x) := by
 refine ⟨fun s' => ?_, ?_, fun d hd => ?_⟩
 ·by_cases g : s' = s
  ·subst g
   left
   rw [at_put_self, get_set_self hs]
  ·rw [at_put_ne t x g, get_set_ne g]
   exact h.sees s'
 ·simp only [Tr.put, Env.puts]
  rw [puts_set, h.puts]
 ·by_cases g : d = s
  ·subst g
   rw [at_put_self, get_set_self hs]
  ·rw [at_put_ne t x g, get_set_ne g]
   exact h.dst d hd
theorem TrOk.start {get : Nat → Slot} {e : Env} {d : Option Nat} (h : Sees get e) (hd : ∀ d', d = some d' → get d' = e.get d') : TrOk e { get, d } e := ⟨h, rfl, hd⟩
theorem TrOk.cell {e0 : Env} {t : Tr} {e : Env} (h : TrOk e0 t e) {s j : Nat} {c : C} (hc : (t.at s).cs.getD j .dead = c) (hd : c ≠ .dead) : t.at s = e.get s ∧ (e.get s).cs[j]? = some c := by
 have := some_of_getD hc hd
 rcases h.sees s with q | q
 ·rw [q] at this; exact ⟨q, this⟩
 ·rw [q] at this; simp at this
structure Ext (w : World) (e : Env) (G : Gh) (e' : Env) (G' : Gh) : Prop where
 len : e'.length = e.length
 cell : ∀ c v L, c.isOwn = false → CellOk e w G c v L → CellOk e' w G' c v L
 loose : ∀ b, Loose e G b → G.ow b ≠ none → Loose e' G' b ∧ G'.ow b = G.ow b
 none : ∀ b, G.ow b = none → G'.ow b = none
 sub : ∀ b t, G'.ow b = some t → G.ow b = some t
 sh : ∀ s, (e'.get s).sh = (e.get s).sh
 cnt : ∀ s, (e.get s).cnt ≤ (e'.get s).cnt
 vs : G'.vs = G.vs
 lt : G'.lt = G.lt
 bk : G'.bk = G.bk
 clen : ∀ s, (e'.get s).cs.length = (e.get s).cs.length
theorem Ext.refl {w : World} {e : Env} {G : Gh} : Ext w e G e G := ⟨rfl, fun _ _ _ _ h => h, fun _ h1 _ => ⟨h1, rfl⟩, fun _ h => h, fun _ _ h => h, fun _ => rfl, fun _ => Nat.le_refl _, rfl, rfl, rfl, fun _ => rfl⟩
theorem Ext.trans {w : World} {e e' e'' : Env} {G G' G'' : Gh} (h : Ext w e G e' G') (h' : Ext w e' G' e'' G'') : Ext w e G e'' G'' := by
 refine ⟨h'.len.trans h.len, fun c v L ho hc => h'.cell c v L ho (h.cell c v L ho hc), fun b h1 h2 => ?_, fun b hb => h'.none b (h.none b hb), fun b t hb => h.sub b t (h'.sub b t hb), fun s => (h'.sh s).trans (h.sh s),
  fun s => Nat.le_trans (h.cnt s) (h'.cnt s), h'.vs.trans h.vs, h'.lt.trans h.lt, h'.bk.trans h.bk, fun s => (h'.clen s).trans (h.clen s)⟩
 obtain ⟨q1, q2⟩ := h.loose b h1 h2
 obtain ⟨q3, q4⟩ := h'.loose b q1 (by rw [q2]; exact h2)
 exact ⟨q3, q4.trans q2⟩
theorem noOwn_ownB {c : C} {L : LT} (h : c.isOwn = false) : ownB c L = [] := by
 cases c with
 | own _ _ _ _ _ => simp [C.isOwn] at h
 | _ => rfl
theorem fpS_kill_sub (G : Gh) (s j : Nat) (x : Slot) : (fpS G s (x.kill j)).Sublist (fpS G s x) := by
 have key : ∀ (cs : List C) (i j : Nat), (fpCells (G.lt s) i (cs.set j .dead)).Sublist (fpCells (G.lt s) i cs) := by
  intro cs
  induction cs with
  | nil => intro i j; simp [fpCells]
  | cons a cs ih =>
   intro i j
   cases j with
   | zero => simp only [List.set_cons_zero, fpCells, ownB, List.nil_append]; exact List.sublist_append_right _ _
   | succ j => simp only [List.set_cons_succ, fpCells]; exact (ih (i + 1) j).append_left _
 simp only [fpS, Slot.kill]
 refine List.Sublist.append (List.Sublist.refl _) ?_
 cases x.sh <;> first | exact List.Sublist.refl _ | exact key _ 0 j
theorem TM.kill {e : Env} {G : Gh} {s j : Nat} (t : Nat) : TM e (e.set s ((e.get s).kill j)) G G t := by
 by_cases hl : s < e.length
 ·by_cases g : t = s
  ·subst g
   have hk : ∀ i c, ((e.get t).kill j).cs[i]? = some c → c = .dead ∨ ((e.get t).cs[i]? = some c ∧ i ≠ j) := by
    intro i c hc
    simp only [Slot.kill, List.getElem?_set] at hc
    by_cases g : j = i
    ·subst g
     simp at hc
     exact .inl hc.2.symm
    ·rw [if_neg g] at hc
     exact .inr ⟨hc, fun q => g q.symm⟩
   refine ⟨by rw [get_set_self hl]; exact Nat.le_refl _, ?_, ?_⟩
   ·intro i rv sv d k l h1 h2
    rw [get_set_self hl] at h1
    have h3 := hk i _ (some_of_getD h1 (by simp))
    rcases h3 with h3 | ⟨h3, _⟩
    ·cases h3
    ·exact ⟨sv, d, l, getD_some h3 _, fun _ _ _ q => q, fun hd _ _ _ _ ha => ⟨ha, hd, fun _ _ _ q => q⟩⟩
   ·intro bv h1 _
    rw [get_set_self hl] at h1
    exact ⟨h1, rfl⟩
  ·exact TM.refl (get_set_ne g) (fun _ => rfl) rfl
 ·rw [set_out hl]
  exact TM.refl rfl (fun _ => rfl) rfl
theorem Ext.kill {w : World} {e : Env} {G : Gh} (s j : Nat) : Ext w e G (e.set s ((e.get s).kill j)) G := by
 have hget : ∀ t, (Env.get (e.set s ((e.get s).kill j)) t) = e.get t ∨ (t = s ∧ Env.get (e.set s ((e.get s).kill j)) t = (e.get s).kill j) := fun t => by
  rw [get_set]
  by_cases g : t = s ∧ s < e.length
  ·right; rw [if_pos g]; exact ⟨g.1, rfl⟩
  ·left; rw [if_neg g]
 refine ⟨by simp, fun c v L ho hc => hc.frame (fun t => TM.kill t) still_refl (fun b hb => by simp [noOwn_ownB ho] at hb), fun b h1 _ => ⟨fun t ht => ?_, rfl⟩, fun _ h => h, fun _ _ h => h, fun t => ?_, fun t => ?_, rfl, rfl, rfl, fun t => ?_⟩
 ·rcases hget t with q | ⟨rfl, q⟩
  ·rw [q] at ht; exact h1 t ht
  ·rw [q] at ht; exact h1 t ((fpS_kill_sub G t j (e.get t)).subset ht)
 ·rcases hget t with q | ⟨rfl, q⟩ <;> rw [q]
  rfl
 ·rcases hget t with q | ⟨rfl, q⟩
  ·rw [q]; exact Nat.le_refl _
  ·rw [q]; exact Nat.le_refl _
 ·rcases hget t with q | ⟨rfl, q⟩ <;> rw [q]
  simp [Slot.kill]
theorem Inv.freeze {n : Nat} {e : Env} {tm : Array Value} {w : World} {G : Gh} (h : Inv n e tm w G) {s j rv sv : Nat} {d : Bool} {k : K} {l : List k.T}
  (hc : (e.get s).cs[j]? = some (.own rv sv d k l)) :
  ∃ G', Inv n (e.set s { e.get s with cs := (e.get s).cs.set j (.own rv sv false k l) }) tm w G' ∧ Ext w e G (e.set s { e.get s with cs := (e.get s).cs.set j (.own rv sv false k l) }) G' ∧
   (∀ b ∈ inner k (G.lt s j), G'.ow b = none) ∧ (∀ t i, G'.lt t i = G.lt t i) ∧ (∀ b, G'.ow b = G.ow b ∨ G'.ow b = none) := by
 obtain ⟨v, hv, hcell⟩ := h.val hc
 obtain ⟨ho1, ho2, ho3⟩ := h.ownBlocks hc
 have hl := slot_alive hc
 have hjl : j < (e.get s).cs.length := by
  rcases Nat.lt_or_ge j (e.get s).cs.length with g | g
  ·exact g
  ·rw [List.getElem?_eq_none g] at hc; simp at hc
 have hroot : ∀ b ∈ ownB (.own rv sv false k l) (G.lt s j), b ∈ ownB (.own rv sv d k l) (G.lt s j) := by
  intro b hb
  cases d with
  | false => exact hb
  | true =>
   cases hL : G.lt s j with
   | node b0 off cap rows => rw [hL] at hb; simp [ownB, hdOf] at hb; simp [ownB, fp, hb]
   | _ => rw [hL] at hb; simp [ownB, hdOf] at hb
 have hsubl : (ownB (.own rv sv false k l) (G.lt s j)).Nodup := by
  cases hL : G.lt s j <;> simp [ownB, hdOf]
 let F := if d then inner k (G.lt s j) else []
 have hnd : d = true → ∀ b ∈ inner k (G.lt s j), b ∈ ownB (.own rv sv d k l) (G.lt s j) ∧ b ∉ ownB (.own rv sv false k l) (G.lt s j) := by
  intro hd b hb
  subst hd
  cases hL : G.lt s j with
  | node b0 off cap rows =>
   rw [hL] at hb ho3
   simp only [ownB, fp, List.nodup_cons] at ho3
   simp only [inner] at hb
   refine ⟨by simp [ownB, fp, hb], ?_⟩
   simp only [ownB, hdOf, Option.toList_some, List.map_cons, List.map_nil, List.mem_singleton]
   rintro rfl
   exact ho3.1 hb
  | _ => rw [hL] at hb; simp [inner] at hb
 have hinv := h.own hc hv sv (e.get s).cnt false l (G.lt s j) [] F (Nat.le_refl _) (fun b _ _ _ => rfl) (by simp) hcell.1.weaken (fun b hb => .inl (hroot b hb)) hsubl
  (fun b hb => by
   cases d with
   | true => exact ⟨.inl (hnd rfl b hb).1, (hnd rfl b hb).2⟩
   | false => simp [F] at hb)
  (fun _ b hb => by
   cases d with
   | true => right; exact hb
   | false => left; exact ⟨ho2 rfl b hb, by simp⟩)
  rfl rfl (.inl ⟨rfl, rfl, by simp⟩)
 have hlt : ∀ t i, (G.turn s j (G.lt s j) [] F).lt t i = G.lt t i := by
  intro t i
  simp only [Gh.turn, upd]
  by_cases g : t = s
  ·subst g; by_cases g' : i = j <;> simp [g', upd]
  ·simp [g]
 have hTM : ∀ t, TM e (e.set s { e.get s with cs := (e.get s).cs.set j (.own rv sv false k l) }) G (G.turn s j (G.lt s j) [] F) t := by
  intro t
  by_cases g : t = s
  ·subst g
   refine ⟨by rw [get_set_self hl]; exact Nat.le_refl _, ?_, ?_⟩
   ·intro i rv1 sv1 d1 k1 l1 h1 h2
    rw [get_set_self hl] at h1
    by_cases g : i = j
    ·subst g
     have : (((e.get t).cs.set i (.own rv sv false k l)).getD i .dead) = .own rv sv false k l := getD_some (by simp [hjl]) _
     simp only at h1
     rw [this] at h1
     simp only [C.own.injEq] at h1
     obtain ⟨rfl, rfl, rfl, rfl, hll⟩ := h1
     have hll := eq_of_heq hll
     subst hll
     exact ⟨sv, d, l, getD_some hc _, fun k n hd hh => by rw [hlt]; exact hh, fun q => by cases q⟩
    ·simp only at h1
     rw [getD_set_ne g] at h1
     exact ⟨sv1, d1, l1, h1, fun k n hd hh => by rw [hlt]; exact hh, fun hd p a _ _ ha => ⟨ha, hd, fun k n hd hh => by rw [hlt]; exact hh⟩⟩
   ·intro bv h1 _
    rw [get_set_self hl] at h1
    exact ⟨h1, rfl⟩
  ·exact TM.refl (get_set_ne g) (fun j => hlt _ _) rfl
 have hnone : ∀ b, G.ow b = none → (G.turn s j (G.lt s j) [] F).ow b = none := by
  intro b hb
  simp only [Gh.turn]
  by_cases q : b ∈ F <;> simp [q, hb]
 have hfp : ∀ t b, b ∈ fpS (G.turn s j (G.lt s j) [] F) t (Env.get (e.set s { e.get s with cs := (e.get s).cs.set j (.own rv sv false k l) }) t) → b ∈ fpS G t (e.get t) := by
  intro t b hb
  have hlt' : (G.turn s j (G.lt s j) [] F).lt t = G.lt t := funext (hlt t)
  by_cases g : t = s
  ·subst g
   rw [get_set_self hl] at hb
   simp only [fpS, hlt', List.mem_append] at hb ⊢
   rcases hb with hb | hb
   ·left; simpa [Gh.turn] using hb
   ·right
    have hne : (e.get t).sh ≠ .dead := fun q => by rw [(h.slot t).dead q] at hc; simp at hc
    have hb' : b ∈ fpCells (G.lt t) 0 ((e.get t).cs.set j (.own rv sv false k l)) := by
     simp only at hb
     cases hh : (e.get t).sh <;> simp_all
    obtain ⟨i, c, q1, q2⟩ := fpCells_of hb'
    have : b ∈ fpCells (G.lt t) 0 (e.get t).cs := by
     by_cases g : i = j
     ·subst g
      rw [List.getElem?_set_self hjl] at q1
      simp only [Option.some.injEq] at q1
      subst q1
      exact fpCells_mem hc (by simpa using hroot b (by simpa using q2))
     ·rw [List.getElem?_set_ne (fun q => g q.symm)] at q1
      exact fpCells_mem q1 q2
    cases hh : (e.get t).sh <;> simp_all
  ·rw [get_set_ne g] at hb
   simp only [fpS, hlt'] at hb ⊢
   exact hb
 refine ⟨_, hinv, ?_, ?_, hlt, ?_⟩
 ·refine ⟨by simp, fun c v L hno hc' => hc'.frame hTM (fun b h1 h2 => ⟨rfl, hnone b h1⟩) (fun b hb => by simp [noOwn_ownB hno] at hb), fun b h1 h2 => ⟨fun t ht => h1 t (hfp t b ht), ?_⟩, hnone, fun b t hb => ?sub, fun t => ?_, fun t => ?_, rfl, ?lt, rfl, fun t => ?_⟩
  case lt => exact funext fun t => funext fun i => hlt t i
  case sub =>
   simp only [Gh.turn] at hb
   split at hb
   ·simp at hb
   ·simpa using hb
  ·have hbF : b ∉ F := by
    intro q
    cases d with
    | false => simp [F] at q
    | true =>
     have := (hnd rfl b q).1
     have hm : b ∈ fpS G s (e.get s) := by
      simp only [fpS, List.mem_append]
      right
      have := fpCells_mem (lt := G.lt s) (i := 0) hc (by simpa using this)
      cases hh : (e.get s).sh with
      | dead => rw [(h.slot s).dead hh] at hc; simp at hc
      | _ => simpa using this
     exact h1 s hm
   simp [Gh.turn, hbF]
  ·by_cases g : t = s
   ·subst g; rw [get_set_self hl]
   ·rw [get_set_ne g]
  ·by_cases g : t = s
   ·subst g; rw [get_set_self hl]; exact Nat.le_refl _
   ·rw [get_set_ne g]; exact Nat.le_refl _
  ·by_cases g : t = s
   ·subst g; rw [get_set_self hl]; simp
   ·rw [get_set_ne g]
 ·intro b hb
  cases d with
  | true => simp only [Gh.turn]; rw [if_pos (show b ∈ F from hb)]
  | false => exact hnone b (ho2 rfl b hb)
 ·intro b
  simp only [Gh.turn]
  by_cases q : b ∈ F <;> simp [q]
end Go.Mach
namespace Go.Mach
set_option linter.unusedVariables false
structure Hand (w : World) (e0 : Env) (G0 : Gh) (e : Env) (G : Gh) (H : List Nat) : Prop where
 nodup : H.Nodup
 mem : ∀ b ∈ H, Loose e G b ∧ G.ow b ≠ none ∧ b < w.heap.size ∧ ¬ Loose e0 G0 b
theorem Hand.nil {w : World} {e0 e : Env} {G0 G : Gh} : Hand w e0 G0 e G [] := ⟨List.nodup_nil, by simp⟩
theorem Hand.ext {w : World} {e0 e e' : Env} {G0 G G' : Gh} {H : List Nat} (h : Hand w e0 G0 e G H) (x : Ext w e G e' G') : Hand w e0 G0 e' G' H :=
 ⟨h.nodup, fun b hb => by
  obtain ⟨h1, h2, h3, h4⟩ := h.mem b hb
  obtain ⟨q1, q2⟩ := x.loose b h1 h2
  exact ⟨q1, by rw [q2]; exact h2, h3, h4⟩⟩
theorem Hand.append {w : World} {e0 e1 e2 : Env} {G0 G1 G2 : Gh} {H H' : List Nat} (h : Hand w e0 G0 e1 G1 H) (x0 : Ext w e0 G0 e1 G1) (x : Ext w e1 G1 e2 G2) (h' : Hand w e1 G1 e2 G2 H')
  (hl : ∀ b, Loose e0 G0 b → G0.ow b ≠ none → Loose e1 G1 b) (hc : ∀ b ∈ H', G0.ow b ≠ none) : Hand w e0 G0 e2 G2 (H ++ H') := by
 refine ⟨?_, ?_⟩
 ·rw [List.nodup_append]
  refine ⟨h.nodup, h'.nodup, fun a ha b hb hab => ?_⟩
  subst hab
  exact (h'.mem a hb).2.2.2 (h.mem a ha).1
 ·intro b hb
  rw [List.mem_append] at hb
  rcases hb with hb | hb
  ·exact (h.ext x).mem b hb
  ·obtain ⟨h1, h2, h3, h4⟩ := h'.mem b hb
   exact ⟨h1, h2, h3, fun q => h4 (hl b q (hc b hb))⟩
theorem Ext.some_before {w : World} {e e' : Env} {G G' : Gh} (x : Ext w e G e' G') {b : Nat} (h : G'.ow b ≠ Option.none) : G.ow b ≠ Option.none := fun q => h (x.none b q)
theorem RepL.rep {dr d : Bool} {w : World} {k : K} {l : List k.T} {L : LT} {v : Value} (h : RepL dr w k.size (Rep d w k) l L v) : Rep false w (.list k) l L [v] := by
 simp only [Rep]
 exact ⟨v, rfl, h.root.weaken⟩
structure Grabbed (n : Nat) (e0 : Env) (e : Env) (tm : Array Value) (w : World) (G : Gh) (t' : Tr) (k : K) (x : k.T) (d : Bool) (vs : List Value) (e' : Env) (G' : Gh) (H : List Nat) (L : LT) : Prop where
 inv : Inv n e' tm w G'
 tr : TrOk e0 t' e'
 ext : Ext w e G e' G'
 hand : Hand w e G e' G' H
 rep : Rep d w k x L vs
 fp : d = true → H = fp k L
 none : ∀ b ∈ Mach.fp k L, b ∈ H ∨ G'.ow b = none
theorem grab_ok {n : Nat} {e0 e : Env} {tm : Array Value} {w : World} {G : Gh} {t t' : Tr} (h : Inv n e tm w G) (ht : TrOk e0 t e) {c : C} {v : Value} {L : LT} (hc : CellOk e w G c v L) {k : K} {x : k.T} {d : Bool}
  (hg : t.grab c k = some (t', x, d)) : ∃ e' G' H L', Grabbed n e0 e tm w G t' k x d [v] e' G' H L' := by
 cases c with
 | dat k' y =>
  simp only [Tr.grab] at hg
  split at hg
  ·rename_i hk
   subst hk
   simp only [Option.some.injEq, Prod.mk.injEq, castT_same] at hg
   obtain ⟨rfl, rfl, rfl⟩ := hg
   obtain ⟨h1, h2⟩ := hc
   refine ⟨e, G, [], L, h, ht, Ext.refl, Hand.nil, ?_, fun hd => (fp_flat hd).symm, fun b hb => .inr (h2 b hb)⟩
   cases hf : k'.flat with
   | true => exact h1.flat hf
   | false => exact h1
  ·simp at hg
 | nil =>
  cases k with
  | list k0 =>
   simp only [Tr.grab, Option.some.injEq, Prod.mk.injEq] at hg
   obtain ⟨rfl, rfl, rfl⟩ := hg
   obtain rfl : v = .slice none 0 0 := hc
   refine ⟨e, G, [], .nil, h, ht, Ext.refl, Hand.nil, ?_, fun _ => by simp [fp], by simp [fp]⟩
   simp only [Rep]
   exact ⟨_, rfl, .inl ⟨rfl, rfl, none, 0, rfl, fun _ => rfl⟩⟩
  | _ => simp [Tr.grab] at hg
 | ref s j rv sv p lo hi k1 =>
  simp only [Tr.grab] at hg
  split at hg
  ·rename_i rv' sv' d0 k0 l0 hcell
   split at hg
   ·rename_i hcond
    obtain ⟨rfl, hp, rfl⟩ := hcond
    cases hcl : castL (getP k0 l0 p).1 (getP k0 l0 p).2 k1 with
    | none => rw [hcl] at hg; simp at hg
    | some l =>
     rw [hcl] at hg
     obtain ⟨hat, hown⟩ := ht.cell hcell (by simp)
     have hl : getP k0 l0 p = ⟨k1, l⟩ := castL_some hcl
     obtain ⟨hsl, hpo, hrep, hsub⟩ := ref_reads h hc hown hp hl
     obtain ⟨ho1, ho2, ho3⟩ := h.ownBlocks hown
     have halive := slot_alive hown
     have hrep' : Rep false w (.list k1) (cut lo hi l) (cutL k1.size lo hi l.length (subL k0 (G.lt s j) p)) [v] := hrep.rep
     cases p with
     | nil =>
      simp only [Option.some.injEq, Prod.mk.injEq, castT_same] at hg
      obtain ⟨rfl, rfl, rfl⟩ := hg
      rw [getP_nil] at hl
      simp only [Sigma.mk.injEq] at hl
      obtain ⟨rfl, hl⟩ := hl
      have hl := eq_of_heq hl
      subst hl
      simp only [subL] at hrep hrep'
      rw [hat]
      have hroot : ∀ b ∈ ownB (.own rv sv' d0 k0 l0) (G.lt s j), Hand w e G (e.set s ((e.get s).kill j)) G [b] := fun b hb => by
       obtain ⟨q1, q2⟩ := h.loose hown hb
       refine ⟨by simp, fun b' hb' => ?_⟩
       simp only [List.mem_singleton] at hb'
       subst hb'
       refine ⟨q2, by rw [q1]; simp, h.lt b' s q1, fun q => q s ?_⟩
       have := fpCells_mem (lt := G.lt s) (i := 0) hown (by simpa using hb)
       simp only [fpS, List.mem_append]
       right
       cases hh : (e.get s).sh with
       | dead => rw [(h.slot s).dead hh] at hown; simp at hown
       | _ => simpa using this
      have hand : ∀ H : List Nat, H.Nodup → (∀ b ∈ H, b ∈ ownB (.own rv sv' d0 k0 l0) (G.lt s j)) → Hand w e G (e.set s ((e.get s).kill j)) G H := fun H hn hH =>
       ⟨hn, fun b hb => (hroot b (hH b hb)).mem b (by simp)⟩
      cases d0 with
      | true =>
       have hsl := cutL_sublist k0 k0.size lo hi l0.length (G.lt s j)
       refine ⟨_, G, fp (.list k0) (cutL k0.size lo hi l0.length (G.lt s j)), _, h.kill s j, ht.put _ halive, Ext.kill s j, hand _ (ho3.sublist hsl) (fun b hb => hsl.subset hb), ?_, fun _ => rfl, fun b hb => .inl hb⟩
       simp only [Rep]
       exact ⟨v, rfl, hrep⟩
      | false =>
       have hin : ∀ b ∈ inner k0 (cutL k0.size lo hi l0.length (G.lt s j)), b ∈ inner k0 (G.lt s j) := by
        intro b hb
        cases hL : G.lt s j with
        | node b0 off cap rows =>
         rw [hL] at hb
         simp only [cutL] at hb
         split at hb
         ·simp [inner] at hb
         ·simp only [inner] at hb ⊢
          exact (sub_flatMap (cut_sublist _ _ _)).subset hb
        | _ => rw [hL] at hb; simpa [cutL] using hb
       have hrt : ∀ b ∈ (hdOf (cutL k0.size lo hi l0.length (G.lt s j))).toList.map (·.1), b ∈ ownB (.own rv sv' false k0 l0) (G.lt s j) := by
        intro b hb
        simp only [ownB]
        cases hL : G.lt s j with
        | node b0 off cap rows =>
         rw [hL] at hb
         simp only [cutL] at hb
         split at hb
         ·simp [hdOf] at hb
         ·simpa [hdOf] using hb
        | _ => rw [hL] at hb; simpa [cutL] using hb
       refine ⟨_, G, (hdOf (cutL k0.size lo hi l0.length (G.lt s j))).toList.map (·.1), _, h.kill s j, ht.put _ halive, Ext.kill s j, hand _ ?_ hrt, hrep', by simp, fun b hb => ?_⟩
       ·cases cutL k0.size lo hi l0.length (G.lt s j) <;> simp [hdOf]
       ·rw [fp_list, List.mem_append] at hb
        rcases hb with hb | hb
        ·exact .inl hb
        ·exact .inr (ho2 rfl b (hin b hb))
     | cons a p =>
      simp only [Option.some.injEq, Prod.mk.injEq, castT_same] at hg
      obtain ⟨rfl, rfl, rfl⟩ := hg
      rw [hat]
      obtain ⟨G', q1, q2, q3, q4, q5⟩ := h.freeze hown
      refine ⟨_, G', [], _, q1, ht.put _ halive, q2, Hand.nil, hrep', by simp, fun b hb => .inr (q3 b ?_)⟩
      have h1 := (cutL_sublist k1 k1.size lo hi l.length _).subset hb
      have h2 := subL_inner (a :: p) (by simp) k0 l0 (G.lt s j) hpo b
      rw [hl] at h2
      exact h2 h1
   ·simp at hg
  ·simp at hg
 | dead => simp [Tr.grab] at hg
 | own _ _ _ _ _ => simp [Tr.grab] at hg
 | bptr _ _ _ => simp [Tr.grab] at hg
 | aptr _ _ _ _ _ _ _ _ => simp [Tr.grab] at hg
 | pim _ _ => simp [Tr.grab] at hg
 | fn _ _ => simp [Tr.grab] at hg
theorem CellsOk.ext {w : World} {e e' : Env} {G G' : Gh} {cs : List C} {vs : List Value} {Ls : Nat → LT} (h : CellsOk e w G cs vs Ls) (x : Ext w e G e' G') (ho : ∀ c ∈ cs, c.isOwn = false) : CellsOk e' w G' cs vs Ls :=
 ⟨h.len, fun j c v hc hv => x.cell c v _ (ho c (List.mem_of_getElem? hc)) (h.cell j c v hc hv)⟩
theorem CellsOk.take {w : World} {e : Env} {G : Gh} {cs : List C} {vs : List Value} {Ls : Nat → LT} (h : CellsOk e w G cs vs Ls) (m : Nat) : CellsOk e w G (cs.take m) (vs.take m) Ls := by
 refine ⟨by simp [h.len], fun j c v hc hv => ?_⟩
 rw [List.getElem?_take] at hc hv
 split at hc
 ·rename_i hj
  rw [if_pos hj] at hv
  exact h.cell j c v hc hv
 ·simp at hc
theorem CellsOk.drop {w : World} {e : Env} {G : Gh} {cs : List C} {vs : List Value} {Ls : Nat → LT} (h : CellsOk e w G cs vs Ls) (m : Nat) : CellsOk e w G (cs.drop m) (vs.drop m) (fun j => Ls (m + j)) := by
 refine ⟨by simp [h.len], fun j c v hc hv => ?_⟩
 rw [List.getElem?_drop] at hc hv
 exact h.cell (m + j) c v hc hv
theorem Grabbed.then {n : Nat} {e0 e e1 e2 : Env} {tm : Array Value} {w : World} {G G1 G2 : Gh} {t1 t2 : Tr} {k1 k2 : K} {x1 : k1.T} {x2 : k2.T} {d1 d2 : Bool} {v1 v2 : List Value} {H1 H2 : List Nat} {L1 L2 : LT}
  (h1 : Grabbed n e0 e tm w G t1 k1 x1 d1 v1 e1 G1 H1 L1) (h2 : Grabbed n e0 e1 tm w G1 t2 k2 x2 d2 v2 e2 G2 H2 L2) :
  Grabbed n e0 e tm w G t2 (.pair k1 k2) (x1, x2) (d1 && d2) (v1 ++ v2) e2 G2 (H1 ++ H2) (.pair L1 L2) where
 inv := h2.inv
 tr := h2.tr
 ext := h1.ext.trans h2.ext
 hand := h1.hand.append h1.ext h2.ext h2.hand (fun b hb ho => (h1.ext.loose b hb ho).1) (fun b hb => h1.ext.some_before (h2.ext.some_before (h2.hand.mem b hb).2.1))
 rep := by
  simp only [Rep]
  refine ⟨L1, L2, v1, v2, rfl, rfl, ?_, ?_⟩
  ·cases d1 with
   | false => simpa using h1.rep
   | true => cases d2 with
    | true => exact h1.rep
    | false => exact h1.rep.weaken
  ·cases d1 with
   | true => simpa using h2.rep
   | false => exact h2.rep.weaken
 fp := by
  intro hd
  simp only [Bool.and_eq_true] at hd
  simp only [Mach.fp]
  rw [h1.fp hd.1, h2.fp hd.2]
 none := by
  intro b hb
  simp only [Mach.fp, List.mem_append] at hb
  rcases hb with hb | hb
  ·rcases h1.none b hb with q | q
   ·exact .inl (by simp [q])
   ·exact .inr (h2.ext.none b q)
  ·rcases h2.none b hb with q | q
   ·exact .inl (by simp [q])
   ·exact .inr q
theorem one_val {vs : List Value} {c : C} (h : vs.length = [c].length) : ∃ v, vs = [v] := by
 match vs, h with
 | [v], _ => exact ⟨v, rfl⟩
theorem pack_ok : ∀ (k : K) {n : Nat} {e0 e : Env} {tm : Array Value} {w : World} {G : Gh} {t t' : Tr} (h : Inv n e tm w G) (ht : TrOk e0 t e) {cs : List C} {vs : List Value} {Ls : Nat → LT} (hc : CellsOk e w G cs vs Ls)
  (ho : ∀ c ∈ cs, c.isOwn = false) {x : k.T} {d : Bool} (hg : t.pack k cs = some (t', x, d)), ∃ e' G' H L', Grabbed n e0 e tm w G t' k x d vs e' G' H L'
 | .pair a b, n, e0, e, tm, w, G, t, t', h, ht, cs, vs, Ls, hc, ho, x, d, hg => by
  simp only [Tr.pack] at hg
  cases h1 : t.pack a (cs.take a.size) with
  | none => rw [h1] at hg; simp at hg
  | some r1 =>
   obtain ⟨t1, x1, d1⟩ := r1
   rw [h1] at hg
   simp only at hg
   cases h2 : t1.pack b (cs.drop a.size) with
   | none => rw [h2] at hg; simp at hg
   | some r2 =>
    obtain ⟨t2, x2, d2⟩ := r2
    rw [h2] at hg
    simp only [Option.some.injEq, Prod.mk.injEq] at hg
    obtain ⟨rfl, rfl, rfl⟩ := hg
    obtain ⟨e1, G1, H1, L1, g1⟩ := pack_ok a h ht (hc.take a.size) (fun c hc => ho c (List.mem_of_mem_take hc)) h1
    obtain ⟨e2, G2, H2, L2, g2⟩ := pack_ok b g1.inv g1.tr ((hc.drop a.size).ext g1.ext (fun c hc => ho c (List.mem_of_mem_drop hc))) (fun c hc => ho c (List.mem_of_mem_drop hc)) h2
    have := g1.then g2
    rw [List.take_append_drop] at this
    exact ⟨e2, G2, _, _, this⟩
 | .int i, n, e0, e, tm, w, G, t, t', h, ht, cs, vs, Ls, hc, ho, x, d, hg => by
  simp only [Tr.pack] at hg
  split at hg
  ·obtain ⟨v, rfl⟩ := one_val hc.len
   exact grab_ok h ht (hc.cell 0 _ v rfl rfl) hg
  ·simp at hg
 | .bool, n, e0, e, tm, w, G, t, t', h, ht, cs, vs, Ls, hc, ho, x, d, hg => by
  simp only [Tr.pack] at hg
  split at hg
  ·obtain ⟨v, rfl⟩ := one_val hc.len
   exact grab_ok h ht (hc.cell 0 _ v rfl rfl) hg
  ·simp at hg
 | .str, n, e0, e, tm, w, G, t, t', h, ht, cs, vs, Ls, hc, ho, x, d, hg => by
  simp only [Tr.pack] at hg
  split at hg
  ·obtain ⟨v, rfl⟩ := one_val hc.len
   exact grab_ok h ht (hc.cell 0 _ v rfl rfl) hg
  ·simp at hg
 | .list k, n, e0, e, tm, w, G, t, t', h, ht, cs, vs, Ls, hc, ho, x, d, hg => by
  simp only [Tr.pack] at hg
  split at hg
  ·obtain ⟨v, rfl⟩ := one_val hc.len
   exact grab_ok h ht (hc.cell 0 _ v rfl rfl) hg
  ·simp at hg
structure GrabbedRows (n : Nat) (e0 : Env) (e : Env) (tm : Array Value) (w : World) (G : Gh) (t' : Tr) (k : K) (l : List k.T) (d : Bool) (vss : List (List Value)) (e' : Env) (G' : Gh) (H : List Nat) (rows : List LT) : Prop where
 inv : Inv n e' tm w G'
 tr : TrOk e0 t' e'
 ext : Ext w e G e' G'
 hand : Hand w e G e' G' H
 len : rows.length = l.length
 vlen : vss.length = l.length
 rep : ∀ (i : Nat) x r vs, l[i]? = some x → rows[i]? = some r → vss[i]? = some vs → Rep d w k x r vs
 fp : d = true → H = rows.flatMap (fp k)
 none : ∀ b ∈ rows.flatMap (Mach.fp k), b ∈ H ∨ G'.ow b = none
theorem packs_ok (k : K) : ∀ (css : List (List C)) {n : Nat} {e0 e : Env} {tm : Array Value} {w : World} {G : Gh} {t t' : Tr} (h : Inv n e tm w G) (ht : TrOk e0 t e) {vss : List (List Value)} (hlen : vss.length = css.length)
  (hc : ∀ (i : Nat) cs vs, css[i]? = some cs → vss[i]? = some vs → ∃ Ls, CellsOk e w G cs vs Ls) (ho : ∀ cs ∈ css, ∀ c ∈ cs, c.isOwn = false) {l : List k.T} {d : Bool} (hg : t.packs k css = some (t', l, d)),
  ∃ e' G' H rows, GrabbedRows n e0 e tm w G t' k l d vss e' G' H rows
 | [], n, e0, e, tm, w, G, t, t', h, ht, vss, hlen, hc, ho, l, d, hg => by
  simp only [Tr.packs, Option.some.injEq, Prod.mk.injEq] at hg
  obtain ⟨rfl, rfl, rfl⟩ := hg
  have : vss = [] := List.eq_nil_of_length_eq_zero (by simpa using hlen)
  subst this
  exact ⟨e, G, [], [], h, ht, Ext.refl, Hand.nil, rfl, rfl, by simp, by simp, by simp⟩
 | cs :: css, n, e0, e, tm, w, G, t, t', h, ht, vss, hlen, hc, ho, l, d, hg => by
  match vss, hlen with
  | vs :: vss, hlen =>
   simp only [Tr.packs] at hg
   cases h1 : t.pack k cs with
   | none => rw [h1] at hg; simp at hg
   | some r1 =>
    obtain ⟨t1, x1, d1⟩ := r1
    rw [h1] at hg
    simp only at hg
    cases h2 : t1.packs k css with
    | none => rw [h2] at hg; simp at hg
    | some r2 =>
     obtain ⟨t2, xs, d2⟩ := r2
     rw [h2] at hg
     simp only [Option.some.injEq, Prod.mk.injEq] at hg
     obtain ⟨rfl, rfl, rfl⟩ := hg
     obtain ⟨Ls, hcs⟩ := hc 0 cs vs rfl rfl
     obtain ⟨e1, G1, H1, L1, g1⟩ := pack_ok k h ht hcs (ho cs (by simp)) h1
     obtain ⟨e2, G2, H2, rows, g2⟩ := packs_ok k css g1.inv g1.tr (by simpa using hlen) (fun i cs' vs' a b => by
      obtain ⟨Ls, q⟩ := hc (i + 1) cs' vs' (by simpa using a) (by simpa using b)
      exact ⟨Ls, q.ext g1.ext (ho cs' (by simp [List.mem_of_getElem? a]))⟩) (fun cs' hcs' => ho cs' (by simp [hcs'])) h2
     refine ⟨e2, G2, H1 ++ H2, L1 :: rows, g2.inv, g2.tr, g1.ext.trans g2.ext, ?_, by simp [g2.len], by simp [g2.vlen], ?_, ?_, ?_⟩
     ·exact g1.hand.append g1.ext g2.ext g2.hand (fun b hb ho => (g1.ext.loose b hb ho).1) (fun b hb => g1.ext.some_before (g2.ext.some_before (g2.hand.mem b hb).2.1))
     ·intro i x r vs' a b c
      cases i with
      | zero =>
       simp only [List.getElem?_cons_zero, Option.some.injEq] at a b c
       subst a b c
       have := g1.rep
       cases d1 with
       | false => simpa using this
       | true => cases d2 with
        | true => exact this
        | false => exact this.weaken
      | succ i =>
       have := g2.rep i x r vs' (by simpa using a) (by simpa using b) (by simpa using c)
       cases d1 with
       | true => simpa using this
       | false => exact this.weaken
     ·intro hd
      simp only [Bool.and_eq_true] at hd
      rw [g1.fp hd.1, g2.fp hd.2]
      simp
     ·intro b hb
      simp only [List.flatMap_cons, List.mem_append] at hb
      rcases hb with hb | hb
      ·rcases g1.none b hb with q | q
       ·exact .inl (by simp [q])
       ·exact .inr (g2.ext.none b q)
      ·rcases g2.none b hb with q | q
       ·exact .inl (by simp [q])
       ·exact .inr q
theorem fpCells_shift (lt : Nat → LT) : ∀ (cs : List C) (i : Nat), fpCells lt (i + 1) cs = fpCells (fun j => lt (j + 1)) i cs
 | [], i => rfl
 | c :: cs, i => by simp only [fpCells]; rw [fpCells_shift lt cs (i + 1)]
structure Taken (n : Nat) (e0 : Env) (e : Env) (tm : Array Value) (w : World) (G : Gh) (t' : Tr) (cs' : List C) (vs : List Value) (e' : Env) (H : List Nat) (Ls : Nat → LT) : Prop where
 inv : Inv n e' tm w G
 tr : TrOk e0 t' e'
 ext : Ext w e G e' G
 hand : Hand w e G e' G H
 len : vs.length = cs'.length
 new : ∀ (j : Nat) c v, cs'[j]? = some c → vs[j]? = some v → NewOk e' w G w H c v (Ls j)
 fp : fpCells Ls 0 cs' = H
theorem NewOk.ofCell {e : Env} {w : World} {G : Gh} {w' : World} {H : List Nat} {c : C} {v : Value} {L : LT} (h : CellOk e w G c v L) (ho : c.isOwn = false) : NewOk e w G w' H c v L := by
 cases c with
 | own _ _ _ _ _ => simp [C.isOwn] at ho
 | _ => exact h
theorem NewOk.mono {e : Env} {w : World} {G : Gh} {w' : World} {H H' : List Nat} {c : C} {v : Value} {L : LT} (h : NewOk e w G w' H c v L) (hH : ∀ b ∈ H', G.ow b ≠ none) : NewOk e w G w' H' c v L := by
 cases c with
 | own _ _ d k l =>
  obtain ⟨h1, h2⟩ := h
  exact ⟨h1, fun hd b hb => ⟨(h2 hd b hb).1, fun q => hH b q (h2 hd b hb).1⟩⟩
 | _ => exact h
theorem take_ok (vars : List Nat) : ∀ (cs : List C) {n : Nat} {e0 e : Env} {tm : Array Value} {w : World} {G : Gh} {t : Tr} (h : Inv n e tm w G) (ht : TrOk e0 t e) {vs : List Value} {Ls : Nat → LT} (hc : CellsOk e w G cs vs Ls)
  (ho : ∀ c ∈ cs, c.isOwn = false), ∃ e' H Ls', Taken n e0 e tm w G (t.take vars cs).1 (t.take vars cs).2 vs e' H Ls'
 | [], n, e0, e, tm, w, G, t, h, ht, vs, Ls, hc, ho => ⟨e, [], Ls, h, ht, Ext.refl, Hand.nil, by simpa [Tr.take] using hc.len, by simp [Tr.take], by simp [Tr.take, fpCells]⟩
 | c :: r, n, e0, e, tm, w, G, t, h, ht, vs, Ls, hc, ho => by
  match vs, hc with
  | [], hc => exact absurd hc.len (by simp)
  | v :: vs, hc =>
   have hcr : CellsOk e w G r vs (fun j => Ls (1 + j)) := by simpa using hc.drop 1
   have hor : ∀ c ∈ r, c.isOwn = false := fun c hc => ho c (by simp [hc])
   have hco : c.isOwn = false := ho c (by simp)
   have hc0 : CellOk e w G c v (Ls 0) := hc.cell 0 c v rfl rfl
   have stays : ∀ q, (t.take vars (c :: r)) = q → q = ((t.take vars r).1, c :: (t.take vars r).2) → ∃ e' H Ls', Taken n e0 e tm w G q.1 q.2 (v :: vs) e' H Ls' := by
    rintro _ _ rfl
    obtain ⟨e', H, Ls', g⟩ := take_ok vars r h ht hcr hor
    refine ⟨e', H, fun j => match j with | 0 => Ls 0 | j + 1 => Ls' j, g.inv, g.tr, g.ext, g.hand, by simp [g.len], fun j c' v' a b => ?_, ?_⟩
    ·cases j with
     | zero =>
      simp only [List.getElem?_cons_zero, Option.some.injEq] at a b
      subst a b
      exact NewOk.ofCell (g.ext.cell _ _ _ hco hc0) hco
     | succ j => exact g.new j c' v' (by simpa using a) (by simpa using b)
    ·simp only [fpCells, noOwn_ownB hco, List.nil_append]
     rw [fpCells_shift]
     exact g.fp
   cases c with
   | ref s j rv sv p lo hi k =>
    cases p with
    | cons a p => exact stays _ rfl (by simp [Tr.take])
    | nil =>
     cases hv : vars.contains s with
     | true => exact stays _ rfl (by simp only [Tr.take, hv])
     | false =>
      cases hcell : (t.at s).cs.getD j .dead with
      | own rv' sv' d k' l =>
       by_cases hrv : rv = rv'
       ·subst hrv
        obtain ⟨hat, hown⟩ := ht.cell hcell (by simp)
        obtain ⟨m, hd, ⟨_, q2, q3, q4⟩, q5⟩ := hc0.refFits hown (.inl rfl)
        rw [getP_nil] at q2 q3
        simp only at q2 q3
        subst q2
        subst q3
        simp only [subL] at q4
        rw [← q4] at q5
        obtain ⟨u, hu, hcl⟩ := h.val hown
        have hrep := hcl.1.cut q5
        obtain ⟨ho1, ho2, ho3⟩ := h.ownBlocks hown
        have halive := slot_alive hown
        have htk : t.take vars (.ref s j rv sv [] lo hi k' :: r) = (((t.put s ((t.at s).kill j)).take vars r).1, .own 0 0 d k' (cut lo hi l) :: ((t.put s ((t.at s).kill j)).take vars r).2) := by
         simp only [Tr.take, hv, hcell, if_true]
        rw [htk, hat]
        have x1 := Ext.kill (w := w) (e := e) (G := G) s j
        obtain ⟨e', H, Ls', g⟩ := take_ok vars r (h.kill s j) (ht.put ((e.get s).kill j) halive) (hcr.ext x1 hor) hor
        have hsubl : (ownB (.own 0 0 d k' (cut lo hi l)) (cutL k'.size lo hi l.length (G.lt s j))).Sublist (ownB (.own rv sv' d k' l) (G.lt s j)) := by
         cases d with
         | true => exact cutL_sublist k' k'.size lo hi l.length (G.lt s j)
         | false =>
          simp only [ownB]
          cases hL : G.lt s j with
          | node b0 off cap rows =>
           simp only [cutL]
           split <;> simp [hdOf]
          | _ => simp [cutL]
        have hand1 : Hand w e G (e.set s ((e.get s).kill j)) G (ownB (.own 0 0 d k' (cut lo hi l)) (cutL k'.size lo hi l.length (G.lt s j))) := by
         refine ⟨ho3.sublist hsubl, fun b hb => ?_⟩
         have hb := hsubl.subset hb
         obtain ⟨z1, z2⟩ := h.loose hown hb
         refine ⟨z2, by rw [z1]; simp, h.lt b s z1, fun q => q s ?_⟩
         have := fpCells_mem (lt := G.lt s) (i := 0) hown (by simpa using hb)
         simp only [fpS, List.mem_append]
         right
         cases hh : (e.get s).sh with
         | dead => rw [(h.slot s).dead hh] at hown; simp at hown
         | _ => simpa using this
        have hand := hand1.append x1 g.ext g.hand (fun b hb ho => (x1.loose b hb ho).1) (fun b hb => (g.hand.mem b hb).2.1)
        have hHn : ∀ b ∈ ownB (.own 0 0 d k' (cut lo hi l)) (cutL k'.size lo hi l.length (G.lt s j)) ++ H, G.ow b ≠ none := fun b hb => (hand.mem b hb).2.1
        refine ⟨e', _, fun j' => match j' with | 0 => cutL k'.size lo hi l.length (G.lt s j) | j' + 1 => Ls' j', g.inv, g.tr, x1.trans g.ext, hand, by simp [g.len], fun j' c' v' a b => ?_, ?_⟩
        ·cases j' with
         | zero =>
          simp only [List.getElem?_cons_zero, Option.some.injEq] at a b
          subst a b
          refine ⟨hrep, fun hd b hb => ?_⟩
          have hin : b ∈ inner k' (G.lt s j) := by
           cases hL : G.lt s j with
           | node b0 off cap rows =>
            rw [hL] at hb
            simp only [cutL] at hb
            split at hb
            ·simp [inner] at hb
            ·simp only [inner] at hb ⊢
             exact (sub_flatMap (cut_sublist _ _ _)).subset hb
           | _ => rw [hL] at hb; simpa [cutL] using hb
          have := ho2 hd b hin
          exact ⟨this, fun q => hHn b q this⟩
         | succ j' => exact (g.new j' c' v' (by simpa using a) (by simpa using b)).mono hHn
        ·simp only [fpCells]
         rw [fpCells_shift, g.fp]
       ·exact stays _ rfl (by simp only [Tr.take, hv, hcell, if_neg hrv])
      | dead => exact stays _ rfl (by simp only [Tr.take, hv, hcell])
      | nil => exact stays _ rfl (by simp only [Tr.take, hv, hcell])
      | dat _ _ => exact stays _ rfl (by simp only [Tr.take, hv, hcell])
      | ref _ _ _ _ _ _ _ _ => exact stays _ rfl (by simp only [Tr.take, hv, hcell])
      | bptr _ _ _ => exact stays _ rfl (by simp only [Tr.take, hv, hcell])
      | aptr _ _ _ _ _ _ _ _ => exact stays _ rfl (by simp only [Tr.take, hv, hcell])
      | pim _ _ => exact stays _ rfl (by simp only [Tr.take, hv, hcell])
      | fn _ _ => exact stays _ rfl (by simp only [Tr.take, hv, hcell])
   | dead => exact stays _ rfl (by simp only [Tr.take])
   | nil => exact stays _ rfl (by simp only [Tr.take])
   | dat _ _ => exact stays _ rfl (by simp only [Tr.take])
   | own _ _ _ _ _ => simp [C.isOwn] at hco
   | bptr _ _ _ => exact stays _ rfl (by simp only [Tr.take])
   | aptr _ _ _ _ _ _ _ _ => exact stays _ rfl (by simp only [Tr.take])
   | pim _ _ => exact stays _ rfl (by simp only [Tr.take])
   | fn _ _ => exact stays _ rfl (by simp only [Tr.take])
end Go.Mach
namespace Go.Mach
set_option linter.unusedVariables false
theorem wp_value {P : Program} {o : Oper} {a : Act} {w w' : World} {K : Act → World → Prop} {Q : Exit → Act → World → Prop} {u : Value} (h : (execOp a.eval o).run P w = .ok (.value u) w') (hk : K (a.put o.dst u) w') :
  o.wp P a w K Q := by
 unfold Oper.wp
 rw [h]
 exact hk
theorem wp_skip' {P : Program} {o : Oper} {a : Act} {w w' : World} {K : Act → World → Prop} {Q : Exit → Act → World → Prop} (h : (execOp a.eval o).run P w = .ok .skip w') (hk : K (a.put o.dst undef) w') :
  o.wp P a w K Q := by
 unfold Oper.wp
 rw [h]
 exact hk
structure Held (n m : Nat) (w w' : World) (G G' : Gh) : Prop where
 still : Still w w' G.ow G'.ow
 vs : ∀ s, n ≤ s → ((s - n) % 2 = 0 → G'.vs s = G.vs s ∧ ∀ j, hdOf (G'.lt s j) = hdOf (G.lt s j)) ∧ G'.bk s = G.bk s
 out : ∀ b t, G.ow b = some t → m ≤ t → w.heap[b]? ≠ none → w'.heap[b]? = w.heap[b]? ∧ G'.ow b = some t
theorem Held.refl {n m : Nat} {w : World} {G : Gh} : Held n m w w G G := ⟨still_refl, fun _ _ => ⟨fun _ => ⟨rfl, fun _ => rfl⟩, rfl⟩, fun _ _ h _ _ => ⟨rfl, h⟩⟩
theorem Held.trans {n m : Nat} {w w1 w2 : World} {G G1 G2 : Gh} (h : Held n m w w1 G G1) (h' : Held n m w1 w2 G1 G2) : Held n m w w2 G G2 :=
 ⟨fun b q1 q2 => by
  obtain ⟨r1, r2⟩ := h.still b q1 q2
  obtain ⟨r3, r4⟩ := h'.still b r2 (by rw [r1]; exact q2)
  exact ⟨r3.trans r1, r4⟩, fun s hs => ⟨fun q => ⟨((h'.vs s hs).1 q).1.trans ((h.vs s hs).1 q).1, fun j => (((h'.vs s hs).1 q).2 j).trans (((h.vs s hs).1 q).2 j)⟩, (h'.vs s hs).2.trans (h.vs s hs).2⟩, fun b t q1 q2 q3 => by
  obtain ⟨r1, r2⟩ := h.out b t q1 q2 q3
  obtain ⟨r3, r4⟩ := h'.out b t r2 q2 (by rw [r1]; exact q3)
  exact ⟨r3.trans r1, r4⟩⟩
structure SameEnv (w w' : World) : Prop where
 os : w'.os = w.os
 tape : w'.tape = w.tape
 output : w'.output = w.output
theorem SameEnv.refl {w : World} : SameEnv w w := ⟨rfl, rfl, rfl⟩
theorem SameEnv.trans {w w1 w2 : World} (h : SameEnv w w1) (h' : SameEnv w1 w2) : SameEnv w w2 := ⟨h'.os.trans h.os, h'.tape.trans h.tape, h'.output.trans h.output⟩
structure Post (n : Nat) (e' : Env) (a : Act) (w : World) (G : Gh) (a' : Act) (w' : World) (G' : Gh) : Prop where
 inv : Inv n e' a'.tmps w' G'
 held : Held n e'.length w w' G G'
 grows : w.heap.size ≤ w'.heap.size
 defers : a'.defers = a.defers
 env : SameEnv w w'
class Tabs (P : Program) where
 tab : List (Nat × (Obj → Prop))
def Laid (P : Program) [Tabs P] (w : World) (G : Gh) : Prop := ∀ t ∈ Tabs.tab P, (∃ o, w.heap[t.1]? = some o ∧ t.2 o) ∧ G.ow t.1 = none
theorem Laid.still {P : Program} [Tabs P] {w w' : World} {G G' : Gh} (h : Laid P w G) (hs : Still w w' G.ow G'.ow) : Laid P w' G' := by
 intro t ht
 obtain ⟨⟨o, h1, h2⟩, h3⟩ := h t ht
 obtain ⟨q1, q2⟩ := hs t.1 h3 (by rw [h1]; simp)
 exact ⟨⟨o, by rw [q1, h1], h2⟩, q2⟩
theorem Laid.post {P : Program} [Tabs P] {n : Nat} {e : Env} {a a' : Act} {w w' : World} {G G' : Gh} (h : Laid P w G) (hp : Post n e a w G a' w' G') : Laid P w' G' := h.still hp.held.still
theorem put_tmps (a : Act) (d : Nat) (u : Value) : (a.put (some d) u).tmps = a.tmps.setIfInBounds d u := rfl
theorem put_defers (a : Act) (d : Option Nat) (u : Value) : (a.put d u).defers = a.defers := by cases d <;> rfl
theorem put_size (a : Act) (d : Option Nat) (u : Value) : (a.put d u).tmps.size = a.tmps.size := by cases d <;> simp [Act.put]
theorem Ext.still {w : World} {e e' : Env} {G G' : Gh} (x : Ext w e G e' G') : Still w w G.ow G'.ow := fun b h _ => ⟨rfl, x.none b h⟩
theorem Inv.beyond {n : Nat} {e : Env} {tm : Array Value} {w : World} {G : Gh} (h : Inv n e tm w G) {b t : Nat} (hb : G.ow b = some t) (ht : e.length ≤ t) : Loose e G b := by
 intro s hs
 have := (h.slot s).own b hs
 rw [hb] at this
 simp only [Option.some.injEq] at this
 subst this
 rw [get_out (by omega)] at hs
 simp [fpS] at hs
theorem Ext.held {n : Nat} {tm : Array Value} {w : World} {e e' : Env} {G G' : Gh} (x : Ext w e G e' G') (h : Inv n e tm w G) : Held n e.length w w G G' :=
 ⟨x.still, fun s _ => ⟨fun _ => ⟨by rw [x.vs], fun j => by rw [x.lt]⟩, by rw [x.bk]⟩, fun b t h1 h2 _ => ⟨rfl, by rw [(x.loose b (h.beyond h1 h2) (by rw [h1]; simp)).2]; exact h1⟩⟩
theorem Hand.owner {n : Nat} {tm : Array Value} {w : World} {e e' : Env} {G G' : Gh} {H : List Nat} (hd : Hand w e G e' G' H) (h : Inv n e tm w G) (x : Ext w e G e' G') : ∀ b ∈ H, ∀ t, G'.ow b = some t → t < e'.length := by
 intro b hb t ht
 obtain ⟨_, _, _, h4⟩ := hd.mem b hb
 rcases Nat.lt_or_ge t e'.length with q | q
 ·exact q
 ·exact absurd (h.beyond (x.sub b t ht) (by rw [← x.len]; exact q)) h4
theorem lay_quiet {n : Nat} {e0 e : Env} {a : Act} {w : World} {G0 G : Gh} {t : Tr} (h : Inv n e a.tmps w G) (ht : TrOk e0 t e) (hst : Held n e0.length w w G0 G) {v : Val} {u : Value} {vs : List Value} {Ls : Nat → LT}
  (hv : ValOk e w G v u vs Ls) (hd : ∀ d, t.d = some d → d < n) : ∃ G', Post n (e0.puts (t.lay t.d v).ws) a w G0 (a.put t.d u) w G' := by
 cases hdd : t.d with
 | none =>
  simp only [Tr.lay, Act.put]
  rw [ht.puts]
  exact ⟨G, h, by rw [ht.length]; exact hst, Nat.le_refl _, rfl, SameEnv.refl⟩
 | some d =>
  have hdn := hd d hdd
  have hat := ht.dst d hdd
  have hlen : d < e.length := Nat.lt_of_lt_of_le hdn h.elen
  simp only [Tr.lay]
  rw [(ht.put ((t.at d).lay v.1 v.2) hlen).puts, hat]
  have hnoB : boxB v.1 0 = [] := by
   have := hv.sh
   cases hs : v.1 <;> simp_all [boxB]
  have hno : fpCells Ls 0 v.2 = [] := by
   have key : ∀ (cs : List C) (i : Nat), (∀ c ∈ cs, c.isOwn = false) → fpCells Ls i cs = [] := by
    intro cs
    induction cs with
    | nil => intro i _; rfl
    | cons c cs ih => intro i ho; simp only [fpCells]; rw [noOwn_ownB (ho c (by simp)), ih (i + 1) fun c hc => ho c (by simp [hc])]; rfl
   exact key _ _ hv.noOwn
  have := h.lay (w' := w) d v.1 v.2 vs Ls 0 [] (Nat.le_refl _) (fun b _ _ => rfl) (by simp) hv.cells.len (fun j c v' hc hv' => NewOk.ofCell (hv.cells.cell j c v' hc hv') (hv.noOwn c (List.mem_of_getElem? hc)))
   (by rw [hnoB, hno]; simp) (by rw [hnoB, hno]; simp) (fun q => absurd q hv.alive) (fun bv q => absurd q (hv.sh bv)) (a.put (some d) u).tmps (by rw [put_size]; exact h.size)
   (fun t' ht' hn => by rw [put_tmps]; simp [Ne.symm ht'])
   (fun hn => by
    have hu : (a.put (some d) u).tmps[d]? = some (form v.1 vs) := by
     rw [put_tmps, ← hv.form]
     simp [h.size, hdn]
    have h1 := hv.sh
    have h2 := hv.alive
    revert hu h1 h2
    cases v.1 <;> simp [FormIs])
  refine ⟨_, this, ⟨fun b q1 q2 => ?_, fun s hs => ?_, fun b t q1 q2 q3 => ?_⟩, Nat.le_refl _, put_defers _ _ _, SameEnv.refl⟩
  ·have := (hst.still b q1 q2).2
   exact ⟨rfl, by simp [Gh.lay, this]⟩
  ·rw [show (G.lay d vs Ls 0 []).vs s = G.vs s from upd_ne _ _ (by omega), show (G.lay d vs Ls 0 []).lt s = G.lt s from upd_ne _ _ (by omega), show (G.lay d vs Ls 0 []).bk s = G.bk s from upd_ne _ _ (by omega)]
   exact hst.vs s hs
  ·have hl : (e.set d ((e.get d).lay v.1 v.2)).length = e0.length := by rw [List.length_set, ht.length]
   have := (hst.out b t q1 (by rw [← hl]; exact q2) q3).2
   exact ⟨rfl, by simp [Gh.lay, this]⟩
def InB (n : Nat) (o : Oper) : Prop := ∀ t ∈ opSlots o, t < n
theorem InB.opd {n : Nat} {o : Oper} (h : InB n o) {x : Operand} (hx : x ∈ o.op.operands) : ∀ t, x = .tmp t → t < n := by
 rintro t rfl
 refine h t ?_
 simp only [opSlots, List.mem_append]
 right
 exact List.mem_filterMap.2 ⟨.tmp t, by simpa using hx, rfl⟩
theorem InB.dst {n : Nat} {o : Oper} (h : InB n o) : ∀ d, o.dst = some d → d < n := fun d hd => h d (by simp [opSlots, hd])
structure Begin (n : Nat) (e : Env) (a : Act) (w : World) (G : Gh) (get : Nat → Slot) (o : Oper) : Prop where
 inv : Inv n e a.tmps w G
 sees : Sees get e
 dst : ∀ d, o.dst = some d → get d = e.get d
 inb : InB n o
theorem Begin.tr {n : Nat} {e : Env} {a : Act} {w : World} {G : Gh} {get : Nat → Slot} {o : Oper} (h : Begin n e a w G get o) : TrOk e { get, d := o.dst } e := TrOk.start h.sees h.dst
theorem Begin.done {n : Nat} {e : Env} {a : Act} {w : World} {G : Gh} {get : Nat → Slot} {o : Oper} (h : Begin n e a w G get o) {v : Val} {u : Value} {vs : List Value} {Ls : Nat → LT} (hv : ValOk e w G v u vs Ls)
  {ws : Writes} (hws : some (Tr.lay { get, d := o.dst } o.dst v).ws = some ws) : ∃ G', Post n (e.puts ws) a w G (a.put o.dst u) w G' := by
 simp only [Option.some.injEq] at hws
 rw [← hws]
 exact lay_quiet h.inv h.tr Held.refl hv h.inb.dst
theorem Begin.opd {n : Nat} {e : Env} {a : Act} {w : World} {G : Gh} {get : Nat → Slot} {o : Oper} (h : Begin n e a w G get o) {x : Operand} (hx : x ∈ o.op.operands) {v : Val} (hv : opd get x = some v) :
  ∃ vs Ls, ValOk e w G v (a.eval x) vs Ls := opd_ok h.inv h.sees (h.inb.opd hx) hv
theorem Begin.one {n : Nat} {e : Env} {a : Act} {w : World} {G : Gh} {get : Nat → Slot} {o : Oper} (h : Begin n e a w G get o) {x : Operand} (hx : x ∈ o.op.operands) {c : C} (hv : Mach.opd get x = some (.one, [c])) :
  ∃ L, CellOk e w G c (a.eval x) L ∧ c.isOwn = false := opd_one h.inv h.sees (h.inb.opd hx) hv
theorem dat_int {e : Env} {w : World} {G : Gh} {k : IntKind} {m : Int} {v : Value} {L : LT} (h : CellOk e w G (.dat (.int k) m) v L) : v = .int k m := by
 have := h.1
 simp only [Rep] at this
 simpa using this
theorem dat_bool {e : Env} {w : World} {G : Gh} {b : Bool} {v : Value} {L : LT} (h : CellOk e w G (.dat .bool b) v L) : v = .bool b := by
 have := h.1
 simp only [Rep] at this
 simpa using this
theorem dat_str {e : Env} {w : World} {G : Gh} {s : List UInt8} {v : Value} {L : LT} (h : CellOk e w G (.dat .str s) v L) : v = .string ⟨⟨s⟩⟩ := by
 have := h.1
 simp only [Rep] at this
 simpa using this
theorem int_ok (e : Env) (w : World) (G : Gh) (k : IntKind) (m : Int) : CellOk e w G (.dat (.int k) m) (.int k m) .leaf := ⟨by simp [Rep], by simp [fp]⟩
theorem bool_ok (e : Env) (w : World) (G : Gh) (b : Bool) : CellOk e w G (.dat .bool b) (.bool b) .leaf := ⟨by simp [Rep], by simp [fp]⟩
theorem str_ok (e : Env) (w : World) (G : Gh) (s : List UInt8) : CellOk e w G (.dat .str s) (.string ⟨⟨s⟩⟩) .leaf := ⟨by simp [Rep], by simp [fp]⟩
section ops
variable {P : Program} {n : Nat} {e : Env} {a : Act} {w : World} {G : Gh} {get : Nat → Slot} {o : Oper} {x : Ctx} {ws : Writes} {K : Act → World → Prop} {Q : Exit → Act → World → Prop}
def Sound (P : Program) (n : Nat) (e : Env) (a : Act) (w : World) (G : Gh) (o : Oper) (ws : Writes) : Prop :=
 ∀ (K : Act → World → Prop) (Q : Exit → Act → World → Prop), (∀ a' w' G', Post n (e.puts ws) a w G a' w' G' → K a' w') → o.wp P a w K Q
theorem Sound.value {u : Value} {w' : World} {G' : Gh} (h : (execOp a.eval o).run P w = .ok (.value u) w') (hp : Post n (e.puts ws) a w G (a.put o.dst u) w' G') : Sound P n e a w G o ws :=
 fun K Q hk => wp_value h (hk _ _ _ hp)
theorem sound_move {y : Operand} (hb : Begin n e a w G get o) (ho : o.op = .move y) (h : act x get o = some ws) : Sound P n e a w G o ws := by
 simp only [act, ho] at h
 cases hv : opd get y with
 | none => rw [hv] at h; simp at h
 | some v =>
  rw [hv] at h
  obtain ⟨vs, Ls, hval⟩ := hb.opd (by simp [ho, Op.operands]) hv
  obtain ⟨G', hp⟩ := hb.done hval h
  exact Sound.value (by simp only [execOp, ho]; rfl) hp
theorem sound_pick {y z t : Operand} (hb : Begin n e a w G get o) (ho : o.op = .pick y z t) (h : act x get o = some ws) : Sound P n e a w G o ws := by
 simp only [act, ho] at h
 split at h
 ·rename_i hc
  obtain ⟨L, hcell, _⟩ := hb.one (by simp [ho, Op.operands]) hc
  have hcv := dat_bool hcell
  cases hv : opd get z with
  | none => rw [hv] at h; simp at h
  | some v =>
   rw [hv] at h
   obtain ⟨vs, Ls, hval⟩ := hb.opd (by simp [ho, Op.operands]) hv
   obtain ⟨G', hp⟩ := hb.done hval h
   refine Sound.value ?_ hp
   simp only [execOp, ho, hcv, asBool]
   rfl
 ·rename_i hc
  obtain ⟨L, hcell, _⟩ := hb.one (by simp [ho, Op.operands]) hc
  have hcv := dat_bool hcell
  cases hv : opd get t with
  | none => rw [hv] at h; simp at h
  | some v =>
   rw [hv] at h
   obtain ⟨vs, Ls, hval⟩ := hb.opd (by simp [ho, Op.operands]) hv
   obtain ⟨G', hp⟩ := hb.done hval h
   refine Sound.value ?_ hp
   simp only [execOp, ho, hcv, asBool]
   rfl
 ·simp at h
end ops
end Go.Mach
