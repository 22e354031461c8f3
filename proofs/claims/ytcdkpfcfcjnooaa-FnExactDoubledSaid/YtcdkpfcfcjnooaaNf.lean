/- The machine, part nf: the machine once more, with all that hangs on data handed on, not looked at. No condition: definitions and lemmas. -/
import Derived.Test.YtcdkpfcfcjnooaaNe
namespace Go.Mach
set_option linter.unusedVariables false
set_option linter.unusedSimpArgs false

/-- Go on, if it is so. -/
def chk {R : Type} (b : Bool) (k : Option R) : Option R := cond b k none

theorem chk_bind {R S : Type} (b : Bool) (k : Option R) (f : R → Option S) : (chk b k).bind f = chk b (k.bind f) := by cases b <;> rfl

/-! ### Functions by their books -/
@[reducible] def AsT : List (PSh × List PC) → Type
  | [] => Unit
  | [p] => CsT p.2
  | p :: q :: r => CsT p.2 × AsT (q :: r)

def encA : (ps : List (PSh × List PC)) → AsT ps → List Val
  | [], _ => []
  | [p], d => [(p.1.sh, encCs p.2 d)]
  | p :: q :: r, d => (p.1.sh, encCs p.2 d.1) :: encA (q :: r) d.2

def decA (n : Nat) (md : List Bool) : (i : Nat) → (ps : List (PSh × List PC)) → List Val → Option (AsT ps)
  | _, [], [] => some ()
  | i, [p], [v] => match p.1.fits v.1, decCs (if md.getD i false then 0 else n) i [] 0 p.2 v.2 with
    | true, some a => some a
    | _, _ => none
  | i, p :: q :: r, v :: vs => match p.1.fits v.1, decCs (if md.getD i false then 0 else n) i [] 0 p.2 v.2, decA n md (i + 1) (q :: r) vs with
    | true, some a, some b => some (a, b)
    | _, _, _ => none
  | _, _, _ => none

/-- A result: a temporary, or what lies where one points: as a struct or not, so many cells. -/
inductive RV where
  | tmp (t : Nat)
  | cell (t : Nat) (agg : Bool) (n : Nat)

/-- What the book says of a function. -/
structure FEnt where
  n : Nat
  results : List RV
  md : List Bool
  args : List (PSh × List PC)
  out : EP
  T : AsT args → Option out.T

/-- The slots of a call at its start. -/
def startE (n : Nat) (md : List Bool) (args : List Val) : Env :=
  (inSlots n md 0 args).1 ++ List.replicate (n - args.length) (default : Slot) ++ (inSlots n md 0 args).2

/-- The results as they lie. -/
def resVals (n : Nat) (get : Nat → Slot) : List RV → Option (List Val)
  | [] => some []
  | .tmp t :: r => match Nat.blt t n, opd get (.tmp t), resVals n get r with
    | true, some v, some vs => some (v :: vs)
    | _, _, _ => none
  | .cell t g m :: r => match Nat.blt t n, opd get (.tmp t), resVals n get r with
    | true, some (.one, [c]), some vs => match loadC get m c with
      | some cs => some (((match g with | true => .agg | false => .one), cs) :: vs)
      | none => none
    | _, _, _ => none

def oneOk (v : Val) : Bool := match v.1 with
  | .one => Nat.beq v.2.length 1
  | .agg => true
  | _ => false

/-- The shape of what is answered. -/
def tupSh (vs : List Val) : Option Sh := match vs with
  | [v] => if oneOk v then some v.1 else none
  | vs => if vs.all oneOk then some (.tup (vs.map fun v => match v.1 with | .one => none | _ => some v.2.length)) else none

/-- A result's cell: what lies deeper is read, and frozen. -/
def resC (get : Nat → Slot) : C → Option C
  | .dat k x => some (.dat k x)
  | .nil => some .nil
  | .own rv sv d k l => some (.own rv sv d k l)
  | .fn f [] => some (.fn f [])
  | .ref s j rv sv (q :: p) lo hi k => (content get s j rv sv (q :: p) k).map fun x => .dat (.list k) (cut lo hi x.2)
  | _ => none

def resCs (get : Nat → Slot) : List C → Option (List C)
  | [] => some []
  | c :: r => match resC get c, resCs get r with
    | some c, some r => some (c :: r)
    | _, _ => none

/-- The roots of what is read deeper. -/
def deepAt : List C → List (Nat × Nat)
  | [] => []
  | .ref s j _ _ (_ :: _) _ _ _ :: r => (s, j) :: deepAt r
  | _ :: r => deepAt r

/-- What is lent, behind the call. -/
def outsOf (n : Nat) (get : Nat → Slot) (md : List Bool) : Nat → List Val → Option (List (List C))
  | _, [] => some []
  | i, (sh, _) :: r => match outsOf n get md (i + 1) r with
    | none => none
    | some os =>
      if md.getD i false then
        match sh with
        | .box _ => match (get i).sh with
          | .box 0 => (ownBox (get i).cs).map (· :: os)
          | _ => none
        | _ => some ((get (n + i)).cs.map (fun | .own 0 _ d k l => .own 0 0 d k l | .dat k x => .dat k x | _ => .dead) :: os)
      else some os

/-- What comes of the slots at a call's end. -/
def retOf (n : Nat) (results : List RV) (md : List Bool) (args : List Val) (e : Env) : Option (Val × List (List C)) :=
  match resVals n e.get results with
  | none => none
  | some vs => match tupSh vs, resCs (Tr.take [] { get := e.get } (vs.flatMap (·.2))).1.at (Tr.take [] { get := e.get } (vs.flatMap (·.2))).2,
      outsOf n (freezeAt (Env.puts e (Tr.take [] { get := e.get } (vs.flatMap (·.2))).1.ws) (deepAt (Tr.take [] { get := e.get } (vs.flatMap (·.2))).2)).get md 0 args with
    | some sh, some cs, some os => some ((sh, cs), os)
    | _, _, _ => none

def semD {R : Type} (f : Nat) (md : List Bool) (vals : List Val) (K : Val × List (List C) → Option R) : List (Nat × FEnt) → Option R
  | [] => none
  | (g, t) :: r => match Nat.beq g f, t.md == md, decA t.n t.md 0 t.args vals with
    | true, true, some d => (t.T d).bind fun b => (retOf t.n t.results t.md (encA t.args d) (t.out.enc b)).bind K
    | _, _, _ => semD f md vals K r

theorem semD_eq {R : Type} (f : Nat) (md : List Bool) (vals : List Val) (K : Val × List (List C) → Option R) : ∀ l : List (Nat × FEnt), semD f md vals K l = (semD f md vals some l).bind K
  | [] => rfl
  | (g, t) :: r => by
    simp only [semD]
    split
    · rw [Option.bind_assoc]
      congr 1
      funext b
      rw [Option.bind_assoc]
      rfl
    · exact semD_eq f md vals K r

/-- A book of functions. -/
abbrev Book := List (Nat × FEnt)

def Book.md (b : Book) (f : Nat) : List Bool := match b with
  | [] => []
  | (g, t) :: r => match Nat.beq g f with
    | true => t.md
    | false => Book.md r f

def Book.sem (b : Book) (f : Nat) (vals : List Val) : Option (Val × List (List C)) := semD f (b.md f) vals some b

/-! ### Operations -/
section D
variable {R : Type}

def natD (c : C) (K : Nat → Option R) : Option R := match c with
  | .dat (.int _) n => chk (decide (0 ≤ n)) (K n.toNat)
  | _ => none

theorem natD_eq (c : C) (K : Nat → Option R) : natD c K = (natOf c).bind K := by
  unfold natD natOf
  split
  · rename_i n
    by_cases h : 0 ≤ n <;> simp [h, chk]
  · rename_i h
    cases c with
    | dat k x =>
      cases k with
      | int k => exact absurd rfl (h k x)
      | _ => rfl
    | _ => rfl

def binD (tk : Bool) (op : BinOp) (c d : C) (K : C → Option R) : Option R :=
  match c, d with
  | .dat (.int k) a, .dat (.int k') b => match op with
    | .quo => if k = k' then chk (!decide (b = 0)) (K (.dat (.int k) (k.wrap (a.tdiv b)))) else none
    | .rem => if k = k' then chk (!decide (b = 0)) (K (.dat (.int k) (a.tmod b))) else none
    | .shl => chk (!decide (b < 0)) (K (.dat (.int k) (k.wrap (a * 2 ^ (min b.toNat k.bits)))))
    | .shr => chk (!decide (b < 0)) (K (.dat (.int k) (a.fdiv (2 ^ (min b.toNat k.bits)))))
    | op => (bin tk op (.dat (.int k) a) (.dat (.int k') b)).bind K
  | .dat .str a, .dat .str b => match op with
    | .add => chk (decide (a.length + b.length ≤ strMost)) (K (.dat .str (a ++ b)))
    | op => (bin tk op (.dat .str a) (.dat .str b)).bind K
  | c, d => (bin tk op c d).bind K

theorem binD_eq (tk : Bool) (op : BinOp) (c d : C) (K : C → Option R) : binD tk op c d K = (bin tk op c d).bind K := by
  unfold binD
  split
  · rename_i k a k' b
    split
    · by_cases hk : k = k'
      · by_cases h : b = 0 <;> simp [bin, binI, hk, h, chk]
      · simp [bin, hk]
    · by_cases hk : k = k'
      · by_cases h : b = 0 <;> simp [bin, binI, hk, h, chk]
      · simp [bin, hk]
    · by_cases h : b < 0 <;> simp [bin, shiftI, h, chk]
    · by_cases h : b < 0 <;> simp [bin, shiftI, h, chk]
    · rfl
  · rename_i a b
    split
    · by_cases h : a.length + b.length ≤ strMost <;> simp [bin, binS, h, chk]
    · rfl
  · rfl

def loadD (get : Nat → Slot) (n : Nat) (a : C) (K : List C → Option R) : Option R := match a with
  | .aptr s j rv sv p i c k =>
    match (get s).cs.getD j .dead with
    | .own rv' sv' deep k0 l0 =>
      if rv = rv' ∧ (p = [] ∨ (sv = sv' ∧ deep = true)) ∧ c + n ≤ k.size then
        match castL (getP k0 l0 p).1 (getP k0 l0 p).2 k with
        | some l => chk (decide (i < l.length)) (K (readLeaves k (l.getD i k.dflt) s j rv' sv' p i deep c n))
        | none => none
      else none
    | _ => none
  | a => (loadC get n a).bind K

theorem loadD_eq (get : Nat → Slot) (n : Nat) (a : C) (K : List C → Option R) : loadD get n a K = (loadC get n a).bind K := by
  unfold loadD
  split
  · rename_i s j rv sv p i c k
    simp only [loadC]
    generalize (get s).cs.getD j .dead = z
    cases z with
    | own rv' sv' deep k0 l0 =>
      simp only
      by_cases h : rv = rv' ∧ (p = [] ∨ (sv = sv' ∧ deep = true)) ∧ c + n ≤ k.size
      · rw [if_pos h, if_pos h]
        cases castL (getP k0 l0 p).1 (getP k0 l0 p).2 k with
        | none => rfl
        | some l => by_cases hi : i < l.length <;> simp [hi, chk]
      · rw [if_neg h, if_neg h]; rfl
    | _ => rfl
  · rfl

def storeD (x : Ctx) (t : Tr) (a : C) (cs : List C) (K : Tr → Option R) : Option R := match a with
  | .aptr s j rv sv p i c k =>
    match t.grabs k c cs with
    | none => none
    | some (t, gs, d) =>
      match (t.at s).cs.getD j .dead with
      | .own rv' sv' deep k0 l0 =>
        if rv = rv' ∧ (p = [] ∨ (sv = sv' ∧ deep = true)) ∧ c + cs.length ≤ k.size then
          match castL (getP k0 l0 p).1 (getP k0 l0 p).2 k with
          | none => none
          | some l => chk (decide (i < l.length))
              (if hasList k c cs.length then K (t.put s { t.at s with cs := (t.at s).cs.set j (.own rv' (t.at s).cnt (deep && d) k0 (modP (fun k' l' => (castL k (l.set i (setLeaves k (l.getD i k.dflt) c gs)) k').getD l') k0 l0 p)), cnt := (t.at s).cnt + 1 })
              else K (t.put s { t.at s with cs := (t.at s).cs.set j (.own rv' sv' deep k0 (modP (fun k' l' => (castL k (l.set i (setLeaves k (l.getD i k.dflt) c gs)) k').getD l') k0 l0 p)) }))
        else none
      | _ => none
  | a => (storeC x t a cs).bind K

theorem storeD_eq (x : Ctx) (t : Tr) (a : C) (cs : List C) (K : Tr → Option R) : storeD x t a cs K = (storeC x t a cs).bind K := by
  unfold storeD
  split
  · rename_i s j rv sv p i c k
    simp only [storeC]
    cases hg : t.grabs k c cs with
    | none => rfl
    | some r =>
      obtain ⟨t', gs, d⟩ := r
      simp only
      generalize hz : (t'.at s).cs.getD j .dead = z
      cases z with
      | own rv' sv' deep k0 l0 =>
        simp only
        by_cases h : rv = rv' ∧ (p = [] ∨ (sv = sv' ∧ deep = true)) ∧ c + cs.length ≤ k.size
        · rw [if_pos h, if_pos h]
          cases castL (getP k0 l0 p).1 (getP k0 l0 p).2 k with
          | none => rfl
          | some l =>
            by_cases hi : i < l.length
            · simp only [hi, chk, decide_true, cond_true, if_true]
              split <;> rfl
            · simp [hi, chk]
        · rw [if_neg h, if_neg h]; rfl
      | _ => rfl
  · rfl

def boundD (get : Nat → Slot) (o : Option Operand) (K : Option Nat → Option R) : Option R := match o with
  | none => K none
  | some z => match opd get z with
    | some (.one, [c]) => natD c fun n => K (some n)
    | _ => none

theorem boundD_eq (get : Nat → Slot) (o : Option Operand) (K : Option Nat → Option R) : boundD get o K = (boundOf get o).bind K := by
  unfold boundD boundOf
  cases o with
  | none => rfl
  | some z =>
    simp only
    generalize opd get z = v
    match v with
    | none => rfl
    | some (sh, cs) =>
      cases sh <;> try rfl
      match cs with
      | [] => rfl
      | [c] =>
        simp only
        rw [natD_eq]
        cases natOf c <;> rfl
      | _ :: _ :: _ => rfl

def sliceD (get : Nat → Slot) (c : C) (lo hi : Option Nat) (K : C → Option R) : Option R := match c with
  | .nil => chk (decide (lo.getD 0 = 0 ∧ hi.getD 0 = 0)) (K .nil)
  | .dat (.list k) l => chk (decide (lo.getD 0 ≤ hi.getD l.length ∧ hi.getD l.length ≤ l.length)) (K (.dat (.list k) (cut lo hi l)))
  | .dat .str l => chk (decide (lo.getD 0 ≤ hi.getD l.length ∧ hi.getD l.length ≤ l.length)) (K (.dat .str (cut lo hi l)))
  | .ref s j rv sv p a b k =>
    match lenC get (.ref s j rv sv p a b k) with
    | none => none
    | some n => chk (decide (lo.getD 0 ≤ hi.getD n ∧ hi.getD n ≤ n)) (K (.ref s j rv sv p (subOf a lo a) (subOf a hi b) k))
  | _ => none

theorem sliceD_eq (get : Nat → Slot) (c : C) (lo hi : Option Nat) (K : C → Option R) : sliceD get c lo hi K = (sliceC get c lo hi).bind K := by
  unfold sliceD
  split
  · by_cases h : lo.getD 0 = 0 ∧ hi.getD 0 = 0 <;> simp [sliceC, h, chk]
  · rename_i k l
    by_cases h : lo.getD 0 ≤ hi.getD l.length ∧ hi.getD l.length ≤ l.length <;> simp [sliceC, h, chk]
  · rename_i l
    by_cases h : lo.getD 0 ≤ hi.getD l.length ∧ hi.getD l.length ≤ l.length <;> simp [sliceC, h, chk]
  · rename_i s j rv sv p a b k
    simp only [sliceC]
    cases lenC get (.ref s j rv sv p a b k) with
    | none => rfl
    | some n => by_cases h : lo.getD 0 ≤ hi.getD n ∧ hi.getD n ≤ n <;> simp [h, chk]
  · rename_i h1 h2 h3 h4
    cases c with
    | nil => exact absurd rfl h1
    | ref s j rv sv p a b k => exact absurd rfl (h4 s j rv sv p a b k)
    | dat k x =>
      cases k with
      | list k => exact absurd rfl (h2 k x)
      | str => exact absurd rfl (h3 x)
      | _ => rfl
    | _ => rfl

def indexD (ty : Nat → Ti) (get : Nat → Slot) (t : Nat) (c : C) (i : Nat) (K : C → Option R) : Option R :=
  match (ty t).d with
  | .slice et => match c with
    | .dat (.list k) l => if (ty et).size = k.size then chk (decide (i < l.length)) (K (.pim ((leaves k (l.getD i k.dflt)).map fun g => .dat g.1 g.2) 0)) else none
    | .ref s j rv sv p a b k => match lenC get (.ref s j rv sv p a b k) with
      | some n => if (ty et).size = k.size then chk (decide (i < n)) (K (.aptr s j rv sv p (offOf a i) 0 k)) else none
      | none => none
    | _ => none
  | .arr n e => match c with
    | .bptr s bv j => if (ty e).size ≠ 0 then chk (decide (i < n)) (K (.bptr s bv (j + i * (ty e).size))) else none
    | _ => none
  | _ => none

theorem indexD_eq (ty : Nat → Ti) (get : Nat → Slot) (t : Nat) (c : C) (i : Nat) (K : C → Option R) : indexD ty get t c i K = (indexC ty get t c i).bind K := by
  unfold indexD indexC
  generalize (ty t).d = z
  cases z with
  | slice et =>
    simp only
    cases c with
    | dat k l =>
      cases k with
      | list k =>
        simp only
        by_cases h1 : (ty et).size = k.size
        · by_cases h2 : i < List.length l
          · rw [if_pos h1, if_pos ⟨h2, h1⟩]; simp [chk, h2]
          · rw [if_pos h1, if_neg (fun q => h2 q.1)]; simp [chk, h2]
        · rw [if_neg h1, if_neg (fun q => h1 q.2)]; rfl
      | _ => rfl
    | ref s j rv sv p a b k =>
      simp only
      cases lenC get (.ref s j rv sv p a b k) with
      | none => rfl
      | some n =>
        simp only
        by_cases h1 : (ty et).size = k.size
        · by_cases h2 : i < n
          · rw [if_pos h1, if_pos ⟨h2, h1⟩]; simp [chk, h2]
          · rw [if_pos h1, if_neg (fun q => h2 q.1)]; simp [chk, h2]
        · rw [if_neg h1, if_neg (fun q => h1 q.2)]; rfl
    | _ => rfl
  | arr n e =>
    simp only
    cases c with
    | bptr s bv j =>
      simp only
      by_cases h1 : (ty e).size ≠ 0
      · by_cases h2 : i < n
        · rw [if_pos h1, if_pos ⟨h2, h1⟩]; simp [chk, h2]
        · rw [if_pos h1, if_neg (fun q => h2 q.1)]; simp [chk, h2]
      · rw [if_neg h1, if_neg (fun q => h1 q.2)]; rfl
    | _ => rfl
  | _ => rfl

/-- Is there room for so many elements of so many bytes? -/
def fits (n b : Nat) : Bool := decide (n ≤ rowMost ∧ (2 * n + 512) * b ≤ byteMost)

def appendD (ty : Nat → Ti) (vars : List Nat) (t : Tr) (st : Nat) (x y : C) (K : Tr × C → Option R) : Option R :=
  match (ty st).d with
  | .slice e => match (ty e).k with
    | none => none
    | some k =>
      match srcC vars t k y with
      | none => none
      | some (t, ys, d) =>
        match x with
        | .nil => if (ty e).zero.isSome = true ∧ (ty e).zeros.length = k.size then chk (fits ys.length (ty e).bytes) (K (t, .own 0 0 d k ys)) else none
        | .ref s j rv _ [] lo hi k' =>
          match (t.at s).cs.getD j .dead with
          | .own rv' _ deep k0 l0 =>
            if rv = rv' ∧ k' = k0 then
              match castL k0 (cut lo hi l0) k with
              | none => none
              | some l => if (ty e).zero.isSome = true ∧ (ty e).zeros.length = k.size then chk (fits (l.length + ys.length) (ty e).bytes) (K (t.put s ((t.at s).kill j), .own 0 0 (deep && d) k (l ++ ys))) else none
            else none
          | _ => none
        | _ => none
  | _ => none

theorem appendD_eq (ty : Nat → Ti) (vars : List Nat) (t : Tr) (st : Nat) (x y : C) (K : Tr × C → Option R) : appendD ty vars t st x y K = (appendC ty vars t st x y).bind K := by
  unfold appendD appendC
  generalize (ty st).d = z
  cases z with
  | slice e =>
    simp only
    generalize (ty e).k = kk
    cases kk with
    | none => rfl
    | some k =>
      simp only
      generalize srcC vars t k y = r
      cases r with
      | none => rfl
      | some r =>
        obtain ⟨t', ys, d⟩ := r
        simp only
        cases x with
        | nil =>
          simp only
          by_cases h1 : (ty e).zero.isSome = true <;> by_cases h2 : (ty e).zeros.length = k.size <;> by_cases h3 : ys.length ≤ rowMost <;> by_cases h4 : (2 * ys.length + 512) * (ty e).bytes ≤ byteMost <;> simp [h1, h2, h3, h4, chk, fits]
        | ref s j rv sv p lo hi k' =>
          cases p with
          | cons _ _ => rfl
          | nil =>
            simp only
            generalize (t'.at s).cs.getD j .dead = z
            cases z with
            | own rv' sv' deep k0 l0 =>
              simp only
              by_cases h : rv = rv' ∧ k' = k0
              · rw [if_pos h, if_pos h]
                generalize castL k0 (cut lo hi l0) k = ll
                cases ll with
                | none => rfl
                | some l =>
                  simp only
                  by_cases h1 : (ty e).zero.isSome = true <;> by_cases h2 : (ty e).zeros.length = k.size <;> by_cases h3 : l.length + ys.length ≤ rowMost <;> by_cases h4 : (2 * (l.length + ys.length) + 512) * (ty e).bytes ≤ byteMost <;> simp [h1, h2, h3, h4, chk, fits]
              · rw [if_neg h, if_neg h]; rfl
            | _ => rfl
        | _ => rfl
  | _ => rfl

/-- Two data of one kind, picked by a flag. -/
def pickV (b : Bool) (u v : Val) : Option Val := match u, v with
  | (.one, [.dat k x]), (.one, [.dat k' y]) => (castK k' y k).map fun y => (.one, [.dat k (cond b x y)])
  | _, _ => none

theorem pickV_ok {b : Bool} {u v r : Val} (h : pickV b u v = some r) : r = cond b u v := by
  unfold pickV at h
  split at h
  · rename_i k x k' y
    cases hc : castK k' y k with
    | none => rw [hc] at h; simp at h
    | some z =>
      rw [hc] at h
      simp only [Option.map_some, Option.some.injEq] at h
      have := castK_ok hc
      subst h
      cases b
      · simp only [cond_false]; rw [this]
      · rfl
  · simp at h

def callD (x : Ctx) (bk : Book) (t : Tr) (dst : Option Nat) (f : Nat) (args : List Val) (K : Tr → Option R) : Option R :=
  match send t (x.md f) (lentBoxes (x.md f) 0 args) 0 args with
  | none => none
  | some q =>
    if nodupB (lentPlaces q.lends) && disjoint ((lentPlaces q.lends).map (·.1)) (readTargets (x.md f) (lentBoxes (x.md f) 0 args) 0 args) then
      semD f (x.md f) q.vals (fun r => match back (if r.1.2.any C.aliases || r.2.any (·.any C.aliases) then t.give (readTargets (x.md f) (lentBoxes (x.md f) 0 args) 0 args) else t) q.lends r.2 with
        | none => none
        | some t => K (t.lay dst r.1)) bk
    else none

/-- A machine over a book. -/
structure Over (x : Ctx) (bk : Book) : Prop where
  sem : x.sem = bk.sem
  md : x.md = bk.md

theorem callD_eq {x : Ctx} {bk : Book} (hx : Over x bk) (t : Tr) (dst : Option Nat) (f : Nat) (args : List Val) (K : Tr → Option R) : callD x bk t dst f args K = (callC x t dst f args).bind K := by
  unfold callD callC
  simp only
  cases hs : send t (x.md f) (lentBoxes (x.md f) 0 args) 0 args with
  | none => rfl
  | some q =>
    simp only
    split
    · rw [semD_eq, hx.sem]
      simp only [Book.sem, hx.md]
      cases semD f (bk.md f) q.vals some bk with
      | none => rfl
      | some r =>
        obtain ⟨v, os⟩ := r
        simp only [Option.bind_some]
        split
        · rename_i hb; simp only [hb]; rfl
        · rename_i hb; simp only [hb]; rfl
    · rfl

/-- One operation; what hangs on data is handed on. -/
def actD (x : Ctx) (bk : Book) (get : Nat → Slot) (o : Oper) (K : Writes → Option R) : Option R :=
  match o.op with
  | .pick c a b => match opd get c, opd get a, opd get b with
    | some (.one, [.dat .bool t]), some u, some v => match pickV t u v with
      | some r => K (Tr.lay { get, d := o.dst } o.dst r).ws
      | none => cond t (K (Tr.lay { get, d := o.dst } o.dst u).ws) (K (Tr.lay { get, d := o.dst } o.dst v).ws)
    | _, _, _ => (act x get o).bind K
  | .binOp op ty a b _ => match opd get a, opd get b with
    | some (.one, [c]), some (.one, [d]) => binD (x.ty ty).isB op c d fun c => K (Tr.lay { get, d := o.dst } o.dst (.one, [c])).ws
    | _, _ => (act x get o).bind K
  | .load ty a => match opd get a with
    | some (.one, [c]) => if (x.ty ty).ok = true then loadD get (x.ty ty).size c fun cs => K (Tr.lay { get, d := o.dst } o.dst (partShape (x.ty ty), cs)).ws else none
    | _ => (act x get o).bind K
  | .store ty a b => match opd get a, opd get b with
    | some (.one, [c]), some v => if (x.ty ty).ok = true ∧ v.2.length = (x.ty ty).size ∧ whole get v = true then storeD x { get, d := o.dst } c v.2 fun t => K (t.lay o.dst (.dead, [])).ws else none
    | _, _ => (act x get o).bind K
  | .slice ty a lo hi none => match opd get a with
    | some (.one, [c]) => boundD get lo fun l => boundD get hi fun h => if slFits x.ty ty c = false then none else sliceD get c l h fun c => K (Tr.lay { get, d := o.dst } o.dst (.one, [c])).ws
    | _ => (act x get o).bind K
  | .indexAddr ty a b => match opd get a, opd get b with
    | some (.one, [c]), some (.one, [i]) => natD i fun i => indexD x.ty get ty c i fun c => K (Tr.lay { get, d := o.dst } o.dst (.one, [c])).ws
    | _, _ => (act x get o).bind K
  | .index ty a b => match opd get a, opd get b with
    | some (.one, [.dat .str s]), some (.one, [i]) => if (x.ty ty).isS = false then none else natD i fun i => chk (decide (i < s.length)) (K (Tr.lay { get, d := o.dst } o.dst (.one, [.dat (.int .u8) (((s.getD i 0).toNat : Nat) : Int)])).ws)
    | _, _ => (act x get o).bind K
  | .convert src dst a => match opd get a with
    | some (.one, [.dat .str s]) => if (x.ty src).ok = false then none else
      match (x.ty dst).isS, u8Row x.ty dst with
      | false, true => if (x.ty src).isS = true then chk (decide (s.length ≤ rowMost)) ((Tr.own { get, d := o.dst } o.dst (.one, [.own 0 0 true (.int .u8) (s.map fun b => ((b.toNat : Nat) : Int))])).bind K) else none
      | _, _ => (act x get o).bind K
    | _ => (act x get o).bind K
  | .makeSlice ty n m => match (x.ty ty).d, opd get n, opd get m with
    | .slice e, some (.one, [n]), some (.one, [m]) => match (x.ty e).k with
      | some k => if isZero k (x.ty e).zeros = true then natD n fun n => natD m fun m => chk (decide (n ≤ m ∧ m ≤ rowMost ∧ m * (x.ty e).bytes ≤ byteMost)) ((Tr.own { get, d := o.dst } o.dst (.one, [.own 0 0 true k (List.replicate n k.dflt)])).bind K) else none
      | none => none
    | _, _, _ => (act x get o).bind K
  | .call c0 => match c0.callee with
    | .builtin .append => match opds get c0.args.toList with
      | some [(.one, [a]), (.one, [b])] => if (c0.argTypes[0]?).isSome = false ∨ (c0.argTypes[1]?).isSome = false ∨ fitsTy (x.ty (c0.argTypes.getD 1 0)) b = false then none else
          appendD x.ty x.vars { get, d := o.dst } (c0.argTypes.getD 0 0) a b fun r => (r.1.own o.dst (.one, [r.2])).bind K
      | _ => (act x get o).bind K
    | .value f => match opd get f, opds get c0.args.toList with
      | some (.one, [.fn g caps]), some vs => callD x bk { get, d := o.dst } o.dst g (vs ++ caps.map fun c => (.one, [c])) fun t => K t.ws
      | _, _ => (act x get o).bind K
    | _ => (act x get o).bind K
  | _ => (act x get o).bind K

theorem actD_eq {x : Ctx} {bk : Book} (hx : Over x bk) (get : Nat → Slot) (o : Oper) (K : Writes → Option R) : actD x bk get o K = (act x get o).bind K := by
  unfold actD
  split
  · rename_i c a b ho
    split
    · rename_i t u v hc ha hb
      split
      · rename_i r hr
        have := pickV_ok hr
        subst this
        cases t <;> simp [act, ho, hc, ha, hb]
      · cases t <;> simp [act, ho, hc, ha, hb]
    · rfl
  · rename_i op ty a b yt ho
    split
    · rename_i c d hc hd
      rw [binD_eq]
      simp only [act, ho, hc, hd]
      cases bin (x.ty ty).isB op c d <;> rfl
    · rfl
  · rename_i ty a ho
    split
    · rename_i c hc
      rw [loadD_eq]
      simp only [act, ho, hc]
      by_cases hok : (x.ty ty).ok = true
      · rw [if_pos hok, if_pos hok]
        cases loadC get (x.ty ty).size c <;> rfl
      · rw [if_neg hok, if_neg hok]; rfl
    · rfl
  · rename_i ty a b ho
    split
    · rename_i c v hc hv
      rw [storeD_eq]
      simp only [act, ho, hc, hv]
      by_cases hok : (x.ty ty).ok = true ∧ v.2.length = (x.ty ty).size ∧ whole get v = true
      · rw [if_pos hok, if_pos hok]
        cases storeC x { get, d := o.dst } c v.2 <;> rfl
      · rw [if_neg hok, if_neg hok]; rfl
    · rfl
  · rename_i ty a lo hi ho
    split
    · rename_i c hc
      rw [boundD_eq]
      simp only [act, ho, hc]
      cases boundOf get lo with
      | none => rfl
      | some l =>
        simp only [Option.bind_some]
        rw [boundD_eq]
        cases boundOf get hi with
        | none => rfl
        | some h =>
          simp only [Option.bind_some]
          rw [sliceD_eq]
          by_cases hf : slFits x.ty ty c = false
          · rw [if_pos hf, if_pos hf]; rfl
          · rw [if_neg hf, if_neg hf]
            cases sliceC get c l h <;> rfl
    · rfl
  · rename_i ty a b ho
    split
    · rename_i c i hc hi
      rw [natD_eq]
      simp only [act, ho, hc, hi]
      cases natOf i with
      | none => rfl
      | some m =>
        simp only [Option.bind_some]
        rw [indexD_eq]
        cases indexC x.ty get ty c m <;> rfl
    · rfl
  · rename_i ty a b ho
    split
    · rename_i s i hs hi
      rw [natD_eq]
      simp only [act, ho, hs, hi]
      by_cases hf : (x.ty ty).isS = false
      · rw [if_pos hf, if_pos hf]; rfl
      · rw [if_neg hf, if_neg hf]
        cases natOf i with
        | none => rfl
        | some m =>
          simp only [Option.bind_some]
          by_cases hm : m < s.length <;> simp [hm, chk]
    · rfl
  · rename_i src dst a ho
    split
    · rename_i s hs
      split
      · rename_i hok; simp [act, ho, hs, hok]
      · rename_i hok
        split
        · rename_i h1 h2
          simp only [act, ho, hs, hok, h1, h2]
          by_cases g1 : (x.ty src).isS = true <;> by_cases g2 : s.length ≤ rowMost <;> cases hk : intTi (x.ty dst) <;> simp [g1, g2, chk]
        · rfl
    · rfl
  · rename_i ty n m ho
    split
    · rename_i e c1 c2 hd hn hm
      simp only [act, ho, hd, hn, hm]
      cases hk : (x.ty e).k with
      | none => rfl
      | some k =>
        simp only
        rw [natD_eq]
        cases natOf c1 with
        | none => simp
        | some n =>
          simp only [Option.bind_some]
          rw [natD_eq]
          cases natOf c2 with
          | none => simp
          | some m =>
            simp only [Option.bind_some]
            by_cases h1 : isZero k (x.ty e).zeros = true <;> by_cases h2 : n ≤ m <;> by_cases h3 : m ≤ rowMost <;> by_cases h4 : m * (x.ty e).bytes ≤ byteMost <;> simp [h1, h2, h3, h4, chk]
    · rfl
  · rename_i c0 ho
    split
    · rename_i hcb
      split
      · rename_i a b hvs
        simp only [act, ho, hcb, hvs]
        by_cases hf : (c0.argTypes[0]?).isSome = false ∨ (c0.argTypes[1]?).isSome = false ∨ fitsTy (x.ty (c0.argTypes.getD 1 0)) b = false
        · rw [if_pos hf, if_pos hf]; rfl
        · rw [if_neg hf, if_neg hf, appendD_eq]
          cases appendC x.ty x.vars { get, d := o.dst } (c0.argTypes.getD 0 0) a b <;> rfl
      · rfl
    · rename_i f hcf
      split
      · rename_i g caps vs hf hvs
        rw [callD_eq hx]
        simp only [act, ho, hcf, hf, hvs]
        cases callC x { get, d := o.dst } o.dst g (vs ++ caps.map fun c => (.one, [c])) <;> rfl
      · rfl
    · rfl
  · rfl

end D
end Go.Mach
