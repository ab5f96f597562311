/- THE ENGINE's DEFINITIONS: a big-step evaluator of a loaded program over an abstract heap. -/
import Derived.Orders
set_option linter.all false
namespace Go.Eng

noncomputable section

/-! ## persistent tables -/

inductive PT (α : Type) where
  | nil
  | node (v : Option α) (l r : PT α)

def PT.get {α : Type} (t : PT α) : Nat → Option α :=
  PT.rec (motive := fun _ => Nat → Option α) (fun _ => none)
    (fun v _ _ gl gr i => Nat.rec (motive := fun _ => Option α) v (fun k _ => Nat.rec (motive := fun _ => Option α) (gl (Nat.div k 2)) (fun _ _ => gr (Nat.div k 2)) (Nat.mod k 2)) i) t

def PT.setF {α : Type} (n : Nat) : PT α → Nat → α → PT α :=
  Nat.rec (motive := fun _ => PT α → Nat → α → PT α) (fun t _ _ => t)
    (fun _ ih t i x => PT.rec (motive := fun _ => PT α)
      (Nat.rec (motive := fun _ => PT α) (.node (some x) .nil .nil) (fun k _ => Nat.rec (motive := fun _ => PT α) (.node none (ih .nil (Nat.div k 2) x) .nil) (fun _ _ => .node none .nil (ih .nil (Nat.div k 2) x)) (Nat.mod k 2)) i)
      (fun v l r _ _ => Nat.rec (motive := fun _ => PT α) (.node (some x) l r) (fun k _ => Nat.rec (motive := fun _ => PT α) (.node v (ih l (Nat.div k 2) x) r) (fun _ _ => .node v l (ih r (Nat.div k 2) x)) (Nat.mod k 2)) i) t) n

def PT.set {α : Type} (t : PT α) (i : Nat) (x : α) : PT α := PT.setF (i + 1) t i x

def PT.setL {α : Type} (t : PT α) (o : Nat) : List α → PT α
  | [] => t
  | x :: xs => PT.setL (t.set o x) (o + 1) xs

def PT.getL {α : Type} (t : PT α) (o : Nat) : Nat → Option (List α)
  | 0 => some []
  | n + 1 => match t.get o with
    | none => none
    | some x => match PT.getL t (o + 1) n with
      | none => none
      | some xs => some (x :: xs)

/-! ## abstract values, objects, heaps -/

inductive Cap where
  | ex (n : Nat)
  | gr (skip room : Nat)
  deriving DecidableEq

inductive AV where
  | bool (b : Bool)
  | int (k : IntKind) (n : Int)
  | str (s : List UInt8)
  | nilptr
  | ptr (f o : Nat)
  | nilslice
  | slice (f o len : Nat) (c : Cap)
  | emp (k : Nat)
  | nilmap
  | map (f : Nat)
  | func (f : FuncId) (first captured : List AV)
  | yield (l : Nat)
  | nilFunc
  | iface (t : TypeId) (v : AV)
  | nilIface
  | agg (cs : List AV)
  | tuple (vs : List AV)

def AV.undef : AV := .tuple []

/-- the temporaries of an activation -/
structure TM where
  t : Nat → AV
  n : Nat

def TM.get (m : TM) (i : Nat) : AV := m.t i

def updT (t : Nat → AV) (d : Nat) (v : AV) : Nat → AV := fun i => Bool.casesOn (Nat.beq i d) (t i) v

def argT (args : List AV) : Nat → AV := fun i => match args[i]? with
  | some v => v
  | none => .tuple []

def TM.put (m : TM) (d : Option Tmp) (v : AV) : Option TM := match d with
  | none => some m
  | some d => if d < m.n then some ⟨updT m.t d v, m.n⟩ else none

structure AMapEntry where
  key : AV
  val : AV
  born : Nat

structure ALoop where
  state : LoopState
  pending : Option Code
  fn : FuncId
  tmps : TM
  params : Array Tmp
  assign : Code
  body : Code
  defers : Nat

inductive Ent where
  /-- cells: what is known; how many there are; the elements' type; the group; 0: no string looks into it, 1: marked behind its end, 2: frozen -/
  | cells (c : PT AV) (n ty grp sf : Nat)
  | map (es : List AMapEntry) (clock : Nat)
  | strIter (s : List UInt8) (pos : Nat)
  | mapIter (m : Option Nat) (since : Nat) (seen : List Nat) (last : Nat)
  | loop (l : ALoop)
  | deferred (taken : Bool)

structure AH where
  heap : PT Ent
  next : Nat
  /-- of a group: its owner, and the least name of it that is alive -/
  own : PT (Nat × Nat)

/-- of a group -/
def AH.owner (A : AH) (g : Nat) : Nat × Nat := match A.own.get g with
  | some x => x
  | none => (g, g)

/-- an object that is alive -/
def AH.look (A : AH) (f : Nat) : Option Ent := match A.heap.get f with
  | some (.cells c n ty g sf) => match A.own.get g with
    | some (_, m) => if m ≤ f then some (.cells c n ty g sf) else none
    | none => if g ≤ f then some (.cells c n ty g sf) else none
  | e => e

def AH.new (A : AH) (e : Ent) : AH := ⟨A.heap.set A.next e, A.next + 1, A.own⟩

/-- a name for an empty slice whose place is not known -/
def AH.skip (A : AH) : AH := ⟨A.heap, A.next + 1, A.own⟩

def AH.newCells (A : AH) (ty : TypeId) (sf : Nat) (vs : List AV) (n : Nat) : AH :=
  A.new (.cells (PT.setL .nil 0 vs) n ty A.next sf)

def AH.put (A : AH) (f : Nat) (e : Ent) : AH := ⟨A.heap.set f e, A.next, A.own⟩

/-- cells that are read -/
def AH.read (A : AH) (f o n : Nat) : Option (List AV) := match A.look f with
  | some (.cells c _ _ _ _) => c.getL o n
  | _ => none

/-- what one cell can hold -/
def isCell : AV → Bool
  | .agg _ | .tuple _ => false
  | _ => true

/-- cells that are written, by the owner; the group's others die -/
def AH.write (A : AH) (f o : Nat) (vs : List AV) : Option AH := match A.look f with
  | some (.cells c n ty g sf) =>
    if 1 < sf then none else
    if n < o + vs.length then none else
    if !vs.all isCell then none else
    match A.own.get g with
    | none => if g = f then some ⟨A.heap.set f (.cells (c.setL o vs) n ty g sf), A.next, A.own⟩ else none
    | some (ow, m) => if ow = f then
        some ⟨A.heap.set f (.cells (c.setL o vs) n ty g sf), A.next, if m = f then A.own else A.own.set g (f, f)⟩ else none
  | _ => none

/-! ## values -/

def bytesL (s : ByteArray) : List UInt8 := s.data.toList

def ofScalar : Value → Option AV
  | .bool b => some (.bool b)
  | .int k n => some (.int k n)
  | .string s => some (.str (bytesL s))
  | .pointer none => some .nilptr
  | .slice none 0 0 => some .nilslice
  | .map none => some .nilmap
  | .nilFunc => some .nilFunc
  | .nilIface => some .nilIface
  | .func (.func f) ⟨[]⟩ ⟨[]⟩ => some (.func f [] [])
  | _ => none

def mapO {α β : Type} (f : α → Option β) : List α → Option (List β)
  | [] => some []
  | x :: xs => match f x with
    | none => none
    | some y => match mapO f xs with
      | none => none
      | some ys => some (y :: ys)

def ofV : Value → Option AV
  | .agg ⟨cs⟩ => match mapO ofScalar cs with
    | some l => some (.agg l)
    | none => none
  | .tuple ⟨[]⟩ => some (.tuple [])
  | v => ofScalar v

def AV.cells : AV → List AV
  | .agg cs => cs
  | v => [v]

section
variable (P : Program)

def szOf (t : TypeId) : Option Nat := match P.info? t with
  | some i => some i.size
  | none => none

def bytesOf (t : TypeId) : Option Nat := match P.info? t with
  | some i => some i.bytes
  | none => none

def zeroOf (t : TypeId) : Option AV := match P.info? t with
  | some i => match i.zero with
    | some v => ofV v
    | none => none
  | none => none

def isAggT (t : TypeId) : Option Bool := match P.underlying t with
  | some (.struct _) => some true
  | some (.array _ _) => some true
  | some _ => some false
  | none => none

/-- a part of an aggregate -/
def apart (t : TypeId) (cs : List AV) (off : Nat) : Option AV := match isAggT P t with
  | some true => match szOf P t with
    | some n => some (.agg ((cs.drop off).take n))
    | none => none
  | some false => cs[off]?
  | none => none

def aload (A : AH) (t : TypeId) (f o : Nat) : Option AV := match isAggT P t with
  | some true => match szOf P t with
    | some n => match A.read f o n with
      | some vs => some (.agg vs)
      | none => none
    | none => none
  | some false => match A.read f o 1 with
    | some [v] => some v
    | _ => none
  | none => none

def astore (A : AH) (t : TypeId) (f o : Nat) (v : AV) : Option AH := match szOf P t with
  | some n => if v.cells.length = n then A.write f o v.cells else none
  | none => none

/-- is a key that may stand in a map -/
def simpleEq : AV → AV → Bool
  | .bool a, .bool b => a == b
  | .int j a, .int k b => decide (j = k) && a == b
  | .str a, .str b => a == b
  | _, _ => false

def simpleEqL : List AV → List AV → Bool
  | [], [] => true
  | a :: as, b :: bs => simpleEq a b && simpleEqL as bs
  | _, _ => false

def keyEq : AV → AV → Bool
  | .agg as, .agg bs => simpleEqL as bs
  | a, b => simpleEq a b

def strLess : List UInt8 → List UInt8 → Bool
  | _, [] => false
  | [], _ :: _ => true
  | a :: x, b :: y => a < b || (a == b && strLess x y)

/-- two structs, field by field -/
def aeqFields (eq : TypeId → AV → AV → Option Bool) (xs ys : List AV) : List Field → Option Bool
  | [] => some true
  | f :: fs =>
    if f.name ≠ "_" then
      match apart P f.type xs f.offset, apart P f.type ys f.offset with
      | some a, some b => match eq f.type a b with
        | some true => aeqFields eq xs ys fs
        | r => r
      | _, _ => none
    else aeqFields eq xs ys fs

/-- x == y at a type -/
def aeq (A : AH) : Nat → TypeId → AV → AV → Option Bool
  | 0, _, _, _ => none
  | d + 1, t, x, y =>
    match P.underlying t, x, y with
    | some .bool, .bool a, .bool b => some (a == b)
    | some (.int _), .int j a, .int k b => if j = k then some (a == b) else none
    | some .string, .str a, .str b => some (a == b)
    | some (.pointer _), .nilptr, .nilptr => some true
    | some (.pointer _), .nilptr, .ptr _ _ => some false
    | some (.pointer _), .ptr _ _, .nilptr => some false
    | some (.pointer e), .ptr f o, .ptr g p =>
      match szOf P e with
      | some (_ + 1) =>
        if f = g then some (decide (o = p)) else
        match A.look f, A.look g with
        | some (.cells _ _ _ i 0), some (.cells _ _ _ j 0) => if i = j then none else some false
        | _, _ => none
      | _ => none
    | some (.interface _), .nilIface, .nilIface => some true
    | some (.interface _), .nilIface, .iface _ _ => some false
    | some (.interface _), .iface _ _, .nilIface => some false
    | some (.interface _), .iface tx vx, .iface ty vy =>
      if tx ≠ ty then some false else
      match P.info? tx with
      | some i => if i.comparable then aeq A d tx vx vy else none
      | none => none
    | some (.struct fields), .agg xs, .agg ys =>
      if P.stoodInHeld t then none else
      aeqFields P (aeq A d) xs ys fields.toList
    | some (.slice _), .nilslice, .nilslice => some true
    | some (.slice _), .nilslice, .slice .. => some false
    | some (.slice _), .slice .., .nilslice => some false
    | some (.slice _), .nilslice, .emp _ => some false
    | some (.slice _), .emp _, .nilslice => some false
    | some (.map _ _), .nilmap, .nilmap => some true
    | some (.map _ _), .nilmap, .map _ => some false
    | some (.map _ _), .map _, .nilmap => some false
    | some (.func ..), .nilFunc, .nilFunc => some true
    | some (.func ..), .nilFunc, .func .. => some false
    | some (.func ..), .func .., .nilFunc => some false
    | _, _, _ => none

def isConstO : Operand → Bool
  | .const _ => true
  | _ => false

def abinInt (op : BinOp) (k : IntKind) (x y : Int) : Option AV :=
  match op with
  | .add => some (.int k (k.wrap (x + y)))
  | .sub => some (.int k (k.wrap (x - y)))
  | .mul => some (.int k (k.wrap (x * y)))
  | .quo => if y = 0 then none else some (.int k (k.wrap (x.tdiv y)))
  | .rem => if y = 0 then none else some (.int k (x.tmod y))
  | .and => some (.int k (k.wrap (BitVec.ofInt k.bits x &&& BitVec.ofInt k.bits y).toNat))
  | .or => some (.int k (k.wrap (BitVec.ofInt k.bits x ||| BitVec.ofInt k.bits y).toNat))
  | .xor => some (.int k (k.wrap (BitVec.ofInt k.bits x ^^^ BitVec.ofInt k.bits y).toNat))
  | .andNot => some (.int k (k.wrap (BitVec.ofInt k.bits x &&& ~~~ BitVec.ofInt k.bits y).toNat))
  | .eql => some (.bool (x == y))
  | .neq => some (.bool (x != y))
  | .lss => some (.bool (decide (x < y)))
  | .leq => some (.bool (decide (x ≤ y)))
  | .gtr => some (.bool (decide (x > y)))
  | .geq => some (.bool (decide (x ≥ y)))
  | .shl | .shr => none

def ashift (op : BinOp) (k : IntKind) (x : Int) (y : Int) : Option AV :=
  if y < 0 then none else
  match op with
  | .shl => some (.int k (k.wrap (x * 2 ^ (min y.toNat k.bits))))
  | .shr => some (.int k (x.fdiv (2 ^ (min y.toNat k.bits))))
  | _ => none

def astrOp (op : BinOp) (x y : List UInt8) : Option AV :=
  match op with
  | .add => if x.length + y.length < 1000000000 then some (.str (x ++ y)) else none
  | .eql => some (.bool (x == y))
  | .neq => some (.bool !(x == y))
  | .lss => some (.bool (strLess x y))
  | .leq => some (.bool (strLess x y || x == y))
  | .gtr => some (.bool !(strLess x y || x == y))
  | .geq => some (.bool !(strLess x y))
  | _ => none

/-- may two values be compared without the guard? -/
def guardOk (t : TypeId) (x y : Operand) (a b : AV) : Bool :=
  match a, b with
  | .nilIface, .nilIface => isConstO x || isConstO y
  | .agg _, .agg _ => !P.eqGuardType P.depth t
  | _, _ => true

def abin (A : AH) (op : BinOp) (t : TypeId) (x y : Operand) (a b : AV) : Option AV :=
  match op, a, b with
  | .shl, .int k m, .int _ n => ashift .shl k m n
  | .shr, .int k m, .int _ n => ashift .shr k m n
  | _, .int j m, .int k n => if j = k then abinInt op j m n else none
  | _, .str a, .str b => astrOp op a b
  | .eql, a, b => if guardOk P t x y a b then (aeq P A 100 t a b).map .bool else none
  | .neq, a, b => if guardOk P t x y a b then (aeq P A 100 t a b).map fun r => .bool !r else none
  | _, _, _ => none

def aun (op : UnOp) (a : AV) : Option AV :=
  match op, a with
  | .neg, .int k n => abinInt .sub k 0 n
  | .xor, .int k n => abinInt .xor k (if k.signed then -1 else k.max) n
  | .not, .bool b => some (.bool !b)
  | _, _ => none

/-! ## slices -/

/-- an element count's cells, where a slice's capacity is known to be so much -/
def asIntA : AV → Option Int
  | .int _ n => some n
  | _ => none

def optInt : Option AV → Option (Option Int)
  | none => some none
  | some v => match asIntA v with
    | some n => some (some n)
    | none => none

/-- the bounds of a slice expression, if they lie within 'top' -/
def bounds (len top : Nat) (lo hi mx : Option Int) : Option (Nat × Nat × Option Nat) :=
  let m : Option (Option Nat) := match mx with
    | none => some none
    | some v => if 0 ≤ v ∧ v ≤ top then some (some v.toNat) else none
  match m with
  | none => none
  | some m =>
    let lim := match m with | some m => m | none => top
    let h : Option Nat := match hi with
      | none => some len
      | some v => if 0 ≤ v ∧ v ≤ lim then some v.toNat else none
    match h with
    | none => none
    | some h =>
      match (match lo with
        | none => some 0
        | some v => if 0 ≤ v ∧ v ≤ h then some v.toNat else none : Option Nat) with
      | none => none
      | some l => some (l, h, m)

def asliceOp (A : AH) (t : TypeId) (x : AV) (lo hi mx : Option Int) : Option (AV × AH) :=
  match P.underlying t, x with
  | some .string, .str s => match mx with
    | some _ => none
    | none => match bounds s.length s.length lo hi none with
      | some (l, h, _) => some (.str ((s.take h).drop l), A)
      | none => none
  | some (.slice e), .nilslice => match bounds 0 0 lo hi mx, szOf P e with
    | some _, some _ => some (.nilslice, A)
    | _, _ => none
  | some (.slice e), .emp k => match bounds 0 0 lo hi mx, szOf P e with
    | some (_, _, none), some _ => some (.emp k, A)
    | some (_, _, some _), some _ => some (.emp A.next, A.skip)
    | _, _ => none
  | some (.slice e), .slice f o len (.ex n) => match bounds len n lo hi mx, szOf P e with
    | some (l, h, m), some sz =>
      some (.slice f (if m.getD n = l then o else o + l * sz) (h - l) (.ex (m.getD n - l)), A)
    | _, _ => none
  | some (.slice e), .slice f o len (.gr s r) => match bounds len r lo hi mx, szOf P e with
    | some (l, h, some m), some sz => some (.slice f (if m = l then o else o + l * sz) (h - l) (.ex (m - l)), A)
    | some (l, h, none), some sz => if l < r then some (.slice f (o + l * sz) (h - l) (.gr (s + l) (r - l)), A) else
      if l = 0 then some (.slice f o (h - l) (.gr s r), A) else
      if h = l then some (.emp A.next, A.skip) else none
    | _, _ => none
  | some (.array n e), .ptr f o => match bounds n n lo hi mx, szOf P e with
    | some (l, h, m), some sz =>
      some (.slice f (if m.getD n = l then o else o + l * sz) (h - l) (.ex (m.getD n - l)), A)
    | _, _ => none
  | _, _ => none

def AV.sliceLen : AV → Option Nat
  | .nilslice => some 0
  | .emp _ => some 0
  | .slice _ _ n _ => some n
  | .str s => some s.length
  | _ => none

/-- the cells of the first n elements -/
def acells (A : AH) (sz n : Nat) : AV → Option (List AV)
  | .nilslice => if n = 0 then some [] else none
  | .emp _ => if n = 0 then some [] else none
  | .slice f o _ _ => if n * sz = 0 then some [] else A.read f o (n * sz)
  | .str s => some ((s.take n).map fun b => .int .u8 (b.toNat : Int))
  | _ => none

/-- a row that may be laid anew -/
def growOk (e : TypeId) (sz : Nat) : Bool := match zeroOf P e, bytesOf P e, szOf P e with
  | some z, some b, some n => decide (z.cells.length = sz) && decide (b < 100000) && decide (n = sz)
  | _, _, _ => false

/-- append of n elements whose cells are 'new' -/
def aappend (A : AH) (e : TypeId) (sz : Nat) (s : AV) (n : Nat) (new : List AV) : Option (AV × AH) :=
  if new.length ≠ n * sz then none else
  if n = 0 then (match s with
    | .nilslice | .emp _ => some (s, A)
    | .slice _ _ len (.ex cap) => if len ≤ cap then some (s, A) else none
    | .slice _ _ len (.gr _ room) => if len ≤ room then some (s, A) else none
    | _ => none) else
  if sz = 0 then none else if n ≥ 100000000 then none else
  match s with
  | .nilslice => if growOk P e sz then some (.slice A.next 0 n (.gr 0 n), A.newCells e 0 new (n * sz)) else none
  | .slice f o len (.ex cap) =>
    if len + n ≤ cap then
      match A.write f (o + len * sz) new with
      | some A' => some (.slice f o (len + n) (.ex cap), A')
      | none => none
    else match A.read f o (len * sz) with
      | some old => if len ≥ 100000000 then none else
        if growOk P e sz then some (.slice A.next 0 (len + n) (.gr 0 (len + n)), A.newCells e 0 (old ++ new) ((len + n) * sz)) else none
      | none => none
  | .slice f o len (.gr skip room) =>
    if len + n ≤ room then
      match A.write f (o + len * sz) new with
      | some A' => some (.slice f o (len + n) (.gr skip room), A')
      | none => none
    else
      match A.look f with
      | some (.cells _ m ty g sf) =>
        if sf < 2 ∧ ty = e ∧ o = skip * sz ∧ len ≤ room ∧ (skip + room) * sz = m ∧ (A.owner g).1 = f ∧ len < 100000000 ∧ new.all isCell ∧ growOk P e sz then
          match A.read f o (len * sz) with
          | some old =>
            -- in place, or anew: nobody knows; what stood between len and room dies with the elder ones
            let me := A.next
            some (.slice me 0 (len + n) (.gr 0 (len + n)),
              ⟨A.heap.set me (.cells (PT.setL .nil 0 (old ++ new)) ((len + n) * sz) e g sf), me + 1,
                A.own.set g (me, if len = room then (A.owner g).2 else me)⟩)
          | none => none
        else none
      | _ => none
  | _ => none

/-! ## maps -/

def findKey (A : AH) (kt : TypeId) (k : AV) : List AMapEntry → Nat → Option (Option (Nat × AMapEntry))
  | [], _ => some none
  | e :: es, i => match aeq P A 100 kt k e.key with
    | some true => if keyEq k e.key then some (some (i, e)) else none
    | some false => findKey A kt k es (i + 1)
    | none => none

/-- key types whose check is idle: no interface in them -/
def plainKey (t : TypeId) : Bool := match P.underlying t with
  | some (.int _) | some .string | some .bool => true
  | some (.struct fs) => fs.toList.all fun f => match P.underlying f.type with
    | some (.int _) | some .string | some .bool => true
    | _ => false
  | _ => false

def keyFits (t : TypeId) (k : AV) : Bool := match P.underlying t, k with
  | some (.int _), .int _ _ => true
  | some .string, .str _ => true
  | some .bool, .bool _ => true
  | some (.struct fs), .agg cs => fs.toList.all fun f => decide (f.offset < cs.length)
  | _, _ => false

def setNth {α : Type} (f : α → α) : List α → Nat → List α
  | [], _ => []
  | x :: xs, 0 => f x :: xs
  | x :: xs, i + 1 => x :: setNth f xs i

def eraseNth {α : Type} : List α → Nat → List α
  | [], _ => []
  | _ :: xs, 0 => xs
  | x :: xs, i + 1 => x :: eraseNth xs i

/-! ## operations -/

inductive AR where
  | val (v : AV)
  | skip
  | enter (f : FuncId) (args : List AV)
  | round (l : Nat) (L : ALoop) (m : TM)
  | defer (f : FuncId) (args : List AV)

def ρ (m : TM) : Operand → Option AV
  | .tmp t => some (m.get t)
  | .const v => ofV v
  | .global g => if g < 64 then some (.ptr g 0) else none
  | .func f => some (.func f [] [])

def ρs (m : TM) (l : List Operand) : Option (List AV) := mapO (ρ m) l

def one (v : AV) (A : AH) : Option (List (AR × AH)) := some [(.val v, A)]

def oneO (v : Option AV) (A : AH) : Option (List (AR × AH)) := match v with
  | some v => some [(.val v, A)]
  | none => none

def oneA (v : Option (AV × AH)) : Option (List (AR × AH)) := match v with
  | some (v, A) => some [(.val v, A)]
  | none => none

def skipO (A : Option AH) : Option (List (AR × AH)) := match A with
  | some A => some [(.skip, A)]
  | none => none

/-- the parts of a composite, laid over its zero cells -/
def afill (place : Nat → Option (Nat × Nat)) : List AV → List (Nat × AV) → Option (List AV)
  | cells, [] => some cells
  | cells, (i, v) :: rest => match place i with
    | none => none
    | some (off, size) =>
      if v.cells.length ≠ size ∨ cells.length < off + size then none
      else afill place (cells.take off ++ v.cells ++ cells.drop (off + size)) rest

def partsA (m : TM) (ps : Array (Nat × Operand)) : Option (List (Nat × AV)) :=
  mapO (fun (x : Nat × Operand) => match ρ m x.2 with | some v => some (x.1, v) | none => none) ps.toList

def repl (z : List AV) : Nat → List AV
  | 0 => []
  | n + 1 => z ++ repl z n

def abuild (t : TypeId) (parts : List (Nat × AV)) : Option AV :=
  match zeroOf P t, P.underlying t with
  | some z, some (.struct fields) =>
    match mapO (fun (f : Field) => match szOf P f.type with | some n => some (f.offset, n) | none => none) fields.toList with
    | some places => match afill (fun i => places[i]?) z.cells parts with
      | some cs => some (.agg cs)
      | none => none
    | none => none
  | some z, some (.array _ e) => match szOf P e with
    | some size => match afill (fun i => some (i * size, size)) z.cells parts with
      | some cs => some (.agg cs)
      | none => none
    | none => none
  | _, _ => none

def abuildSlice (A : AH) (t : TypeId) (len : Nat) (parts : List (Nat × AV)) : Option (AV × AH) :=
  match P.underlying t with
  | some (.slice e) => match szOf P e, zeroOf P e with
    | some size, some z =>
      if len = 0 then (match parts with
        | [] => some (.slice A.next 0 0 (.ex 0), A.newCells e 0 [] 0)
        | _ => none) else
      if size = 0 ∨ z.cells.length ≠ size ∨ len * size > 100000 then none else
      match afill (fun i => some (i * size, size)) (repl z.cells len) parts with
      | some cs => some (.slice A.next 0 len (.ex len), A.newCells e 0 cs (len * size))
      | none => none
    | _, _ => none
  | _ => none

def aconvert (A : AH) (src dst : TypeId) (x : AV) : Option (AV × AH) :=
  match P.underlying src, P.underlying dst, x with
  | some _, some (.int k), .int _ n => some (.int k (k.wrap n), A)
  | some _, some .string, .str s => some (.str s, A)
  | some (.pointer t), some .unsafePointer, .ptr f o => match szOf P t, A.look f with
    | some (_ + 1), some (.cells _ m _ _ _) => if o < m then some (.ptr f o, A) else none
    | _, _ => none
  | some .unsafePointer, some (.pointer u), .ptr f o => match szOf P u, A.look f with
    | some (k + 1), some (.cells _ m ty _ _) => if ty = u ∧ o % (k + 1) = 0 ∧ o + (k + 1) ≤ m then some (.ptr f o, A) else none
    | _, _ => none
  | some (.slice _), some (.slice e), .slice f o n c => match src == dst, P.underlying e, A.look f with
    | true, some (.int .u8), some (.cells cs m ty g sf) => if (A.owner g).1 = f then some (.slice f o n c, ⟨A.heap.set f (.cells cs m ty g (max sf 1)), A.next, A.own.set g (f, f)⟩) else none
    | _, _, _ => none
  | some (.slice e), some .string, x => match P.underlying e, x.sliceLen with
    | some (.int .u8), some n => match acells A 1 n x with
      | some vs => match mapO (fun (v : AV) => match v with | .int .u8 b => some (UInt8.ofNat b.toNat) | _ => none) vs with
        | some bs => match x with
          | .str _ => none
          | _ => some (.str bs, A)
        | none => none
      | none => none
    | _, _ => none
  | some _, some (.slice e), .str s => match P.underlying e, P.underlying src, szOf P e with
    | some (.int .u8), some .string, some 1 =>
      if s.length ≥ 100000000 then none else
      some (.slice A.next 0 s.length (.gr 0 s.length), A.newCells e 1 (s.map fun b => .int .u8 (b.toNat : Int)) s.length)
    | _, _, _ => none
  | _, _, _ => none

def amakeSlice (A : AH) (t : TypeId) (len cap : AV) : Option (AV × AH) :=
  match P.underlying t, len, cap with
  | some (.slice e), .int _ l, .int _ c => match szOf P e, bytesOf P e, zeroOf P e with
    | some size, some bytes, some z =>
      if 0 ≤ l ∧ l ≤ c ∧ c < 100000000 ∧ bytes * c.toNat < 1000000000 ∧ z.cells.length = size ∧ size ≠ 0 then
        some (.slice A.next 0 l.toNat (.ex c.toNat), A.newCells e 0 (repl z.cells c.toNat) (c.toNat * size))
      else none
    | _, _, _ => none
  | _, _, _ => none

def afieldAddr (t : TypeId) (x : AV) (i : Nat) : Option AV :=
  match P.underlying t, x with
  | some (.struct fields), .ptr f o => match fields[i]? with
    | some fd => match szOf P fd.type with
      | some (_ + 1) => some (.ptr f (o + fd.offset))
      | _ => none
    | none => none
  | _, _ => none

def aindexAddr (t : TypeId) (x i : AV) : Option AV :=
  match P.underlying t, x, i with
  | some (.slice e), .slice f o len _, .int _ i => if 0 ≤ i ∧ i < len then match szOf P e with
      | some n => some (.ptr f (o + i.toNat * n))
      | none => none
    else none
  | some (.array len e), .ptr f o, .int _ i => if 0 ≤ i ∧ i < len then match szOf P e with
      | some n => some (.ptr f (o + i.toNat * n))
      | none => none
    else none
  | _, _, _ => none

def aindex (t : TypeId) (x i : AV) : Option AV :=
  match P.underlying t, x, i with
  | some (.array len e), .agg cs, .int _ i => if 0 ≤ i ∧ i < len then match szOf P e with
      | some n => apart P e cs (i.toNat * n)
      | none => none
    else none
  | some .string, .str s, .int _ i => if 0 ≤ i then match s[i.toNat]? with
      | some b => some (.int .u8 (b.toNat : Int))
      | none => none
    else none
  | _, _, _ => none

def afield (t : TypeId) (x : AV) (i : Nat) : Option AV :=
  match P.underlying t, x with
  | some (.struct fields), .agg cs => match fields[i]? with
    | some f => apart P f.type cs f.offset
    | none => none
  | _, _ => none

def alookup (A : AH) (t : TypeId) (x k : AV) (ok : Bool) : Option AV :=
  match P.underlying t with
  | some (.map kt e) =>
    if !plainKey P kt || !keyFits P kt k then none else
    let r : Option (Option AV) := match x with
      | .nilmap => some none
      | .map f => match A.look f with
        | some (.map es _) => match findKey P A kt k es 0 with
          | some (some (_, e)) => some (some e.val)
          | some none => some none
          | none => none
        | _ => none
      | _ => none
    match r with
    | none => none
    | some (some v) => some (if ok then .tuple [v, .bool true] else v)
    | some none => match zeroOf P e with
      | some z => some (if ok then .tuple [z, .bool false] else z)
      | none => none
  | _ => none

def amapUpdate (A : AH) (t : TypeId) (x k v : AV) : Option AH :=
  match P.underlying t, x with
  | some (.map kt _), .map f =>
    if !plainKey P kt || !keyFits P kt k then none else
    match A.look f with
    | some (.map es clock) => match findKey P A kt k es 0 with
      | some (some (i, _)) => some (A.put f (.map (setNth (fun e => ⟨k, v, e.born⟩) es i) clock))
      | some none => some (A.put f (.map (es ++ [⟨k, v, clock⟩]) (clock + 1)))
      | none => none
    | _ => none
  | _, _ => none

def amapEntry (A : AH) (t : TypeId) (x k : AV) : Option (AV × AH) :=
  match P.underlying t, x with
  | some (.map kt e), .map f =>
    if !plainKey P kt || !keyFits P kt k then none else
    match A.look f with
    | some (.map es clock) => match findKey P A kt k es 0 with
      | some (some (i, en)) => some (.tuple [en.val, .int .i64 (en.born : Int)], A.put f (.map (setNth (fun e => ⟨k, e.val, e.born⟩) es i) clock))
      | some none => match zeroOf P e with
        | some z => some (.tuple [z, .int .i64 (clock : Int)], A.put f (.map (es ++ [⟨k, z, clock⟩]) (clock + 1)))
        | none => none
      | none => none
    | _ => none
  | _, _ => none

def bornAt (b : Int) : List AMapEntry → Nat → Option Nat
  | [], _ => none
  | e :: es, i => if (e.born : Int) = b then some i else bornAt b es (i + 1)

def aentryStore (A : AH) (x s v : AV) : Option AH :=
  match x, s with
  | .map f, .int _ b => match A.look f with
    | some (.map es clock) => match bornAt b es 0 with
      | some i => some (A.put f (.map (setNth (fun e => ⟨e.key, v, e.born⟩) es i) clock))
      | none => none
    | _ => none
  | _, _ => none

def arange (A : AH) (t : TypeId) (x : AV) : Option (AV × AH) :=
  match P.underlying t, x with
  | some .string, .str s => some (.ptr A.next 0, A.new (.strIter s 0))
  | some (.map _ _), .nilmap => some (.ptr A.next 0, A.new (.mapIter none 0 [] 0))
  | some (.map _ _), .map f => match A.look f with
    | some (.map _ clock) => some (.ptr A.next 0, A.new (.mapIter (some f) clock [] clock))
    | _ => none
  | _, _ => none

def anext (A : AH) (it : AV) (isStr : Bool) : Option (List (AR × AH)) :=
  match it with
  | .ptr r 0 => match A.look r, isStr with
    | some (.strIter s pos), true =>
      match s.drop pos with
      | [] => one (.tuple [.bool false]) A
      | b :: _ =>
        if b < 128 then one (.tuple [.bool true, .int .i64 (pos : Int), .int .i32 (b.toNat : Int)]) (A.put r (.strIter s (pos + 1))) else
        let d := Utf8.decode ⟨⟨s⟩⟩ pos
        one (.tuple [.bool true, .int .i64 (pos : Int), .int .i32 (d.1 : Int)]) (A.put r (.strIter s (pos + d.2)))
    | some (.mapIter none _ _ _), false => one (.tuple [.bool false]) A
    | some (.mapIter (some m) since seen last), false => match A.look m with
      | some (.map es clock) =>
        if !seen.isEmpty && !es.isEmpty && es.all (fun e => decide (last ≤ e.born)) then none else
        let left := es.filter fun e => !seen.contains e.born
        let old := left.filter fun e => decide (e.born < since)
        let new := left.filter fun e => decide (since ≤ e.born)
        some (((if old.isEmpty then [none] else []) ++ (old ++ new).map some).map fun (c : Option AMapEntry) => match c with
          | some e => (AR.val (.tuple [.bool true, e.key, e.val]), A.put r (.mapIter (some m) since (seen ++ [e.born]) clock))
          | none => (AR.val (.tuple [.bool false]), A))
      | _ => none
    | _, _ => none
  | _ => none

def aentry (A : AH) (it : AV) : Option AV :=
  match it with
  | .ptr r 0 => match A.look r with
    | some (.mapIter (some m) _ seen stepped) => match seen.getLast?, A.look m with
      | some stamp, some (.map es clock) =>
        if clock ≠ stepped then none else
        match es.find? (fun e => e.born == stamp) with
        | some e => some (.tuple [e.key, e.val])
        | none => none
      | _, _ => none
    | _ => none
  | _ => none

def atypeAssert (x : AV) (asserted : TypeId) (ok : Bool) : Option AV :=
  match P.underlying asserted, x with
  | some (.interface _), _ => none
  | some _, .iface t v => if t = asserted then some (if ok then .tuple [v, .bool true] else v) else
    if ok then match zeroOf P asserted with
      | some z => some (.tuple [z, .bool false])
      | none => none
    else none
  | some _, .nilIface => if ok then match zeroOf P asserted with
      | some z => some (.tuple [z, .bool false])
      | none => none
    else none
  | _, _ => none

def aextract (x : AV) (i : Nat) : Option AV := match x with
  | .tuple vs => vs[i]?
  | _ => none


def foldMin (mx : Bool) : AV → List AV → Option AV
  | .int k a, [] => some (.int k a)
  | .int k a, .int _ b :: rest => foldMin mx (.int k (if (if mx then decide (b > a) else decide (b < a)) then b else a)) rest
  | _, _ => none

/-! ## builtins -/

def alen (A : AH) (t : TypeId) (x : AV) : Option Nat :=
  match P.underlying t, x with
  | some .string, .str s => some s.length
  | some (.array n _), _ => some n
  | some (.slice _), .nilslice => some 0
  | some (.slice _), .emp _ => some 0
  | some (.slice _), .slice _ _ n _ => some n
  | some (.map _ _), .nilmap => some 0
  | some (.map _ _), .map f => match A.look f with
    | some (.map es _) => some es.length
    | _ => none
  | _, _ => none

def abuiltin (b : Builtin) (ts : List TypeId) (args : List AV) (A : AH) : Option (List (AR × AH)) :=
  match b, ts, args with
  | .len, t :: _, [x] => match alen P A t x with
    | some n => one (.int .i64 (n : Int)) A
    | none => none
  | .cap, t :: _, [x] => match P.underlying t, x with
    | some (.slice _), .nilslice => one (.int .i64 0) A
    | some (.slice _), .slice _ _ _ (.ex n) => one (.int .i64 (n : Int)) A
    | _, _ => none
  | .append, [t, u], [s, x] => match P.underlying t with
    | some (.slice e) => match szOf P e, P.underlying u with
      | some sz, some (.int _) => match zeroOf P e, x with
        | some z, .int _ k => if 0 ≤ k ∧ k < 100000000 ∧ growOk P e sz then oneA (aappend P A e sz s k.toNat (repl z.cells k.toNat)) else none
        | _, _ => none
      | some sz, some _ => match x.sliceLen with
        | some n => match acells A sz n x with
          | some new => oneA (aappend P A e sz s n new)
          | none => none
        | none => none
      | _, _ => none
    | _ => none
  | .copy, t :: _, [d, x] => match P.underlying t with
    | some (.slice e) => match szOf P e, d.sliceLen, x.sliceLen with
      | some sz, some dl, some xl => match acells A sz (min xl dl) x with
        | some cs => match d with
          | .slice f o _ _ => if cs.length = 0 then one (.int .i64 (min xl dl : Nat)) A else match A.write f o cs with
            | some A' => one (.int .i64 (min xl dl : Nat)) A'
            | none => none
          | .nilslice | .emp _ => if cs.length = 0 then one (.int .i64 (min xl dl : Nat)) A else none
          | _ => none
        | none => none
      | _, _, _ => none
    | _ => none
  | .delete, t :: _, [m, k] => match P.underlying t, m with
    | some (.map kt _), .map f =>
      if !plainKey P kt || !keyFits P kt k then none else
      match A.look f with
      | some (.map es clock) => match findKey P A kt k es 0 with
        | some (some (i, _)) => one (.tuple []) (A.put f (.map (eraseNth es i) clock))
        | some none => one (.tuple []) A
        | none => none
      | _ => none
    | _, _ => none
  | .clear, t :: _, [x] => match P.underlying t, x with
    | some (.slice _), .nilslice => one (.tuple []) A
    | some (.slice _), .emp _ => one (.tuple []) A
    | some (.slice e), .slice f o n _ => if n = 0 then one (.tuple []) A else match zeroOf P e, szOf P e with
      | some z, some sz => if z.cells.length = sz then match A.write f o (repl z.cells n) with
        | some A' => one (.tuple []) A'
        | none => none else none
      | _, _ => none
    | _, _ => none
  | .min, _, x :: rest => oneO (foldMin false x rest) A
  | .max, _, x :: rest => oneO (foldMin true x rest) A
  | .unsafeSliceData, t :: _, [.slice f o _ c] => match P.underlying t with
    | some (.slice _) => if (match c with | .ex n => n | .gr _ r => r) = 0 then none else one (.ptr f o) A
    | _ => none
  | .unsafeString, t :: _, [.ptr f o, .int _ n] =>
    if n ≤ 0 then none else if n ≥ 100000000 then none else
    match P.underlying t, A.look f with
    | some (.pointer e), some (.cells c m ty g sf) => match P.underlying e with
      | some (.int .u8) => if ty = e ∧ szOf P e = some 1 ∧ o + n.toNat ≤ m then match c.getL o n.toNat with
        | some vs => match mapO (fun (v : AV) => match v with | .int .u8 b => some (UInt8.ofNat b.toNat) | _ => none) vs with
          | some bs => if (A.owner g).1 = f then one (.str bs) ⟨A.heap.set f (.cells c m ty g 2), A.next, A.own.set g (f, f)⟩ else none
          | none => none
        | none => none else none
      | _ => none
    | _, _ => none
  | _, _, _ => none

/-! ## calls of functions without a body -/

inductive Ext where
  | indexByte | count | makeNoZero | same | overlaps
  deriving DecidableEq

def findByte (c : UInt8) : List UInt8 → Nat → Option Nat
  | [], _ => none
  | b :: bs, i => if b == c then some i else findByte c bs (i + 1)

def aext (e : Ext) (res : List TypeId) (args : List AV) (A : AH) : Option (List (AR × AH)) :=
  match e, args with
  | .indexByte, [.str s, .int .u8 c] => match findByte (UInt8.ofNat c.toNat) s 0 with
    | some i => one (.int .i64 (i : Int)) A
    | none => one (.int .i64 (-1)) A
  | .count, [.str s, .int .u8 c] => one (.int .i64 ((s.filter fun b => b == UInt8.ofNat c.toNat).length : Int)) A
  | .makeNoZero, [.int .i64 n] => match res with
    | t :: _ => match P.underlying t with
      | some (.slice e) => if 0 < n ∧ n < 100000000 ∧ szOf P e = some 1 then
          one (.slice A.next 0 n.toNat (.gr 0 n.toNat)) (A.newCells e 0 [] n.toNat) else none
      | _ => none
    | _ => none
  | .same, [x] => one x A
  | _, _ => none

structure Cfg where
  ext : FuncId → Option Ext
  join : FuncId → Bool

def acallF (cfg : Cfg) (f : FuncId) (args : List AV) (A : AH) : Option (List (AR × AH)) :=
  match P.funcs[f]? with
  | none => none
  | some fn => match fn.body with
    | some _ => some [(.enter f args, A)]
    | none => match cfg.ext f with
      | some e => aext P e fn.resultTypes.toList args A
      | none => none


def layParams : List (Tmp × AV) → TM → Option TM
  | [], m => some m
  | (t, v) :: rest, m => match m.put (some t) v with
    | some m => layParams rest m
    | none => none

def acall (cfg : Cfg) (A : AH) (m : TM) (c : Call) : Option (List (AR × AH)) :=
  match c.callee with
  | .builtin b => match ρs m c.args.toList with
    | some args => abuiltin P b c.argTypes.toList args A
    | none => none
  | .invoke _ _ => none
  | .value f => match ρ m f, ρs m c.args.toList with
    | some (.func g first captured), some args => acallF P cfg g (first ++ args ++ captured) A
    | some (.yield l), some args => match A.look l with
      | some (.loop L) => if args.length ≠ L.params.size then none else
        match layParams (L.params.toList.zip args) L.tmps with
        | some m => some [(.round l L m, A)]
        | none => none
      | _ => none
    | _, _ => none

def aop (cfg : Cfg) (A : AH) (m : TM) (o : Oper) : Option (List (AR × AH)) :=
  match o.op with
  | .move x | .assign x => oneO (ρ m x) A
  | .pick c a b => match ρ m c with
    | some (.bool t) => oneO (ρ m (if t then a else b)) A
    | _ => none
  | .alloc t => match zeroOf P t with
    | some z => one (.ptr A.next 0) (A.newCells t 0 z.cells z.cells.length)
    | none => none
  | .box t x => match ρ m x with
    | some v => one (.ptr A.next 0) (A.newCells t 0 v.cells v.cells.length)
    | none => none
  | .build t ps => match partsA m ps with
    | some ps => oneO (abuild P t ps) A
    | none => none
  | .buildSlice t n ps => match partsA m ps with
    | some ps => oneA (abuildSlice P A t n ps)
    | none => none
  | .load t a => match ρ m a with
    | some (.ptr f o) => oneO (aload P A t f o) A
    | _ => none
  | .store t a x => match ρ m a, ρ m x with
    | some (.ptr f o), some v => skipO (astore P A t f o v)
    | _, _ => none
  | .nilCheck x => match ρ m x with
    | some .nilptr | some .nilIface | some .nilFunc => none
    | some v => one v A
    | none => none
  | .binOp op t x y _ => match ρ m x, ρ m y with
    | some a, some b => oneO (abin P A op t x y a b) A
    | _, _ => none
  | .unOp op _ x => match ρ m x with
    | some a => oneO (aun op a) A
    | none => none
  | .convert s d x => match ρ m x with
    | some a => oneA (aconvert P A s d a)
    | none => none
  | .makeInterface t x => match ρ m x, P.underlying t with
    | some _, some (.interface _) => none
    | some v, some _ => one (.iface t v) A
    | _, _ => none
  | .makeFunc (.func f) first captured => match ρs m first.toList, ρs m captured.toList with
    | some a, some b => one (.func f a b) A
    | _, _ => none
  | .makeMap t r => match r with
    | none => one (.map A.next) (A.new (.map [] 0))
    | some h => match ρ m h, P.underlying t with
      | some (.int _ _), some (.map _ _) => one (.map A.next) (A.new (.map [] 0))
      | _, _ => none
  | .makeSlice t l c => match ρ m l, ρ m c with
    | some l, some c => oneA (amakeSlice P A t l c)
    | _, _ => none
  | .slice t x lo hi mx =>
    match ρ m x, (match lo with | none => some none | some o => optInt' m o), (match hi with | none => some none | some o => optInt' m o), (match mx with | none => some none | some o => optInt' m o) with
    | some x, some lo, some hi, some mx => if mx.isSome && hi.isNone then none else oneA (asliceOp P A t x lo hi mx)
    | _, _, _, _ => none
  | .fieldAddr t x i => match ρ m x with
    | some x => oneO (afieldAddr P t x i) A
    | none => none
  | .field t x i => match ρ m x with
    | some x => oneO (afield P t x i) A
    | none => none
  | .indexAddr t x i => match ρ m x, ρ m i with
    | some x, some i => oneO (aindexAddr P t x i) A
    | _, _ => none
  | .index t x i => match ρ m x, ρ m i with
    | some x, some i => oneO (aindex P t x i) A
    | _, _ => none
  | .lookup t x i ok => match ρ m x, ρ m i with
    | some x, some i => oneO (alookup P A t x i ok) A
    | _, _ => none
  | .mapUpdate t x k v | .insert t x k v => match ρ m x, ρ m k, ρ m v with
    | some x, some k, some v => skipO (amapUpdate P A t x k v)
    | _, _, _ => none
  | .mapEntry t x k => match ρ m x, ρ m k with
    | some x, some k => oneA (amapEntry P A t x k)
    | _, _ => none
  | .entryStore _ x s v => match ρ m x, ρ m s, ρ m v with
    | some x, some s, some v => skipO (aentryStore A x s v)
    | _, _, _ => none
  | .range t x => match ρ m x with
    | some x => oneA (arange P A t x)
    | none => none
  | .next it isStr => match ρ m it with
    | some it => anext A it isStr
    | none => none
  | .entry it => match ρ m it with
    | some it => oneO (aentry A it) A
    | none => none
  | .typeAssert x _ t ok => match ρ m x with
    | some x => oneO (atypeAssert P x t ok) A
    | none => none
  | .extract x i => match ρ m x with
    | some x => oneO (aextract x i) A
    | none => none
  | .call c => acall P cfg A m c
  | _ => none
  where
  optInt' (m : TM) (o : Operand) : Option (Option Int) := match ρ m o with
    | some (.int _ n) => some (some n)
    | _ => none

/-! ## outcomes -/

def bindL {α β : Type} (f : α → Option (List β)) : List α → Option (List β)
  | [] => some []
  | [x] => f x
  | x :: xs => match f x with
    | none => none
    | some a => match bindL f xs with
      | none => none
      | some b => some (a ++ b)

inductive AExit where
  | normal
  | exit (id : Nat)
  | ret
  deriving DecidableEq

inductive ADef where
  | coll (r : Nat)

inductive ARes where
  | ret (v : AV)

structure St where
  ex : AExit
  m : TM
  d : List ADef
  A : AH

structure Rec where
  code : FuncId → Option Nat → Code → TM → List ADef → AH → Option (List St)
  call : FuncId → List AV → AH → Option (List (AV × AH))

/-- the value that an operation's answer comes to -/
def finishOp (r : Rec) : AR × AH → Option (List (AV × AH))
  | (.val v, A) => some [(v, A)]
  | (.skip, A) => some [(.tuple [], A)]
  | (.enter f args, A) => r.call f args A
  | (.round l L m, A) => match L.state with
      | .ready => match r.code L.fn (some l) L.assign m [] A with
          | none => none
          | some outs => bindL (fun (s : St) => match s.ex, s.d, s.A.look l with
            | .normal, [], some (.loop L1) => match L1.state with
              | .ready => match r.code L.fn (some l) L.body s.m [] (s.A.put l (.loop { L1 with state := .busy })) with
                | none => none
                | some outs => bindL (fun (s : St) => match s.d, s.A.look l with
                  | [], some (.loop L2) =>
                    match s.ex with
                    | .normal => some [(.bool true, s.A.put l (.loop { L2 with state := .ready, pending := none }))]
                    | .exit id => some [(.bool false, s.A.put l (.loop { L2 with state := .done, pending := some (.exit id) }))]
                    | .ret => some [(.bool false, s.A.put l (.loop { L2 with state := .done, pending := some .ret }))]
                  | _, _ => none) outs
              | _ => none
            | _, _, _ => none) outs
      | _ => none
  | (.defer _ _, _) => none

/-! ## regions -/

/-- what its guard's operation has yielded -/
def guardOf (ops : List Oper) (m : TM) (j : Nat) : Option Bool := match ops[j]? with
  | some o => match o.dst with
    | some d => match m.get d with
      | .bool b => some b
      | _ => none
    | none => none
  | none => none

def wantedA (ops : List Oper) (m : TM) (o : Oper) : Bool := match o.guard with
  | none => true
  | some (j, want) => guardOf ops m j == some want

/-- one operation -/
def doOp (cfg : Cfg) (r : Rec) (ops : List Oper) (o : Oper) (m : TM) (A : AH) : Option (List (TM × AH)) :=
  if wantedA ops m o then
    match aop P cfg A m o with
    | none => none
    | some ars => match bindL (finishOp r) ars with
      | none => none
      | some outs => bindL (fun (x : AV × AH) => match m.put o.dst x.1 with
        | some m => some [(m, x.2)]
        | none => none) outs
  else match m.put o.dst (.tuple []) with
    | some m => some [(m, A)]
    | none => none

/-- operations, one behind the other -/
def doOps (cfg : Cfg) (r : Rec) (ops : List Oper) : List Oper → TM → AH → Option (List (TM × AH))
  | [], m, A => some [(m, A)]
  | o :: rest, m, A => match doOp P cfg r ops o m A with
    | none => none
    | some outs => bindL (fun (x : TM × AH) => doOps cfg r ops rest x.1 x.2) outs

inductive OpClass where
  | free | reads | acts
  deriving DecidableEq

def idle : Builtin → Bool
  | .min | .max | .cap => true
  | _ => false

def opClass (o : Op) : OpClass := match o with
  | .convert s d _ => match P.underlying s, P.underlying d with
    | some (.slice _), some (.slice _) => .acts
    | some (.slice _), _ => .reads
    | some (.pointer _), _ => .reads
    | some .unsafePointer, _ => .reads
    | _, _ => .free
  | .load .. | .lookup .. | .entry _ => .reads
  | .binOp .eql _ _ _ _ | .binOp .neq _ _ _ _ => .reads
  | .call { callee := .builtin .len, .. } => .reads
  | .call { callee := .builtin b, .. } => if idle b then .free else .acts
  | .store .. | .call _ | .mapUpdate .. | .insert .. | .mapEntry .. | .entryStore .. | .range .. | .next .. | .defer _ | .go _ | .panic _ | .send .. | .recv .. | .select .. | .ready _ => .acts
  | _ => .free

def actsO (o : Oper) : Bool := match opClass P o.op with
  | .acts => true
  | _ => false

def readsO (o : Oper) : Bool := match opClass P o.op with
  | .reads => true
  | _ => false

/-- the acts of a region, by their numbers; they must be in one order -/
def actNos : List Oper → Nat → List Nat
  | [], _ => []
  | o :: os, i => if actsO P o then i :: actNos os (i + 1) else actNos os (i + 1)

def inOrder (b : List Nat) : List Nat → Bool
  | i :: j :: rest => (match b[j]? with | some m => m.testBit i | none => false) && inOrder b (j :: rest)
  | _ => true

/-- quiet ones ahead of an act, that are not done yet -/
def quietFor (mask : Nat) (done : Nat) : List Oper → Nat → List Nat
  | [], _ => []
  | o :: os, i => if !actsO P o && mask.testBit i && !done.testBit i then i :: quietFor mask done os (i + 1) else quietFor mask done os (i + 1)

def bitsOf (l : List Nat) : Nat := l.foldl (fun s i => s ||| 2 ^ i) 0

/-- phases: quiet ones, and the act behind them -/
def phases (ops : List Oper) (b : List Nat) : List Nat → Nat → List (List Nat × Nat)
  | [], _ => []
  | c :: cs, done =>
    let q := quietFor P ((b[c]?).getD 0) done ops 0
    (q, c) :: phases ops b cs (done ||| bitsOf q ||| 2 ^ c)

def allDone (ps : List (List Nat × Nat)) : Nat := ps.foldl (fun s p => s ||| bitsOf p.1 ||| 2 ^ p.2) 0

def tailOf (ops : List Oper) (done : Nat) : List Nat := (List.range ops.length).filter fun i => !done.testBit i

structure Plan where
  /-- one order, that respects all -/
  order : List Nat
  /-- of each reading operation's place: the places ahead of it whose heap it may find -/
  floats : List (Nat × List Nat)

def actAt (l : List Oper) (σ : List Nat) (q : Nat) : Bool := match σ[q]? with
  | some i => match l[i]? with
    | some o => actsO P o
    | none => false
  | none => false

/-- places ahead of place k: the begin, or behind an act, where no act that i must follow is still to come -/
def slotsOf (l : List Oper) (σ b : List Nat) (k i : Nat) : List Nat :=
  (List.range k).filter fun p => (p == 0 || actAt P l σ (p - 1)) && (List.range σ.length).all fun q => decide (q < p) || !actAt P l σ q || !((b[i]?).getD 0).testBit ((σ[q]?).getD 0)

def floatsOf (l : List Oper) (σ b : List Nat) : List (Nat × List Nat) :=
  (List.range σ.length).filterMap fun k => match σ[k]? with
    | some i => match l[i]? with
      | some o => if readsO P o then some (k, slotsOf P l σ b k i) else none
      | none => none
    | none => none

/-- each once, behind what stands ahead of it; an act behind just that -/
def ordChk (l : List Oper) (b : List Nat) : List Nat → Nat → Bool
  | [], _ => true
  | i :: rest, done => (match l[i]?, b[i]? with
    | some o, some m => !done.testBit i && (m &&& done == m) && (!actsO P o || m == done)
    | _, _ => false) && ordChk l b rest (done ||| 2 ^ i)

/-- no two write one temporary; who writes what another looks at stands ahead of it, or behind it -/
def pairChk (ops : Array Oper) (l : List Oper) (b : List Nat) : Bool :=
  (List.range l.length).all fun i => (List.range l.length).all fun j => i == j || (match l[i]?, l[j]? with
    | some oi, some oj => match oj.dst with
      | some t => oi.dst != some t && (!(oi.looksAt ops).contains t || ((b[i]?).getD 0).testBit j || ((b[j]?).getD 0).testBit i)
      | none => true
    | _, _ => true)

def planOf (ops : Array Oper) : Option Plan :=
  let l := ops.toList
  let b := (Region.before ops).toList
  let acts := actNos P l 0
  let ps := phases P l b acts 0
  let σ := (ps.flatMap fun x => x.1 ++ [x.2]) ++ tailOf l (allDone ps)
  if ordChk P l b σ 0 && ((List.range l.length).all fun i => σ.contains i) && pairChk ops l b then some ⟨σ, floatsOf P l σ b⟩ else none

/-- operations, one behind the other; what stands ahead of each -/
def doList (cfg : Cfg) (r : Rec) (ops : List Oper) : List Nat → TM → AH → Option (List (TM × AH) × (TM × AH))
  | [], m, A => some ([], (m, A))
  | i :: is, m, A => match ops[i]? with
    | none => none
    | some o => match doOp P cfg r ops o m A with
      | some [(m', A')] => match Nat.ble A.next A'.next with
        | true => match doList cfg r ops is m' A' with
          | some (tr, e) => some ((m, A) :: tr, e)
          | none => none
        | false => none
      | _ => none

mutual
def avEq : AV → AV → Bool
  | .bool a, .bool b => a == b
  | .int j a, .int k b => decide (j = k) && a == b
  | .str a, .str b => a == b
  | .nilptr, .nilptr => true
  | .ptr f o, .ptr g p => f == g && o == p
  | .nilslice, .nilslice => true
  | .slice f o n c, .slice g p m d => f == g && o == p && n == m && decide (c = d)
  | .emp j, .emp k => j == k
  | .nilmap, .nilmap => true
  | .map f, .map g => f == g
  | .func f a b, .func g c d => f == g && avEqs a c && avEqs b d
  | .yield l, .yield k => l == k
  | .nilFunc, .nilFunc => true
  | .iface t v, .iface u w => t == u && avEq v w
  | .nilIface, .nilIface => true
  | .agg a, .agg b => avEqs a b
  | .tuple a, .tuple b => avEqs a b
  | _, _ => false
def avEqs : List AV → List AV → Bool
  | [], [] => true
  | a :: as, b :: bs => avEq a b && avEqs as bs
  | _, _ => false
end

/-- does a reading operation give the same at each of these places? -/
def sameAt (cfg : Cfg) (o : Oper) (m : TM) (v : Option AV) (tr : List (TM × AH)) : List Nat → Bool
  | [] => true
  | p :: ps => (match tr[p]? with
    | some s => match aop P cfg s.2 m o with
      | some [(.val u, _)] => match v with
        | some v => avEq u v
        | none => true
      | _ => false
    | none => false) && sameAt cfg o m v tr ps

def checkFloats (cfg : Cfg) (ops : List Oper) (σ : List Nat) (tr : List (TM × AH)) (end_ : TM) : List (Nat × List Nat) → Bool
  | [] => true
  | (k, ps) :: rest => (match σ[k]?, tr[k]? with
    | some i, some s => match ops[i]? with
      | some o => if wantedA ops s.1 o then sameAt P cfg o s.1 (o.dst.map end_.get) tr ps else true
      | none => false
    | _, _ => false) && checkFloats cfg ops σ tr end_ rest

/-- a region whose order is drawn -/
def doDrawn (cfg : Cfg) (r : Rec) (ops : Array Oper) (m : TM) (A : AH) : Option (TM × AH) :=
  match planOf P ops with
  | none => none
  | some p =>
    match doList P cfg r ops.toList p.order m A with
    | none => none
    | some (tr, e) => if checkFloats P cfg ops.toList p.order tr e.1 p.floats then some e else none

/-! ## code -/

def andThen (k : St → Option (List St)) (s : St) : Option (List St) := match s.ex with
  | .normal => k s
  | _ => some [s]

def codeStep (cfg : Cfg) (r : Rec) (fn : FuncId) (rd : Option Nat) (c : Code) (m : TM) (d : List ADef) (A : AH) : Option (List St) :=
  match c with
  | .skip | .label _ => some [⟨.normal, m, d, A⟩]
  | .region _ ops false => match doOps P cfg r ops.toList ops.toList m A with
    | none => none
    | some outs => some (outs.map fun x => ⟨.normal, x.1, d, x.2⟩)
  | .region _ ops true => match doDrawn P cfg r ops m A with
    | none => none
    | some (m, A) => some [⟨.normal, m, d, A⟩]
  | .seq a b => match r.code fn rd a m d A with
    | none => none
    | some outs => bindL (andThen fun s => r.code fn rd b s.m s.d s.A) outs
  | .cond x a b => match ρ m x with
    | some (.bool true) => r.code fn rd a m d A
    | some (.bool false) => r.code fn rd b m d A
    | _ => none
  | .block id b => match r.code fn rd b m d A with
    | none => none
    | some outs => some (outs.map fun s => match s.ex with
      | .exit i => if i = id then ⟨.normal, s.m, s.d, s.A⟩ else s
      | _ => s)
  | .loop b => match r.code fn rd b m d A with
    | none => none
    | some outs => bindL (andThen fun s => r.code fn rd (.loop b) s.m s.d s.A) outs
  | .exit id => some [⟨.exit id, m, d, A⟩]
  | .ret => some [⟨.ret, m, d, A⟩]
  | .rangeFunc f ps asg body => match rd, ρ m f with
    | none, some (.func g first captured) =>
      let dn := A.next
      let A1 := A.new (.deferred false)
      let l := A1.next
      let A2 := A1.new (.loop ⟨.ready, none, fn, m, ps, asg, body, dn⟩)
      match r.call g (first ++ [.yield l] ++ captured) A2 with
      | none => none
      | some outs => bindL (fun (x : AV × AH) => match x.2.look l with
        | some (.loop L) => match L.state with
          | .busy => none
          | _ =>
            let A3 := x.2.put l (.loop { L with state := .exhausted })
            match L.pending with
            | none => some [⟨.normal, m, .coll dn :: d, A3⟩]
            | some (.exit id) => some [⟨.exit id, m, .coll dn :: d, A3⟩]
            | some .ret => some [⟨.ret, m, .coll dn :: d, A3⟩]
            | some _ => none
        | _ => none) outs
    | _, _ => none
  | _ => none

/-- the deferred calls -/
def unwindA : List ADef → AH → Option AH
  | [], A => some A
  | .coll r :: ds, A => match A.look r with
    | some (.deferred false) => unwindA ds (A.put r (.deferred true))
    | _ => none

def resultA (m : TM) (A : AH) : ResultVar → Option AV
  | .tmp t => some (m.get t)
  | .cell a t => match m.get a with
    | .ptr f o => aload P A t f o
    | _ => none

def resultsA (fn : Func) (m : TM) (A : AH) : Option AV := match mapO (resultA P m A) fn.results.toList with
  | some [v] => some v
  | some vs => some (.tuple vs)
  | none => none

def callStep (cfg : Cfg) (r : Rec) (f : FuncId) (args : List AV) (A : AH) : Option (List (AV × AH)) :=
  match P.funcs[f]? with
  | none => none
  | some fn => match fn.body with
    | none => none
    | some c =>
      match r.code f none c ⟨argT args, max args.length fn.ntmps⟩ [] A with
      | none => none
      | some outs => bindL (fun (s : St) => match s.ex with
        | .exit _ => none
        | _ => match unwindA s.d s.A with
          | none => none
          | some A' => match resultsA P fn s.m A' with
            | some v => some [(v, A')]
            | none => none) outs

/-- outcomes of a call whose order does not matter: one slice, of simple elements, over one map -/
def joinStep (call : FuncId → List AV → AH → Option (List (AV × AH))) (f : FuncId) (args : List AV) (A : AH) : Option (List (AV × AH)) :=
  call f args A

def recN (cfg : Cfg) : Nat → Rec
  | 0 => ⟨fun _ _ _ _ _ _ => none, fun _ _ _ => none⟩
  | n + 1 => ⟨codeStep P cfg (recN cfg n), fun f args A => callStep P cfg (recN cfg n) f args A⟩

end
end
end Go.Eng
