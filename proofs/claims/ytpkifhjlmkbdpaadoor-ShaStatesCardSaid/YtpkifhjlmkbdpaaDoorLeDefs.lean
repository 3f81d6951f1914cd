/- A plain reckoner for the code of a function: values, memory by names, operations, code. What it answers is shown elsewhere to be what the machine does. -/
import Derived.Orders
set_option linter.unusedVariables false
set_option linter.unusedSimpArgs false
namespace Go.LE

abbrev Nm := Nat × Nat

inductive LV where
  | undef
  | v (x : Value)
  | agg (xs : List LV)
  | ptr (n : Nm) (off : Nat)
  | sl (n : Nm) (off len : Nat) (cap : Option Nat) (es : Nat)
  | ipt (xs : List LV)
  | isl (xs : List LV) (len : Nat)
  | fn (f : Fn) (a b : List LV)
  | tup (xs : List LV)

instance : Inhabited LV := ⟨.undef⟩

abbrev Cells := List LV
abbrev Heap := Nm → Option Cells

inductive LX where
  | t (n : Nat)
  | c (x : LV)
  | g (n : Nat)

inductive Leaf where
  | int | bool | str

/-- how values of a type are held against each other; flat: so many cells of a kind, then so many of another -/
inductive EqT where
  | none | bool | ptr | slice | func
  | flat (runs : List (Nat × Leaf))

inductive LOp where
  | mv (x : LX)
  | pick (c a b : LX)
  | new (zero : Cells)
  | box (x : LX)
  | build (zero : Cells) (parts : List (Nat × Nat × LX))
  | mkrow (size : Nat) (zero : Cells) (parts : List (Nat × Nat × LX)) (len : Nat)
  | ld1 (x : LX)
  | ld (n : Nat) (x : LX)
  | st (n : Nat) (x y : LX)
  | chk (x : LX)
  | bin (op : BinOp) (e : EqT) (x y : LX)
  | un (op : UnOp) (x : LX)
  | cvt (k : IntKind) (x : LX)
  | s2b (x : LX)
  | b2s (x : LX)
  | arrp (n : Nat) (x : LX)
  | fn (f : Fn) (a b : List LX)
  | mkslice (size bytes : Nat) (zero : Cells) (l c : LX)
  | slcA (n size : Nat) (x : LX) (lo hi mx : Option LX)
  | slcS (size : Nat) (x : LX) (lo hi mx : Option LX)
  | slcT (x : LX) (lo hi : Option LX)
  | fa (k : Nat) (x : LX)
  | fld1 (off : Nat) (x : LX)
  | fld (off n : Nat) (x : LX)
  | iaA (n size : Nat) (x i : LX)
  | iaS (size : Nat) (x i : LX)
  | ix1 (len size : Nat) (x i : LX)
  | ix (len size n : Nat) (x i : LX)
  | ixT (x i : LX)
  | ext (x : LX) (i : Nat)
  | call (f : LX) (as : List LX)
  | len (x : LX)
  | lenT (x : LX)
  | lenA (n : Nat)
  | append (size bytes : Nat) (fz : Bool) (x y : LX)
  | copy (size : Nat) (x y : LX)
  | mnmx (max : Bool) (as : List LX)
  | cvs (x : LX)

structure LOper where
  dst : Option Nat
  op : LOp
  guard : Option (Nat × Bool)
  ord : Option Nat

inductive LCode where
  | skip
  | region (ops : List LOper)
  | seq (a b : LCode)
  | cond (c : LX) (a b : LCode)
  | block (id : Nat) (c : LCode)
  | loop (keep : List Bool) (c : LCode)
  | exit (id : Nat)
  | ret

inductive LRes where
  | tmp (t : Nat)
  | one (t : Nat)
  | agg (t n : Nat)

structure LFun where
  ntmps : Nat
  results : List LRes
  body : LCode

abbrev CallRes := LV × List (Option Cells) × List Cells

structure Env where
  gl : Nat → Option Cells
  cal : FuncId → List LV → List Cells → Option CallRes
  borrow : FuncId → Nat → Bool

structure St where
  tm : List LV
  H : Heap
  nx : Nat
  np : Nat

structure Out where
  val : LV
  news : List Cells
  mods : List (Nm × Option Cells)

inductive Ex where
  | normal
  | exit (id : Nat)
  | ret

/-! ### names within values -/

def nms : Nat → LV → List Nm
  | 0, _ => []
  | _ + 1, .ptr n _ => [n]
  | _ + 1, .sl n _ _ _ _ => [n]
  | d + 1, .agg xs => xs.flatMap (nms d)
  | d + 1, .ipt xs => xs.flatMap (nms d)
  | d + 1, .isl xs _ => xs.flatMap (nms d)
  | d + 1, .fn _ a b => a.flatMap (nms d) ++ b.flatMap (nms d)
  | d + 1, .tup xs => xs.flatMap (nms d)
  | _ + 1, .undef => []
  | _ + 1, .v _ => []

def ren : Nat → (Nm → Option Nm) → LV → LV
  | 0, _, _ => .undef
  | _ + 1, π, .ptr n off => match π n with | some m => .ptr m off | none => .undef
  | _ + 1, π, .sl n off len cap es => match π n with | some m => .sl m off len cap es | none => .undef
  | d + 1, π, .agg xs => .agg (xs.map (ren d π))
  | d + 1, π, .ipt xs => .ipt (xs.map (ren d π))
  | d + 1, π, .isl xs len => .isl (xs.map (ren d π)) len
  | d + 1, π, .fn f a b => .fn f (a.map (ren d π)) (b.map (ren d π))
  | d + 1, π, .tup xs => .tup (xs.map (ren d π))
  | _ + 1, _, .undef => .undef
  | _ + 1, _, .v x => .v x

/-- bears no place of memory that is never written -/
def noImm : Nat → LV → Bool
  | 0, _ => false
  | _ + 1, .ptr _ _ => true
  | _ + 1, .sl _ _ _ _ _ => true
  | d + 1, .agg xs => xs.all (noImm d)
  | _ + 1, .ipt _ => false
  | _ + 1, .isl _ _ => false
  | d + 1, .fn _ a b => a.all (noImm d) && b.all (noImm d)
  | d + 1, .tup xs => xs.all (noImm d)
  | _ + 1, .undef => true
  | _ + 1, .v _ => true

abbrev D : Nat := 8

/-- the names that are reached from some, each once, in the order of the way -/
def reach (H : Heap) : Nat → List Nm → List Nm → List Nm
  | 0, seen, _ => seen
  | _ + 1, seen, [] => seen
  | f + 1, seen, n :: todo =>
    if seen.contains n then reach H f seen todo
    else match H n with
      | none => reach H f seen todo
      | some cs => reach H f (seen ++ [n]) (cs.flatMap (nms D) ++ todo)

abbrev FUEL : Nat := 60

def idx (n : Nm) : List Nm → Nat → Option Nat
  | [], _ => none
  | m :: ms, i => if m = n then some i else idx n ms (i + 1)

/-! ### operands, cells -/

def evX (gl : Nat → Option Cells) (tm : List LV) : LX → LV
  | .t n => tm.getD n .undef
  | .c x => x
  | .g n => match gl n with | some xs => .ipt xs | none => .undef

def cellsOf : LV → Option Cells
  | .undef => none
  | .v x => some (x.cells.toList.map .v)
  | .agg xs => some xs
  | x => some [x]

def isCell : LV → Bool
  | .undef | .agg _ | .tup _ | .v (.agg _) | .v (.tuple _) => false
  | _ => true

def splice (xs : Cells) (off : Nat) (ys : Cells) : Cells := xs.take off ++ ys ++ xs.drop (off + ys.length)

def fill (cells : Cells) : List (Nat × Nat × LV) → Option Cells
  | [] => some cells
  | (off, n, x) :: rest =>
    match cellsOf x with
    | none => none
    | some ys => if ys.length = n ∧ off + n ≤ cells.length then fill (splice cells off ys) rest else none

def intOf : LV → Option Int
  | .v (.int _ n) => some n
  | _ => none

def natOf (x : LV) : Option Nat := match intOf x with | some n => if 0 ≤ n then some n.toNat else none | none => none

/-- the bytes of cells that are bytes -/
def bytesOf : Cells → Option (List UInt8)
  | [] => some []
  | .v (.int .u8 n) :: rest => (bytesOf rest).map (UInt8.ofNat n.toNat :: ·)
  | _ => none

def byteCell (b : UInt8) : LV := .v (.int .u8 b.toNat)

/-- the first n elements of a slice or text, as cells -/
def front (H : Heap) (size n : Nat) : LV → Option Cells
  | .sl m off len _ _ => if n = 0 then some [] else if n ≤ len then match H m with
    | some cs => if off + n * size ≤ cs.length then some ((cs.drop off).take (n * size)) else none
    | none => none else none
  | .isl xs len => if n = 0 then some [] else if n ≤ len ∧ n * size ≤ xs.length then some (xs.take (n * size)) else none
  | .v (.slice none _ _) => if n = 0 then some [] else none
  | .v (.string s) => if size = 1 ∧ n ≤ s.size then some ((s.data.toList.take n).map byteCell) else none
  | _ => none

def lenOf : LV → Option Nat
  | .sl _ _ len _ _ => some len
  | .isl _ len => some len
  | .v (.slice none n _) => some n
  | .v (.string s) => some s.size
  | _ => none

def lenS : LV → Option Nat
  | .sl _ _ len _ _ => some len
  | .isl _ len => some len
  | .v (.slice _ n _) => some n
  | _ => none

/-! ### operations that look at no memory -/

def bitI (op : BinOp) (k : IntKind) (x y : Int) : Option Int :=
  match op with
  | .and => some (k.wrap (BitVec.ofInt k.bits x &&& BitVec.ofInt k.bits y).toNat)
  | .or => some (k.wrap (BitVec.ofInt k.bits x ||| BitVec.ofInt k.bits y).toNat)
  | .xor => some (k.wrap (BitVec.ofInt k.bits x ^^^ BitVec.ofInt k.bits y).toNat)
  | .andNot => some (k.wrap (BitVec.ofInt k.bits x &&& ~~~(BitVec.ofInt k.bits y)).toNat)
  | _ => none

def cmpI (op : BinOp) (x y : Int) : Option Bool :=
  match op with
  | .eql => some (x == y)
  | .neq => some (x != y)
  | .lss => some (decide (x < y))
  | .leq => some (decide (x ≤ y))
  | .gtr => some (decide (x > y))
  | .geq => some (decide (x ≥ y))
  | _ => none

def binI (op : BinOp) (k : IntKind) (a : Int) (k' : IntKind) (b : Int) : Option Value :=
  match op with
  | .shl => if b < 0 then none else some (.int k (k.wrap (a * 2 ^ min b.toNat k.bits)))
  | .shr => if b < 0 then none else some (.int k (a.fdiv (2 ^ min b.toNat k.bits)))
  | .add => if k = k' then some (.int k (k.wrap (a + b))) else none
  | .sub => if k = k' then some (.int k (k.wrap (a - b))) else none
  | .mul => if k = k' then some (.int k (k.wrap (a * b))) else none
  | .quo => if k = k' then (if b = 0 then none else some (.int k (k.wrap (a.tdiv b)))) else none
  | .rem => if k = k' then (if b = 0 then none else some (.int k (a.tmod b))) else none
  | .and => if k = k' then (bitI .and k a b).map (.int k) else none
  | .or => if k = k' then (bitI .or k a b).map (.int k) else none
  | .xor => if k = k' then (bitI .xor k a b).map (.int k) else none
  | .andNot => if k = k' then (bitI .andNot k a b).map (.int k) else none
  | op => if k = k' then (cmpI op a b).map .bool else none

/-- are they plain values of the kind, and the same? -/
def leafEq : Leaf → Value → Value → Option Bool
  | .int, .int k a, .int k' b => if k = k' then some (a == b) else none
  | .bool, .bool a, .bool b => some (a == b)
  | .str, .string a, .string b => some (a.toList == b.toList)
  | _, _, _ => none

def eqU (l : Leaf) : Cells → Cells → Option Bool
  | [], [] => some true
  | .v x :: xs, .v y :: ys => match leafEq l x y, eqU l xs ys with | some a, some b => some (a && b) | _, _ => none
  | _, _ => none

def eqR : List (Nat × Leaf) → Cells → Cells → Option Bool
  | [], [], [] => some true
  | (n, l) :: rs, xs, ys => if n ≤ xs.length ∧ n ≤ ys.length then
      (match eqU l (xs.take n) (ys.take n), eqR rs (xs.drop n) (ys.drop n) with | some a, some b => some (a && b) | _, _ => none) else none
  | _, _, _ => none

/-- is a pointer, a slice, a function nil? -/
def nilP : LV → Option Bool
  | .v (.pointer none) => some true
  | .ptr _ _ => some false
  | .ipt _ => some false
  | _ => none

def nilS : LV → Option Bool
  | .v (.slice none _ _) => some true
  | .sl _ _ _ _ _ => some false
  | .isl _ len => if 0 < len then some false else none
  | _ => none

def nilF : LV → Option Bool
  | .v .nilFunc => some true
  | .fn _ _ _ => some false
  | _ => none

def nilCP : LV → Bool
  | .v (.pointer none) => true
  | _ => false

def nilCS : LV → Bool
  | .v (.slice none 0 0) => true
  | _ => false

def nilCF : LV → Bool
  | .v .nilFunc => true
  | _ => false

def aggOf : LV → Option Cells
  | .agg xs => some xs
  | .v (.agg cs) => some (cs.toList.map .v)
  | _ => none

def eqV (e : EqT) (x y : LV) : Option Bool :=
  match e, x, y with
  | .bool, .v (.bool a), .v (.bool b) => some (a == b)
  | .ptr, x, y => if nilCP y then nilP x else if nilCP x then nilP y else none
  | .slice, x, y => if nilCS y then nilS x else none
  | .func, x, y => if nilCF y then nilF x else none
  | .flat runs, x, y => match aggOf x, aggOf y with
    | some xs, some ys => eqR runs xs ys
    | _, _ => none
  | _, _, _ => none

def strOp (op : BinOp) (x y : ByteArray) : Option Value :=
  match op with
  | .add => if x.size + y.size ≤ 2 ^ 62 then some (.string (x ++ y)) else none
  | .eql => some (.bool (x.toList == y.toList))
  | .neq => some (.bool !(x.toList == y.toList))
  | _ => none

def binV (op : BinOp) (e : EqT) (x y : LV) : Option LV :=
  match x, y with
  | .v (.int k a), .v (.int k' b) => (binI op k a k' b).map .v
  | .v (.string a), .v (.string b) => (strOp op a b).map .v
  | x, y => match op with
    | .eql => (eqV e x y).map fun b => .v (.bool b)
    | .neq => (eqV e x y).map fun b => .v (.bool !b)
    | _ => none

def unV (op : UnOp) (x : LV) : Option LV :=
  match op, x with
  | .neg, .v (.int k n) => some (.v (.int k (k.wrap (0 - n))))
  | .xor, .v (.int k n) => (bitI .xor k (if k.signed then -1 else k.max) n).map fun m => .v (.int k m)
  | .not, .v (.bool b) => some (.v (.bool !b))
  | _, _ => none

def optNat (gl : Nat → Option Cells) (tm : List LV) (d : Nat) : Option LX → Option Nat
  | none => some d
  | some x => natOf (evX gl tm x)

def mn2 (max : Bool) (x y : Int) : Int := if max then (if y > x then y else x) else (if y < x then y else x)

def mnmx (max : Bool) : List LV → Option LV
  | .v (.int k x) :: rest => go k x rest
  | _ => none
where
  go (k : IntKind) (x : Int) : List LV → Option LV
    | [] => some (.v (.int k x))
    | .v (.int _ y) :: rest => go k (mn2 max x y) rest
    | _ => none

def pureOp (gl : Nat → Option Cells) (tm : List LV) (op : LOp) : Option LV :=
  match op with
  | .mv x => some (evX gl tm x)
  | .pick c a b => match evX gl tm c with | .v (.bool t) => some (if t then evX gl tm a else evX gl tm b) | _ => none
  | .build zero parts => (fill zero (parts.map fun p => (p.1, p.2.1, evX gl tm p.2.2))).map .agg
  | .chk x => match evX gl tm x with
    | .ptr n off => some (.ptr n off)
    | .ipt xs => some (.ipt xs)
    | .fn (.func f) a b => some (.fn (.func f) a b)
    | _ => none
  | .bin op e x y => binV op e (evX gl tm x) (evX gl tm y)
  | .un op x => unV op (evX gl tm x)
  | .cvt k x => match evX gl tm x with | .v (.int _ n) => some (.v (.int k (k.wrap n))) | _ => none
  | .arrp n x => match evX gl tm x with
    | .sl m off len _ _ => if 0 < n ∧ n ≤ len then some (.ptr m off) else none
    | .isl xs len => if 0 < n ∧ n ≤ len then some (.ipt xs) else none
    | _ => none
  | .fn f a b => some (.fn f (a.map (evX gl tm)) (b.map (evX gl tm)))
  | .slcA n size x lo hi mx =>
    match optNat gl tm 0 lo, optNat gl tm n hi, optNat gl tm n mx with
    | some l, some h, some m => if l ≤ h ∧ h ≤ m ∧ m ≤ n ∧ (mx.isSome = true → hi.isSome = true) then match evX gl tm x with
      | .ptr nm off => some (.sl nm (off + l * size) (h - l) (some (m - l)) size)
      | .ipt xs => some (.isl ((xs.drop (l * size)).take ((h - l) * size)) (h - l))
      | _ => none else none
    | _, _, _ => none
  | .slcS size x lo hi mx =>
    match evX gl tm x with
    | .sl nm off len (some c) es =>
      (match optNat gl tm 0 lo, optNat gl tm len hi, optNat gl tm c mx with
      | some l, some h, some m => if l ≤ h ∧ h ≤ m ∧ m ≤ c ∧ es = size ∧ (mx.isSome = true → hi.isSome = true) then some (.sl nm (off + l * size) (h - l) (some (m - l)) size) else none
      | _, _, _ => none)
    | .sl nm off len none es =>
      if mx.isNone = true then
        (match optNat gl tm 0 lo, optNat gl tm len hi with
        | some l, some h => if l ≤ h ∧ h ≤ len ∧ es = size then some (.sl nm (off + l * size) (h - l) none es) else none
        | _, _ => none)
      else
        (match optNat gl tm 0 lo, optNat gl tm len hi, optNat gl tm 0 mx with
        | some l, some h, some m => if l ≤ h ∧ h ≤ m ∧ m ≤ len ∧ es = size ∧ hi.isSome = true then some (.sl nm (off + l * size) (h - l) (some (m - l)) size) else none
        | _, _, _ => none)
    | .isl xs len =>
      if mx.isNone = true then
        (match optNat gl tm 0 lo, optNat gl tm len hi with
        | some l, some h => if l ≤ h ∧ h ≤ len then some (.isl ((xs.drop (l * size)).take ((h - l) * size)) (h - l)) else none
        | _, _ => none)
      else none
    | .v (.slice none 0 0) =>
      if mx.isNone = true then
        (match optNat gl tm 0 lo, optNat gl tm 0 hi with
        | some l, some h => if l = 0 ∧ h = 0 then some (.v (.slice none 0 0)) else none
        | _, _ => none)
      else none
    | _ => none
  | .slcT x lo hi => match evX gl tm x with
    | .v (.string s) => (match optNat gl tm 0 lo, optNat gl tm s.size hi with
      | some l, some h => if l ≤ h ∧ h ≤ s.size then some (.v (.string (s.extract l h))) else none
      | _, _ => none)
    | _ => none
  | .fa k x => match evX gl tm x with
    | .ptr n off => some (.ptr n (off + k))
    | .ipt xs => some (.ipt (xs.drop k))
    | _ => none
  | .fld1 off x => match evX gl tm x with | .agg xs => xs[off]? | _ => none
  | .fld off n x => match evX gl tm x with | .agg xs => if off + n ≤ xs.length then some (.agg ((xs.drop off).take n)) else none | _ => none
  | .iaA n size x i => match natOf (evX gl tm i) with
    | some j => if j < n then match evX gl tm x with
      | .ptr nm off => some (.ptr nm (off + j * size))
      | .ipt xs => some (.ipt (xs.drop (j * size)))
      | _ => none else none
    | none => none
  | .iaS size x i => match natOf (evX gl tm i) with
    | some j => (match evX gl tm x with
      | .sl nm off len _ _ => if j < len then some (.ptr nm (off + j * size)) else none
      | .isl xs len => if j < len then some (.ipt (xs.drop (j * size))) else none
      | _ => none)
    | none => none
  | .ix1 len size x i => match natOf (evX gl tm i), evX gl tm x with
    | some j, .agg xs => if j < len then xs[j * size]? else none
    | _, _ => none
  | .ix len size n x i => match natOf (evX gl tm i), evX gl tm x with
    | some j, .agg xs => if j < len ∧ j * size + n ≤ xs.length then some (.agg ((xs.drop (j * size)).take n)) else none
    | _, _ => none
  | .ixT x i => match natOf (evX gl tm i), evX gl tm x with
    | some j, .v (.string s) => (s.data.toList[j]?).map byteCell
    | _, _ => none
  | .ext x i => match evX gl tm x with
    | .tup xs => xs[i]?
    | _ => none
  | .len x => (lenS (evX gl tm x)).map fun (n : Nat) => .v (.int .i64 n)
  | .lenT x => match evX gl tm x with | .v (.string s) => some (.v (.int .i64 s.size)) | _ => none
  | .lenA n => some (.v (.int .i64 n))
  | .mnmx max as => mnmx max (as.map (evX gl tm))
  | _ => none

/-! ### operations on memory -/

def snapL (f : LV → Option (LV × List Nm)) : List LV → Option (List LV × List Nm)
  | [] => some ([], [])
  | x :: xs => match f x, snapL f xs with | some (y, a), some (ys, b) => some (y :: ys, a ++ b) | _, _ => none

/-- a look at what a slice, or slices of slices, hold now; and the objects that were looked at -/
def snap (H : Heap) : Nat → LV → Option (LV × List Nm)
  | 0, _ => none
  | d + 1, .sl n off len _ es => if len = 0 then some (.isl [] 0, []) else match H n with
    | some cs => (snapL (snap H d) ((cs.drop off).take (len * es))).map fun xs => (.isl xs.1 len, n :: xs.2)
    | none => none
  | _ + 1, .ipt xs => some (.ipt xs, [])
  | _ + 1, .isl xs len => some (.isl xs len, [])
  | _ + 1, .v x => some (.v x, [])
  | _ + 1, _ => none

def cellAt (H : Heap) (n : Nat) : LV → Option Cells
  | .ptr m off => match H m with
    | some cs => if off + n ≤ cs.length then some ((cs.drop off).take n) else none
    | none => none
  | .ipt xs => if n ≤ xs.length then some (xs.take n) else none
  | _ => none

/-- an element that is a slice of the call's own: from now on it is never written -/
def frozenOf (H : Heap) : LV → Option (LV × List (Nm × Option Cells))
  | .sl n off len _ es => if len = 0 then some (.isl [] 0, []) else match H n with
    | some cs => some (.isl ((cs.drop off).take (len * es)) len, [(n, none)])
    | none => none
  | .isl xs len => some (.isl xs len, [])
  | .v x => some (.v x, [])
  | _ => none

def frozenAll (H : Heap) : List LV → Option (List LV × List (Nm × Option Cells))
  | [] => some ([], [])
  | x :: xs => match frozenOf H x, frozenAll H xs with
    | some (y, m), some (ys, ms) => if m.all (fun q => ms.all fun r => r.1 != q.1) then some (y :: ys, m ++ ms) else none
    | _, _ => none

def isFn : LV → Bool
  | .fn _ _ _ => true
  | _ => false

def seqO {α : Type} : List (Option α) → Option (List α)
  | [] => some []
  | some x :: xs => (seqO xs).map (x :: ·)
  | none :: _ => none

/-- the arguments, with those that are lent as they read now; and the objects that are lent -/
def lend (H : Heap) (b : Nat → Bool) : Nat → List LV → Option (List LV × List Nm)
  | _, [] => some ([], [])
  | i, x :: xs => match (if b i then snap H D x else some (x, [])), lend H b (i + 1) xs with
    | some (y, a), some (ys, c) => some (y :: ys, a ++ c)
    | _, _ => none

def plainRes (res : CallRes) : Bool :=
  noImm D res.1 && res.2.1.all (fun p => match p with | some cs => cs.all (noImm D) | none => true) && res.2.2.all (fun cs => cs.all (noImm D))

def toCallee (names : List Nm) (n : Nm) : Option Nm := (idx n names 0).map fun i => (0, i)

def toCaller (names : List Nm) (base k : Nat) (n : Nm) : Option Nm :=
  if n.1 = 0 then names[n.2]? else if n.1 = 1 ∧ n.2 < k then some (base, n.2) else none

def backTo (names : List Nm) (base : Nat) (res : CallRes) : Out :=
  let σ := toCaller names base res.2.2.length
  ⟨ren D σ res.1, res.2.2.map (fun cs => cs.map (ren D σ)), List.zipWith (fun n p => (n, p.map fun cs => cs.map (ren D σ))) names res.2.1⟩

def callOp (E : Env) (H : Heap) (base : Nat) (g : FuncId) (args : List LV) : Option Out :=
  match lend H (E.borrow g) 0 args with
  | none => none
  | some (args', lent) =>
    let names := reach H FUEL [] (args'.flatMap (nms D))
    if lent.any (fun n => names.contains n) then none else
    match E.cal g (args'.map (ren D (toCallee names))) ((names.filterMap H).map fun cs => cs.map (ren D (toCallee names))) with
    | none => none
    | some res => if lent.isEmpty || plainRes res then some (backTo names base res) else none

def heapOp (E : Env) (tm : List LV) (H : Heap) (base : Nat) (op : LOp) : Option Out :=
  match op with
  | .new zero => some ⟨.ptr (base, 0) 0, [zero], []⟩
  | .box x => match cellsOf (evX E.gl tm x) with
    | some ys => some ⟨.ptr (base, 0) 0, [ys], []⟩
    | none => none
  | .mkrow size zero parts len => match fill zero (parts.map fun p => (p.1, p.2.1, evX E.gl tm p.2.2)) with
    | some cs => some ⟨.sl (base, 0) 0 len (some len) size, [cs], []⟩
    | none => none
  | .ld1 x => match cellAt H 1 (evX E.gl tm x) with
    | some [y] => some ⟨y, [], []⟩
    | _ => none
  | .ld n x => match cellAt H n (evX E.gl tm x) with
    | some ys => some ⟨.agg ys, [], []⟩
    | none => none
  | .st n x y => match evX E.gl tm x, cellsOf (evX E.gl tm y) with
    | .ptr m off, some ys => (match H m with
      | some cs => if ys.length = n ∧ off + n ≤ cs.length ∧ ys.all isCell = true then some ⟨.v (.tuple #[]), [], [(m, some (splice cs off ys))]⟩ else none
      | none => none)
    | _, _ => none
  | .s2b x => match evX E.gl tm x with
    | .v (.string s) => some ⟨.sl (base, 0) 0 s.size none 1, [s.data.toList.map byteCell], []⟩
    | _ => none
  | .b2s x => match lenOf (evX E.gl tm x) with
    | some n => (match evX E.gl tm x with
      | .v (.string _) => none
      | y => match front H 1 n y with
        | some cs => (bytesOf cs).map fun bs => ⟨.v (.string ⟨bs.toArray⟩), [], []⟩
        | none => none)
    | none => none
  | .mkslice size bytes zero l c => match natOf (evX E.gl tm l), natOf (evX E.gl tm c) with
    | some l, some c => if l ≤ c ∧ c * bytes ≤ 2 ^ 47 ∧ c < 2 ^ 62 ∧ zero.length = size then some ⟨.sl (base, 0) 0 l (some c) size, [(List.replicate c zero).flatten], []⟩ else none
    | _, _ => none
  | .append size bytes fz x y =>
    (match lenOf (evX E.gl tm y) with
    | none => none
    | some k => (match front H size k (evX E.gl tm y) with
      | none => none
      | some new0 => (match (if fz then frozenAll H new0 else some (new0, [])) with
        | none => none
        | some (new, ms) => if bytes ≤ 2 ^ 20 ∧ new.all isCell = true then (match evX E.gl tm x with
          | .sl m off len (some c) es =>
            if es = size ∧ (len + k) * bytes ≤ 2 ^ 44 ∧ ms.all (fun p => p.1 != m) = true then
              if len + k ≤ c then (match H m with
                | some cs => if off + (len + k) * size ≤ cs.length then some ⟨.sl m off (len + k) (some c) es, [], (m, some (splice cs (off + len * size) new)) :: ms⟩ else none
                | none => none)
              else (match front H size len (.sl m off len (some c) es) with
                | some old => some ⟨.sl (base, 0) 0 (len + k) none size, [old ++ new], ms⟩
                | none => none)
            else none
          | .sl m off len none es =>
            if es = size ∧ (len + k) * bytes ≤ 2 ^ 44 ∧ ms.all (fun p => p.1 != m) = true then (match H m with
              | some cs => if off + len * size ≤ cs.length then some ⟨.sl (base, 0) 0 (len + k) none size, [(cs.drop off).take (len * size) ++ new], (m, none) :: ms⟩ else none
              | none => none)
            else none
          | .v (.slice none 0 0) => if k = 0 then some ⟨.v (.slice none 0 0), [], ms⟩ else if k * bytes ≤ 2 ^ 44 then some ⟨.sl (base, 0) 0 k none size, [new], ms⟩ else none
          | _ => none) else none)))
  | .copy size x y =>
    (match lenOf (evX E.gl tm y), evX E.gl tm x with
    | some k, .sl m off len _ es =>
      if min k len = 0 then some ⟨.v (.int .i64 0), [], []⟩ else
      (match front H size (min k len) (evX E.gl tm y), H m with
      | some new, some cs => if es = size ∧ new.all isCell = true ∧ off + (min k len) * size ≤ cs.length then
          some ⟨.v (.int .i64 (min k len : Nat)), [], [(m, some (splice cs off new))]⟩ else none
      | _, _ => none)
    | some _, .v (.slice none 0 0) => some ⟨.v (.int .i64 0), [], []⟩
    | _, _ => none)
  | .call f as => match evX E.gl tm f with
    | .fn (.func g) a b => callOp E H base g (a ++ as.map (evX E.gl tm) ++ b)
    | _ => none
  | .cvs x => match evX E.gl tm x with
    | .sl m off len c es => if 0 < len then (match H m with
      | some cs => some ⟨.sl m off len c es, [], [(m, some cs)]⟩
      | none => none) else none
    | _ => none
  | _ => none

def opRes (E : Env) (tm : List LV) (H : Heap) (base : Nat) (op : LOp) : Option Out :=
  match pureOp E.gl tm op with
  | some x => some ⟨x, [], []⟩
  | none => heapOp E tm H base op

/-! ### regions, code, functions -/

def put (tm : List LV) (dst : Option Nat) (x : LV) : List LV :=
  match dst with
  | some d => tm.set d x
  | none => tm

def modsAt (H : Heap) : List (Nm × Option Cells) → Heap
  | [] => H
  | (n, x) :: ms => fun m => if m = n then x else modsAt H ms m

def applyOut (base : Nat) (r : Out) (H : Heap) : Heap := fun m =>
  if m.1 = base ∧ m.2 < r.news.length then r.news[m.2]? else modsAt H r.mods m

/-- the operands of an operation that looks at memory -/
def looks (gl : Nat → Option Cells) (tm : List LV) : LOp → List LV
  | .ld1 x => [evX gl tm x]
  | .ld _ x => [evX gl tm x]
  | .st _ x y => [evX gl tm x, evX gl tm y]
  | .b2s x => [evX gl tm x]
  | .cvs x => [evX gl tm x]
  | .append _ _ _ x y => [evX gl tm x, evX gl tm y]
  | .copy _ x y => [evX gl tm x, evX gl tm y]
  | .call f as => evX gl tm f :: as.map (evX gl tm)
  | _ => []

def deep : LOp → Bool
  | .call _ _ => true
  | .append _ _ fz _ _ => fz
  | _ => false

/-- the objects that an operation may look at -/
def touch (gl : Nat → Option Cells) (tm : List LV) (H : Heap) (op : LOp) : List Nm :=
  if deep op then reach H FUEL [] ((looks gl tm op).flatMap (nms D)) else (looks gl tm op).flatMap (nms D)

def only (X : List Nm) (H : Heap) : Heap := fun n => if X.contains n then H n else none

def apartFrom (a b : List Nm) : Bool := a.all fun n => !b.contains n

/-- one that was carried out: its number, what it looked at, what it wrote -/
structure Done where
  i : Nat
  saw : List Nm
  wrote : List Nm

def wanted (g : Option (Nat × Bool)) (tm : List LV) : Option Bool :=
  match g with
  | none => some true
  | some (t, want) => match tm.getD t .undef with
    | .v (.bool b) => some (b == want)
    | .v _ => some false
    | _ => none

def evOper (E : Env) (base0 i : Nat) (o : LOper) (log : List Done) (st : St) : Option (St × List Done) :=
  match wanted o.guard st.tm with
  | none => none
  | some false => some ({ st with tm := put st.tm o.dst (.v (.tuple #[])) }, log)
  | some true => match o.ord with
    | none => match opRes E st.tm st.H (base0 + i) o.op with
      | none => none
      | some r => some ({ st with tm := put st.tm o.dst r.val, H := applyOut (base0 + i) r st.H }, log)
    | some before =>
      let X := touch E.gl st.tm st.H o.op
      match opRes E st.tm (only X st.H) (base0 + i) o.op with
      | none => none
      | some r =>
        let W := r.mods.map (·.1)
        if W.all (fun n => X.contains n) && X.all (fun n => decide (n.1 < base0) || before.testBit (n.1 - base0)) &&
            log.all (fun d => before.testBit d.i || (apartFrom d.wrote X && apartFrom W d.saw)) then
          some ({ st with tm := put st.tm o.dst r.val, H := applyOut (base0 + i) r st.H }, ⟨i, X, W⟩ :: log)
        else none

def evOpers (E : Env) (base0 : Nat) : Nat → List LOper → List Done → St → Option St
  | _, [], _, st => some st
  | i, o :: os, log, st => match evOper E base0 i o log st with
    | some (st', log') => evOpers E base0 (i + 1) os log' st'
    | none => none

def evRegion (E : Env) (ops : List LOper) (st : St) : Option St :=
  (evOpers E st.nx 0 ops [] st).map fun st' => { st' with nx := st.nx + ops.length }

/-- the names that stay: those that were handed in, in their places; the others by their order -/
def canonNames (H : Heap) (np : Nat) (tm : List LV) : List Nm :=
  (reach H FUEL [] ((List.range np).map (fun i => (0, i)) ++ tm.flatMap (nms D))).filter fun n => n.1 != 0

def canonMap (names : List Nm) (n : Nm) : Option Nm :=
  if n.1 = 0 then some n else (idx n names 0).map fun i => (1, i)

def mask : List Bool → List LV → List LV
  | _, [] => []
  | [], _ :: xs => .undef :: mask [] xs
  | b :: bs, x :: xs => (if b then x else .undef) :: mask bs xs

def canon (keep : List Bool) (st : St) : St :=
  let tm := mask keep st.tm
  let names := canonNames st.H st.np tm
  let π := canonMap names
  { tm := tm.map (ren D π)
    H := fun n => if n.1 = 0 then (st.H n).map (fun cs => cs.map (ren D π))
      else if n.1 = 1 then (match names[n.2]? with | some m => (st.H m).map (fun cs => cs.map (ren D π)) | none => none) else none
    nx := 2
    np := st.np }

def loopN (keep : List Bool) (f : St → Option (Ex × St)) : Nat → St → Option (Ex × St)
  | 0, _ => none
  | k + 1, st => match f (canon keep st) with
    | some (.normal, st') => loopN keep f k st'
    | r => r

def inBlock (id : Nat) : Option (Ex × St) → Option (Ex × St)
  | some (.exit id', st) => if id' = id then some (.normal, st) else some (.exit id', st)
  | r => r

def andThen (f : St → Option (Ex × St)) : Option (Ex × St) → Option (Ex × St)
  | some (.normal, st) => f st
  | r => r

def ev (E : Env) (k : Nat) : LCode → St → Option (Ex × St)
  | .skip, st => some (.normal, st)
  | .region ops, st => (evRegion E ops st).map fun st' => (.normal, st')
  | .seq a b, st => andThen (ev E k b) (ev E k a st)
  | .cond c a b, st => match evX E.gl st.tm c with
    | .v (.bool t) => if t then ev E k a st else ev E k b st
    | _ => none
  | .block id c, st => inBlock id (ev E k c st)
  | .loop keep c, st => loopN keep (ev E k c) k st
  | .exit id, st => some (.exit id, st)
  | .ret, st => some (.ret, st)

def resOf (st : St) : LRes → Option LV
  | .tmp t => some (st.tm.getD t .undef)
  | .one t => match cellAt st.H 1 (st.tm.getD t .undef) with | some [y] => some y | _ => none
  | .agg t n => (cellAt st.H n (st.tm.getD t .undef)).map .agg

def resVal (st : St) (rs : List LRes) : Option LV :=
  match seqO (rs.map (resOf st)) with
  | some [x] => some x
  | some xs => some (.tup xs)
  | none => none

def inHeap (objs : List Cells) : Heap := fun n => if n.1 = 0 then objs[n.2]? else none

def outOf (np : Nat) (st : St) (ret : LV) : CallRes :=
  let names := canonNames st.H np [ret]
  let π := canonMap names
  (ren D π ret, (List.range np).map (fun i => (st.H (0, i)).map fun cs => cs.map (ren D π)), (names.filterMap st.H).map fun cs => cs.map (ren D π))

def funSem (E : Env) (k : Nat) (lf : LFun) (args : List LV) (objs : List Cells) : Option CallRes :=
  match ev E k lf.body { tm := args ++ List.replicate (lf.ntmps - args.length) (.v (.tuple #[])), H := inHeap objs, nx := 2, np := objs.length } with
  | some (.normal, st) => (resVal st lf.results).map (outOf objs.length st)
  | some (.ret, st) => (resVal st lf.results).map (outOf objs.length st)
  | _ => none

/-- a program's functions, how globals read, which arguments are lent -/
structure Ctx where
  fns : FuncId → Option LFun
  gl : Nat → Option Cells
  borrow : FuncId → Nat → Bool

def F (C : Ctx) : Nat → FuncId → List LV → List Cells → Option CallRes
  | 0, _, _, _ => none
  | k + 1, f, args, objs => match C.fns f with
    | none => none
    | some lf => funSem { gl := C.gl, cal := F C k, borrow := C.borrow } k lf args objs

end Go.LE
