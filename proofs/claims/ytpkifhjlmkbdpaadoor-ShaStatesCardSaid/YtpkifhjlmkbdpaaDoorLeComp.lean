/- From the model's code to the reckoner's: types are looked up once, orders looked over once, dead slots found once. -/
import Derived.Test.YtpkifhjlmkbdpaaDoorLeDefs
import GoSem.Dispatch
import Derived.Orders
set_option linter.unusedVariables false
set_option linter.unusedSimpArgs false
namespace Go.LE

def litV : Value → LV
  | .agg cs => .agg (cs.toList.map .v)
  | x => .v x

def compX : Operand → LX
  | .tmp t => .t t
  | .const v => .c (litV v)
  | .global g => .g g
  | .func f => .c (.fn (.func f) [] [])

def szOf (P : Program) (t : TypeId) : Option Nat := (P.info? t).map (·.size)
def bytesIn (P : Program) (t : TypeId) : Option Nat := (P.info? t).map (·.bytes)
def zeroOf (P : Program) (t : TypeId) : Option (Array Value) := ((P.info? t).bind (·.zero)).map (·.cells)
def isAggT (P : Program) (t : TypeId) : Option Bool :=
  match P.underlying t with
  | some (.struct _) => some true
  | some (.array _ _) => some true
  | some _ => some false
  | none => none

def flatFields (P : Program) (g : TypeId → Option (List Leaf)) : List Field → Nat → Option (List Leaf)
  | [], _ => some []
  | f :: fs, at_ => match g f.type, szOf P f.type, isAggT P f.type with
    | some k, some k', some agg => if f.name ≠ "_" ∧ f.offset = at_ ∧ k.length = k' ∧ (agg = false → k' = 1) then (flatFields P g fs (at_ + k')).map (k ++ ·) else none
    | _, _, _ => none

/-- a type all of whose cells are numbers, bools and texts: their kinds -/
def flatT (P : Program) : Nat → TypeId → Option (List Leaf)
  | 0, _ => none
  | d + 1, t => match P.underlying t with
    | some .bool => some [.bool]
    | some (.int _) => some [.int]
    | some .string => some [.str]
    | some (.array n e) => match flatT P d e, szOf P e, isAggT P e with
      | some k, some k', some agg => if k.length = k' ∧ (agg = false → k' = 1) then some (List.replicate n k).flatten else none
      | _, _, _ => none
    | some (.struct fs) => if P.stoodInHeld t then none else flatFields P (flatT P d) fs.toList 0
    | _ => none

def sameLeaf : Leaf → Leaf → Bool
  | .int, .int => true
  | .bool, .bool => true
  | .str, .str => true
  | _, _ => false

def runsOf : List Leaf → List (Nat × Leaf)
  | [] => []
  | l :: ls => match runsOf ls with
    | (n, m) :: rs => if sameLeaf l m then (n + 1, m) :: rs else (1, l) :: (n, m) :: rs
    | [] => [(1, l)]

def eqType (P : Program) (t : TypeId) : EqT :=
  match P.underlying t with
  | some .bool => .bool
  | some (.pointer _) => .ptr
  | some (.slice _) => .slice
  | some (.func _ _ _) => .func
  | some (.array _ _) => (if P.eqGuardType P.depth t then .none else match flatT P 8 t with | some ls => .flat (runsOf ls) | none => .none)
  | some (.struct _) => (if P.eqGuardType P.depth t then .none else match flatT P 8 t with | some ls => .flat (runsOf ls) | none => .none)
  | _ => .none

def compParts (f : Nat → Option (Nat × Nat)) : List (Nat × Operand) → Option (List (Nat × Nat × LX))
  | [] => some []
  | (i, x) :: rest => match f i, compParts f rest with
    | some (off, n), some ps => some ((off, n, compX x) :: ps)
    | _, _ => none

def places (P : Program) : List Field → Option (List (Nat × Nat))
  | [] => some []
  | f :: fs => match szOf P f.type, places P fs with
    | some n, some ps => some ((f.offset, n) :: ps)
    | _, _ => none

def isByteSlice (P : Program) (t : TypeId) : Bool :=
  match P.underlying t with
  | some (.slice e) => match P.underlying e with | some (.int .u8) => true | _ => false
  | _ => false

def isSliceT (P : Program) (t : TypeId) : Bool :=
  match P.underlying t with
  | some (.slice _) => true
  | _ => false

def compCall (P : Program) (c : Call) : Option LOp :=
  match c.callee with
  | .value f => some (.call (compX f) (c.args.toList.map compX))
  | .invoke _ _ => none
  | .builtin b =>
    match b, c.args.toList, c.argTypes.toList with
    | .len, [x], [t] => (match P.underlying t with
      | some .string => some (.lenT (compX x))
      | some (.slice _) => some (.len (compX x))
      | some (.array n _) => some (.lenA n)
      | some (.pointer arr) => (match P.underlying arr with | some (.array n _) => some (.lenA n) | _ => none)
      | _ => none)
    | .append, [x, y], [t, u] => (match P.underlying t, P.underlying u with
      | some (.slice _), some (.int _) => none
      | some (.slice e), some _ => (match szOf P e, bytesIn P e, zeroOf P e with
        | some n, some b, some z => if 0 < n ∧ 0 < b ∧ z.size = n then some (.append n b (isSliceT P e) (compX x) (compX y)) else none
        | _, _, _ => none)
      | _, _ => none)
    | .copy, [x, y], t :: _ => (match P.underlying t with
      | some (.slice e) => (match szOf P e with | some n => if 0 < n then some (.copy n (compX x) (compX y)) else none | none => none)
      | _ => none)
    | .min, _, _ => some (.mnmx false (c.args.toList.map compX))
    | .max, _, _ => some (.mnmx true (c.args.toList.map compX))
    | _, _, _ => none

def compOp (P : Program) (op : Op) : Option LOp :=
  match op with
  | .move x => some (.mv (compX x))
  | .assign x => some (.mv (compX x))
  | .pick c a b => some (.pick (compX c) (compX a) (compX b))
  | .alloc t => (zeroOf P t).map fun z => .new (z.toList.map .v)
  | .box _ x => some (.box (compX x))
  | .build t parts => (match P.underlying t, zeroOf P t with
    | some (.struct fs), some z => (places P fs.toList).bind fun ps => (compParts (ps[·]?) parts.toList).map fun qs => .build (z.toList.map .v) qs
    | some (.array _ e), some z => (szOf P e).bind fun n => (compParts (fun i => some (i * n, n)) parts.toList).map fun qs => .build (z.toList.map .v) qs
    | _, _ => none)
  | .buildSlice t len parts => (match P.underlying t with
    | some (.slice e) => (match szOf P e, zeroOf P e with
      | some n, some z => if 0 < n ∧ len * n ≤ 2 ^ 24 ∧ z.size = n then (compParts (fun i => some (i * n, n)) parts.toList).map fun qs =>
          .mkrow n ((List.replicate len (z.toList.map LV.v)).flatten) qs len else none
      | _, _ => none)
    | _ => none)
  | .load t a => (match isAggT P t, szOf P t with
    | some true, some n => some (.ld n (compX a))
    | some false, _ => some (.ld1 (compX a))
    | _, _ => none)
  | .store t a x => (szOf P t).map fun n => .st n (compX a) (compX x)
  | .nilCheck x => some (.chk (compX x))
  | .binOp op t x y _ => some (.bin op (eqType P t) (compX x) (compX y))
  | .unOp op _ x => some (.un op (compX x))
  | .convert src dst x => (match P.underlying src, P.underlying dst with
    | some _, some (.int k) => some (.cvt k (compX x))
    | some .string, some (.slice e) => (match P.underlying e with | some (.int .u8) => some (.s2b (compX x)) | _ => none)
    | some (.slice e), some .string => (match P.underlying e with | some (.int .u8) => some (.b2s (compX x)) | _ => none)
    | some (.slice _), some (.slice e) => if src = dst then (match P.underlying e with | some (.int .u8) => some (.cvs (compX x)) | _ => none) else none
    | _, _ => none)
  | .sliceToArrayPointer t x => (match P.underlying t with
    | some (.array n _) => some (.arrp n (compX x))
    | _ => none)
  | .makeFunc f a b => some (.fn f (a.toList.map compX) (b.toList.map compX))
  | .makeSlice t l c => (match P.underlying t with
    | some (.slice e) => (match szOf P e, bytesIn P e, zeroOf P e with
      | some n, some b, some z => if 0 < n ∧ z.size = n then some (.mkslice n b (z.toList.map .v) (compX l) (compX c)) else none
      | _, _, _ => none)
    | _ => none)
  | .slice t x lo hi mx => (match P.underlying t with
    | some (.array n e) => (szOf P e).map fun s => .slcA n s (compX x) (lo.map compX) (hi.map compX) (mx.map compX)
    | some (.slice e) => (szOf P e).map fun s => .slcS s (compX x) (lo.map compX) (hi.map compX) (mx.map compX)
    | some .string => if mx.isNone then some (.slcT (compX x) (lo.map compX) (hi.map compX)) else none
    | some (.pointer arr) => (match P.underlying arr with
      | some (.array n e) => (szOf P e).map fun s => .slcA n s (compX x) (lo.map compX) (hi.map compX) (mx.map compX)
      | _ => none)
    | _ => none)
  | .fieldAddr t x i => (match P.underlying t with
    | some (.struct fs) => (match fs[i]? with
      | some f => (match szOf P f.type with | some n => if 0 < n then some (.fa f.offset (compX x)) else none | none => none)
      | none => none)
    | _ => none)
  | .field t x i => (match P.underlying t with
    | some (.struct fs) => (match fs[i]? with
      | some f => (match isAggT P f.type, szOf P f.type with
        | some true, some n => some (.fld f.offset n (compX x))
        | some false, _ => some (.fld1 f.offset (compX x))
        | _, _ => none)
      | none => none)
    | _ => none)
  | .indexAddr t x i => (match P.underlying t with
    | some (.array n e) => (szOf P e).map fun s => .iaA n s (compX x) (compX i)
    | some (.slice e) => (szOf P e).map fun s => .iaS s (compX x) (compX i)
    | _ => none)
  | .index t x i => (match P.underlying t with
    | some (.array n e) => (match isAggT P e, szOf P e with
      | some true, some s => some (.ix n s s (compX x) (compX i))
      | some false, some s => some (.ix1 n s (compX x) (compX i))
      | _, _ => none)
    | some .string => some (.ixT (compX x) (compX i))
    | _ => none)
  | .extract x i => some (.ext (compX x) i)
  | .call c => compCall P c
  | _ => none

/-- does it look at memory, or write what is there? -/
def heapy : LOp → Bool
  | .ld1 _ | .ld _ _ | .st _ _ _ | .b2s _ | .cvs _ | .append _ _ _ _ _ | .copy _ _ _ | .call _ _ => true
  | _ => false

def tmpsOf (o : Oper) : List Nat := o.op.operands.toList.filterMap fun | .tmp t => some t | _ => none

def guardSlot (ops : Array Oper) (o : Oper) : Option (Option (Nat × Bool)) :=
  match o.guard with
  | none => some none
  | some (j, want) => match (ops[j]?).bind (·.dst) with
    | some t => some (some (t, want))
    | none => none

/-- which operations stand ahead of one, by the edges that bind; acc: those of the elder ones -/
def before1 (acc : List Nat) (o : Oper) : Nat :=
  o.after.toList.foldl (fun s e => if Region.binds .any e then s ||| 2 ^ e.on ||| acc.getD e.on 0 else s) 0

def aheadsGo (acc : List Nat) : List Oper → List Nat
  | [] => acc
  | o :: os => aheadsGo (acc ++ [before1 acc o]) os

def aheads (ops : List Oper) : List Nat := aheadsGo [] ops

/-- of two operations, the first ahead of the second in the text: may they be taken in either order, or are they in order? -/
def pairOk (ops : Array Oper) (i j : Nat) (oi oj : Oper) (aj : Nat) : Bool :=
  aj.testBit i || oi.apart ops oj

def compOper (P : Program) (ops : Array Oper) (draw : Bool) (as : List Nat) (i : Nat) (o : Oper) : Option LOper :=
  match compOp P o.op, guardSlot ops o with
  | some lo, some g => some { dst := o.dst, op := lo, guard := g, ord := if draw && heapy lo then some (as.getD i 0) else none }
  | _, _ => none

def compOpers (P : Program) (ops : Array Oper) (draw : Bool) (as : List Nat) : Nat → List Oper → Option (List LOper)
  | _, [] => some []
  | i, o :: os => match compOper P ops draw as i o, compOpers P ops draw as (i + 1) os with
    | some x, some xs => some (x :: xs)
    | _, _ => none

/-- a region whose order is drawn: edges lead back, and whatever isn't in order is apart -/
def orderOk (ops : Array Oper) (as : List Nat) : Bool :=
  let os := ops.toList.zipIdx
  os.all (fun (o, i) => o.after.all fun e => !Region.binds .any e || e.on < i) &&
  os.all fun (oj, j) => os.all fun (oi, i) => !(i < j) || pairOk ops i j oi oj (as.getD j 0)

def compRegion (P : Program) (ops : Array Oper) (draw : Bool) : Option (List LOper) :=
  let as := if draw then aheads ops.toList else []
  if !draw || (P.follows .mixedOrders && orderOk ops as) then compOpers P ops draw as 0 ops.toList else none

def comp (P : Program) : Code → Option LCode
  | .skip => some .skip
  | .region _ ops draw => (compRegion P ops draw).map .region
  | .seq a b => match comp P a, comp P b with | some x, some y => some (.seq x y) | _, _ => none
  | .cond c a b => match comp P a, comp P b with | some x, some y => some (.cond (compX c) x y) | _, _ => none
  | .block id c => (comp P c).map (.block id)
  | .loop c => (comp P c).map (.loop [])
  | .exit id => some (.exit id)
  | .ret => some .ret
  | _ => none

/-! ### which slots are looked at later -/

def bitX : LX → Nat
  | .t n => 2 ^ n
  | _ => 0

def bitsO : Option LX → Nat
  | some x => bitX x
  | none => 0

def orAll (l : List Nat) : Nat := l.foldl (· ||| ·) 0

def uses : LOp → Nat
  | .mv x | .box x | .ld1 x | .ld _ x | .chk x | .un _ x | .cvt _ x | .s2b x | .b2s x | .cvs x | .arrp _ x | .fa _ x | .fld1 _ x | .fld _ _ x | .ext x _ | .len x | .lenT x => bitX x
  | .pick c a b => bitX c ||| bitX a ||| bitX b
  | .new _ | .lenA _ => 0
  | .build _ ps => orAll (ps.map fun p => bitX p.2.2)
  | .mkrow _ _ ps _ => orAll (ps.map fun p => bitX p.2.2)
  | .st _ x y | .bin _ _ x y | .mkslice _ _ _ x y | .iaA _ _ x y | .iaS _ x y | .ix1 _ _ x y | .ix _ _ _ x y | .ixT x y | .append _ _ _ x y | .copy _ x y => bitX x ||| bitX y
  | .fn _ a b => orAll (a.map bitX) ||| orAll (b.map bitX)
  | .slcA _ _ x lo hi mx | .slcS _ x lo hi mx => bitX x ||| bitsO lo ||| bitsO hi ||| bitsO mx
  | .slcT x lo hi => bitX x ||| bitsO lo ||| bitsO hi
  | .call f as => bitX f ||| orAll (as.map bitX)
  | .mnmx _ as => orAll (as.map bitX)

def liveOper (o : LOper) (out : Nat) : Nat :=
  let k := match o.guard, o.dst with
    | none, some d => out ^^^ (out &&& 2 ^ d)
    | _, _ => out
  k ||| uses o.op ||| (match o.guard with | some (t, _) => 2 ^ t | none => 0)

def exitAt (id : Nat) : List (Nat × Nat) → Nat
  | [] => 0
  | (i, m) :: es => if i = id then m else exitAt id es

def marked (n : Nat) (m : Nat) : List Bool := (List.range n).map m.testBit

/-- n: how many slots; ret: what is looked at behind a return -/
def annot (n ret : Nat) : LCode → Nat → List (Nat × Nat) → LCode × Nat
  | .skip, out, _ => (.skip, out)
  | .region ops, out, _ => (.region ops, ops.foldr liveOper out)
  | .seq a b, out, es =>
    let (b', m) := annot n ret b out es
    let (a', m') := annot n ret a m es
    (.seq a' b', m')
  | .cond c a b, out, es =>
    let (a', m) := annot n ret a out es
    let (b', m') := annot n ret b out es
    (.cond c a' b', bitX c ||| m ||| m')
  | .block id c, out, es =>
    let (c', m) := annot n ret c out ((id, out) :: es)
    (.block id c', m)
  | .loop _ c, _, es =>
    let m₁ := (annot n ret c 0 es).2
    let m₂ := (annot n ret c m₁ es).2
    let (c', m₃) := annot n ret c m₂ es
    (.loop (marked n m₃) c', m₃)
  | .exit id, _, es => (.exit id, exitAt id es)
  | .ret, _, _ => (.ret, ret)

def compRes (P : Program) : List ResultVar → Option (List LRes)
  | [] => some []
  | .tmp t :: rs => (compRes P rs).map (.tmp t :: ·)
  | .cell a t :: rs => match isAggT P t, szOf P t, compRes P rs with
    | some true, some n, some xs => some (.agg a n :: xs)
    | some false, _, some xs => some (.one a :: xs)
    | _, _, _ => none

def resBits : List LRes → Nat
  | [] => 0
  | .tmp t :: rs | .one t :: rs | .agg t _ :: rs => 2 ^ t ||| resBits rs

def compF (P : Program) (f : FuncId) : Option LFun :=
  match P.funcs[f]? with
  | none => none
  | some fn => if fn.name == "runtime.NumGoroutine" then none else match fn.body with
    | none => none
    | some c => match comp P c, compRes P fn.results.toList with
      | some lc, some rs => some { ntmps := fn.ntmps, results := rs, body := (annot fn.ntmps (resBits rs) lc (resBits rs) []).1 }
      | _, _ => none

end Go.LE
