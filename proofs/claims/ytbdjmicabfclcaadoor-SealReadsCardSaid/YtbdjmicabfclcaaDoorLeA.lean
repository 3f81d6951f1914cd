/- A plain reckoner for the code of a function: values, memory by names, operations, code. What it answers is shown elsewhere to be what the machine does. -/
import Derived.Orders
import GoSem.Dispatch
import Derived.Laws.Sem
import Derived.Laws.World
import Derived.Laws.Entries
import Derived.Laws.StructEq
import Derived.ChangeKeysEq
import Derived.Laws.Pointers
import Derived.Laws.Cover3
import Derived.Laws.BytesString
set_option linter.unusedVariables false
set_option linter.unusedSimpArgs false
theorem zA : type_of% @List.map_nil := @List.map_nil
theorem zB : type_of% @List.map_cons := @List.map_cons
theorem zC {α : Type _} {β : Type _} (a : α) (f : α → β) : Option.map f (some a) = some (f a) := rfl
theorem zD : type_of% @List.append_nil := @List.append_nil
theorem zE {α : Type _} {a : α} {as : List α} : (a :: as).length = as.length + 1 := rfl
theorem zF : type_of% @List.drop_zero := @List.drop_zero
theorem zG : type_of% @if_true := @if_true
theorem zH : type_of% @List.length_append := @List.length_append
theorem zI {α : Type _} (as : List α) : [] ++ as = as := rfl
theorem zJ : type_of% @Option.map_eq_some_iff := @Option.map_eq_some_iff
theorem zK : type_of% @List.flatMap_cons := @List.flatMap_cons
theorem zL {α : Type _} : ([] : List α).length = 0 := rfl
theorem zM : type_of% @if_false := @if_false
theorem zN : type_of% @List.flatMap_nil := @List.flatMap_nil
theorem zO : type_of% @Nat.zero_add := @Nat.zero_add
theorem zP : type_of% @Bool.false_eq_true := @Bool.false_eq_true
theorem zQ {α : Type _} {β : Type _} {f : α → Option β} : List.filterMap f [] = [] := rfl
theorem zR : type_of% @List.length_drop := @List.length_drop
theorem zS {α : Type _} {a : α} {as bs : List α} : a :: as ++ bs = a :: (as ++ bs) := rfl
theorem zT {α : Type _} {a : α} {l : List α} {f : α → Bool} : (a :: l).all f = (f a && l.all f) := rfl
theorem zU : type_of% @List.length_take := @List.length_take
theorem zV : type_of% @List.length_map := @List.length_map
theorem zW {α : Type _} {l : List α} : List.take 0 l = [] := rfl
theorem zX : type_of% @Nat.mul_one := @Nat.mul_one
theorem zY : type_of% @Nat.lt_irrefl := @Nat.lt_irrefl
theorem zZ (n : Nat) : n + 0 = n := rfl
theorem za : type_of% @Prod.mk.injEq := @Prod.mk.injEq
theorem zd : type_of% @List.drop_succ_cons := @List.drop_succ_cons
theorem ze {α : Type _} {a : α} [BEq α] : ([] : List α).contains a = false := rfl
theorem zf {α : Type _} {a : α} {as : List α} {i : Nat} : List.take (i + 1) (a :: as) = a :: List.take i as := rfl
theorem zg : type_of% @Nat.add_sub_cancel_left := @Nat.add_sub_cancel_left
namespace Go.LE
abbrev Nm:=Nat × Nat
inductive LV where
  | undef
  | v (x:Value)
  | agg (xs:List LV)
  | ptr (n:Nm) (off:Nat)
  | sl (n:Nm) (off len:Nat) (cap:Option Nat) (es:Nat)
  | ipt (xs:List LV)
  | isl (xs:List LV) (len:Nat)
  | fn (f:Fn) (a b:List LV)
  | tup (xs:List LV)
instance:Inhabited LV:=⟨.undef⟩
abbrev qal:=List LV
abbrev Heap:=Nm→Option qal
inductive LX where
  | t (n:Nat)
  | c (x:LV)
  | g (n:Nat)
inductive Leaf where
  | int | bool | str
inductive EqT where
  | none | bool | ptr | slice | func
  | flat (runs:List (Nat × Leaf))
inductive LOp where
  | mv (x:LX)
  | pick (c a b:LX)
  | new (zero:qal)
  | box (x:LX)
  | build (zero:qal) (parts:List (Nat × Nat × LX))
  | mkrow (size:Nat) (zero:qal) (parts:List (Nat × Nat × LX)) (len:Nat)
  | ld1 (x:LX)
  | ld (n:Nat) (x:LX)
  | st (n:Nat) (x y:LX)
  | chk (x:LX)
  | bin (op:BinOp) (e:EqT) (x y:LX)
  | un (op:UnOp) (x:LX)
  | cvt (k:IntKind) (x:LX)
  | s2b (x:LX)
  | b2s (x:LX)
  | arrp (n:Nat) (x:LX)
  | fn (f:Fn) (a b:List LX)
  | mkslice (size bytes:Nat) (zero:qal) (l c:LX)
  | slcA (n size:Nat) (x:LX) (lo hi mx:Option LX)
  | slcS (size:Nat) (x:LX) (lo hi mx:Option LX)
  | slcT (x:LX) (lo hi:Option LX)
  | fa (k:Nat) (x:LX)
  | fld1 (off:Nat) (x:LX)
  | fld (off n:Nat) (x:LX)
  | iaA (n size:Nat) (x i:LX)
  | iaS (size:Nat) (x i:LX)
  | ix1 (len size:Nat) (x i:LX)
  | ix (len size n:Nat) (x i:LX)
  | ixT (x i:LX)
  | ext (x:LX) (i:Nat)
  | call (f:LX) (as:List LX)
  | len (x:LX)
  | lenT (x:LX)
  | lenA (n:Nat)
  | append (size bytes:Nat) (fz:Bool) (x y:LX)
  | appz (size bytes:Nat) (z:qal) (x y:LX)
  | copy (size:Nat) (x y:LX)
  | mnmx (max:Bool) (as:List LX)
  | cvs (x:LX)
structure LOper where
  dst:Option Nat
  op:LOp
  guard:Option (Nat × Bool)
  ord:Option Nat
inductive LCode where
  | skip
  | region (ops:List LOper)
  | seq (a b:LCode)
  | seqz (a:LCode) (s:Nat) (b:LCode)
  | cond (c:LX) (a b:LCode)
  | block (id:Nat) (c:LCode)
  | loop (keep:List Bool) (c:LCode)
  | exit (id:Nat)
  | ret
inductive LRes where
  | tmp (t:Nat)
  | one (t:Nat)
  | agg (t n:Nat)
structure LFun where
  ntmps:Nat
  results:List LRes
  body:LCode
abbrev qcg:=LV × List (Option qal) × List qal
structure Env where
  gl:Nat→Option qal
  cal:FuncId→List LV→List qal→Option qcg
  borrow:FuncId→Nat→Bool
  trim:Bool:=false
structure St where
  tm:List LV
  H:Heap
  nx:Nat
  np:Nat
structure Out where
  val:LV
  news:List qal
  mods:List (Nm × Option qal)
inductive Ex where
  | normal
  | exit (id:Nat)
  | ret
def nms:Nat→LV→List Nm
  | 0,_=>[]
  | _+1,.ptr n _=>[n]
  | _+1,.sl n _ _ _ _=>[n]
  | d+1,.agg xs=>xs.flatMap (nms d)
  | d+1,.ipt xs=>xs.flatMap (nms d)
  | d+1,.isl xs _=>xs.flatMap (nms d)
  | d+1,.fn _ a b=>a.flatMap (nms d)++b.flatMap (nms d)
  | d+1,.tup xs=>xs.flatMap (nms d)
  | _+1,.undef=>[]
  | _+1,.v _=>[]
def ren:Nat→(Nm→Option Nm)→LV→LV
  | 0,_,_ => .undef
  | _+1,π,.ptr n off=>match π n with | some m => .ptr m off | none => .undef
  | _+1,π,.sl n off len cap es=>match π n with | some m => .sl m off len cap es | none => .undef
  | d+1,π,.agg xs => .agg (xs.map (ren d π))
  | d+1,π,.ipt xs => .ipt (xs.map (ren d π))
  | d+1,π,.isl xs len => .isl (xs.map (ren d π)) len
  | d+1,π,.fn f a b => .fn f (a.map (ren d π)) (b.map (ren d π))
  | d+1,π,.tup xs => .tup (xs.map (ren d π))
  | _+1,_,.undef => .undef
  | _+1,_,.v x => .v x
def qbP:Nat→LV→Bool
  | 0,_=>false
  | _+1,.ptr _ _=>true
  | _+1,.sl _ _ _ _ _=>true
  | d+1,.agg xs=>xs.all (qbP d)
  | _+1,.ipt _=>false
  | _+1,.isl _ _=>false
  | d+1,.fn _ a b=>a.all (qbP d) && b.all (qbP d)
  | d+1,.tup xs=>xs.all (qbP d)
  | _+1,.undef=>true
  | _+1,.v _=>true
abbrev D:Nat:=8
def qa7 (H:Heap):Nat→List Nm→List Nm→List Nm
  | 0,seen,_=>seen
  | _+1,seen,[]=>seen
  | f+1,seen,n::todo =>
    if seen.contains n then qa7 H f seen todo
    else match H n with
      | none=>qa7 H f seen todo
      | some cs=>qa7 H f (seen++[n]) (cs.flatMap (nms D)++todo)
abbrev FUEL:Nat:=60
def idx (n:Nm):List Nm→Nat→Option Nat
  | [],_=>none
  | m::ms,i=>if m=n then some i else idx n ms (i+1)
def evX (gl:Nat→Option qal) (tm:List LV):LX→LV
  | .t n=>tm.getD n .undef
  | .c x=>x
  | .g n=>match gl n with | some xs => .ipt xs | none => .undef
def qbe:LV→Option qal
  | .undef=>none
  | .v x=>some (x.cells.toList.map .v)
  | .agg xs=>some xs
  | x=>some [x]
def qaB:LV→Bool
  | .undef | .agg _ | .tup _ | .v (.agg _) | .v (.tuple _)=>false
  | _=>true
def qbh (xs:qal) (off:Nat) (ys:qal):qal:=xs.take off++ys++xs.drop (off+ys.length)
def fill (cells:qal):List (Nat × Nat × LV)→Option qal
  | []=>some cells
  | (off,n,x)::rest =>
    match qbe x with
    | none=>none
    | some ys=>if ys.length=n∧off+n≤cells.length then fill (qbh cells off ys) rest else none
def intOf:LV→Option Int
  | .v (.int _ n)=>some n
  | _=>none
def qco (x:LV):Option Nat:=match intOf x with | some n=>if 0≤n then some n.toNat else none | none=>none
def qdl:qal→Option (List UInt8)
  | []=>some []
  | .v (.int .u8 n)::rest=>(qdl rest).map (UInt8.ofNat n.toNat :: ·)
  | _=>none
def qfx (b:UInt8):LV := .v (.int .u8 b.toNat)
def qbp (H:Heap) (size n:Nat):LV→Option qal
  | .sl m off len _ _=>if n=0 then some [] else if n≤len then match H m with
    | some cs=>if off+n*size≤cs.length then some ((cs.drop off).take (n*size)) else none
    | none=>none else none
  | .isl xs len=>if n=0 then some [] else if n≤len∧n*size≤xs.length then some (xs.take (n*size)) else none
  | .v (.slice none _ _)=>if n=0 then some [] else none
  | .v (.string s)=>if size=1∧n≤s.size then some ((s.data.toList.take n).map qfx) else none
  | _=>none
def qcE:LV→Option Nat
  | .sl _ _ len _ _=>some len
  | .isl _ len=>some len
  | .v (.slice none n _)=>some n
  | .v (.string s)=>some s.size
  | _=>none
def lenS:LV→Option Nat
  | .sl _ _ len _ _=>some len
  | .isl _ len=>some len
  | .v (.slice _ n _)=>some n
  | _=>none
def bitI (op:BinOp) (k:IntKind) (x y:Int):Option Int :=
  match op with
  | .and=>some (k.wrap (BitVec.ofInt k.bits x &&& BitVec.ofInt k.bits y).toNat)
  | .or=>some (k.wrap (BitVec.ofInt k.bits x ||| BitVec.ofInt k.bits y).toNat)
  | .xor=>some (k.wrap (BitVec.ofInt k.bits x ^^^ BitVec.ofInt k.bits y).toNat)
  | .andNot=>some (k.wrap (BitVec.ofInt k.bits x &&& ~~~(BitVec.ofInt k.bits y)).toNat)
  | _=>none
def cmpI (op:BinOp) (x y:Int):Option Bool :=
  match op with
  | .eql=>some (x == y)
  | .neq=>some (x != y)
  | .lss=>some (decide (x < y))
  | .leq=>some (decide (x≤y))
  | .gtr=>some (decide (x > y))
  | .geq=>some (decide (x ≥ y))
  | _=>none
def binI (op:BinOp) (k:IntKind) (a:Int) (k':IntKind) (b:Int):Option Value :=
  match op with
  | .shl=>if b < 0 then none else some (.int k (k.wrap (a*2 ^ min b.toNat k.bits)))
  | .shr=>if b < 0 then none else some (.int k (a.fdiv (2 ^ min b.toNat k.bits)))
  | .add=>if k=k' then some (.int k (k.wrap (a+b))) else none
  | .sub=>if k=k' then some (.int k (k.wrap (a - b))) else none
  | .mul=>if k=k' then some (.int k (k.wrap (a*b))) else none
  | .quo=>if k=k' then (if b=0 then none else some (.int k (k.wrap (a.tdiv b)))) else none
  | .rem=>if k=k' then (if b=0 then none else some (.int k (a.tmod b))) else none
  | .and=>if k=k' then (bitI .and k a b).map (.int k) else none
  | .or=>if k=k' then (bitI .or k a b).map (.int k) else none
  | .xor=>if k=k' then (bitI .xor k a b).map (.int k) else none
  | .andNot=>if k=k' then (bitI .andNot k a b).map (.int k) else none
  | op=>if k=k' then (cmpI op a b).map .bool else none
def qdm:Leaf→Value→Value→Option Bool
  | .int,.int k a,.int k' b=>if k=k' then some (a == b) else none
  | .bool,.bool a,.bool b=>some (a == b)
  | .str,.string a,.string b=>some (a.toList == b.toList)
  | _,_,_=>none
def eqU (l:Leaf):qal→qal→Option Bool
  | [],[]=>some true
  | .v x::xs,.v y::ys=>match qdm l x y,eqU l xs ys with | some a,some b=>some (a && b) | _,_=>none
  | _,_=>none
def eqR:List (Nat × Leaf)→qal→qal→Option Bool
  | [],[],[]=>some true
  | (n,l)::rs,xs,ys=>if n≤xs.length∧n≤ys.length then
      (match eqU l (xs.take n) (ys.take n),eqR rs (xs.drop n) (ys.drop n) with | some a,some b=>some (a && b) | _,_=>none) else none
  | _,_,_=>none
def nilP:LV→Option Bool
  | .v (.pointer none)=>some true
  | .ptr _ _=>some false
  | .ipt _=>some false
  | _=>none
def nilS:LV→Option Bool
  | .v (.slice none _ _)=>some true
  | .sl _ _ _ _ _=>some false
  | .isl _ len=>if 0 < len then some false else none
  | _=>none
def nilF:LV→Option Bool
  | .v .nilFunc=>some true
  | .fn _ _ _=>some false
  | _=>none
def nilCP:LV→Bool
  | .v (.pointer none)=>true
  | _=>false
def nilCS:LV→Bool
  | .v (.slice none 0 0)=>true
  | _=>false
def nilCF:LV→Bool
  | .v .nilFunc=>true
  | _=>false
def aggOf:LV→Option qal
  | .agg xs=>some xs
  | .v (.agg cs)=>some (cs.toList.map .v)
  | _=>none
def eqV (e:EqT) (x y:LV):Option Bool :=
  match e,x,y with
  | .bool,.v (.bool a),.v (.bool b)=>some (a == b)
  | .ptr,x,y=>if nilCP y then nilP x else if nilCP x then nilP y else none
  | .slice,x,y=>if nilCS y then nilS x else none
  | .func,x,y=>if nilCF y then nilF x else none
  | .flat runs,x,y=>match aggOf x,aggOf y with
    | some xs,some ys=>eqR runs xs ys
    | _,_=>none
  | _,_,_=>none
def strOp (op:BinOp) (x y:ByteArray):Option Value :=
  match op with
  | .add=>if x.size+y.size≤2 ^ 62 then some (.string (x++y)) else none
  | .eql=>some (.bool (x.toList == y.toList))
  | .neq=>some (.bool !(x.toList == y.toList))
  | _=>none
def binV (op:BinOp) (e:EqT) (x y:LV):Option LV :=
  match x,y with
  | .v (.int k a),.v (.int k' b)=>(binI op k a k' b).map .v
  | .v (.string a),.v (.string b)=>(strOp op a b).map .v
  | x,y=>match op with
    | .eql=>(eqV e x y).map fun b => .v (.bool b)
    | .neq=>(eqV e x y).map fun b => .v (.bool !b)
    | _=>none
def unV (op:UnOp) (x:LV):Option LV :=
  match op,x with
  | .neg,.v (.int k n)=>some (.v (.int k (k.wrap (0 - n))))
  | .xor,.v (.int k n)=>(bitI .xor k (if k.signed then -1 else k.max) n).map fun m => .v (.int k m)
  | .not,.v (.bool b)=>some (.v (.bool !b))
  | _,_=>none
def qbl (gl:Nat→Option qal) (tm:List LV) (d:Nat):Option LX→Option Nat
  | none=>some d
  | some x=>qco (evX gl tm x)
def mn2 (max:Bool) (x y:Int):Int:=if max then (if y > x then y else x) else (if y < x then y else x)
def mnmx (max:Bool):List LV→Option LV
  | .v (.int k x)::rest=>go k x rest
  | _=>none
where
  go (k : IntKind) (x : Int) : List LV → Option LV
    | []=>some (.v (.int k x))
    | .v (.int _ y)::rest=>go k (mn2 max x y) rest
    | _=>none
def qa2 (gl:Nat→Option qal) (tm:List LV) (op:LOp):Option LV :=
  match op with
  | .mv x=>some (evX gl tm x)
  | .pick c a b=>match evX gl tm c with | .v (.bool t)=>some (if t then evX gl tm a else evX gl tm b) | _=>none
  | .build zero parts=>(fill zero (parts.map fun p=>(p.1,p.2.1,evX gl tm p.2.2))).map .agg
  | .chk x=>match evX gl tm x with
    | .ptr n off=>some (.ptr n off)
    | .ipt xs=>some (.ipt xs)
    | .fn (.func f) a b=>some (.fn (.func f) a b)
    | _=>none
  | .bin op e x y=>binV op e (evX gl tm x) (evX gl tm y)
  | .un op x=>unV op (evX gl tm x)
  | .cvt k x=>match evX gl tm x with | .v (.int _ n)=>some (.v (.int k (k.wrap n))) | _=>none
  | .arrp n x=>match evX gl tm x with
    | .sl m off len _ _=>if 0 < n∧n≤len then some (.ptr m off) else none
    | .isl xs len=>if 0 < n∧n≤len then some (.ipt xs) else none
    | _=>none
  | .fn f a b=>some (.fn f (a.map (evX gl tm)) (b.map (evX gl tm)))
  | .slcA n size x lo hi mx =>
    match qbl gl tm 0 lo,qbl gl tm n hi,qbl gl tm n mx with
    | some l,some h,some m=>if l≤h∧h≤m∧m≤n∧(mx.isSome=true→hi.isSome=true) then match evX gl tm x with
      | .ptr nm off=>some (.sl nm (off+l*size) (h - l) (some (m - l)) size)
      | .ipt xs=>some (.isl ((xs.drop (l*size)).take ((h - l)*size)) (h - l))
      | _=>none else none
    | _,_,_=>none
  | .slcS size x lo hi mx =>
    match evX gl tm x with
    | .sl nm off len (some c) es =>
      (match qbl gl tm 0 lo,qbl gl tm len hi,qbl gl tm c mx with
      | some l,some h,some m=>if l≤h∧h≤m∧m≤c∧es=size∧(mx.isSome=true→hi.isSome=true) then some (.sl nm (off+l*size) (h - l) (some (m - l)) size) else none
      | _,_,_=>none)
    | .sl nm off len none es =>
      if mx.isNone=true then
        (match qbl gl tm 0 lo,qbl gl tm len hi with
        | some l,some h=>if l≤h∧h≤len∧es=size then some (.sl nm (off+l*size) (h - l) none es) else none
        | _,_=>none)
      else
        (match qbl gl tm 0 lo,qbl gl tm len hi,qbl gl tm 0 mx with
        | some l,some h,some m=>if l≤h∧h≤m∧m≤len∧es=size∧hi.isSome=true then some (.sl nm (off+l*size) (h - l) (some (m - l)) size) else none
        | _,_,_=>none)
    | .isl xs len =>
      if mx.isNone=true then
        (match qbl gl tm 0 lo,qbl gl tm len hi with
        | some l,some h=>if l≤h∧h≤len then some (.isl ((xs.drop (l*size)).take ((h - l)*size)) (h - l)) else none
        | _,_=>none)
      else none
    | .v (.slice none 0 0) =>
      if mx.isNone=true then
        (match qbl gl tm 0 lo,qbl gl tm 0 hi with
        | some l,some h=>if l=0∧h=0 then some (.v (.slice none 0 0)) else none
        | _,_=>none)
      else none
    | _=>none
  | .slcT x lo hi=>match evX gl tm x with
    | .v (.string s)=>(match qbl gl tm 0 lo,qbl gl tm s.size hi with
      | some l,some h=>if l≤h∧h≤s.size then some (.v (.string (s.extract l h))) else none
      | _,_=>none)
    | _=>none
  | .fa k x=>match evX gl tm x with
    | .ptr n off=>some (.ptr n (off+k))
    | .ipt xs=>some (.ipt (xs.drop k))
    | _=>none
  | .fld1 off x=>match evX gl tm x with | .agg xs=>xs[off]? | _=>none
  | .fld off n x=>match evX gl tm x with | .agg xs=>if off+n≤xs.length then some (.agg ((xs.drop off).take n)) else none | _=>none
  | .iaA n size x i=>match qco (evX gl tm i) with
    | some j=>if j < n then match evX gl tm x with
      | .ptr nm off=>some (.ptr nm (off+j*size))
      | .ipt xs=>some (.ipt (xs.drop (j*size)))
      | _=>none else none
    | none=>none
  | .iaS size x i=>match qco (evX gl tm i) with
    | some j=>(match evX gl tm x with
      | .sl nm off len _ _=>if j < len then some (.ptr nm (off+j*size)) else none
      | .isl xs len=>if j < len then some (.ipt (xs.drop (j*size))) else none
      | _=>none)
    | none=>none
  | .ix1 len size x i=>match qco (evX gl tm i),evX gl tm x with
    | some j,.agg xs=>if j < len then xs[j*size]? else none
    | _,_=>none
  | .ix len size n x i=>match qco (evX gl tm i),evX gl tm x with
    | some j,.agg xs=>if j < len∧j*size+n≤xs.length then some (.agg ((xs.drop (j*size)).take n)) else none
    | _,_=>none
  | .ixT x i=>match qco (evX gl tm i),evX gl tm x with
    | some j,.v (.string s)=>(s.data.toList[j]?).map qfx
    | _,_=>none
  | .ext x i=>match evX gl tm x with
    | .tup xs=>xs[i]?
    | _=>none
  | .len x=>(lenS (evX gl tm x)).map fun (n:Nat) => .v (.int .i64 n)
  | .lenT x=>match evX gl tm x with | .v (.string s)=>some (.v (.int .i64 s.size)) | _=>none
  | .lenA n=>some (.v (.int .i64 n))
  | .mnmx max as=>mnmx max (as.map (evX gl tm))
  | _=>none
def qet (f:LV→Option (LV × List Nm)):List LV→Option (List LV × List Nm)
  | []=>some ([],[])
  | x::xs=>match f x,qet f xs with | some (y,a),some (ys,b)=>some (y::ys,a++b) | _,_=>none
def snap (H:Heap):Nat→LV→Option (LV × List Nm)
  | 0,_=>none
  | d+1,.sl n off len _ es=>if len=0 then some (.isl [] 0,[]) else match H n with
    | some cs=>(qet (snap H d) ((cs.drop off).take (len*es))).map fun xs=>(.isl xs.1 len,n::xs.2)
    | none=>none
  | _+1,.ipt xs=>some (.ipt xs,[])
  | _+1,.isl xs len=>some (.isl xs len,[])
  | _+1,.v (.slice none 0 0)=>some (.isl [] 0,[])
  | _+1,.v x=>some (.v x,[])
  | _+1,_=>none
def qb6 (H:Heap) (n:Nat):LV→Option qal
  | .ptr m off=>match H m with
    | some cs=>if off+n≤cs.length then some ((cs.drop off).take n) else none
    | none=>none
  | .ipt xs=>if n≤xs.length then some (xs.take n) else none
  | _=>none
def frozenOf (H:Heap):LV→Option (LV × List (Nm × Option qal))
  | .sl n off len _ es=>if len=0 then some (.isl [] 0,[]) else match H n with
    | some cs=>some (.isl ((cs.drop off).take (len*es)) len,[(n,none)])
    | none=>none
  | .isl xs len=>some (.isl xs len,[])
  | .v x=>some (.v x,[])
  | _=>none
def qdT (H:Heap):List LV→Option (List LV × List (Nm × Option qal))
  | []=>some ([],[])
  | x::xs=>match frozenOf H x,qdT H xs with
    | some (y,m),some (ys,ms)=>if m.all (fun q=>ms.all fun r=>r.1 != q.1) then some (y::ys,m++ms) else none
    | _,_=>none
def seqO {α:Type}:List (Option α)→Option (List α)
  | []=>some []
  | some x::xs=>(seqO xs).map (x :: ·)
  | none::_=>none
def lend (H:Heap) (b:Nat→Bool):Nat→List LV→Option (List LV × List Nm)
  | _,[]=>some ([],[])
  | i,x::xs=>match (if b i then snap H D x else some (x,[])),lend H b (i+1) xs with
    | some (y,a),some (ys,c)=>some (y::ys,a++c)
    | _,_=>none
def qa5 (res:qcg):Bool :=
  qbP D res.1 && res.2.1.all (fun p=>match p with | some cs=>cs.all (qbP D) | none=>true) && res.2.2.all (fun cs=>cs.all (qbP D))
def qaK (names:List Nm) (n:Nm):Option Nm:=(idx n names 0).map fun i=>(0,i)
def qbf (names:List Nm) (base k:Nat) (n:Nm):Option Nm :=
  if n.1=0 then names[n.2]? else if n.1=1∧n.2 < k then some (base,n.2) else none
def qcG (names:List Nm) (base:Nat) (res:qcg):Out :=
  let σ:=qbf names base res.2.2.length
  ⟨ren D σ res.1,res.2.2.map (fun cs=>cs.map (ren D σ)),List.zipWith (fun n p=>(n,p.map fun cs=>cs.map (ren D σ))) names res.2.1⟩
def qar (E:Env) (H:Heap) (base:Nat) (g:FuncId) (args:List LV):Option Out :=
  match lend H (E.borrow g) 0 args with
  | none=>none
  | some (args',lent) =>
    let names:=qa7 H FUEL [] (args'.flatMap (nms D))
    if lent.any (fun n=>names.contains n) then none else
    match E.cal g (args'.map (ren D (qaK names))) ((names.filterMap H).map fun cs=>cs.map (ren D (qaK names))) with
    | none=>none
    | some res=>if lent.isEmpty || qa5 res then some (qcG names base res) else none
def qbz (E:Env) (tm:List LV) (H:Heap) (base:Nat) (op:LOp):Option Out :=
  match op with
  | .new zero=>some ⟨.ptr (base,0) 0,[zero],[]⟩
  | .box x=>match qbe (evX E.gl tm x) with
    | some ys=>some ⟨.ptr (base,0) 0,[ys],[]⟩
    | none=>none
  | .mkrow size zero parts len=>match fill zero (parts.map fun p=>(p.1,p.2.1,evX E.gl tm p.2.2)) with
    | some cs=>some ⟨.sl (base,0) 0 len (some len) size,[cs],[]⟩
    | none=>none
  | .ld1 x=>match qb6 H 1 (evX E.gl tm x) with
    | some [y]=>some ⟨y,[],[]⟩
    | _=>none
  | .ld n x=>match qb6 H n (evX E.gl tm x) with
    | some ys=>some ⟨.agg ys,[],[]⟩
    | none=>none
  | .st n x y=>match evX E.gl tm x,qbe (evX E.gl tm y) with
    | .ptr m off,some ys=>(match H m with
      | some cs=>if ys.length=n∧off+n≤cs.length∧ys.all qaB=true then some ⟨.v (.tuple #[]),[],[(m,some (qbh cs off ys))]⟩ else none
      | none=>none)
    | _,_=>none
  | .s2b x=>match evX E.gl tm x with
    | .v (.string s)=>some ⟨.sl (base,0) 0 s.size none 1,[s.data.toList.map qfx],[]⟩
    | _=>none
  | .b2s x=>match qcE (evX E.gl tm x) with
    | some n=>(match evX E.gl tm x with
      | .v (.string _)=>none
      | y=>match qbp H 1 n y with
        | some cs=>(qdl cs).map fun bs=>⟨.v (.string ⟨bs.toArray⟩),[],[]⟩
        | none=>none)
    | none=>none
  | .mkslice size bytes zero l c=>match qco (evX E.gl tm l),qco (evX E.gl tm c) with
    | some l,some c=>if l≤c∧c*bytes≤2 ^ 47∧c < 2 ^ 62∧zero.length=size then some ⟨.sl (base,0) 0 l (some c) size,[(List.replicate c zero).flatten],[]⟩ else none
    | _,_=>none
  | .append size bytes fz x y =>
    (match qcE (evX E.gl tm y) with
    | none=>none
    | some k=>(match qbp H size k (evX E.gl tm y) with
      | none=>none
      | some new0=>(match (if fz then qdT H new0 else some (new0,[])) with
        | none=>none
        | some (new,ms)=>if bytes≤2 ^ 20∧new.all qaB=true then (match evX E.gl tm x with
          | .sl m off len (some c) es =>
            if es=size∧(len+k)*bytes≤211106232532992∧ms.all (fun p=>p.1 != m)=true then
              if len+k≤c then (match H m with
                | some cs=>if off+(len+k)*size≤cs.length then some ⟨.sl m off (len+k) (some c) es,[],(m,some (qbh cs (off+len*size) new))::ms⟩ else none
                | none=>none)
              else (match qbp H size len (.sl m off len (some c) es) with
                | some old=>some ⟨.sl (base,0) 0 (len+k) none size,[old++new],ms⟩
                | none=>none)
            else none
          | .sl m off len none es =>
            if es=size∧(len+k)*bytes≤211106232532992∧ms.all (fun p=>p.1 != m)=true then (match H m with
              | some cs=>if off+len*size≤cs.length then some ⟨.sl (base,0) 0 (len+k) none size,[(cs.drop off).take (len*size)++new],(m,none)::ms⟩ else none
              | none=>none)
            else none
          | .v (.slice none 0 0)=>if k=0 then some ⟨.v (.slice none 0 0),[],ms⟩ else if k*bytes≤211106232532992 then some ⟨.sl (base,0) 0 k none size,[new],ms⟩ else none
          | _=>none) else none)))
  | .appz size bytes z x y =>
    (match qco (evX E.gl tm y),evX E.gl tm x with
    | some k,.sl m off len none es=>(match H m with
      | some cs=>if es=size∧(len+k)*bytes≤211106232532992∧k < 2 ^ 62∧bytes≤2 ^ 20∧z.all qaB=true∧off+len*size≤cs.length then
          some ⟨.sl (base,0) 0 (len+k) none size,[(cs.drop off).take (len*size)++(List.replicate k z).flatten],[(m,none)]⟩ else none
      | none=>none)
    | _,_=>none)
  | .copy size x y =>
    (match qcE (evX E.gl tm y),evX E.gl tm x with
    | some k,.sl m off len _ es =>
      if min k len=0 then some ⟨.v (.int .i64 0),[],[]⟩ else
      (match qbp H size (min k len) (evX E.gl tm y),H m with
      | some new,some cs=>if es=size∧new.all qaB=true∧off+(min k len)*size≤cs.length then
          some ⟨.v (.int .i64 (min k len:Nat)),[],[(m,some (qbh cs off new))]⟩ else none
      | _,_=>none)
    | some _,.v (.slice none 0 0)=>some ⟨.v (.int .i64 0),[],[]⟩
    | _,_=>none)
  | .call f as=>match evX E.gl tm f with
    | .fn (.func g) a b=>qar E H base g (a++as.map (evX E.gl tm)++b)
    | _=>none
  | .cvs x=>match evX E.gl tm x with
    | .sl m off len c es=>if 0 < len then (match H m with
      | some cs=>some ⟨.sl m off len c es,[],[(m,some cs)]⟩
      | none=>none) else none
    | _=>none
  | _=>none
def qa4 (E:Env) (tm:List LV) (H:Heap) (base:Nat) (op:LOp):Option Out :=
  match qa2 E.gl tm op with
  | some x=>some ⟨x,[],[]⟩
  | none=>qbz E tm H base op
def put (tm:List LV) (dst:Option Nat) (x:LV):List LV :=
  match dst with
  | some d=>tm.set d x
  | none=>tm
def qbN (H:Heap):List (Nm × Option qal)→Heap
  | []=>H
  | (n,x)::ms=>fun m=>if m=n then x else qbN H ms m
def qbv (base:Nat) (r:Out) (H:Heap):Heap:=fun m =>
  if m.1=base∧m.2 < r.news.length then r.news[m.2]? else qbN H r.mods m
def qd6 (gl:Nat→Option qal) (tm:List LV):LOp→List LV
  | .ld1 x=>[evX gl tm x]
  | .ld _ x=>[evX gl tm x]
  | .st _ x y=>[evX gl tm x,evX gl tm y]
  | .b2s x=>[evX gl tm x]
  | .cvs x=>[evX gl tm x]
  | .append _ _ _ x y=>[evX gl tm x,evX gl tm y]
  | .appz _ _ _ x y=>[evX gl tm x,evX gl tm y]
  | .copy _ x y=>[evX gl tm x,evX gl tm y]
  | .call f as=>evX gl tm f::as.map (evX gl tm)
  | _=>[]
def deep:LOp→Bool
  | .call _ _=>true
  | .append _ _ fz _ _=>fz
  | _=>false
def qcj (gl:Nat→Option qal) (tm:List LV) (H:Heap) (op:LOp):List Nm :=
  if deep op then qa7 H FUEL [] ((qd6 gl tm op).flatMap (nms D)) else (qd6 gl tm op).flatMap (nms D)
def only (X:List Nm) (H:Heap):Heap:=fun n=>if X.contains n then H n else none
def qdy (a b:List Nm):Bool:=a.all fun n => !b.contains n
def qeu:LV→LV→Bool
  | .v (.int k x),.v (.int l y)=>decide (k=l) && decide (x=y)
  | .v (.slice none 0 0),.v (.slice none 0 0)=>true
  | .sl n o l c e,.sl n' o' l' c' e'=>decide (n=n') && decide (o=o') && decide (l=l') && decide (c=c') && decide (e=e')
  | .ptr n o,.ptr n' o'=>decide (n=n') && decide (o=o')
  | _,_=>false
def qdJ:qal→qal→Bool
  | [],[]=>true
  | x::xs,y::ys=>qeu x y && qdJ xs ys
  | _,_=>false
def qcY:Option qal→Option qal→Bool
  | some a,some b=>qdJ a b
  | _,_=>false
def qdz:LOp→Bool
  | .call _ _=>true
  | _=>false
def qdp (t:Bool) (H:Heap) (r:Option Out):Option Out :=
  if t then r.map (fun r=>if r.mods.all (fun m=>qcY (H m.1) m.2) then { r with mods:=[] } else r) else r
structure Done where
  i:Nat
  saw:List Nm
  wrote:List Nm
def qc5 (g:Option (Nat × Bool)) (tm:List LV):Option Bool :=
  match g with
  | none=>some true
  | some (t,want)=>match tm.getD t .undef with
    | .v (.bool b)=>some (b == want)
    | .v _=>some false
    | _=>none
def qe4 (E:Env) (base0 i:Nat) (o:LOper) (log:List Done) (st:St):Option (St × List Done) :=
  match qc5 o.guard st.tm with
  | none=>none
  | some false=>some ({ st with tm:=put st.tm o.dst (.v (.tuple #[])) },log)
  | some true=>match o.ord with
    | none=>match qa4 E st.tm st.H (base0+i) o.op with
      | none=>none
      | some r=>some ({ st with tm:=put st.tm o.dst r.val,H:=qbv (base0+i) r st.H },log)
    | some before =>
      let X:=qcj E.gl st.tm st.H o.op
      match qdp (E.trim && qdz o.op) (only X st.H) (qa4 E st.tm (only X st.H) (base0+i) o.op) with
      | none=>none
      | some r =>
        let W:=r.mods.map (·.1)
        if W.all (fun n => X.contains n) && X.all (fun n => decide (n.1 < base0) || before.testBit (n.1 - base0)) &&
            log.all (fun d=>before.testBit d.i || (qdy d.wrote X && qdy W d.saw)) then
          some ({ st with tm:=put st.tm o.dst r.val,H:=qbv (base0+i) r st.H },⟨i,X,W⟩::log)
        else none
def qbw (E:Env) (base0:Nat):Nat→List LOper→List Done→St→Option St
  | _,[],_,st=>some st
  | i,o::os,log,st=>match qe4 E base0 i o log st with
    | some (st',log')=>qbw E base0 (i+1) os log' st'
    | none=>none
def evRegion (E:Env) (ops:List LOper) (st:St):Option St :=
  (qbw E st.nx 0 ops [] st).map fun st'=>{ st' with nx:=st.nx+ops.length }
def qbE (H:Heap) (np:Nat) (tm:List LV):List Nm :=
  (qa7 H FUEL [] ((List.range np).map (fun i=>(0,i))++tm.flatMap (nms D))).filter fun n=>n.1 != 0
def qbm (names:List Nm) (n:Nm):Option Nm :=
  if n.1=0 then some n else (idx n names 0).map fun i=>(1,i)
def mask:List Bool→List LV→List LV
  | _,[]=>[]
  | [],_::xs => .undef::mask [] xs
  | b::bs,x::xs=>(if b then x else .undef)::mask bs xs
def qa8 (keep:List Bool) (st:St):St :=
  let tm:=mask keep st.tm
  let names:=qbE st.H st.np tm
  let π:=qbm names
  { tm := tm.map (ren D π)
    H := fun n => if n.1 = 0 then (st.H n).map (fun cs => cs.map (ren D π))
      else if n.1=1 then (match names[n.2]? with | some m=>(st.H m).map (fun cs=>cs.map (ren D π)) | none=>none) else none
    nx:=2
    np:=st.np }
def qa1 (keep:List Bool) (f:St→Option (Ex × St)):Nat→St→Option (Ex × St)
  | 0,_=>none
  | k+1,st=>match f (qa8 keep st) with
    | some (.normal,st')=>qa1 keep f k st'
    | r=>r
def qd3 (id:Nat):Option (Ex × St)→Option (Ex × St)
  | some (.exit id',st)=>if id'=id then some (.normal,st) else some (.exit id',st)
  | r=>r
def qcJ (f:St→Option (Ex × St)):Option (Ex × St)→Option (Ex × St)
  | some (.normal,st)=>f st
  | r=>r
def fzSt (s:Nat) (st:St):St :=
  match qdT st.H [st.tm.getD s .undef] with
  | some ([v],ms)=>{ st with tm:=st.tm.set s v,H:=qbN st.H ms }
  | _=>st
def ev (E:Env) (k:Nat):LCode→St→Option (Ex × St)
  | .skip,st=>some (.normal,st)
  | .region ops,st=>(evRegion E ops st).map fun st'=>(.normal,st')
  | .seq a b,st=>qcJ (ev E k b) (ev E k a st)
  | .seqz a s b,st=>qcJ (fun st1=>ev E k b (fzSt s st1)) (ev E k a st)
  | .cond c a b,st=>match evX E.gl st.tm c with
    | .v (.bool t)=>if t then ev E k a st else ev E k b st
    | _=>none
  | .block id c,st=>qd3 id (ev E k c st)
  | .loop keep c,st=>qa1 keep (ev E k c) k st
  | .exit id,st=>some (.exit id,st)
  | .ret,st=>some (.ret,st)
def qev (st:St):LRes→Option LV
  | .tmp t=>some (st.tm.getD t .undef)
  | .one t=>match qb6 st.H 1 (st.tm.getD t .undef) with | some [y]=>some y | _=>none
  | .agg t n=>(qb6 st.H n (st.tm.getD t .undef)).map .agg
def qcO (st:St) (rs:List LRes):Option LV :=
  match seqO (rs.map (qev st)) with
  | some [x]=>some x
  | some xs=>some (.tup xs)
  | none=>none
def qaY (objs:List qal):Heap:=fun n=>if n.1=0 then objs[n.2]? else none
def qbY (np:Nat) (st:St) (ret:LV):qcg :=
  let names:=qbE st.H np [ret]
  let π:=qbm names
  (ren D π ret,(List.range np).map (fun i=>(st.H (0,i)).map fun cs=>cs.map (ren D π)),(names.filterMap st.H).map fun cs=>cs.map (ren D π))
def qf7 (E:Env) (k:Nat) (lf:LFun) (args:List LV) (objs:List qal):Option qcg :=
  match ev E k lf.body { tm:=args++List.replicate (lf.ntmps - args.length) (.v (.tuple #[])),H:=qaY objs,nx:=2,np:=objs.length } with
  | some (.normal,st)=>(qcO st lf.results).map (qbY objs.length st)
  | some (.ret,st)=>(qcO st lf.results).map (qbY objs.length st)
  | _=>none
structure Ctx where
  fns:FuncId→Option LFun
  gl:Nat→Option qal
  borrow:FuncId→Nat→Bool
  trim:Bool:=false
  ext:FuncId→List LV→List qal→Option qcg:=fun _ _ _=>none
def F (C:Ctx):Nat→FuncId→List LV→List qal→Option qcg
  | 0,_,_,_=>none
  | k+1,f,args,objs=>match C.fns f with
    | none=>C.ext f args objs
    | some lf=>qf7 { gl:=C.gl,cal:=F C k,borrow:=C.borrow,trim:=C.trim } k lf args objs
end Go.LE
namespace Go.LE
inductive Base where
  | nowhere
  | at (b o s:Nat)
abbrev Imm:=Nat→Option (List Value)
abbrev qa0:=Nm→Option Base
inductive Rep (R:Imm) (p:qa0):List LV→List Value→Prop where
  | nil:Rep R p [] []
  | undef {y xs ys}:Rep R p xs ys→Rep R p (.undef::xs) (y::ys)
  | v {y xs ys}:Rep R p xs ys→Rep R p (.v y::xs) (y::ys)
  | agg {as cs xs ys}:Rep R p as cs→Rep R p xs ys→Rep R p (.agg as::xs) (.agg cs.toArray::ys)
  | ptr {n off b o s xs ys}:p n=some (.at b o s)→Rep R p xs ys→Rep R p (.ptr n off::xs) (.pointer (some ⟨b,o+off,none⟩)::ys)
  | sl0 {n off cap es a xs ys}:(∀ k,cap=some k→k=0)→Rep R p xs ys→Rep R p (.sl n off 0 cap es::xs) (.slice (some a) 0 0::ys)
  | sl {n off len cap es b o s c xs ys} : p n = some (.at b o s) → len ≤ c → (∀ k, cap = some k → k = c) → (cap = none → off + c * es ≤ s) →
      Rep R p xs ys→Rep R p (.sl n off len cap es::xs) (.slice (some ⟨b,o+off,none⟩) len c::ys)
  | ipt {as b o cs xs ys}:R b=some cs→Rep R p as ((cs.drop o).take as.length)→Rep R p xs ys→Rep R p (.ipt as::xs) (.pointer (some ⟨b,o,none⟩)::ys)
  | isl0 {as a c xs ys}:Rep R p xs ys→Rep R p (.isl as 0::xs) (.slice a 0 c::ys)
  | isl {as len b o c cs xs ys} : R b = some cs → Rep R p as ((cs.drop o).take as.length) → len ≤ c → Rep R p xs ys →
      Rep R p (.isl as len::xs) (.slice (some ⟨b,o,none⟩) len c::ys)
  | fn {f as as' bs bs' xs ys}:Rep R p as as'→Rep R p bs bs'→Rep R p xs ys→Rep R p (.fn f as bs::xs) (.func f as'.toArray bs'.toArray::ys)
  | tup {as cs xs ys}:Rep R p as cs→Rep R p xs ys→Rep R p (.tup as::xs) (.tuple cs.toArray::ys)
abbrev Rep1 (R:Imm) (p:qa0) (x:LV) (y:Value):Prop:=Rep R p [x] [y]
variable {R R':Imm} {p p':qa0}
theorem Rep.length {xs:List LV} {ys:List Value} (h:Rep R p xs ys):xs.length=ys.length:=by
  induction h <;> first | rfl | (simp only[zE]; omega)
theorem Rep.cons {x:LV} {y:Value} {xs:List LV} {ys:List Value} (h1:Rep1 R p x y) (h:Rep R p xs ys):Rep R p (x::xs) (y::ys):=by
  cases h1 with
  | undef _=>exact .undef h
  | v _=>exact .v h
  | agg a _=>exact .agg a h
  | ptr a _=>exact .ptr a h
  | sl0 a _=>exact .sl0 a h
  | sl a b c d _=>exact .sl a b c d h
  | ipt a b _=>exact .ipt a b h
  | isl0 _=>exact .isl0 h
  | isl a b c _=>exact .isl a b c h
  | fn a b _=>exact .fn a b h
  | tup a _=>exact .tup a h
theorem Rep.head {x:LV} {y:Value} {xs:List LV} {ys:List Value} (h:Rep R p (x::xs) (y::ys)):Rep1 R p x y:=by
  cases h with
  | undef _=>exact .undef .nil
  | v _=>exact .v .nil
  | agg a _=>exact .agg a .nil
  | ptr a _=>exact .ptr a .nil
  | sl0 a _=>exact .sl0 a .nil
  | sl a b c d _=>exact .sl a b c d .nil
  | ipt a b _=>exact .ipt a b .nil
  | isl0 _=>exact .isl0 .nil
  | isl a b c _=>exact .isl a b c .nil
  | fn a b _=>exact .fn a b .nil
  | tup a _=>exact .tup a .nil
theorem Rep.tail {x:LV} {y:Value} {xs:List LV} {ys:List Value} (h:Rep R p (x::xs) (y::ys)):Rep R p xs ys:=by
  cases h <;> assumption
theorem Rep.uncons {x:LV} {xs:List LV} {zs:List Value} (h:Rep R p (x::xs) zs):∃ y ys,zs=y::ys∧Rep1 R p x y∧Rep R p xs ys:=by
  cases zs with
  | nil=>cases h
  | cons y ys=>exact ⟨y,ys,rfl,h.head,h.tail⟩
theorem Rep.append {xs xs':List LV} {ys ys':List Value} (h:Rep R p xs ys) (h':Rep R p xs' ys'):Rep R p (xs++xs') (ys++ys'):=by
  induction xs generalizing ys with
  | nil=>cases ys with
    | nil=>exact h'
    | cons _ _=>cases h
  | cons x xs ih =>
    obtain ⟨y,ys,rfl,h1,h2⟩:=h.uncons
    exact Rep.cons h1 (ih h2)
theorem Rep.drop {xs:List LV} {ys:List Value} (h:Rep R p xs ys) (n:Nat):Rep R p (xs.drop n) (ys.drop n):=by
  induction n generalizing xs ys with
  | zero=>exact h
  | succ n ih =>
    cases xs with
    | nil=>cases ys with
      | nil=>exact h
      | cons _ _=>cases h
    | cons x xs =>
      obtain ⟨y,ys,rfl,h1,h2⟩:=h.uncons
      exact ih h2
theorem Rep.take {xs:List LV} {ys:List Value} (h:Rep R p xs ys) (n:Nat):Rep R p (xs.take n) (ys.take n):=by
  induction n generalizing xs ys with
  | zero=>simpa using Rep.nil
  | succ n ih =>
    cases xs with
    | nil=>cases ys with
      | nil=>exact h
      | cons _ _=>cases h
    | cons x xs =>
      obtain ⟨y,ys,rfl,h1,h2⟩:=h.uncons
      exact Rep.cons h1 (ih h2)
theorem Rep.get {xs:List LV} {ys:List Value} (h:Rep R p xs ys) {i:Nat} {x:LV} (hx:xs[i]? = some x):∃ y,ys[i]? = some y∧Rep1 R p x y:=by
  induction i generalizing xs ys with
  | zero =>
    cases xs with
    | nil=>simp at hx
    | cons z xs =>
      obtain ⟨y,ys,rfl,h1,h2⟩:=h.uncons
      simp at hx
      subst hx
      exact ⟨y,rfl,h1⟩
  | succ i ih =>
    cases xs with
    | nil=>simp at hx
    | cons z xs =>
      obtain ⟨y,ys,rfl,h1,h2⟩:=h.uncons
      simp at hx
      obtain ⟨y',hy,hr⟩:=ih h2 hx
      exact ⟨y',by simpa using hy,hr⟩
theorem Rep.set {xs:List LV} {ys:List Value} (h:Rep R p xs ys) (i:Nat) {x:LV} {y:Value} (h1:Rep1 R p x y):Rep R p (xs.set i x) (ys.set i y):=by
  induction i generalizing xs ys with
  | zero =>
    cases xs with
    | nil=>cases ys with
      | nil=>exact h
      | cons _ _=>cases h
    | cons z xs =>
      obtain ⟨y',ys,rfl,_,h2⟩:=h.uncons
      exact Rep.cons h1 h2
  | succ i ih =>
    cases xs with
    | nil=>cases ys with
      | nil=>exact h
      | cons _ _=>cases h
    | cons z xs =>
      obtain ⟨y',ys,rfl,h0,h2⟩:=h.uncons
      exact Rep.cons h0 (ih h2)
theorem Rep.plain (ys:List Value):Rep R p (ys.map .v) ys:=by
  induction ys with
  | nil=>exact .nil
  | cons y ys ih=>exact .v ih
theorem Rep.mono {xs:List LV} {ys:List Value} (hR:∀ b cs,R b=some cs→R' b=some cs) (hp:∀ n x,p n=some x→p' n=some x)
    (h:Rep R p xs ys):Rep R' p' xs ys:=by
  induction h with
  | nil=>exact .nil
  | undef _ ih=>exact .undef ih
  | v _ ih=>exact .v ih
  | agg _ _ ih1 ih2=>exact .agg ih1 ih2
  | ptr a _ ih=>exact .ptr (hp _ _ a) ih
  | sl0 a _ ih=>exact .sl0 a ih
  | sl a b c d _ ih=>exact .sl (hp _ _ a) b c d ih
  | ipt a _ _ ih1 ih2=>exact .ipt (hR _ _ a) ih1 ih2
  | isl0 _ ih=>exact .isl0 ih
  | isl a _ c _ ih1 ih2=>exact .isl (hR _ _ a) ih1 c ih2
  | fn _ _ _ ih1 ih2 ih3=>exact .fn ih1 ih2 ih3
  | tup _ _ ih1 ih2=>exact .tup ih1 ih2
theorem Rep.ren {π:Nm→Option Nm} (hπ:∀ n m x,π n=some m→p n=some x→p' m=some x) {xs:List LV} {ys:List Value} (h:Rep R p xs ys) :
    ∀ d,Rep R p' (xs.map (LE.ren d π)) ys:=by
  induction h with
  | nil=>exact fun _ => .nil
  | undef _ ih=>intro d; cases d <;> exact .undef (ih _)
  | v _ ih=>intro d; cases d with
    | zero=>exact .undef (ih 0)
    | succ d=>exact .v (ih (d+1))
  | agg _ _ ih1 ih2=>intro d; cases d with
    | zero=>exact .undef (ih2 0)
    | succ d=>exact .agg (ih1 d) (ih2 (d+1))
  | @ptr n off b o s xs ys a _ ih=>intro d; cases d with
    | zero=>exact .undef (ih 0)
    | succ d =>
      have:=ih (d+1)
      simp only[zB,LE.ren]
      cases hn:π n with
      | none=>exact .undef this
      | some m=>exact .ptr (hπ _ _ _ hn a) this
  | @sl0 n off cap es a xs ys h0 _ ih=>intro d; cases d with
    | zero=>exact .undef (ih 0)
    | succ d =>
      have:=ih (d+1)
      simp only[zB,LE.ren]
      cases hn:π n with
      | none=>exact .undef this
      | some m=>exact .sl0 h0 this
  | @sl n off len cap es b o s c xs ys a h1 h2 h3 _ ih=>intro d; cases d with
    | zero=>exact .undef (ih 0)
    | succ d =>
      have:=ih (d+1)
      simp only[zB,LE.ren]
      cases hn:π n with
      | none=>exact .undef this
      | some m=>exact .sl (hπ _ _ _ hn a) h1 h2 h3 this
  | ipt a _ _ ih1 ih2=>intro d; cases d with
    | zero=>exact .undef (ih2 0)
    | succ d=>exact .ipt a (by simpa using ih1 d) (ih2 (d+1))
  | isl0 _ ih=>intro d; cases d with
    | zero=>exact .undef (ih 0)
    | succ d=>exact .isl0 (ih (d+1))
  | isl a _ c _ ih1 ih2=>intro d; cases d with
    | zero=>exact .undef (ih2 0)
    | succ d=>exact .isl a (by simpa using ih1 d) c (ih2 (d+1))
  | fn _ _ _ ih1 ih2 ih3=>intro d; cases d with
    | zero=>exact .undef (ih3 0)
    | succ d=>exact .fn (ih1 d) (ih2 d) (ih3 (d+1))
  | tup _ _ ih1 ih2=>intro d; cases d with
    | zero=>exact .undef (ih2 0)
    | succ d=>exact .tup (ih1 d) (ih2 (d+1))
theorem Rep.noImm_all {xs:List LV} {ys:List Value} (h:Rep R p xs ys):∀ d,xs.all (LE.qbP d)=true→Rep R' p xs ys:=by
  induction h with
  | nil=>exact fun _ _ => .nil
  | undef _ ih=>intro d hd; simp at hd; exact .undef (ih d (by simpa using hd.2))
  | v _ ih=>intro d hd; simp at hd; exact .v (ih d (by simpa using hd.2))
  | agg _ _ ih1 ih2=>intro d hd; cases d with
    | zero=>simp[LE.qbP] at hd
    | succ d=>rw[zT,Bool.and_eq_true] at hd; exact .agg (ih1 d hd.1) (ih2 _ hd.2)
  | ptr a _ ih=>intro d hd; simp at hd; exact .ptr a (ih d (by simpa using hd.2))
  | sl0 a _ ih=>intro d hd; simp at hd; exact .sl0 a (ih d (by simpa using hd.2))
  | sl a b c e _ ih=>intro d hd; simp at hd; exact .sl a b c e (ih d (by simpa using hd.2))
  | ipt a _ _ ih1 ih2=>intro d hd; cases d <;> simp[LE.qbP] at hd
  | isl0 _ ih=>intro d hd; cases d <;> simp[LE.qbP] at hd
  | isl a _ c _ ih1 ih2=>intro d hd; cases d <;> simp[LE.qbP] at hd
  | fn _ _ _ ih1 ih2 ih3=>intro d hd; cases d with
    | zero=>simp[LE.qbP] at hd
    | succ d =>
      rw[zT,Bool.and_eq_true] at hd
      simp only[LE.qbP,Bool.and_eq_true] at hd
      exact .fn (ih1 d hd.1.1) (ih2 d hd.1.2) (ih3 _ hd.2)
  | tup _ _ ih1 ih2=>intro d hd; cases d with
    | zero=>simp[LE.qbP] at hd
    | succ d=>rw[zT,Bool.and_eq_true] at hd; exact .tup (ih1 d hd.1) (ih2 _ hd.2)
theorem Rep.single {x:LV} {zs:List Value} (h:Rep R p [x] zs):∃ y,zs=[y]∧Rep1 R p x y:=by
  obtain ⟨y,ys,rfl,h1,h2⟩:=h.uncons
  cases h2
  exact ⟨y,rfl,h1⟩
structure Lies (R:Imm) (p:qa0) (w:World) (cs:qal) (b o s:Nat) (vs:Array Value) (T:TypeId) (fz:Nat × Nat):Prop where
  heap:w.heap[b]? = some (.cells vs T fz)
  imm:R b=none
  free:fz.1=fz.2∨vs.size≤fz.1
  size:o+s=vs.size
  fits:cs.length≤s
  rep:Rep R p cs ((vs.toList.drop o).take cs.length)
structure Sim (R:Imm) (p:qa0) (H:Heap) (w:World):Prop where
  obj:∀ n cs,H n=some cs→(p n=some .nowhere∧cs=[])∨∃ b o s vs T fz,p n=some (.at b o s)∧Lies R p w cs b o s vs T fz
  inj:∀ n m cs ds b o s o' s',H n=some cs→H m=some ds→p n=some (.at b o s)→p m=some (.at b o' s')→n=m
  imm:∀ b cs,R b=some cs→∃ vs T fz,w.heap[b]? = some (.cells vs T fz)∧vs.toList=cs
def Owned (p:qa0) (H:Heap) (b:Nat):Prop := ∃ n cs o s,H n=some cs∧p n=some (.at b o s)
structure Ext (R:Imm) (p:qa0) (H:Heap) (w:World) (R':Imm) (p':qa0) (H':Heap) (w':World):Prop where
  imm:∀ b cs,R b=some cs→R' b=some cs
  size:w.heap.size≤w'.heap.size
  kept:∀ b,b < w.heap.size→¬ Owned p H b→w'.heap[b]? = w.heap[b]?
  newImm:∀ b cs,R' b=some cs→R b=some cs∨w.heap.size≤b∨Owned p H b
  own:∀ b,Owned p' H' b→Owned p H b∨w.heap.size≤b
  io:w'.os=w.os∧w'.output=w.output∧w'.tape=w.tape
theorem Ext.refl (R:Imm) (p:qa0) (H:Heap) (w:World):Ext R p H w R p H w :=
  ⟨fun _ _ h=>h,Nat.le_refl _,fun _ _ _=>rfl,fun _ _ h => .inl h,fun _ h => .inl h,rfl,rfl,rfl⟩
theorem Ext.trans {R₁ R₂ R₃:Imm} {p₁ p₂ p₃:qa0} {H₁ H₂ H₃:Heap} {w₁ w₂ w₃:World} (h:Ext R₁ p₁ H₁ w₁ R₂ p₂ H₂ w₂) (h':Ext R₂ p₂ H₂ w₂ R₃ p₃ H₃ w₃) :
    Ext R₁ p₁ H₁ w₁ R₃ p₃ H₃ w₃ where
  imm b cs e:=h'.imm b cs (h.imm b cs e)
  size:=Nat.le_trans h.size h'.size
  kept b hb hn:=by
    rw[h'.kept b (Nat.lt_of_lt_of_le hb h.size) (fun ho=>(h.own b ho).elim hn (fun hs=>absurd hb (by omega)))]
    exact h.kept b hb hn
  newImm b cs e:=by
    rcases h'.newImm b cs e with h1 | h1 | h1
    · exact h.newImm b cs h1
    · exact .inr (.inl (Nat.le_trans h.size h1))
    · rcases h.own b h1 with h2 | h2
      · exact .inr (.inr h2)
      · exact .inr (.inl h2)
  own b ho:=by
    rcases h'.own b ho with h1 | h1
    · exact h.own b h1
    · exact .inr (Nat.le_trans h.size h1)
  io:=⟨h'.io.1.trans h.io.1,h'.io.2.1.trans h.io.2.1,h'.io.2.2.trans h.io.2.2⟩
theorem Sim.sub {H H':Heap} {w:World} (h:Sim R p H w) (hs:∀ n cs,H' n=some cs→H n=some cs):Sim R p H' w :=
  ⟨fun n cs e=>h.obj n cs (hs n cs e),fun n m cs ds b o s o' s' e1 e2=>h.inj n m cs ds b o s o' s' (hs _ _ e1) (hs _ _ e2),h.imm⟩
theorem Lies.mono {w:World} {cs:qal} {b o s:Nat} {vs:Array Value} {T:TypeId} {fz:Nat × Nat} (h:Lies R p w cs b o s vs T fz) {w':World}
    (hR:∀ b cs,R b=some cs→R' b=some cs) (hp:∀ n x,p n=some x→p' n=some x) (hw:w'.heap[b]? = w.heap[b]?) (hi:R' b=none):Lies R' p' w' cs b o s vs T fz :=
  ⟨hw.trans h.heap,hi,h.free,h.size,h.fits,h.rep.mono hR hp⟩
theorem Lies.lt {w:World} {cs:qal} {b o s:Nat} {vs:Array Value} {T:TypeId} {fz:Nat × Nat} (h:Lies R p w cs b o s vs T fz):b < w.heap.size:=by
  have:=h.heap
  rcases Nat.lt_or_ge b w.heap.size with h1 | h1
  · exact h1
  · rw[Array.getElem?_eq_none h1] at this; cases this
theorem Sim.frame {H H₁ H₁':Heap} {w w':World} (h:Sim R p H w) (hs:∀ n cs,H₁ n=some cs→H n=some cs)
    (h':Sim R' p' H₁' w') (he:Ext R p H₁ w R' p' H₁' w') (hp:∀ n x,p n=some x→p' n=some x)
    (H':Heap) (hH:∀ n cs,H' n=some cs→H₁' n=some cs∨(H₁ n=none∧H n=some cs)):Sim R' p' H' w'∧Ext R p H w R' p' H' w':=by
  have ownSub:∀ b,Owned p H₁ b→Owned p H b:=fun b ⟨n,cs,o,s,e1,e2⟩=>⟨n,cs,o,s,hs _ _ e1,e2⟩
  have apart:∀ n cs b o s,H₁ n=none→H n=some cs→p n=some (.at b o s)→¬ Owned p H₁ b:=by
    rintro n cs b o s e1 e2 e3 ⟨m,ds,o',s',e4,e5⟩
    have:=h.inj n m cs ds b o s o' s' e2 (hs _ _ e4) e3 e5
    subst this
    rw[e1] at e4; cases e4
  refine ⟨⟨?_,?_,h'.imm⟩,?_⟩
  · intro n cs e
    rcases hH n cs e with e1 | ⟨e1,e2⟩
    · exact h'.obj n cs e1
    · rcases h.obj n cs e2 with ⟨a, c⟩ | ⟨b, o, s, vs, T, fz, a, l⟩
      · exact .inl ⟨hp _ _ a,c⟩
      · refine .inr ⟨b, o, s, vs, T, fz, hp _ _ a, l.mono he.imm hp (he.kept b l.lt (apart n cs b o s e1 e2 a)) ?_⟩
        cases hb:R' b with
        | none=>rfl
        | some ds =>
          rcases he.newImm b ds hb with h1 | h1 | h1
          · rw[l.imm] at h1; cases h1
          · exact absurd l.lt (by omega)
          · exact absurd h1 (apart n cs b o s e1 e2 a)
  · intro n m cs ds b o s o' s' e1 e2 e3 e4
    rcases hH n cs e1 with f1 | ⟨f1,f2⟩ <;> rcases hH m ds e2 with g1 | ⟨g1,g2⟩
    · exact h'.inj n m cs ds b o s o' s' f1 g1 e3 e4
    · exfalso
      rcases h.obj m ds g2 with ⟨a,c⟩ | ⟨b',o₂,s₂,vs,T,fz,a,l⟩
      · rw[hp _ _ a] at e4; cases e4
      · rw [hp _ _ a] at e4; cases e4
        rcases he.own b ⟨n,cs,o,s,f1,e3⟩ with h1 | h1
        · exact apart m ds b _ _ g1 g2 a h1
        · exact absurd l.lt (by omega)
    · exfalso
      rcases h.obj n cs f2 with ⟨a,c⟩ | ⟨b',o₂,s₂,vs,T,fz,a,l⟩
      · rw[hp _ _ a] at e3; cases e3
      · rw [hp _ _ a] at e3; cases e3
        rcases he.own b ⟨m,ds,o',s',g1,e4⟩ with h1 | h1
        · exact apart n cs b _ _ f1 f2 a h1
        · exact absurd l.lt (by omega)
    · rcases h.obj n cs f2 with ⟨a, c⟩ | ⟨b', o₂, s₂, vs, T, fz, a, l⟩
      · rw[hp _ _ a] at e3; cases e3
      · rcases h.obj m ds g2 with ⟨a', c'⟩ | ⟨b'', o₃, s₃, vs', T', fz', a', l'⟩
        · rw[hp _ _ a'] at e4; cases e4
        · rw [hp _ _ a] at e3; cases e3
          rw[hp _ _ a'] at e4; cases e4
          exact h.inj n m cs ds _ _ _ _ _ f2 g2 a a'
  · refine ⟨he.imm, he.size, fun b hb hn => he.kept b hb (fun ho => hn (ownSub b ho)), fun b cs e => ?_, ?_, he.io⟩
    · rcases he.newImm b cs e with h1 | h1 | h1
      · exact .inl h1
      · exact .inr (.inl h1)
      · exact .inr (.inr (ownSub b h1))
    · rintro b ⟨n, cs, o, s, e1, e2⟩
      rcases hH n cs e1 with f1 | ⟨f1,f2⟩
      · rcases he.own b ⟨n, cs, o, s, f1, e2⟩ with h1 | h1
        · exact .inl (ownSub b h1)
        · exact .inr h1
      · rcases h.obj n cs f2 with ⟨a, c⟩ | ⟨b', o₂, s₂, vs, T, fz, a, l⟩
        · rw[hp _ _ a] at e2; cases e2
        · rw [hp _ _ a] at e2; cases e2
          exact .inl ⟨n,cs,_,_,f2,a⟩
end Go.LE
namespace Go.LE
def litV:Value→LV
  | .agg cs => .agg (cs.toList.map .v)
  | x => .v x
def qaQ:Operand→LX
  | .tmp t => .t t
  | .const v => .c (litV v)
  | .global g => .g g
  | .func f => .c (.fn (.func f) [] [])
def szOf (P:Program) (t:TypeId):Option Nat:=(P.info? t).map (·.size)
def qda (P:Program) (t:TypeId):Option Nat:=(P.info? t).map (·.bytes)
def qdA (P:Program) (t:TypeId):Option (Array Value):=((P.info? t).bind (·.zero)).map (·.cells)
def qb7 (P:Program) (t:TypeId):Option Bool :=
  match P.underlying t with
  | some (.struct _)=>some true
  | some (.array _ _)=>some true
  | some _=>some false
  | none=>none
def qeg (P:Program) (g:TypeId→Option (List Leaf)):List Field→Nat→Option (List Leaf)
  | [],_=>some []
  | f::fs,at_=>match g f.type,szOf P f.type,qb7 P f.type with
    | some k,some k',some agg=>if f.name ≠ "_" ∧ f.offset=at_∧k.length=k'∧(agg=false→k'=1) then (qeg P g fs (at_+k')).map (k ++ ·) else none
    | _,_,_=>none
def qeZ (P:Program):Nat→TypeId→Option (List Leaf)
  | 0,_=>none
  | d+1,t=>match P.underlying t with
    | some .bool=>some [.bool]
    | some (.int _)=>some [.int]
    | some .string=>some [.str]
    | some (.array n e)=>match qeZ P d e,szOf P e,qb7 P e with
      | some k,some k',some agg=>if k.length=k'∧(agg=false→k'=1) then some (List.replicate n k).flatten else none
      | _,_,_=>none
    | some (.struct fs)=>if P.stoodInHeld t then none else qeg P (qeZ P d) fs.toList 0
    | _=>none
def sameLeaf:Leaf→Leaf→Bool
  | .int,.int=>true
  | .bool,.bool=>true
  | .str,.str=>true
  | _,_=>false
def qfy:List Leaf→List (Nat × Leaf)
  | []=>[]
  | l::ls=>match qfy ls with
    | (n,m)::rs=>if sameLeaf l m then (n+1,m)::rs else (1,l)::(n,m)::rs
    | []=>[(1,l)]
def eqType (P:Program) (t:TypeId):EqT :=
  match P.underlying t with
  | some .bool => .bool
  | some (.pointer _) => .ptr
  | some (.slice _) => .slice
  | some (.func _ _ _) => .func
  | some (.array _ _)=>(if P.eqGuardType P.depth t then .none else match qeZ P 8 t with | some ls => .flat (qfy ls) | none => .none)
  | some (.struct _)=>(if P.eqGuardType P.depth t then .none else match qeZ P 8 t with | some ls => .flat (qfy ls) | none => .none)
  | _ => .none
def qcV (f:Nat→Option (Nat × Nat)):List (Nat × Operand)→Option (List (Nat × Nat × LX))
  | []=>some []
  | (i,x)::rest=>match f i,qcV f rest with
    | some (off,n),some ps=>some ((off,n,qaQ x)::ps)
    | _,_=>none
def qeF (P:Program):List Field→Option (List (Nat × Nat))
  | []=>some []
  | f::fs=>match szOf P f.type,qeF P fs with
    | some n,some ps=>some ((f.offset,n)::ps)
    | _,_=>none
def isSliceT (P:Program) (t:TypeId):Bool :=
  match P.underlying t with
  | some (.slice _)=>true
  | _=>false
def qfz (P:Program) (c:Call):Option LOp :=
  match c.callee with
  | .value f=>some (.call (qaQ f) (c.args.toList.map qaQ))
  | .invoke _ _=>none
  | .builtin b =>
    match b,c.args.toList,c.argTypes.toList with
    | .len,[x],[t]=>(match P.underlying t with
      | some .string=>some (.lenT (qaQ x))
      | some (.slice _)=>some (.len (qaQ x))
      | some (.array n _)=>some (.lenA n)
      | some (.pointer arr)=>(match P.underlying arr with | some (.array n _)=>some (.lenA n) | _=>none)
      | _=>none)
    | .append,[x,y],[t,u]=>(match P.underlying t,P.underlying u with
      | some (.slice e),some (.int _)=>(match szOf P e,qda P e,qdA P e with
        | some n,some b,some z=>if 0 < n∧0 < b∧z.size=n then some (.appz n b (z.toList.map .v) (qaQ x) (qaQ y)) else none
        | _,_,_=>none)
      | some (.slice e),some _=>(match szOf P e,qda P e,qdA P e with
        | some n,some b,some z=>if 0 < n∧0 < b∧z.size=n then some (.append n b (isSliceT P e) (qaQ x) (qaQ y)) else none
        | _,_,_=>none)
      | _,_=>none)
    | .copy,[x,y],t::_=>(match P.underlying t with
      | some (.slice e)=>(match szOf P e with | some n=>if 0 < n then some (.copy n (qaQ x) (qaQ y)) else none | none=>none)
      | _=>none)
    | .min,_,_=>some (.mnmx false (c.args.toList.map qaQ))
    | .max,_,_=>some (.mnmx true (c.args.toList.map qaQ))
    | _,_,_=>none
def qea (P:Program) (op:Op):Option LOp :=
  match op with
  | .move x=>some (.mv (qaQ x))
  | .assign x=>some (.mv (qaQ x))
  | .pick c a b=>some (.pick (qaQ c) (qaQ a) (qaQ b))
  | .alloc t=>(qdA P t).map fun z => .new (z.toList.map .v)
  | .box _ x=>some (.box (qaQ x))
  | .build t parts=>(match P.underlying t,qdA P t with
    | some (.struct fs),some z=>(qeF P fs.toList).bind fun ps=>(qcV (ps[·]?) parts.toList).map fun qs => .build (z.toList.map .v) qs
    | some (.array _ e),some z=>(szOf P e).bind fun n=>(qcV (fun i=>some (i*n,n)) parts.toList).map fun qs => .build (z.toList.map .v) qs
    | _,_=>none)
  | .buildSlice t len parts=>(match P.underlying t with
    | some (.slice e)=>(match szOf P e,qdA P e with
      | some n,some z=>if 0 < n∧len*n≤2 ^ 24∧z.size=n then (qcV (fun i=>some (i*n,n)) parts.toList).map fun qs =>
          .mkrow n ((List.replicate len (z.toList.map LV.v)).flatten) qs len else none
      | _,_=>none)
    | _=>none)
  | .load t a=>(match qb7 P t,szOf P t with
    | some true,some n=>some (.ld n (qaQ a))
    | some false,_=>some (.ld1 (qaQ a))
    | _,_=>none)
  | .store t a x=>(szOf P t).map fun n => .st n (qaQ a) (qaQ x)
  | .nilCheck x=>some (.chk (qaQ x))
  | .binOp op t x y _=>some (.bin op (eqType P t) (qaQ x) (qaQ y))
  | .unOp op _ x=>some (.un op (qaQ x))
  | .convert src dst x=>(match P.underlying src,P.underlying dst with
    | some _,some (.int k)=>some (.cvt k (qaQ x))
    | some .string,some (.slice e)=>(match P.underlying e with | some (.int .u8)=>some (.s2b (qaQ x)) | _=>none)
    | some (.slice e),some .string=>(match P.underlying e with | some (.int .u8)=>some (.b2s (qaQ x)) | _=>none)
    | some (.slice _),some (.slice e)=>if src=dst then (match P.underlying e with | some (.int .u8)=>some (.cvs (qaQ x)) | _=>none) else none
    | _,_=>none)
  | .sliceToArrayPointer t x=>(match P.underlying t with
    | some (.array n _)=>some (.arrp n (qaQ x))
    | _=>none)
  | .makeFunc f a b=>some (.fn f (a.toList.map qaQ) (b.toList.map qaQ))
  | .makeSlice t l c=>(match P.underlying t with
    | some (.slice e)=>(match szOf P e,qda P e,qdA P e with
      | some n,some b,some z=>if 0 < n∧z.size=n then some (.mkslice n b (z.toList.map .v) (qaQ l) (qaQ c)) else none
      | _,_,_=>none)
    | _=>none)
  | .slice t x lo hi mx=>(match P.underlying t with
    | some (.array n e)=>(szOf P e).map fun s => .slcA n s (qaQ x) (lo.map qaQ) (hi.map qaQ) (mx.map qaQ)
    | some (.slice e)=>(szOf P e).map fun s => .slcS s (qaQ x) (lo.map qaQ) (hi.map qaQ) (mx.map qaQ)
    | some .string=>if mx.isNone then some (.slcT (qaQ x) (lo.map qaQ) (hi.map qaQ)) else none
    | some (.pointer arr)=>(match P.underlying arr with
      | some (.array n e)=>(szOf P e).map fun s => .slcA n s (qaQ x) (lo.map qaQ) (hi.map qaQ) (mx.map qaQ)
      | _=>none)
    | _=>none)
  | .fieldAddr t x i=>(match P.underlying t with
    | some (.struct fs)=>(match fs[i]? with
      | some f=>(match szOf P f.type with | some n=>if 0 < n then some (.fa f.offset (qaQ x)) else none | none=>none)
      | none=>none)
    | _=>none)
  | .field t x i=>(match P.underlying t with
    | some (.struct fs)=>(match fs[i]? with
      | some f=>(match qb7 P f.type,szOf P f.type with
        | some true,some n=>some (.fld f.offset n (qaQ x))
        | some false,_=>some (.fld1 f.offset (qaQ x))
        | _,_=>none)
      | none=>none)
    | _=>none)
  | .indexAddr t x i=>(match P.underlying t with
    | some (.array n e)=>(szOf P e).map fun s => .iaA n s (qaQ x) (qaQ i)
    | some (.slice e)=>(szOf P e).map fun s => .iaS s (qaQ x) (qaQ i)
    | _=>none)
  | .index t x i=>(match P.underlying t with
    | some (.array n e)=>(match qb7 P e,szOf P e with
      | some true,some s=>some (.ix n s s (qaQ x) (qaQ i))
      | some false,some s=>some (.ix1 n s (qaQ x) (qaQ i))
      | _,_=>none)
    | some .string=>some (.ixT (qaQ x) (qaQ i))
    | _=>none)
  | .extract x i=>some (.ext (qaQ x) i)
  | .call c=>qfz P c
  | .panic _=>some (.mnmx false [])
  | .makeInterface _ _=>some (.mnmx false [])
  | _=>none
def heapy:LOp→Bool
  | .ld1 _ | .ld _ _ | .st _ _ _ | .b2s _ | .cvs _ | .append _ _ _ _ _ | .appz _ _ _ _ _ | .copy _ _ _ | .call _ _=>true
  | _=>false
def qeA (ops:Array Oper) (o:Oper):Option (Option (Nat × Bool)) :=
  match o.guard with
  | none=>some none
  | some (j,want)=>match (ops[j]?).bind (·.dst) with
    | some t=>some (some (t,want))
    | none=>none
def qfp (acc:List Nat) (o:Oper):Nat :=
  o.after.toList.foldl (fun s e=>if Region.binds .any e then s ||| 2 ^ e.on ||| acc.getD e.on 0 else s) 0
def qdG (acc:List Nat):List Oper→List Nat
  | []=>acc
  | o::os=>qdG (acc++[qfp acc o]) os
def qcB (ops:List Oper):List Nat:=qdG [] ops
def pairOk (ops:Array Oper) (i j:Nat) (oi oj:Oper) (aj:Nat):Bool :=
  aj.testBit i || oi.apart ops oj
def qeR (P:Program) (ops:Array Oper) (draw:Bool) (as:List Nat) (i:Nat) (o:Oper):Option LOper :=
  match qea P o.op,qeA ops o with
  | some lo,some g=>some { dst:=o.dst,op:=lo,guard:=g,ord:=if draw && heapy lo then some (as.getD i 0) else none }
  | _,_=>none
def qcv (P:Program) (ops:Array Oper) (draw:Bool) (as:List Nat):Nat→List Oper→Option (List LOper)
  | _,[]=>some []
  | i,o::os=>match qeR P ops draw as i o,qcv P ops draw as (i+1) os with
    | some x,some xs=>some (x::xs)
    | _,_=>none
def orderOk (ops:Array Oper) (as:List Nat):Bool :=
  let os:=ops.toList.zipIdx
  os.all (fun (o,i)=>o.after.all fun e => !Region.binds .any e || e.on < i) &&
  os.all fun (oj,j)=>os.all fun (oi,i) => !(i < j) || pairOk ops i j oi oj (as.getD j 0)
def qgr (P:Program) (ops:Array Oper) (draw:Bool):Option (List LOper) :=
  let as:=if draw then qcB ops.toList else []
  if !draw || (P.follows .mixedOrders && orderOk ops as) then qcv P ops draw as 0 ops.toList else none
def comp (P:Program):Code→Option LCode
  | .skip=>some .skip
  | .region _ ops draw=>(qgr P ops draw).map .region
  | .seq a b=>match comp P a,comp P b with | some x,some y=>some (.seq x y) | _,_=>none
  | .cond c a b=>match comp P a,comp P b with | some x,some y=>some (.cond (qaQ c) x y) | _,_=>none
  | .block id c=>(comp P c).map (.block id)
  | .loop c=>(comp P c).map (.loop [])
  | .exit id=>some (.exit id)
  | .ret=>some .ret
  | _=>none
def bitX:LX→Nat
  | .t n=>2 ^ n
  | _=>0
def bitsO:Option LX→Nat
  | some x=>bitX x
  | none=>0
def orAll (l:List Nat):Nat:=l.foldl (· ||| ·) 0
def uses:LOp→Nat
  | .mv x | .box x | .ld1 x | .ld _ x | .chk x | .un _ x | .cvt _ x | .s2b x | .b2s x | .cvs x | .arrp _ x | .fa _ x | .fld1 _ x | .fld _ _ x | .ext x _ | .len x | .lenT x=>bitX x
  | .pick c a b=>bitX c ||| bitX a ||| bitX b
  | .new _ | .lenA _=>0
  | .build _ ps=>orAll (ps.map fun p=>bitX p.2.2)
  | .mkrow _ _ ps _=>orAll (ps.map fun p=>bitX p.2.2)
  | .st _ x y | .bin _ _ x y | .mkslice _ _ _ x y | .iaA _ _ x y | .iaS _ x y | .ix1 _ _ x y | .ix _ _ _ x y | .ixT x y | .append _ _ _ x y | .appz _ _ _ x y | .copy _ x y=>bitX x ||| bitX y
  | .fn _ a b=>orAll (a.map bitX) ||| orAll (b.map bitX)
  | .slcA _ _ x lo hi mx | .slcS _ x lo hi mx=>bitX x ||| bitsO lo ||| bitsO hi ||| bitsO mx
  | .slcT x lo hi=>bitX x ||| bitsO lo ||| bitsO hi
  | .call f as=>bitX f ||| orAll (as.map bitX)
  | .mnmx _ as=>orAll (as.map bitX)
def liveOper (o:LOper) (out:Nat):Nat :=
  let k:=match o.guard,o.dst with
    | none,some d=>out ^^^ (out &&& 2 ^ d)
    | _,_=>out
  k ||| uses o.op ||| (match o.guard with | some (t,_)=>2 ^ t | none=>0)
def exitAt (id:Nat):List (Nat × Nat)→Nat
  | []=>0
  | (i,m)::es=>if i=id then m else exitAt id es
def marked (n:Nat) (m:Nat):List Bool:=(List.range n).map m.testBit
def qeh (n ret:Nat):LCode→Nat→List (Nat × Nat)→LCode × Nat
  | .skip,out,_=>(.skip,out)
  | .region ops,out,_=>(.region ops,ops.foldr liveOper out)
  | .seq a b,out,es =>
    let (b',m):=qeh n ret b out es
    let (a',m'):=qeh n ret a m es
    (.seq a' b',m')
  | .seqz a s b,out,es =>
    let (b',m):=qeh n ret b out es
    let (a',m'):=qeh n ret a m es
    (.seqz a' s b',m')
  | .cond c a b,out,es =>
    let (a',m):=qeh n ret a out es
    let (b',m'):=qeh n ret b out es
    (.cond c a' b',bitX c ||| m ||| m')
  | .block id c,out,es =>
    let (c',m):=qeh n ret c out ((id,out)::es)
    (.block id c',m)
  | .loop _ c,_,es =>
    let m₁:=(qeh n ret c 0 es).2
    let m₂:=(qeh n ret c m₁ es).2
    let (c',m₃):=qeh n ret c m₂ es
    (.loop (marked n m₃) c',m₃)
  | .exit id,_,es=>(.exit id,exitAt id es)
  | .ret,_,_=>(.ret,ret)
def qdu (P:Program):List ResultVar→Option (List LRes)
  | []=>some []
  | .tmp t::rs=>(qdu P rs).map (.tmp t :: ·)
  | .cell a t::rs=>match qb7 P t,szOf P t,qdu P rs with
    | some true,some n,some xs=>some (.agg a n::xs)
    | some false,_,some xs=>some (.one a::xs)
    | _,_,_=>none
def qf8:List LRes→Nat
  | []=>0
  | .tmp t::rs | .one t::rs | .agg t _::rs=>2 ^ t ||| qf8 rs
def qaU (P:Program) (f:FuncId):Option LFun :=
  match P.funcs[f]? with
  | none=>none
  | some fn=>if fn.name == "runtime.NumGoroutine" then none else match fn.body with
    | none=>none
    | some c=>match comp P c,qdu P fn.results.toList with
      | some lc,some rs=>some { ntmps:=fn.ntmps,results:=rs,body:=(qeh fn.ntmps (qf8 rs) lc (qf8 rs) []).1 }
      | _,_=>none
def appends (s:Nat) (ops:List LOper):Bool :=
  ops.any fun o=>match o.op with
    | .mkrow _ _ [(_,_,.t d)] _=>ops.any (fun q=>(match q.op with | .mv (.t u)=>u == s && q.dst == some d | _=>false)) && ops.any fun q=>(match q.op with | .append _ _ true _ _=>true | _=>false)
    | _=>false
def qdq (s:Nat):LCode→Bool
  | .region ops=>appends s ops
  | .seq (.region ops) _=>appends s ops
  | _=>false
end Go.LE
namespace Go.LE
variable {P:Program} {w:World}
theorem qcb {t:TypeId} {n:Nat} (h:szOf P t=some n):(sizeOf t).run P w = .ok n w:=by
  unfold szOf at h
  cases hi:P.info? t with
  | none=>simp[hi] at h
  | some i=>simp[hi] at h; subst h; simp[sizeOf,typeInfo,hi]
theorem run_info {t:TypeId} {i:TypeInfo} (h:P.info? t=some i):(typeInfo t).run P w = .ok i w:=by simp[typeInfo,h]
theorem qhh {t:TypeId} {n:Nat} (h:qda P t=some n):∃ i,(typeInfo t).run P w = .ok i w∧i.bytes=n:=by
  unfold qda at h
  cases hi:P.info? t with
  | none=>simp[hi] at h
  | some i=>simp[hi] at h; exact ⟨i,run_info hi,h⟩
theorem qdB {t:TypeId} {z:Array Value} (h:qdA P t=some z):∃ v,(∀ w,(zeroValue t).run P w = .ok v w)∧v.cells=z:=by
  unfold qdA at h
  cases hi:P.info? t with
  | none=>simp[hi] at h
  | some i =>
    cases hz:i.zero with
    | none=>simp[hi,hz] at h
    | some v=>simp[hi,hz] at h; exact ⟨v,fun w=>by simp[zeroValue,typeInfo,hi,hz],h⟩
theorem qei {t:TypeId} {b:Bool} (h:qb7 P t=some b):(isAgg t).run P w = .ok b w:=by
  unfold qb7 at h
  cases hu:P.underlying t with
  | none=>simp[hu] at h
  | some d=>cases d <;> simp[hu] at h <;> subst h <;> simp[isAgg,run_underlying hu]
theorem cell_of {b o:Nat} {vs:Array Value} {T:TypeId} {fz:Nat × Nat} (h:w.heap[b]? = some (.cells vs T fz)):w.cell? ⟨b,o,none⟩=vs[o]? := by
  simp[World.cell?,h]
theorem frozen_of {b o:Nat} {vs:Array Value} {T:TypeId} {fz:Nat × Nat} (h:w.heap[b]? = some (.cells vs T fz)) (hf:fz.2≤fz.1∨vs.size≤fz.1) (ho:o < vs.size) :
    w.frozen? ⟨b,o,none⟩=false:=by
  obtain ⟨lo,hi⟩:=fz
  simp only[World.frozen?,h]
  simp at hf ⊢
  omega
theorem qhb {b o:Nat} {vs:Array Value} {T:TypeId} {fz:Nat × Nat} (h:w.heap[b]? = some (.cells vs T fz)) :
    ∀ (n i : Nat) (acc : Array Value), o + i + n ≤ vs.size →
      (loadCellsFrom ⟨b,o,none⟩ i n acc).run P w = .ok (acc++((vs.toList.drop (o+i)).take n).toArray) w:=by
  intro n
  induction n with
  | zero=>intro i acc _; simp[loadCellsFrom]
  | succ n ih =>
    intro i acc hb
    have hlt:o+i < vs.size:=by omega
    have hc:w.cell? (Addr.add ⟨b,o,none⟩ i)=some vs[o+i]:=by
      rw[Addr.add_lit,cell_of h,Array.getElem?_eq_getElem hlt]
    simp only[loadCellsFrom,Sem.run_bind,run_load,hc,Result.andThen_ok]
    rw[ih (i+1) _ (by omega)]
    congr 1
    have e:vs.toList.drop (o+i)=vs[o+i]::vs.toList.drop (o+(i+1)):=by
      rw[List.drop_eq_getElem_cons (by simpa using hlt)]
      simp[Nat.add_assoc]
    rw[e,zf]
    apply Array.ext'
    simp
theorem qfg {b o n:Nat} {vs:Array Value} {T:TypeId} {fz:Nat × Nat} (h:w.heap[b]? = some (.cells vs T fz)) (hb:o+n≤vs.size) :
    (loadCells ⟨b,o,none⟩ n).run P w = .ok ((vs.toList.drop o).take n).toArray w:=by
  have:=qhb (P:=P) h n 0 #[] (by simpa using hb)
  simpa [loadCells] using this
def qeG (w:World) (b:Nat) (o:Obj):World:={ w with heap:=w.heap.setIfInBounds b o }
def qcd (vs:Array Value) (o:Nat) (l:List Value):Array Value:=(vs.toList.take o++l++vs.toList.drop (o+l.length)).toArray
theorem qgS {vs:Array Value} {o:Nat} {l:List Value} (h:o+l.length≤vs.size):(qcd vs o l).size=vs.size:=by
  simp[qcd]; omega
theorem setBlk_same {w:World} {b:Nat} {x:Obj} (h:w.heap[b]? = some x):qeG w b x=w:=by
  obtain ⟨hlt,he⟩:=Array.getElem?_eq_some_iff.1 h
  unfold qeG
  have:w.heap.setIfInBounds b x=w.heap:=by
    apply Array.ext'
    simp only[Array.toList_setIfInBounds]
    rw[←he]
    exact List.set_getElem_self (by simpa using hlt)
  rw[this]
theorem qf9 {b:Nat} {T:TypeId} {fz:Nat × Nat}:∀ (l:List Value) (i o:Nat) (vs:Array Value) (w:World),w.heap[b]? = some (.cells vs T fz) →
    (fz.2 ≤ fz.1 ∨ vs.size ≤ fz.1) → o + i + l.length ≤ vs.size → (∀ v ∈ l, v.oneCell' = true) →
      (storeCells ⟨b,o,none⟩ l i).run P w = .ok () (qeG w b (.cells (qcd vs (o+i) l) T fz)):=by
  intro l
  induction l with
  | nil =>
    intro i o vs w h _ _ _
    have:qcd vs (o+i) []=vs:=by apply Array.ext'; simp[qcd]
    rw[this,setBlk_same h]
    rfl
  | cons v l ih =>
    intro i o vs w h hf hb hv
    simp only[zE] at hb
    have hlt:o+i < vs.size:=by omega
    have h1:(store (Addr.add ⟨b,o,none⟩ i) v).run P w = .ok () (qeG w b (.cells (vs.setIfInBounds (o+i) v) T fz)):=by
      rw[Addr.add_lit]
      rw[run_store P w _ v _ (hv v (by simp))]
      rw[cell_of h,Array.getElem?_eq_getElem hlt]
      simp only[frozen_of h hf hlt]
      simp only[zP,zM]
      congr 1
      unfold qeG World.setCell
      obtain ⟨hbl,he⟩:=Array.getElem?_eq_some_iff.1 h
      congr 1
      apply Array.ext (by simp)
      intro j hj hj'
      simp only[Array.getElem_modify]
      by_cases hbj:b=j
      · subst hbj; simp[he]
      · simp only [hbj, zM]
        rw[Array.getElem_setIfInBounds_ne (by simpa using hj') hbj]
    simp only[storeCells,Sem.run_bind,h1,Result.andThen_ok]
    have hbl:b < w.heap.size:=(Array.getElem?_eq_some_iff.1 h).1
    rw[ih (i+1) o (vs.setIfInBounds (o+i) v) _ (by simp[qeG,hbl]) (by simpa using hf) (by simp; omega) (fun x hx=>hv x (by simp[hx]))]
    congr 1
    have e:qcd (vs.setIfInBounds (o+i) v) (o+(i+1)) l=qcd vs (o+i) (v::l):=by
      apply Array.ext'
      simp only[qcd,Array.toList_setIfInBounds,zE]
      rw[List.drop_set_of_lt (by omega),show o+(i+1)=o+i+1 from rfl,show o+i+1+l.length=o+i+(l.length+1) by omega]
      rw[show List.take (o+i+1) (vs.toList.set (o+i) v)=List.take (o+i) vs.toList++[v] by
        rw[List.take_succ_eq_append_getElem (by simpa using hlt),List.take_set_of_le (Nat.le_refl _)]
        simp]
      simp
    rw[e]
    unfold qeG
    simp
theorem qhs {R:Imm} {p:qa0} {xs:List LV} {ys:List Value} (h:Rep R p xs ys) (hc:xs.all qaB=true):∀ v ∈ ys,v.oneCell'=true:=by
  induction xs generalizing ys with
  | nil=>cases h; simp
  | cons x xs ih =>
    obtain ⟨y,ys,rfl,h1,h2⟩:=h.uncons
    simp only[zT,Bool.and_eq_true] at hc
    intro v hv
    rcases List.mem_cons.1 hv with rfl | hv
    · have hx := hc.1
      clear hc ih h h2
      cases h1 <;> first
        | rfl
        | (exfalso; simp[qaB] at hx; done)
        | (cases v <;> first | rfl | (exfalso; simp[qaB] at hx; done))
    · exact ih h2 hc.2 v hv
theorem qfW {R:Imm} {p:qa0} {x:LV} {y:Value} {xs:qal} (h:Rep1 R p x y) (hx:qbe x=some xs):Rep R p xs y.cells.toList:=by
  cases h with
  | undef _=>simp[qbe] at hx
  | v _=>simp[qbe] at hx; subst hx; exact Rep.plain _
  | agg a _=>simp[qbe] at hx; subst hx; simpa [Value.cells] using a
  | ptr a _=>simp[qbe] at hx; subst hx; exact .ptr a .nil
  | sl0 a _=>simp[qbe] at hx; subst hx; exact .sl0 a .nil
  | sl a b c d _=>simp[qbe] at hx; subst hx; exact .sl a b c d .nil
  | ipt a b _=>simp[qbe] at hx; subst hx; exact .ipt a b .nil
  | isl0 _=>simp[qbe] at hx; subst hx; exact .isl0 .nil
  | isl a b c _=>simp[qbe] at hx; subst hx; exact .isl a b c .nil
  | fn a b _=>simp[qbe] at hx; subst hx; exact .fn a b .nil
  | tup a _=>simp[qbe] at hx; subst hx; exact .tup a .nil
end Go.LE
namespace Go.LE
variable {P:Program} {R:Imm} {p:qa0}
def eqL:List Leaf→List Value→List Value→Option Bool
  | [],[],[]=>some true
  | l::ls,x::xs,y::ys=>match qdm l x y,eqL ls xs ys with | some a,some b=>some (a && b) | _,_=>none
  | _,_,_=>none
theorem qht:∀ {ls:List Leaf} {xs ys:List Value} {b:Bool},eqL ls xs ys=some b→xs.length=ls.length∧ys.length=ls.length
  | [],[],[],_,_=>⟨rfl,rfl⟩
  | l::ls,x::xs,y::ys,b,h=>by
    simp only[eqL] at h
    cases h1:qdm l x y with
    | none=>simp[h1] at h
    | some a=>cases h2:eqL ls xs ys with
      | none=>simp[h1,h2] at h
      | some c=>obtain ⟨e1,e2⟩:=qht h2; simp[e1,e2]
  | [],_::_,_,_,h=>by simp[eqL] at h
  | [],[],_::_,_,h=>by simp[eqL] at h
  | _::_,[],_,_,h=>by simp[eqL] at h
  | _::_,_::_,[],_,h=>by simp[eqL] at h
theorem qgs:∀ (ls ms:List Leaf) (xs ys:List Value) (b:Bool),eqL (ls++ms) xs ys=some b →
    ∃ b1 b2,eqL ls (xs.take ls.length) (ys.take ls.length)=some b1∧eqL ms (xs.drop ls.length) (ys.drop ls.length)=some b2∧b=(b1 && b2)
  | [],ms,xs,ys,b,h=>⟨true,b,by simp[eqL],by simpa using h,by simp⟩
  | l::ls,ms,x::xs,y::ys,b,h=>by
    simp only[zS,eqL] at h
    cases h1:qdm l x y with
    | none=>simp[h1] at h
    | some a=>cases h2:eqL (ls++ms) xs ys with
      | none=>simp[h1,h2] at h
      | some c =>
        simp[h1,h2] at h
        obtain ⟨b1,b2,e1,e2,e3⟩:=qgs ls ms xs ys c h2
        refine ⟨a && b1,b2,by simp[eqL,h1,e1],by simpa using e2,?_⟩
        rw[←h,e3,Bool.and_assoc]
  | l::ls,ms,[],_,b,h=>by simp[eqL] at h
  | l::ls,ms,_::_,[],b,h=>by simp[eqL] at h
def qfA:List (Nat × Leaf)→List Leaf
  | []=>[]
  | (n,l)::rs=>List.replicate n l++qfA rs
theorem qgJ:∀ ls,qfA (qfy ls)=ls
  | []=>rfl
  | l::ls=>by
    have ih:=qgJ ls
    simp only[qfy]
    cases hr:qfy ls with
    | nil=>rw[hr] at ih; simp[qfA] at ih ⊢; exact ih
    | cons q rs =>
      obtain ⟨n,m⟩:=q
      rw[hr] at ih
      simp only
      split
      · rename_i hs
        have:l=m:=by cases l <;> cases m <;> simp_all [sameLeaf]
        subst this
        simp only[qfA] at ih ⊢
        rw[List.replicate_succ,zS,ih]
      · simp only [qfA] at ih ⊢
        rw[ih]; rfl
theorem eqU_rep:∀ (l:Leaf) (xs ys:qal) (us vs:List Value) (b:Bool),Rep R p xs us→Rep R p ys vs→eqU l xs ys=some b→eqL (List.replicate xs.length l) us vs=some b:=by
  intro l xs
  induction xs with
  | nil =>
    intro ys us vs b hx hy h
    cases ys with
    | nil=>cases hx; cases hy; simpa [eqU,eqL] using h
    | cons _ _=>simp[eqU] at h
  | cons x xs ih =>
    intro ys us vs b hx hy h
    cases ys with
    | nil=>cases x <;> simp[eqU] at h
    | cons y ys =>
      cases x with
      | v u=>cases y with
        | v v =>
          obtain ⟨u',us,rfl,h1,h2⟩:=hx.uncons
          obtain ⟨v',vs,rfl,h3,h4⟩:=hy.uncons
          cases h1; cases h3
          simp only[eqU] at h
          cases e1:qdm l u v with
          | none=>simp[e1] at h
          | some a=>cases e2:eqU l xs ys with
            | none=>simp[e1,e2] at h
            | some c =>
              simp[e1,e2] at h
              simp only[zE,List.replicate_succ,eqL,e1,ih ys us vs c h2 h4 e2]
              rw[h]
        | _=>simp[eqU] at h
      | _=>simp[eqU] at h
theorem eqR_rep:∀ (rs:List (Nat × Leaf)) (xs ys:qal) (us vs:List Value) (b:Bool),Rep R p xs us→Rep R p ys vs→eqR rs xs ys=some b→eqL (qfA rs) us vs=some b
  | [],xs,ys,us,vs,b,hx,hy,h=>by
    cases xs with
    | nil=>cases ys with
      | nil=>cases hx; cases hy; simpa [eqR,eqL,qfA] using h
      | cons _ _=>simp[eqR] at h
    | cons _ _=>simp[eqR] at h
  | (n,l)::rs,xs,ys,us,vs,b,hx,hy,h=>by
    simp only[eqR] at h
    split at h
    · rename_i hn
      cases h1:eqU l (xs.take n) (ys.take n) with
      | none=>simp[h1] at h
      | some a=>cases h2:eqR rs (xs.drop n) (ys.drop n) with
        | none=>simp[h1,h2] at h
        | some c =>
          simp[h1,h2] at h
          have e1:=eqU_rep l _ _ _ _ a (hx.take n) (hy.take n) h1
          have e2:=eqR_rep rs _ _ _ _ c (hx.drop n) (hy.drop n) h2
          rw[zU,Nat.min_eq_left hn.1] at e1
          have join:∀ (ls ms:List Leaf) (us vs:List Value) (k:Nat) (a c:Bool),ls.length=k→eqL ls (us.take k) (vs.take k)=some a→eqL ms (us.drop k) (vs.drop k)=some c→eqL (ls++ms) us vs=some (a && c):=by
            intro ls
            induction ls with
            | nil=>intro ms us vs k a c hk q1 q2; simp at hk; subst hk; simp[eqL] at q1; subst q1; simpa using q2
            | cons l ls ih =>
              intro ms us vs k a c hk q1 q2
              cases k with
              | zero=>simp at hk
              | succ k =>
                cases us with
                | nil=>simp[eqL] at q1
                | cons u us=>cases vs with
                  | nil=>simp[eqL] at q1
                  | cons v vs =>
                    simp only[zf,eqL] at q1
                    simp only[zd] at q2
                    cases z1:qdm l u v with
                    | none=>simp[z1] at q1
                    | some a1=>cases z2:eqL ls (us.take k) (vs.take k) with
                      | none=>simp[z1,z2] at q1
                      | some a2 =>
                        simp[z1,z2] at q1
                        simp only[zS,eqL,z1,ih ms us vs k a2 c (by simpa using hk) z2 q2]
                        rw[←q1,Bool.and_assoc]
          rw[←h]
          exact join _ _ _ _ n _ _ (by simp) e1 e2
    · cases h
theorem run_leaf {t:TypeId} {l:Leaf} {x y:Value} {b:Bool} {w:World} (d:Nat)
    (ht:(P.underlying t=some .bool∧l = .bool)∨(∃ k,P.underlying t=some (.int k)∧l = .int)∨(P.underlying t=some .string∧l = .str))
    (h:qdm l x y=some b):(Op.equalIn (d+1) t x y).run P w = .ok b w:=by
  rcases ht with ⟨hu,rfl⟩ | ⟨k,hu,rfl⟩ | ⟨hu,rfl⟩
  · cases x <;> cases y <;> simp [qdm] at h
    subst h
    exact run_equalIn_bool' w d t _ _ hu
  · cases x <;> cases y <;> simp [qdm] at h
    obtain ⟨rfl,rfl⟩:=h
    exact run_equalIn_int w d t _ _ _ _ hu
  · cases x <;> cases y <;> simp [qdm] at h
    subst h
    exact run_equalIn_string w d t _ _ hu
theorem qeH {t:TypeId} {n off:Nat} {xs:Array Value} {w:World} (ha:qb7 P t=some true) (hs:szOf P t=some n) :
    (part t xs off).run P w = .ok (.agg (xs.extract off (off+n))) w:=by
  simp[part,qei ha,qcb hs]
theorem qeI {t:TypeId} {off:Nat} {xs:Array Value} {v:Value} {w:World} (ha:qb7 P t=some false) (hv:xs[off]? = some v) :
    (part t xs off).run P w = .ok v w:=by
  simp[part,qei ha,hv]
def EqOk (P:Program) (d:Nat) (t:TypeId) (ls:List Leaf):Prop :=
  (qb7 P t=some true→∀ (xs ys:Array Value) (b:Bool) (w:World),eqL ls xs.toList ys.toList=some b→(Op.equalIn d t (.agg xs) (.agg ys)).run P w = .ok b w) ∧
  (qb7 P t=some false→∀ (x y:Value) (b:Bool) (w:World),eqL ls [x] [y]=some b→(Op.equalIn d t x y).run P w = .ok b w)
theorem seg_run {d:Nat} {t:TypeId} {ls:List Leaf} {n off:Nat} {agg:Bool} (ok:EqOk P d t ls) (hs:szOf P t=some n) (ha:qb7 P t=some agg) (hl:ls.length=n)
    (h1:agg=false→n=1) (xs ys:Array Value) (b:Bool) (w:World) (h:eqL ls ((xs.toList.drop off).take n) ((ys.toList.drop off).take n)=some b) :
    ∃ u v,(part t xs off).run P w = .ok u w∧(part t ys off).run P w = .ok v w∧(Op.equalIn d t u v).run P w = .ok b w:=by
  cases agg with
  | true =>
    refine ⟨_,_,qeH ha hs,qeH ha hs,ok.1 ha _ _ b w ?_⟩
    rw[←h]
    congr 1 <;> (simp [Array.toList_extract,List.extract_eq_take_drop])
  | false =>
    have hn:=h1 rfl
    subst hn
    obtain ⟨e1,e2⟩:=qht h
    rw[hl] at e1 e2
    obtain ⟨u,hu⟩:∃ u,(xs.toList.drop off).take 1=[u]:=by
      cases hq:(xs.toList.drop off).take 1 with
      | nil=>simp[hq] at e1
      | cons u r=>cases r with
        | nil=>exact ⟨u,rfl⟩
        | cons _ _=>simp[hq] at e1
    obtain ⟨v,hv⟩:∃ u,(ys.toList.drop off).take 1=[u]:=by
      cases hq:(ys.toList.drop off).take 1 with
      | nil=>simp[hq] at e2
      | cons u r=>cases r with
        | nil=>exact ⟨u,rfl⟩
        | cons _ _=>simp[hq] at e2
    have get:∀ (zs:Array Value) (z:Value),(zs.toList.drop off).take 1=[z]→zs[off]? = some z:=by
      intro zs z hz
      have:=congrArg (fun l=>l[0]?) hz
      simpa [List.getElem?_take,List.getElem?_drop] using this
    rw[hu,hv] at h
    exact ⟨u,v,qeI ha (get xs u hu),qeI ha (get ys v hv),ok.2 ha u v b w h⟩
theorem run_items {d:Nat} {e:TypeId} {ls:List Leaf} {n:Nat} {agg:Bool} (ok:EqOk P d e ls) (hs:szOf P e=some n) (ha:qb7 P e=some agg) (hl:ls.length=n)
    (h1 : agg = false → n = 1) (xs ys : Array Value) : ∀ (m i : Nat) (b : Bool) (w : World), eqL (List.replicate m ls).flatten (xs.toList.drop (i * n)) (ys.toList.drop (i * n)) = some b →
      (Op.eqItems d e n xs ys (List.range' i m)).run P w = .ok b w:=by
  intro m
  induction m with
  | zero =>
    intro i b w h
    have:b=true:=by
      cases hx:xs.toList.drop (i*n) <;> cases hy:ys.toList.drop (i*n) <;> simp[hx,hy,eqL] at h
      exact h
    simp[Op.eqItems,this]
  | succ m ih =>
    intro i b w h
    rw[List.replicate_succ,List.flatten_cons] at h
    obtain ⟨b1,b2,e1,e2,rfl⟩:=qgs _ _ _ _ _ h
    rw[hl] at e1 e2
    obtain ⟨u,v,p1,p2,p3⟩:=seg_run (off:=i*n) ok hs ha hl h1 xs ys b1 w e1
    rw[List.drop_drop,List.drop_drop,show i*n+n=(i+1)*n by rw[Nat.succ_mul]] at e2
    simp only[List.range'_succ,Op.eqItems,Sem.run_bind,p1,p2,p3,Result.andThen_ok]
    cases b1
    · simp
    · simpa using ih (i+1) b2 w e2
theorem run_fields {d:Nat} (g:TypeId→Option (List Leaf)) (ok:∀ t ls,g t=some ls→EqOk P d t ls) (xs ys:Array Value):∀ (fs:List Field) (at_:Nat) (ls:List Leaf) (b:Bool) (w:World),
    qeg P g fs at_=some ls→eqL ls (xs.toList.drop at_) (ys.toList.drop at_)=some b→(Op.eqFields d xs ys fs).run P w = .ok b w:=by
  intro fs
  induction fs with
  | nil =>
    intro at_ ls b w hf h
    simp[qeg] at hf
    subst hf
    have:b=true:=by
      cases hx:xs.toList.drop at_ <;> cases hy:ys.toList.drop at_ <;> simp[hx,hy,eqL] at h
      exact h
    simp[Op.eqFields,this]
  | cons f fs ih =>
    intro at_ ls b w hf h
    simp only[qeg] at hf
    cases hg:g f.type with
    | none=>simp[hg] at hf
    | some k=>cases hs:szOf P f.type with
      | none=>simp[hg,hs] at hf
      | some k'=>cases ha:qb7 P f.type with
        | none=>simp[hg,hs,ha] at hf
        | some agg =>
          simp only[hg,hs,ha] at hf
          split at hf
          · rename_i hc
            obtain ⟨c1,c2,c3,c4⟩:=hc
            cases hr:qeg P g fs (at_+k') with
            | none=>simp[hr] at hf
            | some rest =>
              simp[hr] at hf
              subst hf
              obtain ⟨b1,b2,e1,e2,rfl⟩:=qgs _ _ _ _ _ h
              rw[c3] at e1 e2
              obtain ⟨u,v,p1,p2,p3⟩:=seg_run (off:=at_) (ok _ _ hg) hs ha c3 c4 xs ys b1 w e1
              rw[List.drop_drop,List.drop_drop] at e2
              subst c2
              simp only[Op.eqFields,c1,ne_eq,not_false_eq_true,zG,Sem.run_bind,p1,p2,p3,Result.andThen_ok]
              cases b1
              · simp
              · simpa using ih _ rest b2 w hr e2
          · cases hf
theorem flat_ok:∀ (f d:Nat) (t:TypeId) (ls:List Leaf),qeZ P f t=some ls→EqOk P (d+f) t ls:=by
  intro f
  induction f with
  | zero=>intro d t ls h; simp[qeZ] at h
  | succ f ih =>
    intro d t ls h
    have hd:d+(f+1)=(d+f)+1:=rfl
    rw[hd]
    simp only[qeZ] at h
    have plain : ∀ (l : Leaf), ls = [l] → qb7 P t = some false → ((P.underlying t = some .bool ∧ l = .bool) ∨ (∃ k, P.underlying t = some (.int k) ∧ l = .int) ∨ (P.underlying t = some .string ∧ l = .str)) →
        EqOk P ((d+f)+1) t ls:=by
      rintro l rfl ha ht
      refine ⟨fun ha'=>by rw[ha] at ha'; simp at ha',fun _ x y b w hb => ?_⟩
      simp only[eqL] at hb
      cases hl:qdm l x y with
      | none=>simp[hl] at hb
      | some c=>simp[hl] at hb; subst hb; exact run_leaf _ ht hl
    cases hu:P.underlying t with
    | none=>simp[hu] at h
    | some td =>
      cases td with
      | bool=>simp[hu] at h; exact plain .bool h.symm (by simp[qb7,hu]) (.inl ⟨hu,rfl⟩)
      | int k=>simp[hu] at h; exact plain .int h.symm (by simp[qb7,hu]) (.inr (.inl ⟨k,hu,rfl⟩))
      | string=>simp[hu] at h; exact plain .str h.symm (by simp[qb7,hu]) (.inr (.inr ⟨hu,rfl⟩))
      | array n e =>
        simp only[hu] at h
        cases h1:qeZ P f e with
        | none=>simp[h1] at h
        | some k=>cases h2:szOf P e with
          | none=>simp[h1,h2] at h
          | some k'=>cases h3:qb7 P e with
            | none=>simp[h1,h2,h3] at h
            | some agg =>
              simp only[h1,h2,h3] at h
              split at h
              · rename_i hc
                simp at h
                subst h
                refine ⟨fun _ xs ys b w hb => ?_,fun ha=>by simp[qb7,hu] at ha⟩
                obtain ⟨i,hi⟩:∃ i,P.info? e=some i:=by
                  unfold szOf at h2
                  cases hi:P.info? e with
                  | none=>simp[hi] at h2
                  | some i=>exact ⟨i,rfl⟩
                rw[run_equalIn_array w (d+f) xs ys hu hi]
                have hz:P.cellsOf e=k':=by
                  unfold szOf at h2
                  simp[Program.cellsOf,h2]
                rw[hz,List.range_eq_range']
                exact run_items (ih d e k h1) h2 h3 hc.1 hc.2 xs ys n 0 b w (by simpa using hb)
              · cases h
      | struct fs =>
        simp only[hu] at h
        split at h
        · cases h
        · rename_i hst
          refine ⟨fun _ xs ys b w hb => ?_,fun ha=>by simp[qb7,hu] at ha⟩
          have hf:P.fieldsOf t=fs:=by simp[Program.fieldsOf,hu]
          rw[run_equalIn_struct w (d+f) t xs ys (by rw[hu,hf]) (by simpa using hst),hf]
          exact run_fields (qeZ P f) (fun t ls h=>ih d t ls h) xs ys fs.toList 0 ls b w h (by simpa using hb)
      | _=>simp[hu] at h
end Go.LE
namespace Go.LE
variable {P:Program} {R:Imm} {p:qa0} {gl:Nat→Option qal}
def qdr (gl:Nat→Option qal) (R:Imm):Prop := ∀ g xs,gl g=some xs→∃ cs,R g=some cs∧xs=cs.map .v
theorem litV_rep (x:Value):Rep1 R p (litV x) x:=by
  cases x with
  | agg cs=>simpa [litV] using (Rep.agg (R:=R) (p:=p) (Rep.plain cs.toList) .nil)
  | _=>exact .v .nil
theorem evX_rep {a:Act} {tm:List LV} (hg:qdr gl R) (ht:Rep R p tm a.tmps.toList) (x:Operand):Rep1 R p (evX gl tm (qaQ x)) (a.eval x):=by
  cases x with
  | tmp t =>
    simp only[qaQ,evX,Act.eval]
    cases h:tm[t]? with
    | none=>simp[List.getD,h]; exact .undef .nil
    | some x =>
      obtain ⟨y,hy,hr⟩:=ht.get h
      simp at hy
      simpa [List.getD,h,Array.getD_eq_getD_getElem?,hy] using hr
  | const v=>exact litV_rep v
  | global g =>
    simp only[qaQ,evX,Act.eval]
    cases h:gl g with
    | none=>exact .undef .nil
    | some xs =>
      obtain ⟨cs,h1,rfl⟩:=hg g xs h
      exact .ipt h1 (by simpa using Rep.plain cs) .nil
  | func f=>exact .fn .nil .nil .nil
theorem qfB {op:BinOp} {k:IntKind} {a b c:Int} {w:World} (h:bitI op k a b=some c):(Op.intBits op k a b).run P w = .ok (.int k c) w:=by
  cases op <;> simp only[bitI,reduceCtorEq] at h <;> first | (injection h with h; subst h; rfl) | cases h
theorem binI_run {op:BinOp} {t:TypeId} {k k':IntKind} {a b:Int} {z:Value} {w:World} (h:binI op k a k' b=some z):(binOp op t (.int k a) (.int k' b)).run P w = .ok z w:=by
  cases op <;> simp only[binI] at h
  case shl=>split at h <;> simp at h; rename_i hb; subst h; rw[binOp_shl]; simp[Op.shift,hb]
  case shr=>split at h <;> simp at h; rename_i hb; subst h; rw[binOp_shr]; simp[Op.shift,hb]
  case add=>split at h <;> simp at h; subst_vars; rw[binOp_add]; rfl
  case sub=>split at h <;> simp at h; subst_vars; rw[binOp_sub]; rfl
  case mul=>split at h <;> simp at h; subst_vars; rw[binOp_mul]; rfl
  case quo=>split at h <;> simp at h; obtain ⟨h0,rfl⟩:=h; subst_vars; rw[binOp_quo]; simp[Op.intDiv,h0]
  case rem=>split at h <;> simp at h; obtain ⟨h0,rfl⟩:=h; subst_vars; rw[binOp_rem]; simp[Op.intDiv,h0]
  case and=>split at h <;> simp at h; obtain ⟨c,h0,rfl⟩:=h; subst_vars; rw[binOp_and]; exact qfB h0
  case or=>split at h <;> simp at h; obtain ⟨c,h0,rfl⟩:=h; subst_vars; rw[binOp_or]; exact qfB h0
  case xor=>split at h <;> simp at h; obtain ⟨c,h0,rfl⟩:=h; subst_vars; rw[binOp_xor]; exact qfB h0
  case andNot=>split at h <;> simp at h; obtain ⟨c,h0,rfl⟩:=h; subst_vars; rw[binOp_andNot]; exact qfB h0
  all_goals
    split at h <;> simp[cmpI] at h
    try (subst_vars; simp[binOp,Op.intCmp])
theorem strOp_run {op:BinOp} {t:TypeId} {a b:ByteArray} {z:Value} {w:World} (h:strOp op a b=some z):(binOp op t (.string a) (.string b)).run P w = .ok z w:=by
  cases op <;> simp[strOp] at h
  case add =>
    obtain ⟨h0,rfl⟩:=h
    have:¬ ((a.size+b.size:Nat):Int) > IntKind.i64.max:=by rw[IntKind.max_i64]; omega
    simp only[binOp,Op.stringOp]
    rw[if_neg this]
    rfl
  case eql=>subst h; simp[binOp,Op.stringOp]
  case neq=>subst h; simp[binOp,Op.stringOp]
theorem aggOf_rep {x:LV} {y:Value} {xs:qal} (h:Rep1 R p x y) (hx:aggOf x=some xs):∃ cs,y = .agg cs∧Rep R p xs cs.toList:=by
  cases h <;> simp[aggOf] at hx
  case v =>
    cases y <;> simp at hx
    subst hx
    exact ⟨_,rfl,Rep.plain _⟩
  case agg a _=>subst hx; exact ⟨_,rfl,by simpa using a⟩
theorem binOp_eq (t:TypeId) {u v:Value} (h:(∃ cs,u = .agg cs)∨(∃ c,u = .bool c)∨(∃ a,u = .pointer a)∨(∃ a n c,u = .slice a n c)∨u = .nilFunc∨(∃ f a c,u = .func f a c)) :
    binOp .eql t u v=(do pure (.bool (←Op.equal t u v)))∧binOp .neq t u v=(do pure (.bool (!(←Op.equal t u v)))):=by
  rcases h with ⟨_,rfl⟩ | ⟨_,rfl⟩ | ⟨_,rfl⟩ | ⟨_,_,_,rfl⟩ | rfl | ⟨_,_,_,rfl⟩ <;> constructor <;> cases v <;> rfl
def Held (P:Program) (t:TypeId) (u v:Value) (b:Bool):Prop :=
  (∀ op ox oy (w : World), (eqGuard op t ox oy u v).run P w = .ok () w) ∧ (∀ w : World, (Op.equal t u v).run P w = .ok b w) ∧
    ((∃ cs,u = .agg cs)∨(∃ c,u = .bool c)∨(∃ a,u = .pointer a)∨(∃ a n c,u = .slice a n c)∨u = .nilFunc∨(∃ f a c,u = .func f a c))
theorem Held.run {t:TypeId} {u v:Value} {b:Bool} {w:World} (h:Held P t u v b) (ox oy:Operand) :
    ((do eqGuard .eql t ox oy u v; binOp .eql t u v:Sem Value)).run P w = .ok (.bool b) w∧((do eqGuard .neq t ox oy u v; binOp .neq t u v:Sem Value)).run P w = .ok (.bool !b) w:=by
  obtain ⟨h1,h2,h3⟩:=h
  obtain ⟨e1,e2⟩:=binOp_eq t (v:=v) h3
  constructor
  · rw[e1]; simp only[Sem.run_bind,h1,Result.andThen_ok,h2,Sem.run_pure]
  · rw[e2]; simp only[Sem.run_bind,h1,Result.andThen_ok,h2,Sem.run_pure]
theorem nilP_rep {x:LV} {y:Value} {b:Bool} (hx:Rep1 R p x y) (h:nilP x=some b):∃ a,y = .pointer a∧b=a.isNone:=by
  cases hx <;> simp[nilP] at h
  case v =>
    cases y <;> try (simp at h; done)
    rename_i a
    cases a <;> simp at h
    exact ⟨_,rfl,by simp[←h]⟩
  all_goals exact ⟨_,rfl,by simp[←h]⟩
theorem nilS_rep {x:LV} {y:Value} {b:Bool} (hx:Rep1 R p x y) (h:nilS x=some b):∃ a n c,y = .slice a n c∧b=a.isNone:=by
  cases hx <;> simp[nilS] at h
  case v =>
    cases y <;> try (simp at h; done)
    rename_i a _ _
    cases a <;> simp at h
    exact ⟨_,_,_,rfl,by simp[←h]⟩
  case sl0=>exact ⟨_,_,_,rfl,h⟩
  case sl=>exact ⟨_,_,_,rfl,h⟩
  all_goals exact ⟨_,_,_,rfl,by simp[←h.2]⟩
theorem nilF_rep {x:LV} {y:Value} {b:Bool} (hx:Rep1 R p x y) (h:nilF x=some b):(y = .nilFunc∧b=true)∨(∃ f a c,y = .func f a c∧b=false):=by
  cases hx <;> simp[nilF] at h
  case v =>
    cases y <;> simp at h
    exact .inl ⟨rfl,h⟩
  case fn=>exact .inr ⟨_,_,_,rfl,h⟩
theorem nilCP_rep {x:LV} {y:Value} (hx:Rep1 R p x y) (h:nilCP x=true):y = .pointer none:=by
  cases hx <;> simp[nilCP] at h
  cases y <;> try (simp at h; done)
  rename_i a
  cases a <;> simp at h
  rfl
theorem nilCS_rep {x:LV} {y:Value} (hx:Rep1 R p x y) (h:nilCS x=true):y = .slice none 0 0:=by
  cases hx <;> simp[nilCS] at h
  cases y <;> try (simp at h; done)
  rename_i a n c
  cases a <;> try (simp at h; done)
  cases n <;> try (simp at h; done)
  cases c <;> try (simp at h; done)
  rfl
theorem nilCF_rep {x:LV} {y:Value} (hx:Rep1 R p x y) (h:nilCF x=true):y = .nilFunc:=by
  cases hx <;> simp[nilCF] at h
  cases y <;> simp at h
  rfl
theorem qgQ (d:Nat) (t e:TypeId) (a:Option Addr) (hu:P.underlying t=some (.pointer e)) (w:World):(Op.equalIn (d+1) t (.pointer a) (.pointer none)).run P w = .ok a.isNone w:=by
  cases a <;> simp[Op.equalIn,run_underlying hu]
theorem qgR (d:Nat) (t e:TypeId) (a:Option Addr) (hu:P.underlying t=some (.pointer e)) (w:World):(Op.equalIn (d+1) t (.pointer none) (.pointer a)).run P w = .ok a.isNone w:=by
  cases a <;> simp[Op.equalIn,run_underlying hu]
theorem qhc (d:Nat) (t e:TypeId) (a:Option Addr) (n c:Nat) (hu:P.underlying t=some (.slice e)) (w:World):(Op.equalIn (d+1) t (.slice a n c) (.slice none 0 0)).run P w = .ok a.isNone w:=by
  cases a <;> simp[Op.equalIn,run_underlying hu]
theorem qhu (d:Nat) (t:TypeId) (x y:Array TypeId) (z:Bool) (hu:P.underlying t=some (.func x y z)) (w:World):(Op.equalIn (d+1) t .nilFunc .nilFunc).run P w = .ok true w:=by
  simp[Op.equalIn,run_underlying hu]
theorem qhp (d:Nat) (t:TypeId) (x y:Array TypeId) (z:Bool) (f:Fn) (a c:Array Value) (hu:P.underlying t=some (.func x y z)) (w:World):(Op.equalIn (d+1) t (.func f a c) .nilFunc).run P w = .ok false w:=by
  simp[Op.equalIn,run_underlying hu]
theorem eqV_held {x y:LV} {u v:Value} {b:Bool} {t:TypeId} (hx:Rep1 R p x u) (hy:Rep1 R p y v) (h:eqV (eqType P t) x y=some b):Held P t u v b:=by
  unfold eqType at h
  cases hu:P.underlying t with
  | none=>simp[hu,eqV] at h
  | some d =>
    have flat:∀ rs,eqV (.flat rs) x y=some b→P.eqGuardType P.depth t=false→(∃ ls,qeZ P 8 t=some ls∧rs=qfy ls)→qb7 P t=some true→Held P t u v b:=by
      rintro rs he hg ⟨ls,hl,rfl⟩ hagg
      simp only[eqV] at he
      cases h1:aggOf x with
      | none=>simp[h1] at he
      | some xs=>cases h2:aggOf y with
        | none=>simp[h1,h2] at he
        | some ys =>
          simp only[h1,h2] at he
          obtain ⟨cs,rfl,r1⟩:=aggOf_rep hx h1
          obtain ⟨ds,rfl,r2⟩:=aggOf_rep hy h2
          have e:=eqR_rep _ _ _ _ _ _ r1 r2 he
          rw[qgJ] at e
          exact ⟨fun op ox oy w=>run_eqGuard_agg w op t ox oy cs ds hg,fun w=>(flat_ok 8 9992 t ls hl).1 hagg cs ds b w e,.inl ⟨_,rfl⟩⟩
    cases d with
    | bool =>
      simp only[hu] at h
      cases x <;> try (simp [eqV] at h; done)
      rename_i x
      cases y <;> try (simp [eqV] at h; done)
      rename_i y
      cases x <;> try (simp [eqV] at h; done)
      cases y <;> try (simp [eqV] at h; done)
      simp[eqV] at h
      cases hx; cases hy
      subst h
      exact ⟨fun op ox oy w=>by rw[eqGuard_at_bool]; rfl,fun w=>run_equalIn_bool' w 9999 t _ _ hu,.inr (.inl ⟨_,rfl⟩)⟩
    | pointer e =>
      simp only[hu,eqV] at h
      split at h
      · rename_i hc
        obtain ⟨a,rfl,rfl⟩:=nilP_rep hx h
        obtain rfl:=nilCP_rep hy hc
        exact ⟨fun op ox oy w=>by rw[eqGuard_at_pointer]; rfl,qgQ 9999 t e a hu,.inr (.inr (.inl ⟨_,rfl⟩))⟩
      · split at h
        · rename_i hc
          obtain ⟨a,rfl,rfl⟩:=nilP_rep hy h
          obtain rfl:=nilCP_rep hx hc
          exact ⟨fun op ox oy w=>by rw[eqGuard_at_pointer]; rfl,qgR 9999 t e a hu,.inr (.inr (.inl ⟨_,rfl⟩))⟩
        · cases h
    | slice e =>
      simp only[hu,eqV] at h
      split at h
      · rename_i hc
        obtain ⟨a,n,c,rfl,rfl⟩:=nilS_rep hx h
        obtain rfl:=nilCS_rep hy hc
        exact ⟨fun op ox oy w=>by rw[eqGuard_at_slice]; rfl,qhc 9999 t e a n c hu,.inr (.inr (.inr (.inl ⟨_,_,_,rfl⟩)))⟩
      · cases h
    | func x' y' z' =>
      simp only[hu,eqV] at h
      split at h
      · rename_i hc
        obtain rfl:=nilCF_rep hy hc
        rcases nilF_rep hx h with ⟨rfl,rfl⟩ | ⟨f,a,c,rfl,rfl⟩
        · exact ⟨fun op ox oy w=>by rw[eqGuard_at_nilFunc]; rfl,qhu 9999 t _ _ _ hu,.inr (.inr (.inr (.inr (.inl rfl))))⟩
        · exact ⟨fun op ox oy w=>by rw[eqGuard_at_func]; rfl,qhp 9999 t _ _ _ f a c hu,.inr (.inr (.inr (.inr (.inr ⟨_,_,_,rfl⟩))))⟩
      · cases h
    | array n e =>
      simp only[hu] at h
      split at h
      · simp[eqV] at h
      · rename_i hg
        split at h
        · rename_i ls hl
          exact flat _ h (by simpa using hg) ⟨ls,hl,rfl⟩ (by simp[qb7,hu])
        · simp[eqV] at h
    | struct fs =>
      simp only[hu] at h
      split at h
      · simp[eqV] at h
      · rename_i hg
        split at h
        · rename_i ls hl
          exact flat _ h (by simpa using hg) ⟨ls,hl,rfl⟩ (by simp[qb7,hu])
        · simp[eqV] at h
    | _=>simp[hu,eqV] at h
theorem binV_run {op:BinOp} {x y z:LV} {u v:Value} {t:TypeId} (hx:Rep1 R p x u) (hy:Rep1 R p y v) (h:binV op (eqType P t) x y=some z) (ox oy:Operand) :
    ∃ c,(∀ w:World,((do eqGuard op t ox oy u v; binOp op t u v:Sem Value)).run P w = .ok c w)∧Rep1 R p z c:=by
  unfold binV at h
  split at h
  · cases hx; cases hy
    simp at h
    obtain ⟨c,h,rfl⟩:=h
    exact ⟨c,fun w=>by rw[eqGuard_at_int]; simpa using binI_run h,.v .nil⟩
  · cases hx; cases hy
    simp at h
    obtain ⟨c,h,rfl⟩:=h
    exact ⟨c,fun w=>by rw[eqGuard_at_string]; simpa using strOp_run h,.v .nil⟩
  · split at h
    · obtain ⟨c, h1, rfl⟩ := Option.map_eq_some_iff.1 h
      exact ⟨.bool c,fun w=>((eqV_held hx hy h1).run (w:=w) ox oy).1,.v .nil⟩
    · obtain ⟨c, h1, rfl⟩ := Option.map_eq_some_iff.1 h
      exact ⟨.bool !c,fun w=>((eqV_held hx hy h1).run (w:=w) ox oy).2,.v .nil⟩
    · cases h
theorem unV_run {op:UnOp} {x z:LV} {u:Value} (hx:Rep1 R p x u) (h:unV op x=some z):∃ c,(∀ w:World,(Op.unary op u).run P w = .ok c w)∧Rep1 R p z c:=by
  unfold unV at h
  split at h
  · cases hx; obtain rfl:=Option.some.inj h; exact ⟨_,fun w=>rfl,.v .nil⟩
  · cases hx; obtain ⟨c,h1,rfl⟩:=Option.map_eq_some_iff.1 h; exact ⟨_,fun w=>qfB h1,.v .nil⟩
  · cases hx; obtain rfl:=Option.some.inj h; exact ⟨_,fun w=>rfl,.v .nil⟩
  · cases h
theorem qdh {x:LV} {y:Value} {n:Nat} (hx:Rep1 R p x y) (h:qco x=some n):∃ k,y = .int k n:=by
  unfold qco at h
  cases hi:intOf x with
  | none=>simp[hi] at h
  | some m =>
    simp only[hi] at h
    split at h
    · rename_i h0
      simp at h
      subst h
      cases x <;> try (simp [intOf] at hi; done)
      rename_i v
      cases v <;> try (simp [intOf] at hi; done)
      simp[intOf] at hi
      subst hi
      cases hx
      rename_i k q _
      exact ⟨k,by rw[Int.toNat_of_nonneg h0]⟩
    · cases h
theorem foldl_set (off:Nat):∀ (l:List Value) (k:Nat) (cs:Array Value),off+k+l.length≤cs.size →
    (l.zipIdx k).foldl (fun cs (q:Value × Nat)=>cs.setIfInBounds (off+q.2) q.1) cs=qcd cs (off+k) l:=by
  intro l
  induction l with
  | nil=>intro k cs _; apply Array.ext'; simp[qcd]
  | cons v l ih =>
    intro k cs hb
    simp only[zE] at hb
    simp only[List.zipIdx_cons,List.foldl_cons]
    rw[ih (k+1) _ (by simp; omega)]
    apply Array.ext'
    simp only[qcd,Array.toList_setIfInBounds,zE]
    rw[List.drop_set_of_lt (by omega),show off+(k+1)=off+k+1 from rfl,show off+k+1+l.length=off+k+(l.length+1) by omega]
    rw[show List.take (off+k+1) (cs.toList.set (off+k) v)=List.take (off+k) cs.toList++[v] by
      rw[List.take_succ_eq_append_getElem (by simp; omega),List.take_set_of_le (Nat.le_refl _)]
      simp]
    simp
theorem qhv {xs zs:qal} {ys us:List Value} {off:Nat} (h:Rep R p xs ys) (h':Rep R p zs us):Rep R p (qbh xs off zs) (ys.take off++us++ys.drop (off+us.length)):=by
  unfold qbh
  rw[h'.length]
  exact ((h.take off).append h').append (h.drop _)
theorem fill_run {place:Nat→Option (Nat × Nat)}:∀ (parts:List (Nat × Value)) (qs:List (Nat × Nat × LV)) (cells:qal) (cs:Array Value) (out:qal),
    Rep R p cells cs.toList→qs.length=parts.length →
    (∀ (i:Nat) (x:Nat × Value) (v:Nat × Nat × LV),parts[i]? = some x→qs[i]? = some v→place x.1=some (v.1,v.2.1)∧Rep1 R p v.2.2 x.2)→fill cells qs=some out →
    ∃ ds,Instr.fill place cs parts=some ds∧Rep R p out ds.toList:=by
  intro parts
  induction parts with
  | nil =>
    intro qs cells cs out h hl _ hf
    cases qs with
    | nil=>simp[fill] at hf; subst hf; exact ⟨cs,rfl,h⟩
    | cons _ _=>simp at hl
  | cons x parts ih =>
    intro qs cells cs out h hl hq hf
    cases qs with
    | nil=>simp at hl
    | cons q qs =>
      obtain ⟨off,n,X⟩:=q
      obtain ⟨i,v⟩:=x
      obtain ⟨hp,hr⟩:=hq 0 (i,v) (off,n,X) rfl rfl
      simp at hp hr
      simp only[fill] at hf
      cases hc:qbe X with
      | none=>simp[hc] at hf
      | some ys =>
        simp only[hc] at hf
        split at hf
        · rename_i hn
          obtain ⟨hn1,hn2⟩:=hn
          have hrep:=qfW hr hc
          have hsz:v.cells.size=n:=by have:=hrep.length; simp at this; omega
          have hcs:cs.size=cells.length:=by have:=h.length; simp at this; omega
          simp only[Instr.fill,hp]
          rw[if_neg (by simp[hsz,hcs]; omega)]
          have hfold:(v.cells.zipIdx.foldl (fun cs (q:Value × Nat)=>cs.setIfInBounds (off+q.2) q.1) cs)=qcd cs off v.cells.toList:=by
            have:=foldl_set off v.cells.toList 0 cs (by simp[hsz,hcs]; omega)
            rw[←Array.foldl_toList,Array.toList_zipIdx]
            simpa using this
          have e:(v.cells.zipIdx.foldl (fun cs (x:Value × Nat)=>match x with | (c,j)=>cs.setIfInBounds (off+j) c) cs)=qcd cs off v.cells.toList:=hfold
          rw[e]
          refine ih qs _ _ out ?_ (by simpa using hl) (fun i x v h1 h2=>hq (i+1) x v (by simpa using h1) (by simpa using h2)) hf
          simpa [qcd] using qhv (off:=off) h hrep
        · cases hf
def OptN (x:Option Value) (d n:Nat):Prop:=(x=none∧n=d)∨∃ k,x=some (.int k n)
theorem qcf {ρ:Operand→Value} {tm:List LV} (hX:∀ x,Rep1 R p (evX gl tm (qaQ x)) (ρ x)) {lo:Option Operand} {d n:Nat} (h:qbl gl tm d (lo.map qaQ)=some n) :
    OptN (lo.map ρ) d n:=by
  cases lo with
  | none=>simp[qbl] at h; exact .inl ⟨rfl,h.symm⟩
  | some x =>
    simp only[zC,qbl] at h
    obtain ⟨k,hk⟩:=qdh (hX x) h
    exact .inr ⟨k,by simp[hk]⟩
theorem qdM {k:IntKind} {i y:Nat} {c:BoundsCode} {w:World} (h:i≤y):(Instr.sliceBound (.int k i) y c).run P w = .ok i w:=by
  simp only[Instr.sliceBound,asIntOf,Sem.run_bind,Sem.run_pure,Result.andThen_ok]
  rw[if_pos ⟨by omega,by omega⟩]
  simp
theorem qd7 {isSlice:Bool} {len cap:Nat} {lo hi mx:Option Value} {l h m:Nat} {w:World} (hl:OptN lo 0 l) (hh:OptN hi len h) (hm:OptN mx cap m)
    (h1:l≤h) (h2:h≤m) (h3:m≤cap) (h4:mx.isSome=true→hi.isSome=true):(Instr.sliceBounds isSlice len cap lo hi mx).run P w = .ok (l,h,m) w:=by
  rcases hm with ⟨rfl,rfl⟩ | ⟨km,rfl⟩
  · rcases hh with ⟨rfl, rfl⟩ | ⟨kh, rfl⟩ <;> rcases hl with ⟨rfl, rfl⟩ | ⟨kl, rfl⟩ <;>
      simp only[Instr.sliceBounds,Sem.run_bind,Sem.run_pure,Result.andThen_ok,qdM h1,qdM h2]
  · rcases hh with ⟨rfl, rfl⟩ | ⟨kh, rfl⟩
    · simp at h4
    · rcases hl with ⟨rfl, rfl⟩ | ⟨kl, rfl⟩ <;>
        simp only[Instr.sliceBounds,Sem.run_bind,Sem.run_pure,Result.andThen_ok,qdM h1,qdM h2,qdM h3]
theorem qds {s:Sem Value} {x:Value} {w w':World} (h:s.run P w = .ok x w'):((do pure (.value (←s)):Sem Next)).run P w = .ok (.value x) w':=by
  simp[h]
theorem isl_rep {cs:List Value} {b o:Nat} {as:List LV} (hb:R b=some cs) (h:Rep R p as ((cs.drop o).take as.length)) (j n len c:Nat) (hc:len≤c) :
    Rep1 R p (.isl ((as.drop j).take n) len) (.slice (some ⟨b,o+j,none⟩) len c):=by
  refine .isl hb ?_ hc .nil
  have:=(h.drop j).take n
  have hl:=this.length
  have e:((cs.drop o).take as.length).drop j=((cs.drop (o+j)).take (as.length - j)):=by
    rw[List.drop_take,List.drop_drop]
  rw[e,List.take_take] at this
  rw[e,List.take_take] at hl
  have e2:((as.drop j).take n).length=min n (as.length - j):=by simp
  rw[e2]
  exact this
theorem ipt_rep {cs:List Value} {b o:Nat} {as:List LV} (hb:R b=some cs) (h:Rep R p as ((cs.drop o).take as.length)) (j:Nat) :
    Rep1 R p (.ipt (as.drop j)) (.pointer (some ⟨b,o+j,none⟩)):=by
  refine .ipt hb ?_ .nil
  have:=h.drop j
  rw[List.drop_take,List.drop_drop] at this
  rw[zR]
  exact this
end Go.LE
namespace Go.LE
variable {P:Program} {R:Imm} {p:qa0} {gl:Nat→Option qal}
theorem sl_mk {nm:Nm} {b o s off l h m size:Nat} (hp:p nm=some (.at b o s)) (h1:l≤h) (h2:h≤m) :
    Rep1 R p (.sl nm (off+l*size) (h - l) (some (m - l)) size) (.slice (some (if m=l then ⟨b,o+off,none⟩ else Addr.add ⟨b,o+off,none⟩ (l*size))) (h - l) (m - l)):=by
  by_cases e:m=l
  · obtain rfl : h = l := by omega
    rw[if_pos e,e,Nat.sub_self]
    exact .sl0 (by simp) .nil
  · rw [if_neg e, Addr.add_lit, Nat.add_assoc]
    exact .sl hp (by omega) (by simp) (by simp) .nil
theorem qhd {t e:TypeId} {n size:Nat} {a:Addr} {lo hi mx:Option Value} {l h m:Nat} {w:World} (hu:P.underlying t=some (.array n e)) (hs:szOf P e=some size)
    (hl:OptN lo 0 l) (hh:OptN hi n h) (hm:OptN mx n m) (h1:l≤h) (h2:h≤m) (h3:m≤n) (h4:mx.isSome=true→hi.isSome=true) :
    (Instr.sliceAt t (.pointer (some a)) lo hi mx).run P w = .ok (.slice (some (if m=l then a else a.add (l*size))) (h - l) (m - l)) w:=by
  simp only[Instr.sliceAt,Sem.run_bind,run_underlying hu,Result.andThen_ok,Instr.sureAddr,Sem.run_pure,qd7 hl hh hm h1 h2 h3 h4,qcb hs]
theorem qhw {t u e:TypeId} {n size:Nat} {a:Addr} {lo hi mx:Option Value} {l h m:Nat} {w:World} (hu:P.underlying t=some (.pointer u)) (hv:P.underlying u=some (.array n e))
    (hs:szOf P e=some size) (hl:OptN lo 0 l) (hh:OptN hi n h) (hm:OptN mx n m) (h1:l≤h) (h2:h≤m) (h3:m≤n) (h4:mx.isSome=true→hi.isSome=true) :
    (Instr.sliceAt t (.pointer (some a)) lo hi mx).run P w = .ok (.slice (some (if m=l then a else a.add (l*size))) (h - l) (m - l)) w:=by
  simp only[Instr.sliceAt,Instr.slice,Sem.run_bind,run_underlying hu,run_underlying hv,Result.andThen_ok,asAddr,Sem.run_pure,qd7 hl hh hm h1 h2 h3 h4,qcb hs]
theorem qhe {t e:TypeId} {size len cap:Nat} {a:Option Addr} {lo hi mx:Option Value} {l h m:Nat} {w:World} (hu:P.underlying t=some (.slice e)) (hs:szOf P e=some size)
    (hl:OptN lo 0 l) (hh:OptN hi len h) (hm:OptN mx cap m) (h1:l≤h) (h2:h≤m) (h3:m≤cap) (h4:mx.isSome=true→hi.isSome=true) :
    (Instr.sliceAt t (.slice a len cap) lo hi mx).run P w = .ok (.slice (if m=l then a else a.map (·.add (l*size))) (h - l) (m - l)) w:=by
  simp only[Instr.sliceAt,Instr.slice,Sem.run_bind,run_underlying hu,Result.andThen_ok,Sem.run_pure,qd7 hl hh hm h1 h2 h3 h4,qcb hs]
def slcA (n size:Nat) (X:LV) (l h m:Nat):Option LV :=
  if l≤h∧h≤m∧m≤n then match X with
    | .ptr nm off=>some (.sl nm (off+l*size) (h - l) (some (m - l)) size)
    | .ipt xs=>some (.isl ((xs.drop (l*size)).take ((h - l)*size)) (h - l))
    | _=>none else none
theorem slcA_rep {n size:Nat} {X z:LV} {x:Value} {l h m:Nat} (hx:Rep1 R p X x) (hz:slcA n size X l h m=some z) :
    ∃ a,x = .pointer (some a)∧l≤h∧h≤m∧m≤n∧Rep1 R p z (.slice (some (if m=l then a else a.add (l*size))) (h - l) (m - l)):=by
  unfold slcA at hz
  split at hz
  · rename_i hb
    obtain ⟨h1,h2,h3⟩:=hb
    split at hz
    · obtain rfl := Option.some.inj hz
      cases hx
      rename_i b o s hp _
      exact ⟨_,rfl,h1,h2,h3,sl_mk hp h1 h2⟩
    · obtain rfl := Option.some.inj hz
      cases hx
      rename_i b o cs hR hr _
      refine ⟨_,rfl,h1,h2,h3,?_⟩
      by_cases e:m=l
      · obtain rfl : h = l := by omega
        rw[Nat.sub_self]
        exact .isl0 .nil
      · rw [if_neg e, Addr.add_lit]
        exact isl_rep hR hr _ _ _ _ (by omega)
    · cases hz
  · cases hz
theorem pureOp_slcA {tm:List LV} {n size:Nat} {x:LX} {lo hi mx:Option LX} {z:LV} (h:qa2 gl tm (.slcA n size x lo hi mx)=some z) :
    ∃ l h m,qbl gl tm 0 lo=some l∧qbl gl tm n hi=some h∧qbl gl tm n mx=some m∧(mx.isSome=true→hi.isSome=true)∧slcA n size (evX gl tm x) l h m=some z:=by
  simp only[qa2] at h
  split at h
  · rename_i l h' m e1 e2 e3
    split at h
    · rename_i hb
      refine ⟨l,h',m,e1,e2,e3,hb.2.2.2,?_⟩
      unfold slcA
      rw[if_pos ⟨hb.1,hb.2.1,hb.2.2.1⟩]
      exact h
    · cases h
  · cases h
theorem slcS_rep {ρ:Operand→Value} {tm:List LV} (hX:∀ x,Rep1 R p (evX gl tm (qaQ x)) (ρ x)) {size:Nat} {x:Operand} {lo hi mx:Option Operand} {z:LV}
    (hz:qa2 gl tm (.slcS size (qaQ x) (lo.map qaQ) (hi.map qaQ) (mx.map qaQ))=some z) :
    ∃ a len cap l h m, ρ x = .slice a len cap ∧ OptN (lo.map ρ) 0 l ∧ OptN (hi.map ρ) len h ∧ OptN (mx.map ρ) cap m ∧ l ≤ h ∧ h ≤ m ∧ m ≤ cap ∧ ((mx.map ρ).isSome = true → (hi.map ρ).isSome = true) ∧
      Rep1 R p z (.slice (if m=l then a else a.map (·.add (l*size))) (h - l) (m - l)):=by
  have hx:=hX x
  simp only[qa2] at hz
  split at hz
  ·
    rename_i nm off len c es hev
    rw[hev] at hx
    split at hz
    · rename_i l h m e1 e2 e3
      split at hz
      · rename_i hb
        obtain ⟨h1,h2,h3,rfl,h4⟩:=hb
        obtain rfl:=Option.some.inj hz
        have o1:=qcf hX e1
        have o2:=qcf hX e2
        have o3:=qcf hX e3
        generalize hy:ρ x=y at hx
        cases hx with
        | sl0 hk _ =>
          have:=hk c rfl
          subst this
          obtain rfl:m=0:=by omega
          obtain rfl:h=0:=by omega
          obtain rfl:l=0:=by omega
          exact ⟨_,_,_,0,0,0,rfl,o1,o2,o3,h1,h2,h3,by simpa using h4,.sl0 (by simp) .nil⟩
        | sl hp hl hk _ _ =>
          have:=hk c rfl
          subst this
          refine ⟨_,_,_,l,h,m,rfl,o1,o2,o3,h1,h2,h3,by simpa using h4,?_⟩
          have:=sl_mk (R:=R) (size:=es) (off:=off) hp h1 h2
          by_cases e:m=l
          · simpa [e] using this
          · simpa [e] using this
      · cases hz
    · cases hz
  ·
    rename_i nm off len es hev
    rw[hev] at hx
    split at hz
    · rename_i hmx
      obtain rfl:mx=none:=by cases mx <;> simp at hmx; rfl
      split at hz
      · rename_i l h e1 e2
        split at hz
        · rename_i hb
          obtain ⟨h1,h2,rfl⟩:=hb
          obtain rfl:=Option.some.inj hz
          have o1:=qcf hX e1
          have o2:=qcf hX e2
          generalize hy:ρ x=y at hx
          cases hx with
          | sl0 hk _ =>
            obtain rfl:h=0:=by omega
            obtain rfl:l=0:=by omega
            exact ⟨_,_,_,0,0,0,rfl,o1,o2,.inl ⟨rfl,rfl⟩,h1,Nat.le_refl _,Nat.le_refl _,by simp,.sl0 (by simp) .nil⟩
          | @sl _ _ _ _ _ b o s c _ _ hp hl hk hs _ =>
            refine ⟨_,_,_,l,h,c,rfl,o1,o2,.inl ⟨rfl,rfl⟩,h1,by omega,Nat.le_refl _,by simp,?_⟩
            by_cases e:c=l
            · obtain rfl : h = l := by omega
              simp only[e,zG,Nat.sub_self]
              exact .sl0 (by simp) .nil
            · rw [if_neg e]
              simp only[zC,Addr.add_lit,Nat.add_assoc]
              refine .sl hp (by omega) (by simp) (fun _ => ?_) .nil
              have:=hs rfl
              have e3:l*es+(c - l)*es=c*es:=by rw[←Nat.add_mul]; congr 1; omega
              omega
        · cases hz
      · cases hz
    · rename_i hmx
      obtain ⟨mo,rfl⟩:∃ mo,mx=some mo:=by cases mx <;> simp at hmx; exact ⟨_,rfl⟩
      split at hz
      · rename_i l h m e1 e2 e4
        split at hz
        · rename_i hb
          obtain ⟨h1,h2,h3,rfl,h5⟩:=hb
          obtain rfl:=Option.some.inj hz
          have o1:=qcf hX e1
          have o2:=qcf hX e2
          obtain ⟨k,hk⟩:=qdh (hX mo) (show qco (evX gl tm (qaQ mo))=some m from e4)
          generalize hy:ρ x=y at hx
          cases hx with
          | sl0 hk' _ =>
            obtain rfl:m=0:=by omega
            obtain rfl:h=0:=by omega
            obtain rfl:l=0:=by omega
            exact ⟨_,_,_,0,0,0,rfl,o1,o2,.inr ⟨k,by simp[hk]⟩,h1,h2,Nat.le_refl _,by simpa using h5,.sl0 (by simp) .nil⟩
          | @sl _ _ _ _ _ b o s c _ _ hp hl hk' hs _ =>
            refine ⟨_,_,_,l,h,m,rfl,o1,o2,.inr ⟨k,by simp[hk]⟩,h1,h2,by omega,by simpa using h5,?_⟩
            have:=sl_mk (R:=R) (size:=es) (off:=off) hp h1 h2
            by_cases e:m=l
            · simpa [e] using this
            · simpa [e] using this
        · cases hz
      · cases hz
  ·
    rename_i xs len hev
    rw[hev] at hx
    split at hz
    · rename_i hmx
      obtain rfl:mx=none:=by cases mx <;> simp at hmx; rfl
      split at hz
      · rename_i l h e1 e2
        split at hz
        · rename_i hb
          obtain ⟨h1,h2⟩:=hb
          obtain rfl:=Option.some.inj hz
          have o1:=qcf hX e1
          have o2:=qcf hX e2
          generalize hy:ρ x=y at hx
          cases hx with
          | @isl0 _ a c _ _ _ =>
            obtain rfl:h=0:=by omega
            obtain rfl:l=0:=by omega
            exact ⟨_,_,_,0,0,c,rfl,o1,o2,.inl ⟨rfl,rfl⟩,h1,by omega,Nat.le_refl _,by simp,.isl0 .nil⟩
          | @isl _ _ b o c cs _ _ hR hr hl _ =>
            refine ⟨_,_,_,l,h,c,rfl,o1,o2,.inl ⟨rfl,rfl⟩,h1,by omega,Nat.le_refl _,by simp,?_⟩
            by_cases e:c=l
            · obtain rfl : h = l := by omega
              rw[Nat.sub_self]
              exact .isl0 .nil
            · rw [if_neg e]
              simp only[zC,Addr.add_lit]
              exact isl_rep hR hr _ _ _ _ (by omega)
        · cases hz
      · cases hz
    · cases hz
  ·
    rename_i hev
    rw[hev] at hx
    split at hz
    · rename_i hmx
      obtain rfl:mx=none:=by cases mx <;> simp at hmx; rfl
      split at hz
      · rename_i l h e1 e2
        split at hz
        · rename_i hb
          obtain ⟨rfl,rfl⟩:=hb
          obtain rfl:=Option.some.inj hz
          have o1:=qcf hX e1
          have o2:=qcf hX e2
          generalize hy:ρ x=y at hx
          cases hx
          exact ⟨_,_,_,0,0,0,rfl,o1,o2,.inl ⟨rfl,rfl⟩,Nat.le_refl _,Nat.le_refl _,Nat.le_refl _,by simp,.v .nil⟩
        · cases hz
      · cases hz
    · cases hz
  · cases hz
end Go.LE
namespace Go.LE
variable {P:Program} {R:Imm} {p:qa0} {gl:Nat→Option qal}
def qbM (P:Program) (R:Imm) (p:qa0) (m:Sem Next) (z:LV):Prop := ∃ v,(∀ w:World,m.run P w = .ok (.value v) w)∧Rep1 R p z v
theorem qbM.of {s:Sem Value} {z:LV} (h:∃ v,(∀ w:World,s.run P w = .ok v w)∧Rep1 R p z v):qbM P R p (do pure (.value (←s))) z:=by
  obtain ⟨v,h1,h2⟩:=h
  exact ⟨v,fun w=>qds (h1 w),h2⟩
theorem qfL {t e:TypeId} {n size j:Nat} {k:IntKind} {a:Addr} {w:World} (hu:P.underlying t=some (.array n e)) (hs:szOf P e=some size) (h:j < n) :
    (Instr.indexAt t (.pointer (some a)) (.int k j)).run P w = .ok (.pointer (some (a.add (j*size)))) w:=by
  simp only[Instr.indexAt,asIntOf,Instr.sureAddr,Sem.run_bind,run_underlying hu,Result.andThen_ok,Sem.run_pure]
  rw[if_pos ⟨by omega,by omega⟩]
  simp[qcb hs]
theorem qga {t e:TypeId} {len cap size j:Nat} {k:IntKind} {a:Addr} {w:World} (hu:P.underlying t=some (.slice e)) (hs:szOf P e=some size) (h:j < len) :
    (Instr.indexAt t (.slice (some a) len cap) (.int k j)).run P w = .ok (.pointer (some (a.add (j*size)))) w:=by
  simp only[Instr.indexAt,asIntOf,Sem.run_bind,run_underlying hu,Result.andThen_ok,Sem.run_pure]
  rw[if_pos ⟨by omega,by omega⟩]
  simp[qcb hs]
theorem qgK {f:Nat→Option (Nat × Nat)}:∀ {l:List (Nat × Operand)} {qs:List (Nat × Nat × LX)},qcV f l=some qs →
    qs.length=l.length∧∀ (i:Nat) (x:Nat × Operand) (q:Nat × Nat × LX),l[i]? = some x→qs[i]? = some q→f x.1=some (q.1,q.2.1)∧q.2.2=qaQ x.2
  | [],qs,h=>by simp[qcV] at h; subst h; simp
  | (j,x)::l,qs,h=>by
    simp only[qcV] at h
    split at h
    · rename_i off n ps h1 h2
      obtain rfl:=Option.some.inj h
      obtain ⟨e1,e2⟩:=qgK h2
      refine ⟨by simp[e1],fun i y q hy hq => ?_⟩
      cases i with
      | zero=>simp at hy hq; subst hy hq; exact ⟨h1,rfl⟩
      | succ i=>exact e2 i y q (by simpa using hy) (by simpa using hq)
    · cases h
theorem qgT {ρ:Operand→Value} {tm:List LV} (hX:∀ x,Rep1 R p (evX gl tm (qaQ x)) (ρ x)) {f:Nat→Option (Nat × Nat)} {l:List (Nat × Operand)} {qs:List (Nat × Nat × LX)}
    (h:qcV f l=some qs) {cells out:qal} {cs:Array Value} (hc:Rep R p cells cs.toList) (hf:fill cells (qs.map fun q=>(q.1,q.2.1,evX gl tm q.2.2))=some out) :
    ∃ ds,Instr.fill f cs (l.map fun q=>(q.1,ρ q.2))=some ds∧Rep R p out ds.toList:=by
  obtain ⟨e1,e2⟩:=qgK h
  refine fill_run (l.map fun q=>(q.1,ρ q.2)) (qs.map fun q=>(q.1,q.2.1,evX gl tm q.2.2)) cells cs out hc (by simp[e1]) (fun i x v hx hv => ?_) hf
  simp only[List.getElem?_map,zJ] at hx hv
  obtain ⟨x',hx',rfl⟩:=hx
  obtain ⟨v',hv',rfl⟩:=hv
  obtain ⟨a,b⟩:=e2 i x' v' hx' hv'
  exact ⟨a,by simp only[b]; exact hX _⟩
theorem qhx:∀ {fs:List Field} {ps:List (Nat × Nat)} {w:World},qeF P fs=some ps →
    (fs.mapM (fun f=>do pure (f.offset,←sizeOf f.type):Field→Sem (Nat × Nat))).run P w = .ok ps w
  | [],ps,w,h=>by simp[qeF] at h; subst h; simp
  | f::fs,ps,w,h=>by
    simp only[qeF] at h
    split at h
    · rename_i n qs h1 h2
      obtain rfl:=Option.some.inj h
      have ih:=qhx (w:=w) h2
      simp only[List.mapM_cons,Sem.run_bind,qcb h1,Result.andThen_ok,Sem.run_pure,ih]
    · cases h
theorem fnargs {ρ:Operand→Value} {tm:List LV} (hX:∀ x,Rep1 R p (evX gl tm (qaQ x)) (ρ x)) (l:List Operand):Rep R p ((l.map qaQ).map (evX gl tm)) (l.map ρ):=by
  induction l with
  | nil=>exact .nil
  | cons x l ih=>exact Rep.cons (hX x) ih
theorem mnmx_run (max:Bool):∀ (xs:List LV) (ys:List Value) (k:IntKind) (a:Int) (z:LV),Rep R p xs ys→LE.mnmx.go max k a xs=some z →
    ∃ v,(∀ w:World,(ys.foldlM (if max then Builtin.max2 else Builtin.min2) (.int k a)).run P w = .ok v w)∧Rep1 R p z v:=by
  intro xs
  induction xs with
  | nil=>intro ys k a z h hz; cases h; simp[LE.mnmx.go] at hz; subst hz; exact ⟨_,fun w=>by simp,.v .nil⟩
  | cons x xs ih =>
    intro ys k a z h hz
    obtain ⟨y,ys,rfl,h1,h2⟩:=h.uncons
    cases x <;> try (simp [LE.mnmx.go] at hz; done)
    rename_i v
    cases v <;> try (simp [LE.mnmx.go] at hz; done)
    rename_i k' b
    cases h1
    simp only[LE.mnmx.go] at hz
    obtain ⟨v,e1,e2⟩:=ih ys k (mn2 max a b) z h2 hz
    refine ⟨v,fun w => ?_,e2⟩
    simp only[List.foldlM_cons,Sem.run_bind]
    have:((if max then Builtin.max2 else Builtin.min2) (.int k a) (.int k' b)).run P w = .ok (.int k (mn2 max a b)) w:=by
      cases max <;> rfl
    rw[this]
    exact e1 w
theorem minmax (max:Bool) (type:TypeId) {ρ:Operand→Value} {tm:List LV} (hX:∀ x,Rep1 R p (evX gl tm (qaQ x)) (ρ x)) {args:Array Operand} {z:LV}
    (hz:LE.mnmx max ((args.toList.map qaQ).map (evX gl tm))=some z) {m:Sem Next} {T:Array TypeId}
    (hm:m=(do pure (.value (←(if max then Builtin.max_ T type (args.map ρ) else Builtin.min_ T type (args.map ρ)))):Sem Next)):qbM P R p m z:=by
  subst hm
  apply qbM.of
  have hl:=fnargs hX args.toList
  have e:(args.map ρ).toList=args.toList.map ρ:=by simp
  cases h:args.toList with
  | nil=>simp[h,LE.mnmx] at hz
  | cons x xs =>
    rw[h] at hl hz e
    simp only[zB] at hl hz e
    cases hq:evX gl tm (qaQ x) <;> (rw [hq] at hz) <;> try (simp [LE.mnmx] at hz; done)
    rename_i v
    cases v <;> try (simp [LE.mnmx] at hz; done)
    rename_i k a
    simp only[LE.mnmx] at hz
    have h1:=hl.head
    rw[hq] at h1
    generalize hy:ρ x=y at h1 e
    cases h1
    obtain ⟨v,e1,e2⟩:=mnmx_run (P:=P) max _ _ k a z hl.tail hz
    refine ⟨v,fun w => ?_,e2⟩
    cases max
    · show (Builtin.min_ T type (args.map ρ)).run P w = _
      unfold Builtin.min_; rw[e]; exact e1 w
    · show (Builtin.max_ T type (args.map ρ)).run P w = _
      unfold Builtin.max_; rw[e]; exact e1 w
theorem pure_sound {ρ:Operand→Value} {tm:List LV} (hX:∀ x,Rep1 R p (evX gl tm (qaQ x)) (ρ x)) {o:Oper} {lo:LOp} {z:LV} (hc:qea P o.op=some lo)
    (hz:qa2 gl tm lo=some z):qbM P R p (execOp ρ o) z:=by
  obtain ⟨dst,op,type,pos,after,guard⟩:=o
  simp only at hc
  cases op <;> simp only[qea] at hc
  case panic x=>obtain rfl:=Option.some.inj hc; cases hz
  case makeInterface t x=>obtain rfl:=Option.some.inj hc; cases hz
  case move x=>obtain rfl:=Option.some.inj hc; obtain rfl:=Option.some.inj hz; exact ⟨_,fun w=>rfl,hX x⟩
  case assign x=>obtain rfl:=Option.some.inj hc; obtain rfl:=Option.some.inj hz; exact ⟨_,fun w=>rfl,hX x⟩
  case pick c a b =>
    obtain rfl:=Option.some.inj hc
    simp only[qa2] at hz
    split at hz
    · rename_i t he
      obtain rfl:=Option.some.inj hz
      have h1:=hX c
      rw[he] at h1
      generalize hy:ρ c=y at h1
      cases h1
      refine ⟨if t then ρ a else ρ b,fun w => ?_,?_⟩
      · simp only[execOp,hy,asBool,Sem.run_bind,Sem.run_pure,Result.andThen_ok]
      · cases t <;> first | exact hX a | exact hX b
    · cases hz
  case alloc t=>simp only[zJ] at hc; obtain ⟨_,_,rfl⟩:=hc; simp[qa2] at hz
  case box t x=>obtain rfl:=Option.some.inj hc; simp[qa2] at hz
  case build t parts =>
    split at hc
    · rename_i fs zc hu hzc
      simp only[Option.bind_eq_some_iff,zJ] at hc
      obtain ⟨ps,hps,qs,hqs,rfl⟩:=hc
      simp only[qa2,zJ] at hz
      obtain ⟨out,hf,rfl⟩:=hz
      obtain ⟨zv,hz1,hz2⟩:=qdB hzc
      obtain ⟨ds,hd1,hd2⟩:=qgT hX hqs (Rep.plain zc.toList) hf
      refine qbM.of ⟨.agg ds,fun w => ?_,by simpa using Rep.agg hd2 .nil⟩
      simp only[Instr.build,Sem.run_bind,hz1,Result.andThen_ok,run_underlying hu]
      have e:(fs.mapM (fun f=>do pure (f.offset,←sizeOf f.type):Field→Sem (Nat × Nat))).run P w = .ok ps.toArray w:=by
        rw[Array.mapM_eq_mapM_toList]
        simp only[Sem.run_map,qhx hps,Result.andThen_ok]
      rw[e]
      simp only[Result.andThen_ok,hz2]
      have e2:(parts.map fun (x:Nat × Operand)=>match x with | (i,x)=>(i,ρ x)).toList=parts.toList.map fun q=>(q.1,ρ q.2):=by simp
      rw[e2]
      have e3:(fun (x:Nat)=>ps.toArray[x]?)=(fun (x:Nat)=>ps[x]?):=by funext x; simp
      rw[e3,hd1]
      rfl
    · rename_i len e zc hu hzc
      simp only[Option.bind_eq_some_iff,zJ] at hc
      obtain ⟨n,hn,qs,hqs,rfl⟩:=hc
      simp only[qa2,zJ] at hz
      obtain ⟨out,hf,rfl⟩:=hz
      obtain ⟨zv,hz1,hz2⟩:=qdB hzc
      obtain ⟨ds,hd1,hd2⟩:=qgT hX hqs (Rep.plain zc.toList) hf
      refine qbM.of ⟨.agg ds,fun w => ?_,by simpa using Rep.agg hd2 .nil⟩
      simp only[Instr.build,Sem.run_bind,hz1,Result.andThen_ok,run_underlying hu,qcb hn,hz2]
      have e2:(parts.map fun (x:Nat × Operand)=>match x with | (i,x)=>(i,ρ x)).toList=parts.toList.map fun q=>(q.1,ρ q.2):=by simp
      rw[e2,hd1]
      rfl
    · cases hc
  case buildSlice t len parts =>
    split at hc
    · split at hc
      · split at hc
        · simp only[zJ] at hc; obtain ⟨_,_,rfl⟩:=hc; simp[qa2] at hz
        · cases hc
      · cases hc
    · cases hc
  case load t a=>split at hc <;> (try cases hc) <;> simp[qa2] at hz
  case store t a x=>simp only[zJ] at hc; obtain ⟨_,_,rfl⟩:=hc; simp[qa2] at hz
  case nilCheck x =>
    obtain rfl:=Option.some.inj hc
    have hx:=hX x
    simp only[qa2] at hz
    split at hz <;> (try cases hz) <;> rename_i he <;> rw[he] at hx <;> generalize hy:ρ x=y at hx <;> cases hx
    · rename_i b o s hp _; exact ⟨_,fun w=>by simp only[execOp,hy]; rfl,.ptr hp .nil⟩
    · rename_i b o cs h1 h2 _; exact ⟨_,fun w=>by simp only[execOp,hy]; rfl,.ipt h1 h2 .nil⟩
    · rename_i as' bs' h1 h2 _; exact ⟨_,fun w=>by simp only[execOp,hy]; rfl,.fn h1 h2 .nil⟩
  case binOp op t x y u =>
    obtain rfl:=Option.some.inj hc
    exact qbM.of (binV_run (hX x) (hX y) hz x y)
  case unOp op t x =>
    obtain rfl:=Option.some.inj hc
    exact qbM.of (unV_run (hX x) hz)
  case convert src dst x =>
    split at hc
    · rename_i d k hu hv
      obtain rfl:=Option.some.inj hc
      have hx:=hX x
      simp only[qa2] at hz
      split at hz
      · rename_i k' n he
        obtain rfl:=Option.some.inj hz
        rw[he] at hx
        generalize hy:ρ x=y at hx
        cases hx
        refine qbM.of ⟨.int k (k.wrap n),fun w => ?_,.v .nil⟩
        simp only[hy,convert,Sem.run_bind,run_underlying hu,run_underlying hv,Result.andThen_ok]
        rfl
      · cases hz
    · split at hc <;> (try cases hc); simp[qa2] at hz
    · split at hc <;> (try cases hc); simp[qa2] at hz
    · split at hc
      · split at hc <;> (try cases hc); simp[qa2] at hz
      · cases hc
    · cases hc
  case sliceToArrayPointer t x =>
    split at hc
    · rename_i n e hu
      obtain rfl:=Option.some.inj hc
      have hx:=hX x
      simp only[qa2] at hz
      split at hz
      · rename_i m off len cap es he
        split at hz
        · rename_i hb
          obtain rfl:=Option.some.inj hz
          rw[he] at hx
          generalize hy:ρ x=y at hx
          cases hx with
          | sl0 _ _=>omega
          | sl hp hl hk hs _ =>
            refine qbM.of ⟨.pointer _,fun w => ?_,.ptr hp .nil⟩
            simp only[hy,Instr.arrayAt,Sem.run_bind,run_underlying hu,Result.andThen_ok]
            rw[if_neg (by omega)]
            rfl
        · cases hz
      · rename_i xs len he
        split at hz
        · rename_i hb
          obtain rfl:=Option.some.inj hz
          rw[he] at hx
          generalize hy:ρ x=y at hx
          cases hx with
          | isl0 _=>omega
          | isl h1 h2 hl _ =>
            refine qbM.of ⟨.pointer _,fun w => ?_,.ipt h1 h2 .nil⟩
            simp only[hy,Instr.arrayAt,Sem.run_bind,run_underlying hu,Result.andThen_ok]
            rw[if_neg (by omega)]
            rfl
        · cases hz
      · cases hz
    · cases hc
  case makeFunc f a b =>
    obtain rfl:=Option.some.inj hc
    obtain rfl:=Option.some.inj hz
    refine qbM.of ⟨.func f (a.map ρ) (b.map ρ),fun w=>rfl,?_⟩
    have:=Rep.fn (f:=f) (fnargs hX a.toList) (fnargs hX b.toList) Rep.nil
    have e:∀ a:Array Operand,(a.toList.map ρ).toArray=a.map ρ:=fun a=>by apply Array.ext'; simp
    rw[e,e] at this
    exact this
  case makeSlice t l c =>
    split at hc
    · split at hc
      · split at hc <;> (try cases hc); simp[qa2] at hz
      · cases hc
    · cases hc
  case slice t x lo hi mx =>
    have arr : ∀ (n size : Nat), (∀ (a : Addr) (l h m : Nat), OptN (lo.map ρ) 0 l → OptN (hi.map ρ) n h → OptN (mx.map ρ) n m → l ≤ h → h ≤ m → m ≤ n → ((mx.map ρ).isSome = true → (hi.map ρ).isSome = true) →
        ∀ w:World,(Instr.sliceAt t (.pointer (some a)) (lo.map ρ) (hi.map ρ) (mx.map ρ)).run P w = .ok (.slice (some (if m=l then a else a.add (l*size))) (h - l) (m - l)) w) →
        qa2 gl tm (.slcA n size (qaQ x) (lo.map qaQ) (hi.map qaQ) (mx.map qaQ))=some z→qbM P R p (do pure (.value (←Instr.sliceAt t (ρ x) (lo.map ρ) (hi.map ρ) (mx.map ρ)))) z:=by
      intro n size hrun hz
      obtain ⟨l,h,m,e1,e2,e3,e4,e5⟩:=pureOp_slcA hz
      obtain ⟨a,hxa,h1,h2,h3,hr⟩:=slcA_rep (hX x) e5
      refine qbM.of ⟨_,fun w => ?_,hr⟩
      rw[hxa]
      exact hrun a l h m (qcf hX e1) (qcf hX e2) (qcf hX e3) h1 h2 h3 (by simpa using e4) w
    split at hc
    · rename_i n e hu
      simp only[zJ] at hc
      obtain ⟨size,hs,rfl⟩:=hc
      exact arr n size (fun a l h m o1 o2 o3 h1 h2 h3 h4 w=>qhd hu hs o1 o2 o3 h1 h2 h3 h4) hz
    · rename_i e hu
      simp only[zJ] at hc
      obtain ⟨size,hs,rfl⟩:=hc
      obtain ⟨a,len,cap,l,h,m,e1,o1,o2,o3,h1,h2,h3,h4,hr⟩:=slcS_rep hX hz
      refine qbM.of ⟨_,fun w => ?_,hr⟩
      rw[e1]
      exact qhe hu hs o1 o2 o3 h1 h2 h3 h4
    · rename_i hu
      split at hc
      · rename_i hmx
        obtain rfl:=Option.some.inj hc
        have hmx':mx=none:=by cases mx <;> simp at hmx; rfl
        subst hmx'
        have hx:=hX x
        simp only[qa2] at hz
        split at hz
        · rename_i s he
          rw[he] at hx
          generalize hy:ρ x=y at hx
          cases hx
          split at hz
          · rename_i l h e1 e2
            split at hz
            · rename_i hb
              obtain rfl:=Option.some.inj hz
              refine qbM.of ⟨.string (s.extract l h),fun w => ?_,.v .nil⟩
              simp only[hy,Instr.sliceAt,Instr.slice,Sem.run_bind,run_underlying hu,Result.andThen_ok,Option.map_none,Option.isSome_none,zP,zM,qd7 (qcf hX e1) (qcf hX e2) (.inl ⟨rfl,rfl⟩) hb.1 hb.2 (Nat.le_refl _) (by simp),Sem.run_pure]
            · cases hz
          · cases hz
        · cases hz
      · cases hc
    · rename_i arrT hu
      split at hc
      · rename_i n e hv
        simp only[zJ] at hc
        obtain ⟨size,hs,rfl⟩:=hc
        exact arr n size (fun a l h m o1 o2 o3 h1 h2 h3 h4 w=>qhw hu hv hs o1 o2 o3 h1 h2 h3 h4) hz
      · cases hc
    · cases hc
  case fieldAddr t x i =>
    split at hc
    · rename_i fs hu
      split at hc
      · rename_i f hf
        split at hc
        · rename_i n hn
          split at hc
          · rename_i h0
            obtain rfl:=Option.some.inj hc
            have hx:=hX x
            have run:∀ (a:Addr) (w:World),(Instr.fieldAt t (.pointer (some a)) i).run P w = .ok (.pointer (some (a.add f.offset))) w:=by
              intro a w
              simp only[Instr.fieldAt,Sem.run_bind,run_underlying hu,Result.andThen_ok,hf,Instr.sureAddr,Sem.run_pure,fieldPlace,qcb hn]
              rw[if_neg (by omega)]
              rfl
            simp only[qa2] at hz
            split at hz <;> (try cases hz) <;> rename_i he <;> rw[he] at hx <;> generalize hy:ρ x=y at hx <;> cases hx
            · rename_i b o s hp _
              refine qbM.of ⟨_,fun w=>by rw[hy]; exact run _ w,?_⟩
              rw[Addr.add_lit,Nat.add_assoc]
              exact .ptr hp .nil
            · rename_i b o cs h1 h2 _
              refine qbM.of ⟨_,fun w=>by rw[hy]; exact run _ w,?_⟩
              rw[Addr.add_lit]
              exact ipt_rep h1 h2 _
          · cases hc
        · cases hc
      · cases hc
    · cases hc
  case field t x i =>
    split at hc
    · rename_i fs hu
      split at hc
      · rename_i f hf
        have hx:=hX x
        split at hc
        · rename_i n ha hn
          obtain rfl:=Option.some.inj hc
          simp only[qa2] at hz
          split at hz
          · rename_i xs he
            split at hz
            · obtain rfl := Option.some.inj hz
              rw[he] at hx
              generalize hy:ρ x=y at hx
              cases hx with
              | @agg _ cs _ _ h1 _ =>
                refine qbM.of ⟨_,fun w => ?_,Rep.agg ((h1.drop f.offset).take n) .nil⟩
                simp only[hy,Instr.field,Sem.run_bind,run_underlying hu,Result.andThen_ok,hf,asAgg,Sem.run_pure,qeH ha hn]
                congr 2
                apply Array.ext'
                simp[List.extract_eq_take_drop]
            · cases hz
          · cases hz
        · rename_i q ha
          obtain rfl:=Option.some.inj hc
          simp only[qa2] at hz
          split at hz
          · rename_i xs he
            rw[he] at hx
            generalize hy:ρ x=y at hx
            cases hx with
            | @agg _ cs _ _ h1 _ =>
              obtain ⟨v,hv,hr⟩:=h1.get hz
              refine qbM.of ⟨v,fun w => ?_,hr⟩
              simp only[hy,Instr.field,Sem.run_bind,run_underlying hu,Result.andThen_ok,hf,asAgg,Sem.run_pure]
              exact qeI ha (by simpa using hv)
          · cases hz
        · cases hc
      · cases hc
    · cases hc
  case indexAddr t x i =>
    split at hc
    · rename_i n e hu
      simp only[zJ] at hc
      obtain ⟨size,hs,rfl⟩:=hc
      have hx:=hX x
      simp only[qa2] at hz
      split at hz
      · rename_i j hj
        obtain ⟨k,hk⟩:=qdh (hX i) hj
        split at hz
        · rename_i hlt
          split at hz <;> (try cases hz) <;> rename_i he <;> rw[he] at hx <;> generalize hy:ρ x=y at hx <;> cases hx
          · rename_i b o s hp _
            refine qbM.of ⟨_,fun w=>by rw[hy,hk]; exact qfL hu hs hlt,?_⟩
            rw[Addr.add_lit,Nat.add_assoc]
            exact .ptr hp .nil
          · rename_i b o cs h1 h2 _
            refine qbM.of ⟨_,fun w=>by rw[hy,hk]; exact qfL hu hs hlt,?_⟩
            rw[Addr.add_lit]
            exact ipt_rep h1 h2 _
        · cases hz
      · cases hz
    · rename_i e hu
      simp only[zJ] at hc
      obtain ⟨size,hs,rfl⟩:=hc
      have hx:=hX x
      simp only[qa2] at hz
      split at hz
      · rename_i j hj
        obtain ⟨k,hk⟩:=qdh (hX i) hj
        split at hz
        · rename_i nm off len cap es he
          split at hz
          · rename_i hlt
            obtain rfl:=Option.some.inj hz
            rw[he] at hx
            generalize hy:ρ x=y at hx
            cases hx with
            | sl0 _ _=>omega
            | sl hp hl hk' hs' _ =>
              refine qbM.of ⟨_,fun w=>by rw[hy,hk]; exact qga hu hs hlt,?_⟩
              rw[Addr.add_lit,Nat.add_assoc]
              exact .ptr hp .nil
          · cases hz
        · rename_i xs len he
          split at hz
          · rename_i hlt
            obtain rfl:=Option.some.inj hz
            rw[he] at hx
            generalize hy:ρ x=y at hx
            cases hx with
            | isl0 _=>omega
            | isl h1 h2 hl _ =>
              refine qbM.of ⟨_,fun w=>by rw[hy,hk]; exact qga hu hs hlt,?_⟩
              rw[Addr.add_lit]
              exact ipt_rep h1 h2 _
          · cases hz
        · cases hz
      · cases hz
    · cases hc
  case index t x i =>
    split at hc
    · rename_i n e hu
      have hx:=hX x
      split at hc
      · rename_i s ha hs
        obtain rfl:=Option.some.inj hc
        simp only[qa2] at hz
        split at hz
        · rename_i j xs hj he
          split at hz
          · rename_i hb
            obtain rfl:=Option.some.inj hz
            obtain ⟨k,hk⟩:=qdh (hX i) hj
            rw[he] at hx
            generalize hy:ρ x=y at hx
            cases hx with
            | @agg _ cs _ _ h1 _ =>
              refine qbM.of ⟨_,fun w => ?_,Rep.agg ((h1.drop (j*s)).take s) .nil⟩
              simp only[hy,hk,Instr.index,asIntOf,Sem.run_bind,Sem.run_pure,run_underlying hu,Result.andThen_ok]
              rw[if_pos ⟨by omega,by omega⟩]
              simp only[Sem.run_bind,qcb hs,Result.andThen_ok,Int.toNat_natCast,qeH ha hs]
              congr 2
              apply Array.ext'
              simp[List.extract_eq_take_drop]
          · cases hz
        · cases hz
      · rename_i s ha hs
        obtain rfl:=Option.some.inj hc
        simp only[qa2] at hz
        split at hz
        · rename_i j xs hj he
          split at hz
          · rename_i hb
            obtain ⟨k,hk⟩:=qdh (hX i) hj
            rw[he] at hx
            generalize hy:ρ x=y at hx
            cases hx with
            | @agg _ cs _ _ h1 _ =>
              obtain ⟨v,hv,hr⟩:=h1.get hz
              refine qbM.of ⟨v,fun w => ?_,hr⟩
              simp only[hy,hk,Instr.index,asIntOf,Sem.run_bind,Sem.run_pure,run_underlying hu,Result.andThen_ok]
              rw[if_pos ⟨by omega,by omega⟩]
              simp only[Sem.run_bind,qcb hs,Result.andThen_ok,Int.toNat_natCast]
              exact qeI ha (by simpa using hv)
          · cases hz
        · cases hz
      · cases hc
    · rename_i hu
      obtain rfl:=Option.some.inj hc
      have hx:=hX x
      simp only[qa2] at hz
      split at hz
      · rename_i j s hj he
        obtain ⟨k,hk⟩:=qdh (hX i) hj
        rw[he] at hx
        generalize hy:ρ x=y at hx
        cases hx
        simp only[zJ] at hz
        obtain ⟨b,hb,rfl⟩:=hz
        refine qbM.of ⟨.int .u8 b.toNat,fun w => ?_,.v .nil⟩
        simp only[hy,hk,Instr.index,asIntOf,Sem.run_bind,Sem.run_pure,run_underlying hu,Result.andThen_ok]
        have:s[((j:Int)).toNat]? = some b:=by
          rw[Int.toNat_natCast]
          obtain ⟨h1,h2⟩:=List.getElem?_eq_some_iff.1 hb
          have h3:j < s.size:=h1
          rw[getElem?_pos s j h3]
          exact congrArg some h2
        rw[if_pos (by omega),this]
        rfl
      · cases hz
    · cases hc
  case extract x i =>
    obtain rfl:=Option.some.inj hc
    have hx:=hX x
    simp only[qa2] at hz
    split at hz
    · rename_i xs he
      rw[he] at hx
      generalize hy:ρ x=y at hx
      cases hx with
      | @tup _ cs _ _ h1 _ =>
        obtain ⟨v,hv,hr⟩:=h1.get hz
        refine qbM.of ⟨v,fun w => ?_,hr⟩
        simp only[hy,Instr.extract]
        rw[show cs.toArray[i]? = some v by simpa using hv]
        rfl
    · cases hz
  case call c =>
    obtain ⟨callee,args,argTypes⟩:=c
    simp only[qfz] at hc
    split at hc
    · obtain rfl:=Option.some.inj hc; simp[qa2] at hz
    · cases hc
    · rename_i b
      split at hc
      ·
        rename_i x t hargs htypes
        have ha:args = #[x]:=by apply Array.ext'; simpa using hargs
        have ht:argTypes = #[t]:=by apply Array.ext'; simpa using htypes
        subst ha ht
        have hx:=hX x
        have gen:∀ n:Nat,(∀ w:World,(Builtin.len_ #[t] type #[ρ x]).run P w = .ok (goInt n) w)→z = .v (.int .i64 n)→qbM P R p (execOp ρ ⟨dst,.call ⟨.builtin .len,#[x],#[t]⟩,type,pos,after,guard⟩) z:=by
          rintro n hr rfl
          refine ⟨.int .i64 n,fun w => ?_,.v .nil⟩
          have:=hr w
          simp only[execOp,resolve,invoke,builtin,Sem.run_bind,Sem.run_pure,Result.andThen_ok,List.map_toArray,zB,zA,this]
          rfl
        split at hc
        ·
          rename_i hu
          obtain rfl:=Option.some.inj hc
          simp only[qa2] at hz
          split at hz
          · rename_i s he
            obtain rfl:=Option.some.inj hz
            rw[he] at hx
            generalize hy:ρ x=y at hx gen
            cases hx
            exact gen s.size (fun w=>by simp[Builtin.len_,run_underlying hu]) rfl
          · cases hz
        ·
          rename_i e hu
          obtain rfl:=Option.some.inj hc
          simp only[qa2,zJ] at hz
          obtain ⟨n,hn,rfl⟩:=hz
          refine gen n (fun w => ?_) rfl
          have:∃ a c,ρ x = .slice a n c:=by
            generalize ρ x=y at hx
            generalize evX gl tm (qaQ x)=X at hx hn
            cases hx <;> simp[lenS] at hn <;> (try subst hn) <;> (try exact ⟨_,_,rfl⟩)
            cases y <;> simp at hn
            subst hn
            exact ⟨_,_,rfl⟩
          obtain ⟨a,c,hy⟩:=this
          rw[hy]
          simp[Builtin.len_,run_underlying hu]
        · rename_i n e hu
          obtain rfl:=Option.some.inj hc
          simp only[qa2] at hz
          obtain rfl:=Option.some.inj hz
          exact gen n (fun w=>by simp[Builtin.len_,run_underlying hu]) rfl
        · rename_i arr hu
          split at hc
          · rename_i n e hv
            obtain rfl:=Option.some.inj hc
            simp only[qa2] at hz
            obtain rfl:=Option.some.inj hz
            exact gen n (fun w=>by simp[Builtin.len_,run_underlying hu,run_underlying hv]) rfl
          · cases hc
        · cases hc
      · split at hc <;> (try cases hc)
        · split at hc
          · split at hc <;> (try cases hc); simp[qa2] at hz
          · cases hc
        · split at hc
          · split at hc <;> (try cases hc); simp[qa2] at hz
          · cases hc
      · split at hc
        · split at hc
          · split at hc <;> (try cases hc); simp[qa2] at hz
          · cases hc
        · cases hc
      · obtain rfl := Option.some.inj hc
        simp only[qa2] at hz
        exact minmax (T:=argTypes) false type hX hz rfl
      · obtain rfl := Option.some.inj hc
        simp only[qa2] at hz
        exact minmax (T:=argTypes) true type hX hz rfl
      · cases hc
  all_goals cases hc
end Go.LE
namespace Go.LE
variable {P:Program} {R:Imm} {p:qa0} {gl:Nat→Option qal} {H:Heap} {w:World}
def upd (H:Heap) (n:Nm) (x:Option qal):Heap:=fun m=>if m=n then x else H m
theorem qcM (H:Heap) (n:Nm) (x:Option qal) (ms:List (Nm × Option qal)):qbN H ((n,x)::ms)=upd (qbN H ms) n x:=rfl
theorem qbW (base:Nat) (v:LV) (H:Heap) (ms:List (Nm × Option qal)):qbv base ⟨v,[],ms⟩ H=qbN H ms:=by
  funext m; simp[qbv]
theorem qeb (base:Nat) (v:LV) (cs:qal) (H:Heap) (ms:List (Nm × Option qal)):qbv base ⟨v,[cs],ms⟩ H=upd (qbN H ms) (base,0) (some cs):=by
  funext m
  simp only[qbv,upd,zE,zL]
  obtain ⟨a,b⟩:=m
  by_cases h:a=base∧b < 1
  · obtain ⟨rfl, h⟩ := h
    obtain rfl:b=0:=by omega
    simp
  · rw[if_neg (by simpa using h),if_neg (by intro e; injection e with e1 e2; subst e1 e2; simp at h)]
structure Runs (P:Program) (R:Imm) (p:qa0) (H:Heap) (w:World) (base:Nat) (m:Sem Next) (r:Out):Prop where
  out : ∃ nx w' R' p', m.run P w = .ok nx w' ∧ ((∃ v, nx = .value v ∧ Rep1 R' p' r.val v) ∨ (nx = .skip ∧ r.val = .v (.tuple #[]))) ∧
    Sim R' p' (qbv base r H) w'∧Ext R p H w R' p' (qbv base r H) w'∧(∀ n x,p n=some x→p' n=some x)∧(∀ n x,p' n=some x→p n=some x∨n.1=base)
theorem Runs.mk' {base:Nat} {m:Sem Next} {r:Out} {nx:Next} {w':World} {R':Imm} {p':qa0} (h1:m.run P w = .ok nx w')
    (h2:(∃ v,nx = .value v∧Rep1 R' p' r.val v)∨(nx = .skip∧r.val = .v (.tuple #[]))) (h3:Sim R' p' (qbv base r H) w'∧Ext R p H w R' p' (qbv base r H) w')
    (h5:∀ n x,p n=some x→p' n=some x) (h6:∀ n x,p' n=some x→p n=some x∨n.1=base):Runs P R p H w base m r :=
  ⟨⟨nx,w',R',p',h1,h2,h3.1,h3.2,h5,h6⟩⟩
theorem Runs.pure {base:Nat} {m:Sem Next} {z:LV} (hs:Sim R p H w) (h:qbM P R p m z):Runs P R p H w base m ⟨z,[],[]⟩:=by
  obtain ⟨v,h1,h2⟩:=h
  refine Runs.mk' (h1 w) (.inl ⟨v,rfl,h2⟩) ?_ (fun _ _ h=>h) (fun _ _ h => .inl h)
  rw[qbW]
  exact ⟨hs,Ext.refl _ _ _ _⟩
theorem Sim.dom (h:Sim R p H w) {n:Nm} (hn:p n=none):H n=none:=by
  cases hc:H n with
  | none=>rfl
  | some cs =>
    rcases h.obj n cs hc with ⟨a,_⟩ | ⟨b,o,s,vs,T,fz,a,_⟩ <;> rw[hn] at a <;> cases a
def at1 (p:qa0) (n:Nm) (x:Base):qa0:=fun m=>if m=n then some x else p m
theorem qey {n:Nm} {x:Base} (hn:p n=none):∀ m y,p m=some y→at1 p n x m=some y:=by
  intro m y hm
  unfold at1
  by_cases e:m=n
  · subst e; rw[hn] at hm; cases hm
  · rw[if_neg e]; exact hm
theorem Sim.alloc (h:Sim R p H w) {n:Nm} (hn:p n=none) {vs:Array Value} {T:TypeId} {fz:Nat × Nat} {w':World} (hw:w'.heap=w.heap.push (.cells vs T fz))
    (hf:fz.1=fz.2∨vs.size≤fz.1) {cs:qal} (hl:cs.length≤vs.size) (hr:Rep R p cs (vs.toList.take cs.length))
    (hio:w'.os=w.os∧w'.output=w.output∧w'.tape=w.tape:=by exact ⟨rfl,rfl,rfl⟩) :
    Sim R (at1 p n (.at w.heap.size 0 vs.size)) (upd H n (some cs)) w'∧Ext R p H w R (at1 p n (.at w.heap.size 0 vs.size)) (upd H n (some cs)) w':=by
  have hp:=qey (x := .at w.heap.size 0 vs.size) hn
  have old:∀ b,b < w.heap.size→w'.heap[b]? = w.heap[b]? := by
    intro b hb
    rw[hw,Array.getElem?_push_lt hb,Array.getElem?_eq_getElem hb]
  have immLt:∀ b cs,R b=some cs→b < w.heap.size:=by
    intro b cs hb
    obtain ⟨vs,T,fz,h1,_⟩:=h.imm b cs hb
    exact (Array.getElem?_eq_some_iff.1 h1).1
  have newImm:R w.heap.size=none:=by
    cases hb:R w.heap.size with
    | none=>rfl
    | some cs=>exact absurd (immLt _ _ hb) (by omega)
  refine ⟨⟨?_,?_,?_⟩,⟨fun _ _ h=>h,by rw[hw]; simp,fun b hb _=>old b hb,fun _ _ h => .inl h,?_,hio⟩⟩
  · intro m ds hm
    unfold upd at hm
    by_cases e:m=n
    · rw [if_pos e] at hm
      obtain rfl:=Option.some.inj hm
      refine .inr ⟨w.heap.size,0,vs.size,vs,T,fz,by simp[at1,e],?_,newImm,hf,by simp,hl,?_⟩
      · rw[hw]; simp
      · simpa using hr.mono (fun _ _ h=>h) hp
    · rw [if_neg e] at hm
      rcases h.obj m ds hm with ⟨a,c⟩ | ⟨b,o,s,us,T',fz',a,l⟩
      · exact .inl ⟨hp _ _ a,c⟩
      · exact .inr ⟨b,o,s,us,T',fz',hp _ _ a,l.mono (fun _ _ h=>h) hp (old b l.lt) l.imm⟩
  · intro m m' cs1 cs2 b o s o' s' h1 h2 h3 h4
    unfold upd at h1 h2
    unfold at1 at h3 h4
    have lt:∀ m ds b o s,H m=some ds→p m=some (.at b o s)→b < w.heap.size:=by
      intro m ds b o s e1 e2
      rcases h.obj m ds e1 with ⟨a,c⟩ | ⟨b',o',s',us,T',fz',a,l⟩
      · rw[a] at e2; cases e2
      · rw[a] at e2; cases e2; exact l.lt
    by_cases e:m=n <;> by_cases e':m'=n
    · rw[e,e']
    · rw[if_pos e] at h3; rw[if_neg e'] at h2 h4; cases h3; exact absurd (lt _ _ _ _ _ h2 h4) (by omega)
    · rw[if_neg e] at h1 h3; rw[if_pos e'] at h4; cases h4; exact absurd (lt _ _ _ _ _ h1 h3) (by omega)
    · rw[if_neg e] at h1 h3; rw[if_neg e'] at h2 h4; exact h.inj m m' _ _ _ _ _ _ _ h1 h2 h3 h4
  · intro b cs hb
    obtain ⟨us,T',fz',h1,h2⟩:=h.imm b cs hb
    exact ⟨us,T',fz',by rw[old b (immLt b cs hb)]; exact h1,h2⟩
  · rintro b ⟨m, ds, o, s, h1, h2⟩
    unfold upd at h1
    unfold at1 at h2
    by_cases e:m=n
    · rw[if_pos e] at h2; cases h2; exact .inr (Nat.le_refl _)
    · rw[if_neg e] at h1 h2; exact .inl ⟨m,ds,o,s,h1,h2⟩
theorem Sim.writeZ (h:Sim R p H w) {m:Nm} {cs cs':qal} {b o s:Nat} {vs vs':Array Value} {T:TypeId} {fz fz':Nat × Nat} (hfz:fz'.1=fz'.2∨vs.size≤fz'.1) (hm:H m=some cs) (hp:p m=some (.at b o s))
    (hl:Lies R p w cs b o s vs T fz) (hs:vs'.size=vs.size) (hc:cs'.length≤s) (hr:Rep R p cs' ((vs'.toList.drop o).take cs'.length)) {w':World}
    (hw:w'.heap=w.heap.setIfInBounds b (.cells vs' T fz')) (hio:w'.os=w.os∧w'.output=w.output∧w'.tape=w.tape:=by exact ⟨rfl,rfl,rfl⟩):Sim R p (upd H m (some cs')) w'∧Ext R p H w R p (upd H m (some cs')) w':=by
  have old:∀ c,c≠b→w'.heap[c]? = w.heap[c]? := by
    intro c hc
    rw[hw,Array.getElem?_setIfInBounds_ne (Ne.symm hc)]
  have here:w'.heap[b]? = some (.cells vs' T fz'):=by rw[hw]; simp[hl.lt]
  refine ⟨⟨?_,?_,?_⟩,⟨fun _ _ h=>h,by rw[hw]; simp,?_,fun _ _ h => .inl h,?_,hio⟩⟩
  · intro n ds hn
    unfold upd at hn
    by_cases e:n=m
    · rw [if_pos e] at hn
      obtain rfl:=Option.some.inj hn
      subst e
      exact .inr ⟨b,o,s,vs',T,fz',hp,here,hl.imm,by rw[hs]; exact hfz,by rw[hs]; exact hl.size,hc,hr⟩
    · rw [if_neg e] at hn
      rcases h.obj n ds hn with ⟨a,c⟩ | ⟨b',o',s',us,T',fz',a,l⟩
      · exact .inl ⟨a,c⟩
      · have hb : b' ≠ b := fun eb => by subst eb; exact e (h.inj n m ds cs _ _ _ _ _ hn hm a hp)
        exact .inr ⟨b',o',s',us,T',fz',a,l.mono (fun _ _ h=>h) (fun _ _ h=>h) (old b' hb) l.imm⟩
  · intro n n' cs1 cs2 b1 o1 s1 o2 s2 h1 h2 h3 h4
    have get:∀ n ds,upd H m (some cs') n=some ds→∃ ds',H n=some ds':=by
      intro n ds e
      unfold upd at e
      by_cases en:n=m
      · subst en; exact ⟨cs,hm⟩
      · rw[if_neg en] at e; exact ⟨ds,e⟩
    obtain ⟨d1,e1⟩:=get _ _ h1
    obtain ⟨d2,e2⟩:=get _ _ h2
    exact h.inj n n' _ _ _ _ _ _ _ e1 e2 h3 h4
  · intro c ds hc
    have hb:c≠b:=fun e=>by subst e; rw[hl.imm] at hc; cases hc
    obtain ⟨us,T',fz',h1,h2⟩:=h.imm c ds hc
    exact ⟨us,T',fz',by rw[old c hb]; exact h1,h2⟩
  · intro c _ hn
    exact old c (fun e=>by subst e; exact hn ⟨m,cs,o,s,hm,hp⟩)
  · rintro c ⟨n, ds, o', s', h1, h2⟩
    unfold upd at h1
    by_cases e:n=m
    · subst e; exact .inl ⟨n,cs,o',s',hm,h2⟩
    · rw[if_neg e] at h1; exact .inl ⟨n,ds,o',s',h1,h2⟩
theorem Sim.write (h:Sim R p H w) {m:Nm} {cs cs':qal} {b o s:Nat} {vs vs':Array Value} {T:TypeId} {fz:Nat × Nat} (hm:H m=some cs) (hp:p m=some (.at b o s))
    (hl:Lies R p w cs b o s vs T fz) (hs:vs'.size=vs.size) (hc:cs'.length≤s) (hr:Rep R p cs' ((vs'.toList.drop o).take cs'.length)) {w':World}
    (hw:w'.heap=w.heap.setIfInBounds b (.cells vs' T fz)) (hio:w'.os=w.os∧w'.output=w.output∧w'.tape=w.tape:=by exact ⟨rfl,rfl,rfl⟩):Sim R p (upd H m (some cs')) w'∧Ext R p H w R p (upd H m (some cs')) w':=h.writeZ hl.free hm hp hl hs hc hr hw hio
theorem Sim.freeze (h:Sim R p H w) {m:Nm} {cs:qal} {b o s:Nat} {vs:Array Value} {T:TypeId} {fz:Nat × Nat} (hm:H m=some cs) (hp:p m=some (.at b o s))
    (hl : Lies R p w cs b o s vs T fz) : Sim (fun c => if c = b then some vs.toList else R c) p (upd H m none) w ∧
      Ext R p H w (fun c=>if c=b then some vs.toList else R c) p (upd H m none) w:=by
  have hR:∀ c ds,R c=some ds→(fun c=>if c=b then some vs.toList else R c) c=some ds:=by
    intro c ds hc
    have:c≠b:=fun e=>by subst e; rw[hl.imm] at hc; cases hc
    simp[this,hc]
  have sub:∀ n ds,upd H m none n=some ds→n≠m∧H n=some ds:=by
    intro n ds hn
    unfold upd at hn
    by_cases e:n=m
    · rw[if_pos e] at hn; cases hn
    · rw[if_neg e] at hn; exact ⟨e,hn⟩
  refine ⟨⟨?_,?_,?_⟩,⟨hR,Nat.le_refl _,fun _ _ _=>rfl,?_,?_,rfl,rfl,rfl⟩⟩
  · intro n ds hn
    obtain ⟨e,hn⟩:=sub n ds hn
    rcases h.obj n ds hn with ⟨a,c⟩ | ⟨b',o',s',us,T',fz',a,l⟩
    · exact .inl ⟨a,c⟩
    · have hb : b' ≠ b := fun eb => by subst eb; exact e (h.inj n m ds cs _ _ _ _ _ hn hm a hp)
      exact .inr ⟨b',o',s',us,T',fz',a,l.mono hR (fun _ _ h=>h) rfl (by simp[hb,l.imm])⟩
  · intro n n' cs1 cs2 b1 o1 s1 o2 s2 h1 h2 h3 h4
    exact h.inj n n' _ _ _ _ _ _ _ (sub _ _ h1).2 (sub _ _ h2).2 h3 h4
  · intro c ds hc
    by_cases e:c=b
    · subst e
      simp at hc
      exact ⟨vs,T,fz,hl.heap,hc⟩
    · simp [e] at hc
      exact h.imm c ds hc
  · intro c ds hc
    by_cases e:c=b
    · subst e; exact .inr (.inr ⟨m,cs,o,s,hm,hp⟩)
    · simp[e] at hc; exact .inl hc
  · rintro c ⟨n, ds, o', s', h1, h2⟩
    exact .inl ⟨n,ds,o',s',(sub _ _ h1).2,h2⟩
theorem Sim.remove (h:Sim R p H w) (m:Nm):Sim R p (upd H m none) w∧Ext R p H w R p (upd H m none) w:=by
  have sub:∀ n ds,upd H m none n=some ds→H n=some ds:=by
    intro n ds hn
    unfold upd at hn
    by_cases e:n=m
    · rw[if_pos e] at hn; cases hn
    · rw[if_neg e] at hn; exact hn
  refine ⟨h.sub sub,⟨fun _ _ h=>h,Nat.le_refl _,fun _ _ _=>rfl,fun _ _ h => .inl h,?_,rfl,rfl,rfl⟩⟩
  rintro c ⟨n,ds,o',s',h1,h2⟩
  exact .inl ⟨n,ds,o',s',sub _ _ h1,h2⟩
theorem Sim.rename (h:Sim R p H w) {m n:Nm} (hn:p n=none) {cs cs':qal} {b o s off:Nat} {vs:Array Value} {T:TypeId} {fz:Nat × Nat} (hm:H m=some cs) (hp:p m=some (.at b o s))
    (hl:Lies R p w cs b o s vs T fz) (ho:off≤s) (hc:cs'.length+off≤s) (hr:Rep R p cs' ((vs.toList.drop (o+off)).take cs'.length)) :
    Sim R (at1 p n (.at b (o+off) (s - off))) (upd (upd H m none) n (some cs')) w∧Ext R p H w R (at1 p n (.at b (o+off) (s - off))) (upd (upd H m none) n (some cs')) w:=by
  have hp':=qey (x := .at b (o+off) (s - off)) hn
  have hmn:m≠n:=fun e=>by subst e; rw[hn] at hp; cases hp
  have get:∀ k ds,upd (upd H m none) n (some cs') k=some ds→(k=n∧ds=cs')∨(k≠n∧k≠m∧H k=some ds):=by
    intro k ds hk
    unfold upd at hk
    by_cases e:k=n
    · rw[if_pos e] at hk; exact .inl ⟨e,(Option.some.inj hk).symm⟩
    · rw [if_neg e] at hk
      by_cases e':k=m
      · rw[if_pos e'] at hk; cases hk
      · rw[if_neg e'] at hk; exact .inr ⟨e,e',hk⟩
  refine ⟨⟨?_,?_,h.imm⟩,⟨fun _ _ h=>h,Nat.le_refl _,fun _ _ _=>rfl,fun _ _ h => .inl h,?_,rfl,rfl,rfl⟩⟩
  · intro k ds hk
    rcases get k ds hk with ⟨rfl,rfl⟩ | ⟨e,e',hk⟩
    · refine .inr ⟨b, o + off, s - off, vs, T, fz, by simp [at1], hl.heap, hl.imm, hl.free, ?_, by omega, hr.mono (fun _ _ h => h) hp'⟩
      have:=hl.size; omega
    · rcases h.obj k ds hk with ⟨a, c⟩ | ⟨b', o', s', us, T', fz', a, l⟩
      · exact .inl ⟨hp' _ _ a,c⟩
      · exact .inr ⟨b',o',s',us,T',fz',hp' _ _ a,l.mono (fun _ _ h=>h) hp' rfl l.imm⟩
  · intro k k' cs1 cs2 b1 o1 s1 o2 s2 h1 h2 h3 h4
    unfold at1 at h3 h4
    rcases get k _ h1 with ⟨rfl,rfl⟩ | ⟨e,e',hk⟩ <;> rcases get k' _ h2 with ⟨rfl,rfl⟩ | ⟨f,f',hk'⟩
    · rfl
    · rw [if_pos rfl] at h3; rw [if_neg f] at h4; cases h3
      exact absurd (h.inj k' m _ _ _ _ _ _ _ hk' hm h4 hp) f'
    · rw [if_neg e] at h3; rw [if_pos rfl] at h4; cases h4
      exact absurd (h.inj k m _ _ _ _ _ _ _ hk hm h3 hp) e'
    · rw [if_neg e] at h3; rw [if_neg f] at h4
      exact h.inj k k' _ _ _ _ _ _ _ hk hk' h3 h4
  · rintro c ⟨k, ds, o', s', h1, h2⟩
    unfold at1 at h2
    rcases get k _ h1 with ⟨rfl,rfl⟩ | ⟨e,e',hk⟩
    · rw[if_pos rfl] at h2; cases h2; exact .inl ⟨m,cs,o,s,hm,hp⟩
    · rw[if_neg e] at h2; exact .inl ⟨k,ds,o',s',hk,h2⟩
theorem Sim.nowhere (h:Sim R p H w) {n:Nm} (hn:p n=none):Sim R (at1 p n .nowhere) (upd H n (some [])) w∧Ext R p H w R (at1 p n .nowhere) (upd H n (some [])) w:=by
  have hp':=qey (x := .nowhere) hn
  refine ⟨⟨?_,?_,h.imm⟩,⟨fun _ _ h=>h,Nat.le_refl _,fun _ _ _=>rfl,fun _ _ h => .inl h,?_,rfl,rfl,rfl⟩⟩
  · intro k ds hk
    unfold upd at hk
    by_cases e:k=n
    · rw[if_pos e] at hk; exact .inl ⟨by simp[at1,e],(Option.some.inj hk).symm⟩
    · rw [if_neg e] at hk
      rcases h.obj k ds hk with ⟨a,c⟩ | ⟨b',o',s',us,T',fz',a,l⟩
      · exact .inl ⟨hp' _ _ a,c⟩
      · exact .inr ⟨b',o',s',us,T',fz',hp' _ _ a,l.mono (fun _ _ h=>h) hp' rfl l.imm⟩
  · intro k k' cs1 cs2 b1 o1 s1 o2 s2 h1 h2 h3 h4
    unfold at1 at h3 h4
    unfold upd at h1 h2
    by_cases e:k=n
    · rw[if_pos e] at h3; cases h3
    · by_cases e' : k' = n
      · rw[if_pos e'] at h4; cases h4
      · rw [if_neg e] at h1 h3; rw [if_neg e'] at h2 h4
        exact h.inj k k' _ _ _ _ _ _ _ h1 h2 h3 h4
  · rintro c ⟨k, ds, o', s', h1, h2⟩
    unfold at1 at h2
    unfold upd at h1
    by_cases e:k=n
    · rw[if_pos e] at h2; cases h2
    · rw[if_neg e] at h1 h2; exact .inl ⟨k,ds,o',s',h1,h2⟩
end Go.LE
namespace Go.LE
variable {P:Program} {R:Imm} {p:qa0} {gl:Nat→Option qal} {H:Heap} {w:World}
theorem Sim.at (h:Sim R p H w) {n:Nm} {cs:qal} {b o s:Nat} (hn:H n=some cs) (hp:p n=some (.at b o s)) :
    ∃ vs T fz,Lies R p w cs b o s vs T fz:=by
  rcases h.obj n cs hn with ⟨a,_⟩ | ⟨b',o',s',vs,T,fz,a,l⟩
  · rw[hp] at a; cases a
  · rw[hp] at a; cases a; exact ⟨vs,T,fz,l⟩
theorem Lies.seg {cs:qal} {b o s:Nat} {vs:Array Value} {T:TypeId} {fz:Nat × Nat} (l:Lies R p w cs b o s vs T fz) {off n:Nat} (h:off+n≤cs.length) :
    Rep R p ((cs.drop off).take n) ((vs.toList.drop (o+off)).take n):=by
  have:=(l.rep.drop off).take n
  rw[List.drop_take,List.drop_drop,List.take_take] at this
  rwa [Nat.min_eq_left (by omega)] at this
theorem Lies.bound {cs:qal} {b o s:Nat} {vs:Array Value} {T:TypeId} {fz:Nat × Nat} (l:Lies R p w cs b o s vs T fz) {off n:Nat} (h:off+n≤cs.length):o+off+n≤vs.size:=by
  have:=l.size; have:=l.fits; omega
theorem imm_bound {cs:List Value} {o n:Nat} {as:List LV} (h:Rep R p as ((cs.drop o).take as.length)) (hn:n≤as.length):n=0∨o+n≤cs.length:=by
  have:=h.length
  simp at this
  omega
theorem qfh (hs:Sim R p H w) {n:Nat} {X:LV} {x:Value} {ys:qal} (hx:Rep1 R p X x) (hy:qb6 H n X=some ys) :
    ∃ b o vs T fz,x = .pointer (some ⟨b,o,none⟩)∧w.heap[b]? = some (.cells vs T fz)∧(n=0∨o+n≤vs.size)∧Rep R p ys ((vs.toList.drop o).take n):=by
  unfold qb6 at hy
  split at hy
  · rename_i m off
    split at hy
    · rename_i cs hm
      split at hy
      · rename_i hb
        obtain rfl:=Option.some.inj hy
        cases hx with
        | ptr hp _ =>
          obtain ⟨vs,T,fz,l⟩:=hs.at hm hp
          exact ⟨_,_,vs,T,fz,rfl,l.heap,.inr (l.bound hb),l.seg hb⟩
      · cases hy
    · cases hy
  · split at hy
    · rename_i xs hb
      obtain rfl:=Option.some.inj hy
      cases hx with
      | ipt hR hr _ =>
        obtain ⟨vs,T,fz,h1,h2⟩:=hs.imm _ _ hR
        refine ⟨_,_,vs,T,fz,rfl,h1,?_,?_⟩
        · have := imm_bound hr hb
          rw[←h2] at this
          simpa using this
        · have := hr.take n
          rw[List.take_take,Nat.min_eq_left hb,←h2] at this
          exact this
    · cases hy
  · cases hy
theorem qeS {b o n:Nat} {vs:Array Value} {T:TypeId} {fz:Nat × Nat} (h:w.heap[b]? = some (.cells vs T fz)) (hb:n=0∨o+n≤vs.size) :
    (loadCells ⟨b,o,none⟩ n).run P w = .ok ((vs.toList.drop o).take n).toArray w:=by
  rcases hb with rfl | hb
  · simp[loadCells,loadCellsFrom]
  · exact qfg h hb
theorem qfM (hs:Sim R p H w) {size n:Nat} {X:LV} {x:Value} {ys:qal} (hx:Rep1 R p X x) (hy:qbp H size n X=some ys) :
    ∃ zs:Array Value,(∀ w':World,w'.heap=w.heap→(Builtin.firstCells size n x).run P w' = .ok zs w')∧Rep R p ys zs.toList:=by
  have zero:∀ a:Option Addr,∀ l c:Nat,n=0→∀ w':World,w'.heap=w.heap→(Builtin.firstCells size n (.slice a l c)).run P w' = .ok #[] w':=by
    intro a l c h0 w' _
    subst h0
    cases a <;> simp[Builtin.firstCells,loadCells,loadCellsFrom]
  unfold qbp at hy
  split at hy
  · rename_i m off len cap es
    split at hy
    · rename_i h0
      obtain rfl:=Option.some.inj hy
      cases hx <;> exact ⟨#[],zero _ _ _ h0,.nil⟩
    · rename_i h0
      split at hy
      · rename_i hlen
        split at hy
        · rename_i cs hm
          split at hy
          · rename_i hb
            obtain rfl:=Option.some.inj hy
            cases hx with
            | sl0 _ _=>omega
            | sl hp hl hk hsz _ =>
              obtain ⟨vs,T,fz,l⟩:=hs.at hm hp
              exact ⟨_,fun w' hw=>qfg (by rw[hw]; exact l.heap) (l.bound hb),by simpa using l.seg hb⟩
          · cases hy
        · cases hy
      · cases hy
  · rename_i xs len
    split at hy
    · rename_i h0
      obtain rfl:=Option.some.inj hy
      cases hx <;> exact ⟨#[],zero _ _ _ h0,.nil⟩
    · rename_i h0
      split at hy
      · rename_i hb
        obtain rfl:=Option.some.inj hy
        cases hx with
        | isl0 _=>omega
        | isl hR hr hl _ =>
          obtain ⟨vs,T,fz,h1,h2⟩:=hs.imm _ _ hR
          have hbd:=imm_bound hr hb.2
          rw[←h2] at hbd hr
          have h3:=hr.take (n*size)
          rw[List.take_take,Nat.min_eq_left hb.2] at h3
          exact ⟨_,fun w' hw=>qeS (by rw[hw]; exact h1) (by simpa using hbd),by simpa using h3⟩
      · cases hy
  · split at hy
    · rename_i h0
      obtain rfl:=Option.some.inj hy
      cases hx
      exact ⟨#[],zero _ _ _ h0,.nil⟩
    · cases hy
  · rename_i s
    split at hy
    · rename_i hb
      obtain rfl:=Option.some.inj hy
      cases hx
      refine ⟨_,fun w' _=>rfl,?_⟩
      have e:((s.extract 0 n).data.map fun b=>Value.int .u8 b.toNat).toList=(s.data.toList.take n).map fun b=>Value.int .u8 b.toNat:=by
        simp[ByteArray.data_extract,List.extract_eq_take_drop]
      rw[e]
      have:=Rep.plain (R:=R) (p:=p) ((s.data.toList.take n).map fun b=>Value.int .u8 b.toNat)
      rw[List.map_map] at this
      exact this
    · cases hy
  · cases hy
theorem qe5 {X:LV} {x:Value} {k:Nat} (hx:Rep1 R p X x) (hy:qcE X=some k):∀ w:World,(Builtin.lenOf x).run P w = .ok k w:=by
  intro w
  cases hx <;> simp[qcE] at hy <;> (try (subst hy; rfl))
  cases x <;> try (simp at hy; done)
  · simp at hy; subst hy; rfl
  · rename_i a n c
    cases a <;> simp at hy
    subst hy; rfl
theorem bytes_run:∀ (cs:qal) (vs:List Value) (bs:List UInt8),Rep R p cs vs→qdl cs=some bs→∃ ns:List Int,vs=ns.map (Value.int .u8)∧bs=ns.map fun n=>UInt8.ofNat n.toNat:=by
  intro cs
  induction cs with
  | nil=>intro vs bs h hb; cases h; simp[qdl] at hb; exact ⟨[],rfl,by simp[hb]⟩
  | cons c cs ih =>
    intro vs bs h hb
    obtain ⟨v,vs,rfl,h1,h2⟩:=h.uncons
    unfold qdl at hb
    split at hb
    · rename_i heq; cases heq
    · rename_i n rest heq
      injection heq with e1 e2
      subst e1 e2
      simp only[zJ] at hb
      obtain ⟨bs',hb,rfl⟩:=hb
      obtain ⟨ns,rfl,rfl⟩:=ih vs bs' h2 hb
      cases h1
      exact ⟨n::ns,rfl,rfl⟩
    · cases hb
theorem qhy:∀ (ns:List Int) (s:ByteArray),(ns.foldl (fun r n=>r.push (UInt8.ofNat n.toNat)) s)=⟨s.data++(ns.map fun n=>UInt8.ofNat n.toNat).toArray⟩
  | [],s=>by simp
  | n::ns,s=>by
    rw[List.foldl_cons,qhy ns]
    simp[ByteArray.push]
theorem qhf {vs:List Value} {bs:List UInt8} {cs:qal} {a:Addr} {len cap:Nat} (hr:Rep R p cs vs) (hb:qdl cs=some bs)
    (hl:(loadCells a len).run P w = .ok vs.toArray w):(Conv.bytesToString (.slice (some a) len cap)).run P w = .ok (.string ⟨bs.toArray⟩) w:=by
  obtain ⟨ns,rfl,rfl⟩:=bytes_run cs vs bs hr hb
  rw[run_bytesToString w a len cap ns hl,qhy]
  simp[ByteArray.empty,ByteArray.emptyWithCapacity]
  rfl
theorem Runs.alloc {base:Nat} {m:Sem Next} {val:LV} {v:Value} {cs:qal} {vs:Array Value} {T:TypeId} {fz:Nat × Nat} {w':World} (hs:Sim R p H w) (hn:p (base,0)=none)
    (hrun:m.run P w = .ok (.value v) w') (hw:w'.heap=w.heap.push (.cells vs T fz)) (hf:fz.1=fz.2∨vs.size≤fz.1) (hl:cs.length≤vs.size) (hr:Rep R p cs (vs.toList.take cs.length))
    (hv:∀ p':qa0,p' (base,0)=some (.at w.heap.size 0 vs.size)→Rep1 R p' val v)
    (hio:w'.os=w.os∧w'.output=w.output∧w'.tape=w.tape:=by exact ⟨rfl,rfl,rfl⟩):Runs P R p H w base m ⟨val,[cs],[]⟩:=by
  refine Runs.mk' hrun (.inl ⟨v,rfl,hv (at1 p (base,0) (.at w.heap.size 0 vs.size)) (by simp[at1])⟩) ?_ (qey hn) (fun n x h => ?_)
  · rw [qeb]
    exact hs.alloc hn hw hf hl hr hio
  · unfold at1 at h
    by_cases e:n=(base,0)
    · exact .inr (by rw[e])
    · rw[if_neg e] at h; exact .inl h
theorem qez {α:Type} {l:List α} {n:Nat} (h:n=l.length):l.take n=l:=by subst h; exact List.take_length
theorem zeros_eq (z:Array Value):∀ k:Nat,0 < z.size→((Array.range (k*z.size)).map fun i=>z[i % z.size]!).toList=(List.replicate k z.toList).flatten:=by
  intro k hz
  induction k with
  | zero=>simp
  | succ k ih =>
    rw[List.replicate_succ',List.flatten_append,←ih,Nat.succ_mul]
    apply List.ext_getElem
    · simp
    · intro i h1 h2
      simp only[Array.toList_map,Array.toList_range,List.getElem_map,List.getElem_range]
      by_cases hi:i < k*z.size
      · rw [List.getElem_append_left (by simpa using hi)]
        simp
      · have h3 : i < k * z.size + z.size := by simpa using h1
        rw[List.getElem_append_right (by simpa using hi)]
        have h4:i % z.size=i - k*z.size:=by
          obtain ⟨d,hd⟩:∃ d,i=k*z.size+d:=⟨i - k*z.size,by omega⟩
          subst hd
          rw[Nat.mul_comm,Nat.mul_add_mod,Nat.mod_eq_of_lt (by omega),zg]
        simp[h4,getElem!_pos z (i - k*z.size) (by omega)]
end Go.LE
namespace Go.LE
variable {P:Program} {R:Imm} {p:qa0} {gl:Nat→Option qal} {H:Heap} {w:World} {E:Env}
theorem ld1_runs {base:Nat} (hs:Sim R p H w) {X:LV} {x:Value} {y:LV} {t:TypeId} (hx:Rep1 R p X x) (hy:qb6 H 1 X=some [y]) (ha:qb7 P t=some false) :
    Runs P R p H w base (do pure (.value (←Instr.loadAt t x))) ⟨y,[],[]⟩:=by
  obtain ⟨b,o,vs,T,fz,rfl,h1,h2,h3⟩:=qfh hs hx hy
  rcases h2 with h2 | h2
  · omega
  · have hv : vs[o]? = some vs[o] := Array.getElem?_eq_getElem (by omega)
    have e:(vs.toList.drop o).take 1=[vs[o]]:=by
      rw[List.drop_eq_getElem_cons (by simp; omega)]; simp
    rw[e] at h3
    refine Runs.mk' (nx := .value vs[o]) (w':=w) (R':=R) (p':=p) ?_ (.inl ⟨_,rfl,h3⟩) (by rw[qbW]; exact ⟨hs,Ext.refl _ _ _ _⟩) (fun _ _ h=>h) (fun _ _ h => .inl h)
    apply qds
    simp only[Instr.loadAt,Instr.sureAddr,loadVar,Sem.run_bind,Sem.run_pure,Result.andThen_ok,qei ha,zP,zM,run_load,cell_of h1,hv]
theorem ld_runs {base n:Nat} (hs:Sim R p H w) {X:LV} {x:Value} {ys:qal} {t:TypeId} (hx:Rep1 R p X x) (hy:qb6 H n X=some ys) (ha:qb7 P t=some true) (hn:szOf P t=some n) :
    Runs P R p H w base (do pure (.value (←Instr.loadAt t x))) ⟨.agg ys,[],[]⟩:=by
  obtain ⟨b,o,vs,T,fz,rfl,h1,h2,h3⟩:=qfh hs hx hy
  refine Runs.mk' (nx := .value (.agg ((vs.toList.drop o).take n).toArray)) (w' := w) (R' := R) (p' := p) ?_ (.inl ⟨_, rfl, .agg h3 .nil⟩) (by rw [qbW]; exact ⟨hs, Ext.refl _ _ _ _⟩)
    (fun _ _ h=>h) (fun _ _ h => .inl h)
  apply qds
  simp only[Instr.loadAt,Instr.sureAddr,loadVar,Sem.run_bind,Sem.run_pure,Result.andThen_ok,qei ha,zG,qcb hn,qeS h1 h2]
theorem qhz {cs ys:qal} {off:Nat} (h:off+ys.length≤cs.length):(qbh cs off ys).length=cs.length:=by
  simp[qbh]; omega
theorem splice_lies {cs ys:qal} {us:List Value} {b o s off:Nat} {vs:Array Value} {T:TypeId} {fz:Nat × Nat} (l:Lies R p w cs b o s vs T fz) (h:off+ys.length≤cs.length) (hy:Rep R p ys us) :
    Rep R p (qbh cs off ys) (((qcd vs (o+off) us).toList.drop o).take (qbh cs off ys).length):=by
  have h1:=qhv (off:=off) l.rep hy
  rw[qhz h]
  have hu:=hy.length
  have hb:=l.size
  have hf:=l.fits
  have e:(((qcd vs (o+off) us).toList.drop o).take cs.length)=((vs.toList.drop o).take cs.length).take off++us++((vs.toList.drop o).take cs.length).drop (off+us.length):=by
    have hA:((vs.toList.drop o).take off).length=off:=by simp; omega
    have hB:((vs.toList.drop o).take off++us).length=off+us.length:=by rw[zH,hA]
    have e1:(qcd vs (o+off) us).toList.drop o=((vs.toList.drop o).take off++us)++(vs.toList.drop o).drop (off+us.length):=by
      simp only[qcd]
      rw[List.append_assoc,List.drop_append_of_le_length (by simp; omega),List.drop_take,zg,List.drop_drop,List.append_assoc,Nat.add_assoc]
    rw[e1,List.take_append,hB,List.take_of_length_le (by omega),List.take_take,Nat.min_eq_left (by omega),List.drop_take]
  rw[e]
  exact h1
theorem qgt (hs:Sim R p H w) {m:Nm} {cs ys:qal} {us:List Value} {b o s off:Nat} (hm:H m=some cs) (hp:p m=some (.at b o s)) (hb:off+ys.length≤cs.length)
    (hy:Rep R p ys us) (hc:ys.all qaB=true) :
    ∃ w',(storeCells ⟨b,o+off,none⟩ us).run P w = .ok () w'∧Sim R p (upd H m (some (qbh cs off ys))) w'∧Ext R p H w R p (upd H m (some (qbh cs off ys))) w':=by
  obtain ⟨vs,T,fz,l⟩:=hs.at hm hp
  have hu:=hy.length
  have hbd:=l.bound hb
  have run:=qf9 (P:=P) us 0 (o+off) vs w l.heap (l.free.imp (fun e=>by omega) id) (by omega) (qhs hy hc)
  rw[zZ] at run
  refine ⟨_,run,?_⟩
  exact hs.write hm hp l (qgS (by omega)) (by rw[qhz hb]; exact l.fits) (splice_lies l hb hy) rfl
theorem st_runs {base n:Nat} (hs:Sim R p H w) {m:Nm} {off:Nat} {x y:Value} {Y:LV} {ys cs:qal} {t:TypeId} (hx:Rep1 R p (.ptr m off) x) (hy:Rep1 R p Y y) (hys:qbe Y=some ys)
    (hm:H m=some cs) (h1:ys.length=n) (h2:off+n≤cs.length) (h3:ys.all qaB=true) (hn:szOf P t=some n) :
    Runs P R p H w base (do Instr.storeAt t x y; pure .skip) ⟨.v (.tuple #[]),[],[(m,some (qbh cs off ys))]⟩:=by
  cases hx with
  | ptr hp _ =>
    have hr:=qfW hy hys
    obtain ⟨w',run,h4,h5⟩:=qgt (P:=P) (off:=off) hs hm hp (by omega) hr h3
    refine Runs.mk' (nx := .skip) (w':=w') (R':=R) (p':=p) ?_ (.inr ⟨rfl,rfl⟩) ?_ (fun _ _ h=>h) (fun _ _ h => .inl h)
    · have hsz : y.cells.size = n := by have := hr.length; simp at this; omega
      simp only[Instr.storeAt,Instr.sureAddr,storeVar,Sem.run_bind,Sem.run_pure,Result.andThen_ok,qcb hn]
      rw[if_neg (by simp[hsz])]
      simp only[run,Result.andThen_ok]
    · rw [qbW]
      exact ⟨h4,h5⟩
theorem s2b_runs {base:Nat} (hs:Sim R p H w) (hn:p (base,0)=none) {src dst e:TypeId} {s:ByteArray} (hu:P.underlying src=some .string) (hd:P.underlying dst=some (.slice e))
    (he:P.underlying e=some (.int .u8)) :
    Runs P R p H w base (do pure (.value (←convert src dst (.string s)))) ⟨.sl (base,0) 0 s.size none 1,[s.data.toList.map qfx],[]⟩:=by
  obtain ⟨cap,hcap,hle⟩:∃ cap,Question.cut (.appendCap s.size 0 e) (w.tape w.drawn (.appendCap s.size 0 e))=cap∧s.size≤cap:=⟨_,rfl,by simp[Question.cut]⟩
  let vs:Array Value:=(s.data.map fun b => .int .u8 b.toNat)++Array.replicate (cap - s.size) (.int .u8 0)
  have hsz:vs.size=cap:=by
    simp only[vs,Array.size_append,Array.size_map,Array.size_replicate]
    have:s.data.size=s.size:=rfl
    omega
  have hlen:(s.data.toList.map qfx).length=s.size:=by simp
  refine Runs.alloc (T := e) (fz := (vs.size, vs.size + 1)) (vs := vs) (v := .slice (some ⟨w.heap.size, 0, none⟩) s.size cap)
    (w':={ w with drawn:=w.drawn+1,heap:=w.heap.push (.cells vs e (vs.size,vs.size+1)) }) hs hn ?_ rfl (.inr (Nat.le_refl _)) (by omega) ?_ (fun p' hp => ?_)
  · apply qds
    simp only[convert,Sem.run_bind,run_underlying hu,run_underlying hd,run_underlying he,Result.andThen_ok,Conv.stringToBytes,run_choose,Question.forced,zP,zM,hcap,newRow,run_newObj,Sem.run_pure,markStringish,run_shape,run_freeze]
    have hshape:World.shape? { w with drawn:=w.drawn+1,heap:=w.heap.push (.cells vs e (0,0)) } w.heap.size=some (e,vs.size):=by
      simp[World.shape?]
    simp only[vs] at hshape
    rw[hshape]
    simp only[run_freeze,Result.andThen_ok]
    congr 1
    unfold World.freeze
    simp only[Nat.one_ne_zero,zM]
    congr 1
    apply Array.ext
    · simp
    · intro i h1 h2
      simp only[Array.getElem_modify,Array.getElem_push]
      by_cases hi:w.heap.size=i
      · subst hi; simp[vs]
      · have : i < w.heap.size := by simp at h2; omega
        simp[hi,this]
  · rw [hlen]
    have e1:vs.toList.take s.size=(s.data.toList.map fun b=>Value.int .u8 b.toNat):=by
      simp only[vs,Array.toList_append,Array.toList_map]
      rw[List.take_append_of_le_length (by simp)]
      exact qez (by simp)
    rw[e1]
    have:=Rep.plain (R:=R) (p:=p) (s.data.toList.map fun b=>Value.int .u8 b.toNat)
    rw[List.map_map] at this
    exact this
  · refine .sl (b:=w.heap.size) (o:=0) (s:=vs.size) hp (by omega) (by simp) (fun _=>by omega) .nil
theorem cvs_runs {base:Nat} (hs:Sim R p H w) {src e:TypeId} {x:Value} {m:Nm} {off len:Nat} {c:Option Nat} {es:Nat} {cs:qal} (hu:P.underlying src=some (.slice e)) (he:P.underlying e=some (.int .u8))
    (hx:Rep1 R p (.sl m off len c es) x) (h0:0 < len) (hm:H m=some cs) :
    Runs P R p H w base (do pure (.value (←convert src src x))) ⟨.sl m off len c es,[],[(m,some cs)]⟩:=by
  have hx':=hx
  cases hx with
  | sl0 _ _=>omega
  | sl hp h1 h2 h3 _ =>
    rename_i b o s c' _
    obtain ⟨vs,T,fz,l⟩:=hs.at hm hp
    have hshape:World.shape? w b=some (T,vs.size):=by simp[World.shape?,l.heap]
    obtain ⟨fz',hfz'⟩:∃ fz',fz'=(if fz.1 == fz.2 then (vs.size,vs.size+1) else (min fz.1 vs.size,max fz.2 (vs.size+1))):=⟨_,rfl⟩
    have hfree:fz'.1=fz'.2∨vs.size≤fz'.1:=by
      rw[hfz']
      by_cases hz:fz.1=fz.2
      · rw[if_pos (by simpa using hz)]; exact .inr (Nat.le_refl _)
      · rw [if_neg (by simpa using hz)]
        rcases l.free with hz' | hz'
        · exact (hz hz').elim
        · right; simp only; omega
    have hw:(w.freeze ⟨b,vs.size,none⟩ 1).heap=w.heap.setIfInBounds b (.cells vs T fz'):=by
      unfold World.freeze
      simp only[Nat.one_ne_zero,zM]
      apply Array.ext
      · simp
      · intro i h1 h2
        have hi:i < w.heap.size:=by simpa using h1
        simp only[Array.getElem_modify,Array.getElem_setIfInBounds hi]
        by_cases hb:b=i
        · subst hb
          have h5:w.heap[b] = .cells vs T fz:=by have:=l.heap; rw[Array.getElem?_eq_getElem hi] at this; exact Option.some.inj this
          simp only[h5,zG,hfz']
        · simp only[hb,zM]
    have h4:=hs.writeZ (cs':=cs) hfree hm hp l rfl l.fits l.rep hw
    refine Runs.mk' (R':=R) (p':=p) (w':=w.freeze ⟨b,vs.size,none⟩ 1) (nx := .value (.slice (some ⟨b,o+off,none⟩) len c')) ?_ (.inl ⟨_,rfl,hx'⟩) ?_ (fun _ _ h=>h) (fun _ _ h => .inl h)
    · apply qds
      simp only[convert,Sem.run_bind,run_underlying hu,run_underlying he,Result.andThen_ok,beq_self_eq_true,markStringish,run_shape,hshape,run_freeze,Sem.run_pure]
    · rw [qbW]
      exact h4
theorem mkslice_runs {base size bytes:Nat} (hs:Sim R p H w) (hn:p (base,0)=none) {t e:TypeId} {k k':IntKind} {l c:Nat} {z:Array Value} (hu:P.underlying t=some (.slice e))
    (h1:szOf P e=some size) (h2:qda P e=some bytes) (h3:qdA P e=some z) (h0:0 < size) (hz:z.size=size) (hlc:l≤c) (hb:c*bytes≤2 ^ 47) (hc:c < 2 ^ 62) :
    Runs P R p H w base (do pure (.value (←Instr.makeSlice t (.int k l) (.int k' c)))) ⟨.sl (base,0) 0 l (some c) size,[(List.replicate c (z.toList.map LV.v)).flatten],[]⟩:=by
  obtain ⟨zv,hz1,hz2⟩:=qdB h3
  obtain ⟨i,hi1,hi2⟩:=qhh (w:=w) h2
  let vs:Array Value:=(Array.range (c*size)).map fun j=>z[j % z.size]!
  have hvs:vs.toList=(List.replicate c z.toList).flatten:=by
    simp only[vs]; rw[←hz]; exact zeros_eq z c (by omega)
  have hflat:(List.replicate c (z.toList.map LV.v)).flatten=(List.replicate c z.toList).flatten.map LV.v:=by
    rw[List.map_flatten,List.map_replicate]
  have hlen:(List.replicate c (z.toList.map LV.v)).flatten.length=vs.size:=by
    rw[hflat,zV,←hvs]; simp
  refine Runs.alloc (T:=e) (fz:=(0,0)) (vs:=vs) (v := .slice (some ⟨w.heap.size,0,none⟩) l c) (w':={ w with heap:=w.heap.push (.cells vs e (0,0)) }) hs hn ?_ rfl (.inl rfl) (by omega) ?_ (fun p' hp => ?_)
  · apply qds
    have w1:IntKind.i64.wrap (l:Int)=l:=by unfold IntKind.wrap; simp[IntKind.bits,IntKind.signed]; omega
    have w2:IntKind.i64.wrap (c:Int)=c:=by unfold IntKind.wrap; simp[IntKind.bits,IntKind.signed]; omega
    have hbn:bytes*c≤2 ^ 47:=by rw[Nat.mul_comm]; exact hb
    have hbi:((i.bytes:Int))*(c:Int)≤2 ^ 47:=by rw[hi2]; exact_mod_cast hbn
    simp only[Instr.makeSlice,Sem.run_bind,run_underlying hu,Result.andThen_ok,asInt,asIntOf,Sem.run_pure,hi1,w1,w2]
    rw[if_neg (by simp; omega)]
    simp only[Sem.run_bind,run_askRoom,Result.andThen_ok,qcb h1,Int.toNat_natCast]
    by_cases hcz:c*size=0
    · have hc0 : c = 0 := by rcases Nat.mul_eq_zero.1 hcz with h | h <;> omega
      subst hc0
      simp[newRow,vs]
      congr 2
      apply Array.ext'
      simp
    · rw [if_neg hcz]
      simp only[Sem.run_bind,hz1,Result.andThen_ok,Sem.run_pure,hz2,newRow,run_newObj]
      rfl
  · rw [hlen, hflat]
    have:vs.toList.take vs.size=vs.toList:=qez (by simp)
    rw[this,←hvs]
    exact Rep.plain _
  · by_cases hc0 : c = 0
    · obtain rfl : l = 0 := by omega
      subst hc0
      exact .sl0 (by simp) .nil
    · exact .sl (b:=w.heap.size) (o:=0) (s:=vs.size) hp hlc (by simp) (by simp) .nil
end Go.LE
namespace Go.LE
variable {P:Program} {R:Imm} {p:qa0} {gl:Nat→Option qal} {H:Heap} {w:World} {E:Env}
theorem growBy_le (n:Nat):∀ r c,c≤n+(n+768) / 4→Builtin.growBy n r c≤n+(n+768) / 4
  | 0,c,h=>h
  | r+1,c,h=>by
    simp only[Builtin.growBy]
    split
    · exact h
    · exact growBy_le n r _ (by omega)
theorem qhA {n c:Nat} (h:c < n):Builtin.nextslicecap n c≤n+(n+768) / 4:=by
  unfold Builtin.nextslicecap
  split
  · omega
  · split
    · omega
    · have := growBy_le n 4 c (by omega)
      omega
section
variable {t u e:TypeId} {d:TypeDesc} {size bytes sLen sCap k:Nat} {a:Option Addr} {y:Value} {ty:TypeId} {new:Array Value} {z:Array Value}
variable (hu:P.underlying t=some (.slice e)) (hv:P.underlying u=some d) (hd:∀ k,d ≠ .int k) (hs:szOf P e=some size)
include hu hv hd hs
theorem qhB (hk:∀ w:World,(Builtin.lenOf y).run P w = .ok k w) (hn:(Builtin.firstCells size k y).run P w = .ok new w) (hfit:sLen+k≤sCap) :
    (Builtin.append_ #[t, u] ty #[.slice a sLen sCap, y]).run P w =
      (match a with | some a=>(storeCells (a.add (sLen*size)) new.toList).run P w | none => .ok () w).andThen fun _ w' => .ok (.slice a (sLen+k) sCap) w':=by
  have hz:(match d with | .int _=>true | _=>false)=false:=by cases d <;> first | rfl | exact absurd rfl (hd _)
  simp only[Builtin.append_,List.getElem?_toArray,List.getElem?_cons_zero,List.getElem?_cons_succ,Sem.run_bind,run_underlying hu,run_underlying hv,qcb hs,Result.andThen_ok,Sem.run_pure,hz,zP,zM,hk,Bool.not_false,zG,hn,hfit]
  cases a <;> simp only[Sem.run_bind,Sem.run_pure,Result.andThen_ok]
theorem qhq (hb:qda P e=some bytes) (hzr:qdA P e=some z) (hzs:z.size=size) (hpos:0 < size) (hk:∀ w:World,(Builtin.lenOf y).run P w = .ok k w)
    (hn:∀ w':World,w'.heap=w.heap→(Builtin.firstCells size k y).run P w' = .ok new w') {old:Array Value} (ho:∀ w':World,w'.heap=w.heap→(Builtin.firstCells size sLen (.slice a sLen sCap)).run P w' = .ok old w')
    (hgrow:sCap < sLen+k) (h1:(sLen+k)*bytes≤211106232532992) (h2:bytes≤2 ^ 20) (h3:0 < bytes) :
    ∃ (c : Nat) (rest : Array Value) (w' : World), sLen + k ≤ c ∧ rest.size = (c - (sLen + k)) * size ∧ w'.heap = w.heap.push (.cells (old ++ new ++ rest) e (0, 0)) ∧
      (w'.os=w.os∧w'.output=w.output∧w'.tape=w.tape)∧(Builtin.append_ #[t,u] ty #[.slice a sLen sCap,y]).run P w = .ok (.slice (some ⟨w.heap.size,0,none⟩) (sLen+k) c) w':=by
  have hz:(match d with | .int _=>true | _=>false)=false:=by cases d <;> first | rfl | exact absurd rfl (hd _)
  obtain ⟨zv,hz1,hz2⟩:=qdB hzr
  obtain ⟨i,hi1⟩:∃ i,P.info? e=some i:=by
    unfold qda at hb
    cases hi:P.info? e with
    | none=>simp[hi] at hb
    | some i=>exact ⟨i,rfl⟩
  have hi2:i.bytes=bytes:=by simpa [qda,hi1] using hb
  have hi3:∀ w:World,(typeInfo e).run P w = .ok i w:=fun w=>run_info hi1
  have hcapb:¬ (Builtin.nextslicecap (sLen+k) sCap*i.bytes > 2 ^ 48):=by
    have h5:=qhA hgrow
    have h6:(4*Builtin.nextslicecap (sLen+k) sCap)*bytes≤(5*(sLen+k)+768)*bytes:=Nat.mul_le_mul_right _ (by omega)
    have h7:(5*(sLen+k)+768)*bytes=5*((sLen+k)*bytes)+768*bytes:=by rw[Nat.add_mul,Nat.mul_assoc]
    rw[Nat.mul_assoc] at h6
    rw[hi2]
    omega
  have hle:∀ q,sLen+k≤Question.cut (.appendCap (sLen+k) sCap e) q:=fun q=>by simp[Question.cut]
  refine ⟨Question.cut (.appendCap (sLen+k) sCap e) (w.tape w.drawn (.appendCap (sLen+k) sCap e)),
    Builtin.zeroCells z (Question.cut (.appendCap (sLen+k) sCap e) (w.tape w.drawn (.appendCap (sLen+k) sCap e)) - (sLen+k)),
    { w with drawn:=w.drawn+1,heap:=w.heap.push (.cells (old++new++Builtin.zeroCells z (Question.cut (.appendCap (sLen+k) sCap e) (w.tape w.drawn (.appendCap (sLen+k) sCap e)) - (sLen+k))) e (0,0)) },
    hle _,by simp[Builtin.zeroCells,hzs],rfl,⟨rfl,rfl,rfl⟩,?_⟩
  simp only[Builtin.append_,List.getElem?_toArray,List.getElem?_cons_zero,List.getElem?_cons_succ,Sem.run_bind,run_underlying hu,run_underlying hv,qcb hs,Result.andThen_ok,Sem.run_pure,hz,zP,zM,hk,Bool.not_false,zG]
  rw[if_neg (by omega)]
  have hbz:¬ i.bytes=0:=by omega
  simp only[Sem.run_bind,hi3,Result.andThen_ok,hbz,or_false,and_false,zM,hcapb,run_choose,Question.forced,zP,run_askRoom,Bool.not_false,zG]
  rw[ho { w with drawn:=w.drawn+1 } rfl]
  simp only[Result.andThen_ok]
  rw[hn { w with drawn:=w.drawn+1 } rfl]
  simp only[Result.andThen_ok,hz1,hz2,newRow,Sem.run_bind,run_newObj,Sem.run_pure]
end
section
variable {t u e:TypeId} {ik ik':IntKind} {size bytes sLen sCap k:Nat} {a:Option Addr} {ty:TypeId} {z:Array Value}
theorem run_zeros (hzr:qdA P e=some z) (hpos:0 < size) (w:World):(if k*size=0 then (pure #[]:Sem (Array Value)) else do pure (Builtin.zeroCells (←zeroValue e).cells k)).run P w = .ok (Builtin.zeroCells z k) w:=by
  obtain ⟨zv,hz1,hz2⟩:=qdB hzr
  by_cases h0:k*size=0
  · have hk0 : k = 0 := by rcases Nat.mul_eq_zero.1 h0 with h | h <;> omega
    subst hk0
    simp[Builtin.zeroCells]
  · rw [if_neg h0]
    simp only[Sem.run_bind,hz1,Result.andThen_ok,hz2,Sem.run_pure]
variable (hu : P.underlying t = some (.slice e)) (hv : P.underlying u = some (.int ik)) (hs : szOf P e = some size) (hb : qda P e = some bytes) (hzr : qdA P e = some z) (hzs : z.size = size) (hpos : 0 < size)
  (hk:k < 2 ^ 62) (hkb:k*bytes≤211106232532992)
include hu hv hs hb hzr hzs hpos hk hkb
theorem qhr (hfit:sLen+k≤sCap) :
    (Builtin.append_ #[t, u] ty #[.slice a sLen sCap, .int ik' (k : Int)]).run P w =
      (match a with | some a=>(storeCells (a.add (sLen*size)) (Builtin.zeroCells z k).toList).run P w | none => .ok () w).andThen fun _ w' => .ok (.slice a (sLen+k) sCap) w':=by
  have hrz:∀ w,_:=run_zeros (P:=P) (k:=k) hzr hpos
  have hzs':z.size=size:=hzs
  obtain ⟨i,hi1,hi2⟩:=qhh (w:=w) hb
  have w1:IntKind.i64.wrap (k:Int)=k:=by unfold IntKind.wrap; simp[IntKind.bits,IntKind.signed]; omega
  have hbi:¬ ((k:Int)*(i.bytes:Int) > 2 ^ 48):=by
    rw[hi2,←Int.natCast_mul]; generalize k*bytes=q at hkb; omega
  have hneg:¬ ((k:Int) < 0):=by omega
  unfold Builtin.append_
  simp only[List.getElem?_toArray,List.getElem?_cons_zero,List.getElem?_cons_succ]
  simp only[Sem.run_bind,run_underlying hu,Result.andThen_ok]
  simp only[Sem.run_bind,qcb hs,Result.andThen_ok]
  simp only[Sem.run_bind,run_underlying hv,Result.andThen_ok,Sem.run_pure,zG]
  simp only[asInt,asIntOf,Sem.run_bind,Sem.run_pure,Result.andThen_ok,w1,hneg,zM,hi1,hbi,Int.toNat_natCast,hfit,zG,Bool.not_true,zP]
  rw[hrz]
  clear hzs'
  cases a <;> simp only[Sem.run_bind,Sem.run_pure,Result.andThen_ok]
theorem qhg {old:Array Value} (ho:∀ w':World,w'.heap=w.heap→(Builtin.firstCells size sLen (.slice a sLen sCap)).run P w' = .ok old w')
    (hgrow:sCap < sLen+k) (h1:(sLen+k)*bytes≤211106232532992) (h2:bytes≤2 ^ 20) (h3:0 < bytes) :
    ∃ (c : Nat) (rest : Array Value) (w' : World), sLen + k ≤ c ∧ rest.size = (c - (sLen + k)) * size ∧ w'.heap = w.heap.push (.cells (old ++ Builtin.zeroCells z k ++ rest) e (0, 0)) ∧
      (w'.os=w.os∧w'.output=w.output∧w'.tape=w.tape)∧(Builtin.append_ #[t,u] ty #[.slice a sLen sCap,.int ik' (k:Int)]).run P w = .ok (.slice (some ⟨w.heap.size,0,none⟩) (sLen+k) c) w':=by
  have hrz:∀ w,_:=run_zeros (P:=P) (k:=k) hzr hpos
  obtain ⟨zv,hz1,hz2⟩:=qdB hzr
  obtain ⟨i,hi1⟩:∃ i,P.info? e=some i:=by
    unfold qda at hb
    cases hi:P.info? e with
    | none=>simp[hi] at hb
    | some i=>exact ⟨i,rfl⟩
  have hi2:i.bytes=bytes:=by simpa [qda,hi1] using hb
  have hi3:∀ w:World,(typeInfo e).run P w = .ok i w:=fun w=>run_info hi1
  have hcapb:¬ (Builtin.nextslicecap (sLen+k) sCap*i.bytes > 2 ^ 48):=by
    have h5:=qhA hgrow
    have h6:(4*Builtin.nextslicecap (sLen+k) sCap)*bytes≤(5*(sLen+k)+768)*bytes:=Nat.mul_le_mul_right _ (by omega)
    have h7:(5*(sLen+k)+768)*bytes=5*((sLen+k)*bytes)+768*bytes:=by rw[Nat.add_mul,Nat.mul_assoc]
    rw[Nat.mul_assoc] at h6
    rw[hi2]
    omega
  have w1:IntKind.i64.wrap (k:Int)=k:=by unfold IntKind.wrap; simp[IntKind.bits,IntKind.signed]; omega
  have hbi:¬ ((k:Int)*(i.bytes:Int) > 2 ^ 48):=by
    rw[hi2,←Int.natCast_mul]; generalize k*bytes=q at hkb; omega
  have hneg:¬ ((k:Int) < 0):=by omega
  have hneed:sLen+k≤211106232532992:=Nat.le_trans (Nat.le_mul_of_pos_right _ h3) h1
  have hmax:¬ (((sLen+k:Nat):Int) > IntKind.i64.max∧(True∨i.bytes=0)):=by
    have:IntKind.i64.max=9223372036854775807:=by decide
    rw[this]; omega
  have hle:∀ q,sLen+k≤Question.cut (.appendCap (sLen+k) sCap e) q:=fun q=>by simp[Question.cut]
  have hnf:¬ (sLen+k≤sCap):=by omega
  refine ⟨Question.cut (.appendCap (sLen+k) sCap e) (w.tape w.drawn (.appendCap (sLen+k) sCap e)),
    Builtin.zeroCells z (Question.cut (.appendCap (sLen+k) sCap e) (w.tape w.drawn (.appendCap (sLen+k) sCap e)) - (sLen+k)),
    { w with drawn:=w.drawn+1,heap:=w.heap.push (.cells (old++Builtin.zeroCells z k++Builtin.zeroCells z (Question.cut (.appendCap (sLen+k) sCap e) (w.tape w.drawn (.appendCap (sLen+k) sCap e)) - (sLen+k))) e (0,0)) },
    hle _,by simp[Builtin.zeroCells,hzs],rfl,⟨rfl,rfl,rfl⟩,?_⟩
  unfold Builtin.append_
  simp only[List.getElem?_toArray,List.getElem?_cons_zero,List.getElem?_cons_succ]
  simp only[Sem.run_bind,run_underlying hu,Result.andThen_ok]
  simp only[Sem.run_bind,qcb hs,Result.andThen_ok]
  simp only[Sem.run_bind,run_underlying hv,Result.andThen_ok,Sem.run_pure,zG]
  simp only[asInt,asIntOf,Sem.run_bind,Sem.run_pure,Result.andThen_ok,w1,hneg,zM,hi3,hbi,Int.toNat_natCast,hnf,hmax,hcapb,zG,Bool.not_true,zP]
  simp only[Sem.run_bind,run_choose,Question.forced,zP,zM,Result.andThen_ok,hi3,run_askRoom]
  rw[ho { w with drawn:=w.drawn+1 } rfl]
  simp only[Result.andThen_ok]
  rw[hrz]
  simp only[Result.andThen_ok,hz1,hz2,newRow,Sem.run_bind,run_newObj,Sem.run_pure]
end
end Go.LE
namespace Go.LE
variable {P:Program} {R:Imm} {p:qa0} {gl:Nat→Option qal} {H:Heap} {w:World} {E:Env}
theorem qfC (H:Heap) {ms:List (Nm × Option qal)} {n:Nm} (h:ms.all (fun q=>q.1 != n)=true):qbN H ms n=H n:=by
  induction ms with
  | nil=>rfl
  | cons x ms ih =>
    obtain ⟨m,v⟩:=x
    simp only[zT,Bool.and_eq_true,bne_iff_ne,ne_eq] at h
    rw[qcM]
    unfold upd
    rw[if_neg (fun e=>h.1 e.symm)]
    exact ih (by simpa using h.2)
theorem qgL (hs:Sim R p H w):∀ (xs ys:List LV) (ms:List (Nm × Option qal)) (zs:List Value),qdT H xs=some (ys,ms)→Rep R p xs zs →
    ∃ R',Rep R' p ys zs∧Sim R' p (qbN H ms) w∧Ext R p H w R' p (qbN H ms) w∧(∀ q ∈ ms,q.2=none):=by
  intro xs
  induction xs with
  | nil=>intro ys ms zs h hr; simp[qdT] at h; obtain ⟨rfl,rfl⟩:=h; cases hr; exact ⟨R,.nil,hs,Ext.refl _ _ _ _,by simp⟩
  | cons x xs ih =>
    intro ys ms zs h hr
    obtain ⟨z,zs,rfl,h1,h2⟩:=hr.uncons
    simp only[qdT] at h
    split at h
    · rename_i y m ys' ms' e1 e2
      split at h
      · rename_i hd
        obtain ⟨rfl,rfl⟩:=Prod.mk.inj (Option.some.inj h)
        obtain ⟨R1,r1,r2,r3,r4⟩:=ih ys' ms' zs e2 h2
        have up:∀ b cs,R b=some cs→R1 b=some cs:=r3.imm
        have plain:∀ v,Rep1 R p v z→m=[]→v=y→∃ R',Rep R' p (y::ys') (z::zs)∧Sim R' p (qbN H (m++ms')) w∧Ext R p H w R' p (qbN H (m++ms')) w∧(∀ q ∈ m++ms',q.2=none):=by
          rintro v hv rfl rfl
          exact ⟨R1,Rep.cons (hv.mono up (fun _ _ h=>h)) r1,r2,r3,r4⟩
        unfold frozenOf at e1
        split at e1
        · rename_i n off len cap es
          split at e1
          · rename_i h0
            obtain ⟨rfl,rfl⟩:=Prod.mk.inj (Option.some.inj e1)
            subst h0
            refine ⟨R1,Rep.cons ?_ r1,r2,r3,r4⟩
            cases h1 <;> exact .isl0 .nil
          · rename_i h0
            split at e1
            · rename_i cs hn
              obtain ⟨rfl,rfl⟩:=Prod.mk.inj (Option.some.inj e1)
              simp only[zT,List.all_nil,Bool.and_true] at hd
              have hn':qbN H ms' n=some cs:=by rw[qfC H hd]; exact hn
              cases h1 with
              | sl0 _ _=>exact absurd rfl h0
              | @sl _ _ _ _ _ b o s c _ _ hp hl hk hsz _ =>
                obtain ⟨vs,T,fz,l⟩:=r2.at hn' hp
                obtain ⟨f1,f2⟩:=r2.freeze hn' hp l
                have up2:=f2.imm
                refine ⟨_,Rep.cons ?_ (r1.mono up2 (fun _ _ h=>h)),by simpa [qcM] using f1,by simpa [qcM] using r3.trans f2,by simpa using r4⟩
                refine .isl (cs:=vs.toList) (b:=b) (o:=o+off) (by simp) ?_ hl .nil
                have h3:=((l.rep.drop off).take (len*es)).mono up2 (fun _ _ h=>h)
                rw[List.drop_take,List.drop_drop,List.take_take] at h3
                have e3:((cs.drop off).take (len*es)).length=min (len*es) (cs.length - off):=by simp
                rw[e3]
                exact h3
            · cases e1
        · obtain ⟨rfl,rfl⟩:=Prod.mk.inj (Option.some.inj e1); exact plain _ h1 rfl rfl
        · obtain ⟨rfl,rfl⟩:=Prod.mk.inj (Option.some.inj e1); exact plain _ h1 rfl rfl
        · cases e1
      · cases h
    · cases h
theorem qbb {H:Heap} {n:Nm} {x:Option qal} (h:H n=x):upd H n x=H:=by
  funext m
  unfold upd
  by_cases e:m=n
  · rw[if_pos e,e,h]
  · rw[if_neg e]
theorem at1_new {base:Nat} {x:Base}:∀ n y,at1 p (base,0) x n=some y→p n=some y∨n.1=base:=by
  intro n y h
  unfold at1 at h
  by_cases e:n=(base,0)
  · exact .inr (by rw[e])
  · rw[if_neg e] at h; exact .inl h
theorem qfN {size n:Nat} {X:LV} {ys:qal} (h:qbp H size n X=some ys) (hs:0 < size):ys.length=n*size:=by
  unfold qbp at h
  split at h
  · split at h
    · rename_i h0; simp at h; subst h; simp[h0]
    · split at h
      · split at h
        · split at h
          · obtain rfl:=Option.some.inj h; simp; omega
          · cases h
        · cases h
      · cases h
  · split at h
    · rename_i h0; simp at h; subst h; simp[h0]
    · split at h
      · obtain rfl:=Option.some.inj h; simp; omega
      · cases h
  · split at h
    · rename_i h0; simp at h; subst h; simp[h0]
    · cases h
  · split at h
    · rename_i s hb; obtain rfl := Option.some.inj h
      have:s.data.toList.length=s.size:=by simp
      simp[hb.1]; omega
    · cases h
  · cases h
structure App (P:Program) (R:Imm) (p:qa0) (H:Heap) (w:World) (R1:Imm) (H1:Heap) (t u e:TypeId) (size bytes k:Nat) (y:Value) (new:qal) (zs:Array Value):Prop where
  pos:0 < size
  fitsR : ∀ {a : Option Addr} {len c : Nat} (ty : TypeId), len + k ≤ c → (Builtin.append_ #[t, u] ty #[.slice a len c, y]).run P w =
      (match a with | some a=>(storeCells (a.add (len*size)) zs.toList).run P w | none => .ok () w).andThen fun _ w' => .ok (.slice a (len+k) c) w'
  growsR : ∀ {a : Option Addr} {sLen sCap : Nat} (ty : TypeId) {old : Array Value}, (∀ w' : World, w'.heap = w.heap → (Builtin.firstCells size sLen (.slice a sLen sCap)).run P w' = .ok old w') → sCap < sLen + k → (sLen + k) * bytes ≤ 211106232532992 →
    ∃ (c : Nat) (rest : Array Value) (w' : World), sLen + k ≤ c ∧ rest.size = (c - (sLen + k)) * size ∧ w'.heap = w.heap.push (.cells (old ++ zs ++ rest) e (0, 0)) ∧
      (w'.os=w.os∧w'.output=w.output∧w'.tape=w.tape)∧(Builtin.append_ #[t,u] ty #[.slice a sLen sCap,y]).run P w = .ok (.slice (some ⟨w.heap.size,0,none⟩) (sLen+k) c) w'
  rep:Rep R1 p new zs.toList
  cells:new.all qaB=true
  count:new.length=k*size
  sim:Sim R1 p H1 w
  ext:Ext R p H w R1 p H1 w
variable {R1:Imm} {H1:Heap} {t u e:TypeId} {size bytes k:Nat} {y:Value} {new:qal} {zs:Array Value}
theorem App.fits (A:App P R p H w R1 H1 t u e size bytes k y new zs) {a:Option Addr} {len c:Nat} (ty:TypeId) (h:len+k≤c) :
    (Builtin.append_ #[t, u] ty #[.slice a len c, y]).run P w =
      (match a with | some a=>(storeCells (a.add (len*size)) zs.toList).run P w | none => .ok () w).andThen fun _ w' => .ok (.slice a (len+k) c) w':=by
  exact A.fitsR ty h
theorem App.grows (A:App P R p H w R1 H1 t u e size bytes k y new zs) {base:Nat} (hn:p (base,0)=none) {a:Option Addr} {len c:Nat} (ty:TypeId) {old:qal} {os:Array Value}
    (ho:∀ w':World,w'.heap=w.heap→(Builtin.firstCells size len (.slice a len c)).run P w' = .ok os w') (hr:Rep R1 p old os.toList) (hol:old.length=len*size)
    (h:c < len+k) (hb:(len+k)*bytes≤211106232532992) {ms:List (Nm × Option qal)} (hH:qbN H ms=H1) :
    Runs P R p H w base (do pure (.value (←Builtin.append_ #[t,u] ty #[.slice a len c,y]))) ⟨.sl (base,0) 0 (len+k) none size,[old++new],ms⟩:=by
  obtain ⟨c',rest,w',h1,h2,h3,hio,h4⟩:=A.growsR ty ho h hb
  have hlen:(old++new).length=(len+k)*size:=by rw[zH,hol,A.count,Nat.add_mul]
  have hvs:(os++zs++rest).size=c'*size:=by
    have e1:=hr.length
    have e2:=A.rep.length
    have e3:(len+k)*size+(c' - (len+k))*size=c'*size:=by rw[←Nat.add_mul]; congr 1; omega
    rw[zH] at hlen
    simp at e1 e2 ⊢
    omega
  obtain ⟨f1, f2⟩ := A.sim.alloc (n := (base, 0)) hn h3 (.inl rfl) (cs := old ++ new) (by rw [hlen, hvs]; exact Nat.mul_le_mul_right _ h1) (by
    have:=hr.append A.rep
    have e:(os++zs++rest).toList.take (old++new).length=os.toList++zs.toList:=by
      rw[Array.toList_append,Array.toList_append,List.take_append_of_le_length (by have:=this.length; simp at this ⊢; omega)]
      exact qez (by have:=this.length; simpa using this)
    rw[e]; exact this) hio
  refine Runs.mk' (R':=R1) (p':=at1 p (base,0) (.at w.heap.size 0 (os++zs++rest).size)) (qds h4) (.inl ⟨_,rfl,?_⟩) ?_ (qey hn) at1_new
  · exact .sl (b:=w.heap.size) (o:=0) (s:=(os++zs++rest).size) (by simp[at1]) h1 (by simp) (fun _=>by rw[hvs]; omega) .nil
  · rw [qeb, hH]
    exact ⟨f1,A.ext.trans f2⟩
theorem App.inPlace (A:App P R p H w R1 H1 t u e size bytes k y new zs) {base:Nat} {m:Nm} {off len c:Nat} {x:Value} {cs:qal} (ty:TypeId) (hx:Rep1 R p (.sl m off len (some c) size) x) (h:len+k≤c)
    (hm:H1 m=some cs) (hb:off+(len+k)*size≤cs.length) {ms:List (Nm × Option qal)} (hH:qbN H ms=H1) :
    Runs P R p H w base (do pure (.value (←Builtin.append_ #[t,u] ty #[x,y]))) ⟨.sl m off (len+k) (some c) size,[],(m,some (qbh cs (off+len*size) new))::ms⟩:=by
  cases hx with
  | @sl0 _ _ _ _ a _ _ hk _ =>
    have:=hk c rfl
    subst this
    obtain rfl:k=0:=by omega
    have hnew:new=[]:=List.eq_nil_of_length_eq_zero (by rw[A.count]; simp)
    have hz:zs.toList=[]:=by have:=A.rep.length; rw[hnew] at this; exact List.eq_nil_of_length_eq_zero this.symm
    have run:=A.fits (a:=a) (len:=0) (c:=0) ty (by omega)
    refine Runs.mk' (nx := .value (.slice a (0+0) 0)) (w':=w) (R':=R1) (p':=p) (qds (run.trans ?_)) (.inl ⟨_,rfl,.sl0 (by simp) .nil⟩) ?_ (fun _ _ h=>h) (fun _ _ h => .inl h)
    · rw [hz]
      cases a <;> rfl
    · rw [qbW, qcM, hH]
      have:qbh cs (off+0*size) new=cs:=by rw[hnew]; simp[qbh]
      rw[this,qbb hm]
      exact ⟨A.sim,A.ext⟩
  | @sl _ _ _ _ _ b o s c' _ _ hp hl hk hsz _ =>
    have:=hk c rfl
    subst this
    have e3:(len+k)*size=len*size+k*size:=Nat.add_mul _ _ _
    obtain ⟨w',run',f1,f2⟩:=qgt (P:=P) (off:=off+len*size) A.sim hm hp (by rw[A.count]; omega) A.rep A.cells
    have run:=A.fits (a:=some ⟨b,o+off,none⟩) (len:=len) (c:=c) ty h
    refine Runs.mk' (nx := .value _) (w':=w') (R':=R1) (p':=p) (qds (run.trans ?_)) (.inl ⟨_,rfl,.sl hp h (by simp) (by simp) .nil⟩) ?_ (fun _ _ h=>h) (fun _ _ h => .inl h)
    · simp only [Addr.add_lit, Nat.add_assoc] at run' ⊢
      rw[run']
      rfl
    · rw [qbW, qcM, hH]
      exact ⟨f1,A.ext.trans f2⟩
theorem App.moves (A:App P R p H w R1 H1 t u e size bytes k y new zs) {base:Nat} (hn:p (base,0)=none) {m:Nm} {off len:Nat} {x:Value} {cs:qal} (ty:TypeId)
    (hx:Rep1 R p (.sl m off len none size) x) (hb:(len+k)*bytes≤211106232532992) (hm:H1 m=some cs) (hcs:off+len*size≤cs.length) {ms:List (Nm × Option qal)} (hH:qbN H ms=H1) :
    Runs P R p H w base (do pure (.value (←Builtin.append_ #[t,u] ty #[x,y]))) ⟨.sl (base,0) 0 (len+k) none size,[(cs.drop off).take (len*size)++new],(m,none)::ms⟩:=by
  have rm:=A.sim.remove m
  have A':App P R p H w R1 (upd H1 m none) t u e size bytes k y new zs:={ A with sim:=rm.1,ext:=A.ext.trans rm.2 }
  have hH':qbN H ((m,none)::ms)=upd H1 m none:=by rw[qcM,hH]
  cases hx with
  | @sl0 _ _ _ _ a _ _ _ _ =>
    by_cases h0:k=0
    · subst h0
      have hnew:new=[]:=List.eq_nil_of_length_eq_zero (by rw[A.count]; simp)
      have hz:zs.toList=[]:=by have:=A.rep.length; rw[hnew] at this; exact List.eq_nil_of_length_eq_zero this.symm
      have run:=A.fits (a:=a) (len:=0) (c:=0) ty (by omega)
      obtain ⟨f1,f2⟩:=A'.sim.nowhere (n:=(base,0)) hn
      refine Runs.mk' (nx := .value (.slice a (0+0) 0)) (w':=w) (R':=R1) (p':=at1 p (base,0) .nowhere) (qds (run.trans ?_)) (.inl ⟨_,rfl,.sl0 (by simp) .nil⟩) ?_ (qey hn) at1_new
      · rw [hz]
        cases a <;> rfl
      · rw [qeb, hH', hnew]
        simp only[Nat.zero_mul,zW,zD]
        exact ⟨f1,A'.ext.trans f2⟩
    · have ho:∀ w':World,w'.heap=w.heap→(Builtin.firstCells size 0 (.slice a 0 0)).run P w' = .ok #[] w':=by
        intro w' _
        cases a <;> simp[Builtin.firstCells,loadCells,loadCellsFrom]
      have:=A'.grows hn (a:=a) (len:=0) (c:=0) ty (old:=[]) (os := #[]) ho .nil (by simp) (by omega) hb (ms:=(m,none)::ms) hH'
      simpa using this
  | @sl _ _ _ _ _ b o s c _ _ hp hl hk hsz _ =>
    have hroom:=hsz rfl
    obtain ⟨vs,T,fz,l⟩:=A.sim.at hm hp
    by_cases hf:len+k≤c
    ·
      have run:=A.fits (a:=some ⟨b,o+off,none⟩) (len:=len) (c:=c) ty hf
      have hzl:zs.toList.length=k*size:=by have:=A.rep.length; rw[A.count] at this; exact this.symm
      have hzs:zs.size=k*size:=by simpa using hzl
      have e3:(len+k)*size=len*size+k*size:=Nat.add_mul _ _ _
      have e4:(len+k)*size≤c*size:=Nat.mul_le_mul_right _ hf
      have hvs:=l.size
      have st:=qf9 (P:=P) zs.toList 0 (o+off+len*size) vs w l.heap (l.free.imp (fun e=>by omega) id) (by omega) (qhs A.rep A.cells)
      rw[zZ] at st
      have hmid:(qcd vs (o+off+len*size) zs.toList).toList=vs.toList.take (o+off+len*size)++(zs.toList++vs.toList.drop (o+off+len*size+zs.toList.length)):=by
        simp[qcd]
      have hcut:((cs.take (off+len*size))++new).length=off+len*size+k*size:=by rw[zH,zU,A.count]; omega
      have hr1:Rep R1 p ((cs.take (off+len*size))++new) (((qcd vs (o+off+len*size) zs.toList).toList.drop o).take ((cs.take (off+len*size))++new).length):=by
        have e5:((qcd vs (o+off+len*size) zs.toList).toList.drop o).take (off+len*size+k*size)=(vs.toList.drop o).take (off+len*size)++zs.toList:=by
          rw[hmid,List.drop_append_of_le_length (by simp; omega),List.drop_take,show o+off+len*size - o=off+len*size by omega,←List.append_assoc]
          rw[List.take_append_of_le_length (by simp; omega)]
          exact qez (by simp; omega)
        rw[hcut,e5]
        refine Rep.append ?_ A.rep
        have:=l.rep.take (off+len*size)
        rwa [List.take_take,Nat.min_eq_left hcs] at this
      obtain ⟨f1,f2⟩:=A.sim.write (w':=qeG w b (.cells (qcd vs (o+off+len*size) zs.toList) T fz)) hm hp l (qgS (by omega)) (by rw[hcut]; omega) hr1 rfl
      obtain ⟨vs2,T2,fz2,l2⟩:=f1.at (n:=m) (cs:=(cs.take (off+len*size))++new) (by simp[upd]) hp
      have hdrop:((cs.take (off+len*size))++new).drop off=(cs.drop off).take (len*size)++new:=by
        rw[List.drop_append_of_le_length (by simp; omega),List.drop_take,zg]
      obtain ⟨g1, g2⟩ := f1.rename (n := (base, 0)) (off := off) (cs' := (cs.drop off).take (len * size) ++ new) hn (by simp [upd]) hp l2 (by omega) (by rw [← hdrop, zR, hcut]; omega) (by
        have:=l2.rep.drop off
        rw[hdrop,List.drop_take,List.drop_drop] at this
        have e6:((cs.drop off).take (len*size)++new).length=((cs.take (off+len*size))++new).length - off:=by rw[←hdrop,zR]
        rw[e6]
        exact this)
      have e7 : upd (upd (upd H1 m (some ((cs.take (off + len * size)) ++ new))) m none) (base, 0) (some ((cs.drop off).take (len * size) ++ new)) =
          upd (upd H1 m none) (base,0) (some ((cs.drop off).take (len*size)++new)):=by
        funext q; unfold upd; by_cases c1:q=(base,0) <;> by_cases c2:q=m <;> simp[c1,c2]
      rw[e7] at g1 g2
      refine Runs.mk' (nx := .value (.slice (some ⟨b, o + off, none⟩) (len + k) c)) (R' := R1) (p' := at1 p (base, 0) (.at b (o + off) (s - off))) (w' := qeG w b (.cells (qcd vs (o + off + len * size) zs.toList) T fz)) (qds (run.trans ?_)) (.inl ⟨_, rfl, ?_⟩) ?_
        (qey hn) at1_new
      · simp only [Addr.add_lit]
        rw[st]
        rfl
      · have := Rep.sl (R := R1) (p := at1 p (base, 0) (.at b (o + off) (s - off))) (n := (base, 0)) (off := 0) (len := len + k) (cap := none) (es := size) (b := b) (o := o + off) (s := s - off) (c := c)
          (by simp[at1]) hf (by simp) (fun _=>by omega) .nil
        simpa using this
      · rw [qeb, hH']
        exact ⟨g1,(A.ext.trans f2).trans g2⟩
    ·
      have ho:∀ w':World,w'.heap=w.heap→(Builtin.firstCells size len (.slice (some ⟨b,o+off,none⟩) len c)).run P w' = .ok ((vs.toList.drop (o+off)).take (len*size)).toArray w':=by
        intro w' hw
        exact qfg (by rw[hw]; exact l.heap) (l.bound hcs)
      exact A'.grows hn ty ho (by simpa using l.seg hcs) (by simp; omega) (by omega) hb hH'
end Go.LE
namespace Go.LE
variable {P:Program} {R:Imm} {p:qa0} {gl:Nat→Option qal} {H:Heap} {w:World} {E:Env}
theorem append_runs {base:Nat} (hs:Sim R p H w) (hn:p (base,0)=none) {tm:List LV} {X Y:LX} {x y:Value} {t u e:TypeId} {d:TypeDesc} {size bytes:Nat} {fz:Bool} {r:Out} {z:Array Value}
    (ty:TypeId) (hx:Rep1 R p (evX E.gl tm X) x) (hy:Rep1 R p (evX E.gl tm Y) y) (hu:P.underlying t=some (.slice e)) (hv:P.underlying u=some d) (hd:∀ k,d ≠ .int k)
    (hsz:szOf P e=some size) (hb:qda P e=some bytes) (hz:qdA P e=some z) (hz':z.size=size) (h0:0 < size) (hb0:0 < bytes)
    (hr:qbz E tm H base (.append size bytes fz X Y)=some r):Runs P R p H w base (do pure (.value (←Builtin.append_ #[t,u] ty #[x,y]))) r:=by
  simp only[qbz] at hr
  cases hk:qcE (evX E.gl tm Y) with
  | none=>simp[hk] at hr
  | some k =>
    simp only[hk] at hr
    cases hf:qbp H size k (evX E.gl tm Y) with
    | none=>simp[hf] at hr
    | some new0 =>
      simp only[hf] at hr
      obtain ⟨zs,hz1,hz2⟩:=qfM (P:=P) hs hy hf
      have hcount:=qfN hf h0
      cases hfz:(if fz then qdT H new0 else some (new0,[])) with
      | none=>simp[hfz] at hr
      | some nm =>
        obtain ⟨new,ms⟩:=nm
        simp only[hfz] at hr
        split at hr
        · rename_i hc
          obtain ⟨hb20,hcell⟩:=hc
          obtain ⟨R1,r1,r2,r3⟩:∃ R1,Rep R1 p new zs.toList∧Sim R1 p (qbN H ms) w∧Ext R p H w R1 p (qbN H ms) w:=by
            cases fz with
            | false=>simp at hfz; obtain ⟨rfl,rfl⟩:=hfz; exact ⟨R,hz2,hs,Ext.refl _ _ _ _⟩
            | true=>simp at hfz; obtain ⟨R1,a,b,c,_⟩:=qgL hs _ _ _ _ hfz hz2; exact ⟨R1,a,b,c⟩
          have A:App P R p H w R1 (qbN H ms) t u e size bytes k y new zs :=
            ⟨h0,fun ty h=>qhB hu hv hd hsz (qe5 hy hk) (hz1 w rfl) h,fun {a sLen sCap} ty {old} ho h h1=>qhq hu hv hd hsz hb hz hz' h0 (qe5 hy hk) hz1 ho h h1 hb20 hb0,
              r1,hcell,by rw[r1.length,←hz2.length,hcount],r2,r3⟩
          split at hr
          · rename_i m off len c es hX
            rw[hX] at hx
            split at hr
            · rename_i hq
              obtain ⟨rfl,hq1,hq2⟩:=hq
              have hm1:qbN H ms m=H m:=qfC H hq2
              split at hr
              · rename_i hle
                cases hm:H m with
                | none=>simp[hm] at hr
                | some cs =>
                  simp only[hm] at hr
                  split at hr
                  · rename_i hbd
                    obtain rfl:=Option.some.inj hr
                    exact A.inPlace ty hx hle (hm1.trans hm) hbd rfl
                  · cases hr
              · rename_i hle
                cases ho:qbp H es len (.sl m off len (some c) es) with
                | none=>simp[ho] at hr
                | some old =>
                  simp only[ho] at hr
                  obtain rfl:=Option.some.inj hr
                  obtain ⟨os,ho1,ho2⟩:=qfM (P:=P) hs hx ho
                  have hol:=qfN ho h0
                  have hrep:=ho2.mono r3.imm (fun _ _ h=>h)
                  have hsl:∃ a,x = .slice a len c:=by
                    cases hx with
                    | sl0 hk' _=>have:=hk' c rfl; subst this; exact ⟨_,rfl⟩
                    | sl _ _ hk' _ _=>have:=hk' c rfl; subst this; exact ⟨_,rfl⟩
                  obtain ⟨a,rfl⟩:=hsl
                  exact A.grows hn ty ho1 hrep hol (by omega) hq1 rfl
            · cases hr
          · rename_i m off len es hX
            rw[hX] at hx
            split at hr
            · rename_i hq
              obtain ⟨rfl,hq1,hq2⟩:=hq
              have hm1:qbN H ms m=H m:=qfC H hq2
              cases hm:H m with
              | none=>simp[hm] at hr
              | some cs =>
                simp only[hm] at hr
                split at hr
                · rename_i hbd
                  obtain rfl:=Option.some.inj hr
                  exact A.moves hn ty hx hq1 (hm1.trans hm) hbd rfl
                · cases hr
            · cases hr
          · rename_i hX
            rw[hX] at hx
            cases hx
            split at hr
            · rename_i hk0
              obtain rfl:=Option.some.inj hr
              subst hk0
              have hnew:new=[]:=List.eq_nil_of_length_eq_zero (by rw[A.count]; simp)
              have run:=A.fits (a:=none) (len:=0) (c:=0) ty (by omega)
              refine Runs.mk' (nx := .value (.slice none (0+0) 0)) (w':=w) (R':=R1) (p':=p) (qds run) (.inl ⟨_,rfl,.v .nil⟩) ?_ (fun _ _ h=>h) (fun _ _ h => .inl h)
              rw[qbW]
              exact ⟨A.sim,A.ext⟩
            · rename_i hk0
              split at hr
              · rename_i hq1
                obtain rfl:=Option.some.inj hr
                have ho:∀ w':World,w'.heap=w.heap→(Builtin.firstCells size 0 (.slice none 0 0)).run P w' = .ok #[] w':=fun w' _=>by simp[Builtin.firstCells]
                have:=A.grows hn (a:=none) (len:=0) (c:=0) ty (old:=[]) (os := #[]) ho .nil (by simp) (by omega) (by simpa using hq1) rfl
                simpa using this
              · cases hr
          · cases hr
        · cases hr
theorem copy_runs {base:Nat} (hs:Sim R p H w) {tm:List LV} {X Y:LX} {x y:Value} {t e:TypeId} {ts:List TypeId} {size:Nat} {r:Out} (ty:TypeId) (hx:Rep1 R p (evX E.gl tm X) x) (hy:Rep1 R p (evX E.gl tm Y) y)
    (hu:P.underlying t=some (.slice e)) (hsz:szOf P e=some size) (h0:0 < size) (hr:qbz E tm H base (.copy size X Y)=some r) :
    Runs P R p H w base (do pure (.value (←Builtin.copy_ (t::ts).toArray ty #[x,y]))) r:=by
  simp only[qbz] at hr
  have none_runs:∀ (m:Sem Value) (n:Int),m.run P w = .ok (.int .i64 n) w→r=⟨.v (.int .i64 n),[],[]⟩→Runs P R p H w base (do pure (.value (←m))) r:=by
    rintro m n h rfl
    refine Runs.mk' (R':=R) (p':=p) (qds h) (.inl ⟨_,rfl,.v .nil⟩) ?_ (fun _ _ h=>h) (fun _ _ h => .inl h)
    rw[qbW]; exact ⟨hs,Ext.refl _ _ _ _⟩
  have run : ∀ (a : Option Addr) (len c k : Nat) (zs : Array Value), x = .slice a len c → (∀ w : World, (Builtin.lenOf y).run P w = .ok k w) → (Builtin.firstCells size (min k len) y).run P w = .ok zs w →
      (Builtin.copy_ (t::ts).toArray ty #[x,y]).run P w=(match a with | some a=>(storeCells a zs.toList).run P w | none => .ok () w).andThen fun _ w' => .ok (.int .i64 (min k len:Nat)) w':=by
    intro a len c k zs hx hk hz
    subst hx
    have e:Nat.min k len=min k len:=rfl
    simp only[Builtin.copy_,List.getElem?_toArray,List.getElem?_cons_zero,List.getElem?_cons_succ,Sem.run_bind,run_underlying hu,hk,Result.andThen_ok,qcb hsz,e,hz]
    cases a <;> simp only[Sem.run_bind,Sem.run_pure,Result.andThen_ok] <;> rfl
  have zero : ∀ (a : Option Addr) (len c k : Nat), x = .slice a len c → (∀ w : World, (Builtin.lenOf y).run P w = .ok k w) → (∃ zs : Array Value, (Builtin.firstCells size 0 y).run P w = .ok zs w ∧ zs.toList = []) → min k len = 0 →
      (Builtin.copy_ (t::ts).toArray ty #[x,y]).run P w = .ok (.int .i64 0) w:=by
    rintro a len c k hx hk ⟨zs,hz1,hz2⟩ h0
    rw[run a len c k zs hx hk (by rw[h0]; exact hz1),hz2,h0]
    cases a <;> rfl
  have first0:∀ k,qcE (evX E.gl tm Y)=some k→∃ zs:Array Value,(Builtin.firstCells size 0 y).run P w = .ok zs w∧zs.toList=[]:=by
    intro k hk
    generalize evX E.gl tm Y=Y' at hy hk
    cases hy <;> simp[qcE] at hk
    case v =>
      cases y <;> try (simp at hk; done)
      · rename_i s; exact ⟨_,rfl,by simp[ByteArray.data_extract]⟩
      · rename_i a n c; cases a <;> simp at hk; exact ⟨#[],rfl,rfl⟩
    all_goals first
      | (refine ⟨#[],?_,rfl⟩; simp[Builtin.firstCells,loadCells,loadCellsFrom]; done)
      | (rename_i a _ _; refine ⟨#[],?_,rfl⟩; cases a <;> simp[Builtin.firstCells,loadCells,loadCellsFrom]; done)
      | (rename_i a _ _ _; refine ⟨#[],?_,rfl⟩; cases a <;> simp[Builtin.firstCells,loadCells,loadCellsFrom]; done)
  split at hr
  · rename_i k m off len cap es hk hX
    rw[hX] at hx
    split at hr
    · rename_i hmin
      obtain rfl:=Option.some.inj hr
      have hsl:∃ a c,x = .slice a len c:=by cases hx <;> exact ⟨_,_,rfl⟩
      obtain ⟨a,c,hsl⟩:=hsl
      exact none_runs _ 0 (zero a len c k hsl (qe5 hy hk) (first0 k hk) hmin) rfl
    · rename_i hmin
      split at hr
      · rename_i new cs hf hm
        split at hr
        · rename_i hc
          obtain ⟨rfl,hcell,hbd⟩:=hc
          obtain rfl:=Option.some.inj hr
          obtain ⟨zs,hz1,hz2⟩:=qfM (P:=P) hs hy hf
          have hcount:=qfN hf h0
          cases hx with
          | sl0 _ _=>omega
          | @sl _ _ _ _ _ b o s c _ _ hp hl hk' hsz' _ =>
            obtain ⟨w',st,f1,f2⟩:=qgt (P:=P) (off:=off) hs hm hp (by rw[hcount]; exact hbd) hz2 hcell
            have:=run _ len c k zs rfl (qe5 hy hk) (hz1 w rfl)
            refine Runs.mk' (nx := .value (.int .i64 (min k len:Nat))) (w':=w') (R':=R) (p':=p) (qds (this.trans ?_)) (.inl ⟨_,rfl,.v .nil⟩) ?_ (fun _ _ h=>h) (fun _ _ h => .inl h)
            · simp only[st]; rfl
            · rw[qbW]; exact ⟨f1,f2⟩
        · cases hr
      · cases hr
  · rename_i k hk hX
    obtain rfl:=Option.some.inj hr
    rw[hX] at hx
    cases hx
    exact none_runs _ 0 (zero none 0 0 k rfl (qe5 hy hk) (first0 k hk) (by omega)) rfl
  · cases hr
theorem qhR {ρ:Operand→Value} {tm:List LV} (hX:∀ x,Rep1 R p (evX gl tm (qaQ x)) (ρ x)) {n:Nat} {l:List (Nat × Operand)} {qs:List (Nat × Nat × LX)}
    (h:qcV (fun i=>some (i*n,n)) l=some qs) {cells out:qal} {cs:Array Value} (hc:Rep R p cells cs.toList) (hf:fill cells (qs.map fun q=>(q.1,q.2.1,evX gl tm q.2.2))=some out) :
    ∃ ds,Instr.fill (fun i=>some (i*n,n)) cs (l.map fun q=>(q.1,ρ q.2))=some ds∧Rep R p out ds.toList:=qgT hX h hc hf
theorem fill_size:∀ (parts:List (Nat × Value)) (place:Nat→Option (Nat × Nat)) (cs ds:Array Value),Instr.fill place cs parts=some ds→ds.size=cs.size:=by
  intro parts
  induction parts with
  | nil=>intro place cs ds h; simp[Instr.fill] at h; rw[h]
  | cons x parts ih =>
    intro place cs ds h
    obtain ⟨i,v⟩:=x
    simp only[Instr.fill] at h
    split at h
    · cases h
    · split at h
      · cases h
      · rename_i off size _ _
        rw[ih place _ ds h]
        have:∀ (l:List (Value × Nat)) (cs:Array Value),(l.foldl (fun (cs:Array Value) (x:Value × Nat)=>match x with | (c,j)=>cs.setIfInBounds (off+j) c) cs).size=cs.size:=by
          intro l
          induction l with
          | nil=>intro cs; rfl
          | cons q l ih=>intro cs; rw[List.foldl_cons,ih]; simp
        rw[←Array.foldl_toList]
        exact this _ _
theorem append0_runs {base:Nat} (hs:Sim R p H w) (hn:p (base,0)=none) {x:Value} {t u e:TypeId} {ik ik':IntKind} {size bytes k:Nat} {z:Array Value} {m:Nm} {off len:Nat} {cs:qal}
    (ty:TypeId) (hx:Rep1 R p (.sl m off len none size) x) (hu:P.underlying t=some (.slice e)) (hv:P.underlying u=some (.int ik))
    (hsz:szOf P e=some size) (hb:qda P e=some bytes) (hz:qdA P e=some z) (hz':z.size=size) (h0:0 < size) (hb0:0 < bytes)
    (hm:H m=some cs) (hk:k < 2 ^ 62) (hb1:(len+k)*bytes≤211106232532992) (hb20:bytes≤2 ^ 20) (hc:(z.toList.map LV.v).all qaB=true) (hcs:off+len*size≤cs.length) :
    Runs P R p H w base (do pure (.value (←Builtin.append_ #[t,u] ty #[x,.int ik' (k:Int)]))) ⟨.sl (base,0) 0 (len+k) none size,[(cs.drop off).take (len*size)++(List.replicate k (z.toList.map LV.v)).flatten],[(m,none)]⟩:=by
  have hkb:k*bytes≤211106232532992:=Nat.le_trans (Nat.mul_le_mul_right _ (Nat.le_add_left _ _)) hb1
  have hzs:(Builtin.zeroCells z k).toList=(List.replicate k z.toList).flatten:=zeros_eq z k (by omega)
  have hflat:(List.replicate k (z.toList.map LV.v)).flatten=(List.replicate k z.toList).flatten.map LV.v:=by
    rw[List.map_flatten,List.map_replicate]
  have A:App P R p H w R H t u e size bytes k (.int ik' (k:Int)) (List.replicate k (z.toList.map LV.v)).flatten (Builtin.zeroCells z k) :=
    ⟨h0,fun ty h=>qhr hu hv hsz hb hz hz' h0 hk hkb h,fun {a sLen sCap} ty {old} ho h h1=>qhg hu hv hsz hb hz hz' h0 hk hkb ho h h1 hb20 hb0,
      by rw[hflat,hzs]; exact Rep.plain _,by rw[List.all_flatten,List.all_eq_true]; intro l hl; rw[List.eq_of_mem_replicate hl]; exact hc,
      by rw[hflat,zV,←hzs]; simp[Builtin.zeroCells,hz'],hs,Ext.refl _ _ _ _⟩
  exact A.moves hn ty hx hb1 hm hcs (ms:=[]) rfl
theorem heap_sound {base:Nat} (hs:Sim R p H w) (hn:p (base,0)=none) {ρ:Operand→Value} {tm:List LV} (hX:∀ x,Rep1 R p (evX E.gl tm (qaQ x)) (ρ x)) {o:Oper} {lo:LOp} {r:Out}
    (hc:qea P o.op=some lo) (hcall:∀ f as,lo ≠ .call f as) (hr:qbz E tm H base lo=some r):Runs P R p H w base (execOp ρ o) r:=by
  obtain ⟨dst,op,type,pos,after,guard⟩:=o
  simp only at hc
  have nope:∀ lo,qbz E tm H base lo=some r→(∀ E' tm' H' b',qbz E' tm' H' b' lo=none)→False:=fun lo h h'=>by rw[h'] at h; cases h
  cases op <;> simp only[qea] at hc
  case panic x=>obtain rfl:=Option.some.inj hc; exact (nope _ hr fun _ _ _ _=>rfl).elim
  case makeInterface t x=>obtain rfl:=Option.some.inj hc; exact (nope _ hr fun _ _ _ _=>rfl).elim
  case move x=>obtain rfl:=Option.some.inj hc; exact (nope _ hr fun _ _ _ _=>rfl).elim
  case assign x=>obtain rfl:=Option.some.inj hc; exact (nope _ hr fun _ _ _ _=>rfl).elim
  case pick c a b=>obtain rfl:=Option.some.inj hc; exact (nope _ hr fun _ _ _ _=>rfl).elim
  case alloc t =>
    simp only[zJ] at hc
    obtain ⟨z,hz,rfl⟩:=hc
    obtain rfl:=Option.some.inj hr
    obtain ⟨zv,hz1,hz2⟩:=qdB hz
    refine Runs.alloc (T:=t) (fz:=(0,0)) (vs:=z) (v := .pointer (some ⟨w.heap.size,0,none⟩)) (w':={ w with heap:=w.heap.push (.cells z t (0,0)) }) hs hn ?_ rfl (.inl rfl) (by simp) ?_ (fun p' hp => ?_)
    · refine qds (s := Instr.alloc t true (.tuple #[])) ?_
      simp only[Instr.alloc,Sem.run_bind,hz1,Result.andThen_ok,newVar,newRow,run_newObj,Sem.run_pure,hz2]
    · rw [qez (by simp)]
      exact Rep.plain _
    · have := Rep.ptr (R := R) (off := 0) hp (Rep.nil)
      simpa using this
  case box t x =>
    obtain rfl:=Option.some.inj hc
    simp only[qbz] at hr
    split at hr
    · rename_i ys hys
      obtain rfl:=Option.some.inj hr
      have hrep:=qfW (hX x) hys
      have hl:=hrep.length
      refine Runs.alloc (T := t) (fz := (0, 0)) (vs := (ρ x).cells) (v := .pointer (some ⟨w.heap.size, 0, none⟩)) (w' := { w with heap := w.heap.push (.cells (ρ x).cells t (0, 0)) }) hs hn ?_ rfl (.inl rfl)
        (by simpa using Nat.le_of_eq hl) ?_ (fun p' hp => ?_)
      · refine qds (s := Instr.box t (ρ x)) ?_
        simp only[Instr.box,Sem.run_bind,newVar,newRow,run_newObj,Sem.run_pure,Result.andThen_ok]
      · rw [qez (by simpa using hl)]
        exact hrep
      · have := Rep.ptr (R := R) (off := 0) hp (Rep.nil)
        simpa using this
    · cases hr
  case build t parts =>
    split at hc
    · simp only[Option.bind_eq_some_iff,zJ] at hc; obtain ⟨_,_,_,_,rfl⟩:=hc; exact (nope _ hr fun _ _ _ _=>rfl).elim
    · simp only[Option.bind_eq_some_iff,zJ] at hc; obtain ⟨_,_,_,_,rfl⟩:=hc; exact (nope _ hr fun _ _ _ _=>rfl).elim
    · cases hc
  case buildSlice t len parts =>
    split at hc
    · rename_i e hu
      split at hc
      · rename_i n z hsz hz
        split at hc
        · rename_i hq
          obtain ⟨hq1,hq2,hq3⟩:=hq
          simp only[zJ] at hc
          obtain ⟨qs,hqs,rfl⟩:=hc
          simp only[qbz] at hr
          split at hr
          · rename_i cs hf
            obtain rfl:=Option.some.inj hr
            obtain ⟨zv,hz1,hz2⟩:=qdB hz
            let zr:Array Value:=(Array.range (len*n)).map fun i=>z[i % z.size]!
            have hzr:zr.toList=(List.replicate len z.toList).flatten:=by simp only[zr]; rw[←hq3]; exact zeros_eq z len (by omega)
            have hzc:(List.replicate len (z.toList.map LV.v)).flatten=zr.toList.map LV.v:=by rw[hzr,List.map_flatten,List.map_replicate]
            obtain ⟨ds,hd1,hd2⟩:=qhR hX hqs (cs:=zr) (by rw[hzc]; exact Rep.plain _) hf
            have hds:ds.size=len*n:=by rw[fill_size _ _ _ _ hd1]; simp[zr]
            refine Runs.alloc (T := e) (fz := (0, 0)) (vs := ds) (v := .slice (some ⟨w.heap.size, 0, none⟩) len len) (w' := { w with heap := w.heap.push (.cells ds e (0, 0)) }) hs hn ?_ rfl (.inl rfl)
              (by have:=hd2.length; simp at this; omega) ?_ (fun p' hp => ?_)
            · refine qds (s := Instr.buildSlice t len (parts.map fun (x : Nat × Operand) => match x with | (i, x) => (i, ρ x))) ?_
              have e2:(parts.map fun (x:Nat × Operand)=>match x with | (i,x)=>(i,ρ x)).toList=parts.toList.map fun q=>(q.1,ρ q.2):=by simp
              simp only[Instr.buildSlice,Sem.run_bind,run_underlying hu,Result.andThen_ok,qcb hsz]
              rw[if_neg (by omega)]
              by_cases hc0:len*n=0
              · rw [if_pos hc0]
                simp only[pure_bind,e2]
                have ez:((Array.range (len*n)).map fun i=>(#[]:Array Value)[i % (#[]:Array Value).size]!)=zr:=by
                  apply Array.ext <;> simp[zr,hc0]
                rw[ez,hd1]
                simp only[newRow,Sem.run_bind,run_newObj,Result.andThen_ok,Sem.run_pure]
              · rw [if_neg hc0]
                simp only[Sem.run_bind,hz1,hz2,Sem.run_pure,Result.andThen_ok,e2]
                rw[show ((Array.range (len*n)).map fun i=>z[i % z.size]!)=zr from rfl,hd1]
                simp only[newRow,Sem.run_bind,run_newObj,Result.andThen_ok,Sem.run_pure]
            · rw [qez (by have := hd2.length; simpa using this)]
              exact hd2
            · by_cases hc0 : len = 0
              · subst hc0; exact .sl0 (by simp) .nil
              · exact .sl (b:=w.heap.size) (o:=0) (s:=ds.size) hp (Nat.le_refl _) (by simp) (by simp) .nil
          · cases hr
        · cases hc
      · cases hc
    · cases hc
  case load t a =>
    split at hc
    · rename_i n ha hn'
      obtain rfl:=Option.some.inj hc
      simp only[qbz] at hr
      split at hr
      · rename_i ys hys
        obtain rfl:=Option.some.inj hr
        exact ld_runs hs (hX a) hys ha hn'
      · cases hr
    · rename_i q ha
      obtain rfl:=Option.some.inj hc
      simp only[qbz] at hr
      split at hr
      · rename_i y hys
        obtain rfl:=Option.some.inj hr
        exact ld1_runs hs (hX a) hys ha
      · cases hr
    · cases hc
  case store t a x =>
    simp only[zJ] at hc
    obtain ⟨n,hn',rfl⟩:=hc
    simp only[qbz] at hr
    split at hr
    · rename_i m off ys hX1 hys
      split at hr
      · rename_i cs hm
        split at hr
        · rename_i hq
          obtain rfl:=Option.some.inj hr
          have h1:=hX a
          rw[hX1] at h1
          exact st_runs hs h1 (hX x) hys hm hq.1 hq.2.1 hq.2.2 hn'
        · cases hr
      · cases hr
    · cases hr
  case nilCheck x=>obtain rfl:=Option.some.inj hc; exact (nope _ hr fun _ _ _ _=>rfl).elim
  case binOp op t x y u=>obtain rfl:=Option.some.inj hc; exact (nope _ hr fun _ _ _ _=>rfl).elim
  case unOp op t x=>obtain rfl:=Option.some.inj hc; exact (nope _ hr fun _ _ _ _=>rfl).elim
  case convert src dst x =>
    split at hc
    · obtain rfl:=Option.some.inj hc; exact (nope _ hr fun _ _ _ _=>rfl).elim
    · rename_i e hu hv
      split at hc
      · rename_i he
        obtain rfl:=Option.some.inj hc
        simp only[qbz] at hr
        split at hr
        · rename_i s hX1
          obtain rfl:=Option.some.inj hr
          have h1:=hX x
          rw[hX1] at h1
          show Runs P R p H w base (do pure (.value (←convert src dst (ρ x)))) _
          generalize ρ x=y at h1
          cases h1
          exact s2b_runs hs hn hu hv he
        · cases hr
      · cases hc
    · rename_i e hu hv
      split at hc
      · rename_i he
        obtain rfl:=Option.some.inj hc
        simp only[qbz] at hr
        have h1:=hX x
        cases hk:qcE (evX E.gl tm (qaQ x)) with
        | none=>simp[hk] at hr
        | some k =>
          simp only[hk] at hr
          show Runs P R p H w base (do pure (.value (←convert src dst (ρ x)))) _
          split at hr
          · cases hr
          · rename_i Y hne
            split at hr
            · rename_i cs hf
              simp only[zJ] at hr
              obtain ⟨bs,hbs,rfl⟩:=hr
              obtain ⟨zs,hz1,hz2⟩:=qfM (P:=P) hs h1 hf
              have hz1:=hz1 w rfl
              have hcount:=qfN hf (by omega)
              have hconv:∀ (a:Option Addr) (l c:Nat),ρ x = .slice a l c→(convert src dst (ρ x)).run P w=(Conv.bytesToString (.slice a l c)).run P w:=by
                intro a l c hx'
                rw[hx']
                exact run_convert_bytes_string w src dst e a l c hu he hv
              have fin:(convert src dst (ρ x)).run P w = .ok (.string ⟨bs.toArray⟩) w→Runs P R p H w base (do pure (.value (←convert src dst (ρ x)))) ⟨.v (.string ⟨bs.toArray⟩),[],[]⟩:=by
                intro hrun
                refine Runs.mk' (R':=R) (p':=p) (qds hrun) (.inl ⟨_,rfl,.v .nil⟩) (by rw[qbW]; exact ⟨hs,Ext.refl _ _ _ _⟩) (fun _ _ h=>h) (fun _ _ h => .inl h)
              have sl:∀ (a:Addr) (l c:Nat),ρ x = .slice (some a) l c→k=l→Runs P R p H w base (do pure (.value (←convert src dst (ρ x)))) ⟨.v (.string ⟨bs.toArray⟩),[],[]⟩:=by
                rintro a l c hx' rfl
                rw[hx'] at hz1
                refine fin ((hconv _ _ _ hx').trans (qhf hz2 hbs ?_))
                have:(loadCells a (k*1)).run P w = .ok zs w:=hz1
                rw[zX] at this
                rw[this]
              have sn:∀ (l c:Nat),ρ x = .slice none l c→k=0→Runs P R p H w base (do pure (.value (←convert src dst (ρ x)))) ⟨.v (.string ⟨bs.toArray⟩),[],[]⟩:=by
                rintro l c hx' rfl
                refine fin ((hconv _ _ _ hx').trans ?_)
                have:bs=[]:=by
                  have h0:cs=[]:=List.eq_nil_of_length_eq_zero (by omega)
                  subst h0; simpa [qdl] using hbs.symm
                subst this
                rfl
              generalize hy:ρ x=y at h1
              generalize hYe:evX E.gl tm (qaQ x)=Y' at h1 hk hne hf
              cases h1 <;> simp[qcE] at hk
              case v =>
                cases y <;> try (simp at hk; done)
                · rename_i s; exact absurd rfl (hne s)
                · rename_i a n c
                  cases a
                  · simp at hk
                    subst hk
                    simp only[qbp] at hf
                    split at hf
                    · rename_i h0; subst h0; rw[←hy]; exact sn _ _ hy rfl
                    · cases hf
                  · simp at hk
              case sl0 =>
                subst hk
                rw[←hy]; exact sl _ _ _ hy rfl
              case sl=>rw[←hy]; exact sl _ _ _ hy hk.symm
              case isl0 =>
                rename_i a _ _
                subst hk
                cases a
                · rw[←hy]; exact sn _ _ hy rfl
                · rw[←hy]; exact sl _ _ _ hy rfl
              case isl=>rw[←hy]; exact sl _ _ _ hy hk.symm
            · cases hr
      · cases hc
    · rename_i e' e hu hv
      split at hc
      · rename_i hsd
        subst hsd
        split at hc
        · rename_i he
          obtain rfl:=Option.some.inj hc
          simp only[qbz] at hr
          have h1:=hX x
          split at hr
          · rename_i m off len c es hX1
            rw[hX1] at h1
            split at hr
            · rename_i h0
              split at hr
              · rename_i cs hm
                obtain rfl:=Option.some.inj hr
                exact cvs_runs hs hv he h1 h0 hm
              · cases hr
            · cases hr
          · cases hr
        · cases hc
      · cases hc
    · cases hc
  case sliceToArrayPointer t x=>split at hc <;> (try cases hc); exact (nope _ hr fun _ _ _ _=>rfl).elim
  case makeFunc f a b=>obtain rfl:=Option.some.inj hc; exact (nope _ hr fun _ _ _ _=>rfl).elim
  case makeSlice t l c =>
    split at hc
    · rename_i e hu
      split at hc
      · rename_i n b z hsz hb hz
        split at hc
        · rename_i hq
          obtain rfl:=Option.some.inj hc
          simp only[qbz] at hr
          split at hr
          · rename_i l' c' hl hc'
            split at hr
            · rename_i hq'
              obtain rfl:=Option.some.inj hr
              obtain ⟨k1,e1⟩:=qdh (hX l) hl
              obtain ⟨k2,e2⟩:=qdh (hX c) hc'
              show Runs P R p H w base (do pure (.value (←Instr.makeSlice t (ρ l) (ρ c)))) _
              rw[e1,e2]
              exact mkslice_runs hs hn hu hsz hb hz hq.1 hq.2 hq'.1 hq'.2.1 hq'.2.2.1
            · cases hr
          · cases hr
        · cases hc
      · cases hc
    · cases hc
  case slice t x lo hi mx =>
    split at hc
    · simp only[zJ] at hc; obtain ⟨_,_,rfl⟩:=hc; exact (nope _ hr fun _ _ _ _=>rfl).elim
    · simp only[zJ] at hc; obtain ⟨_,_,rfl⟩:=hc; exact (nope _ hr fun _ _ _ _=>rfl).elim
    · split at hc <;> (try cases hc); exact (nope _ hr fun _ _ _ _=>rfl).elim
    · split at hc
      · simp only[zJ] at hc; obtain ⟨_,_,rfl⟩:=hc; exact (nope _ hr fun _ _ _ _=>rfl).elim
      · cases hc
    · cases hc
  case fieldAddr t x i =>
    split at hc
    · split at hc
      · split at hc
        · split at hc <;> (try cases hc); exact (nope _ hr fun _ _ _ _=>rfl).elim
        · cases hc
      · cases hc
    · cases hc
  case field t x i =>
    split at hc
    · split at hc
      · split at hc <;> (try cases hc) <;> exact (nope _ hr fun _ _ _ _=>rfl).elim
      · cases hc
    · cases hc
  case indexAddr t x i =>
    split at hc
    · simp only[zJ] at hc; obtain ⟨_,_,rfl⟩:=hc; exact (nope _ hr fun _ _ _ _=>rfl).elim
    · simp only[zJ] at hc; obtain ⟨_,_,rfl⟩:=hc; exact (nope _ hr fun _ _ _ _=>rfl).elim
    · cases hc
  case index t x i =>
    split at hc
    · split at hc <;> (try cases hc) <;> exact (nope _ hr fun _ _ _ _=>rfl).elim
    · obtain rfl:=Option.some.inj hc; exact (nope _ hr fun _ _ _ _=>rfl).elim
    · cases hc
  case extract x i=>obtain rfl:=Option.some.inj hc; exact (nope _ hr fun _ _ _ _=>rfl).elim
  case call c =>
    obtain ⟨callee,args,argTypes⟩:=c
    simp only[qfz] at hc
    split at hc
    · obtain rfl:=Option.some.inj hc; exact absurd rfl (hcall _ _)
    · cases hc
    · split at hc
      · split at hc
        · obtain rfl:=Option.some.inj hc; exact (nope _ hr fun _ _ _ _=>rfl).elim
        · obtain rfl:=Option.some.inj hc; exact (nope _ hr fun _ _ _ _=>rfl).elim
        · obtain rfl:=Option.some.inj hc; exact (nope _ hr fun _ _ _ _=>rfl).elim
        · split at hc <;> (try cases hc); exact (nope _ hr fun _ _ _ _=>rfl).elim
        · cases hc
      · rename_i x y t u hargs htypes
        have ha:args = #[x,y]:=by apply Array.ext'; simpa using hargs
        have ht:argTypes = #[t,u]:=by apply Array.ext'; simpa using htypes
        subst ha ht
        split at hc
        · rename_i e ik hu hv
          split at hc
          · rename_i n b z hsz hb hz
            split at hc
            · rename_i hq
              obtain rfl:=Option.some.inj hc
              have e:execOp ρ ⟨dst,.call ⟨.builtin .append,#[x,y],#[t,u]⟩,type,pos,after,guard⟩=(do pure (.value (←Builtin.append_ #[t,u] type #[ρ x,ρ y])):Sem Next):=by
                simp only[execOp,resolve,invoke,builtin,pure_bind,List.map_toArray,zB,zA]
              rw[e]
              simp only[qbz] at hr
              split at hr
              · rename_i k m off len es hk hX1
                have h1:=hX x
                rw[hX1] at h1
                obtain ⟨ik',e2⟩:=qdh (hX y) hk
                split at hr
                · rename_i cs hm
                  split at hr
                  · rename_i hq2
                    obtain rfl:=Option.some.inj hr
                    obtain ⟨rfl,hb1,hk2,hb20,hz2,hcs⟩:=hq2
                    rw[e2]
                    exact append0_runs hs hn type h1 hu hv hsz hb hz hq.2.2 hq.1 hq.2.1 hm hk2 hb1 hb20 hz2 hcs
                  · cases hr
                · cases hr
              · cases hr
            · cases hc
          · cases hc
        · rename_i e d hd hu hv
          split at hc
          · rename_i n b z hsz hb hz
            split at hc
            · rename_i hq
              obtain rfl:=Option.some.inj hc
              have:=append_runs (P:=P) hs hn type (hX x) (hX y) hu hv hd hsz hb hz hq.2.2 hq.1 hq.2.1 hr
              have e:execOp ρ ⟨dst,.call ⟨.builtin .append,#[x,y],#[t,u]⟩,type,pos,after,guard⟩=(do pure (.value (←Builtin.append_ #[t,u] type #[ρ x,ρ y])):Sem Next):=by
                simp only[execOp,resolve,invoke,builtin,pure_bind,List.map_toArray,zB,zA]
              rw[e]
              exact this
            · cases hc
          · cases hc
        · cases hc
      · rename_i x y t ts hargs htypes
        have ha:args = #[x,y]:=by apply Array.ext'; simpa using hargs
        have ht:argTypes=(t::ts).toArray:=by apply Array.ext'; simpa using htypes
        subst ha ht
        split at hc
        · rename_i e hu
          split at hc
          · rename_i n hsz
            split at hc
            · rename_i h0
              obtain rfl:=Option.some.inj hc
              have:=copy_runs (P:=P) (ts:=ts) hs type (hX x) (hX y) hu hsz h0 hr
              have e:execOp ρ ⟨dst,.call ⟨.builtin .copy,#[x,y],(t::ts).toArray⟩,type,pos,after,guard⟩=(do pure (.value (←Builtin.copy_ (t::ts).toArray type #[ρ x,ρ y])):Sem Next):=by
                simp only[execOp,resolve,invoke,builtin,pure_bind,List.map_toArray,zB,zA]
              rw[e]
              exact this
            · cases hc
          · cases hc
        · cases hc
      · obtain rfl:=Option.some.inj hc; exact (nope _ hr fun _ _ _ _=>rfl).elim
      · obtain rfl:=Option.some.inj hc; exact (nope _ hr fun _ _ _ _=>rfl).elim
      · cases hc
  all_goals cases hc
end Go.LE
