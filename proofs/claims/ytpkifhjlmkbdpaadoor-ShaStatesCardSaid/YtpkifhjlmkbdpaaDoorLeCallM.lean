/- Calls that hand memory over, or lend it: their equations; results with several new objects. -/
import Derived.Test.YtpkifhjlmkbdpaaDoorLeSlices
set_option linter.unusedVariables false
set_option linter.unusedSimpArgs false
namespace Go.LE
variable {E : Env} {tm : List LV} {H : Heap} {b : Nat}

/-! ### what comes behind an operation with new objects and changed ones -/

def updN (b : Nat) : Nat → List Cells → Heap → Heap
  | _, [], H => H
  | j, z :: zs, H => updN b (j + 1) zs (upd H (b, j) (some z))
theorem updN_nil (j : Nat) (H : Heap) : updN b j [] H = H := nf rfl
theorem updN_cons (j : Nat) (z : Cells) (zs : List Cells) (H : Heap) : updN b j (z :: zs) H = updN b (j + 1) zs (upd H (b, j) (some z)) := nf rfl

def modN : List (Nm × Option Cells) → Heap → Heap
  | [], H => H
  | (n, x) :: ms, H => upd (modN ms H) n x
theorem modN_nil (H : Heap) : modN [] H = H := nf rfl
theorem modN_cons (n : Nm) (x : Option Cells) (ms : List (Nm × Option Cells)) (H : Heap) : modN ((n, x) :: ms) H = upd (modN ms H) n x := nf rfl
theorem modN_eq (H : Heap) : ∀ ms, modsAt H ms = modN ms H := by
  intro ms
  induction ms with
  | nil => rfl
  | cons p ms ih =>
    obtain ⟨n, x⟩ := p
    funext m
    simp only [modsAt, modN, upd, ih]

theorem updN_at (b : Nat) : ∀ (zs : List Cells) (j : Nat) (H : Heap) (m : Nm), updN b j zs H m = if m.1 = b ∧ j ≤ m.2 ∧ m.2 < j + zs.length then zs[m.2 - j]? else H m := by
  intro zs
  induction zs with
  | nil => intro j H m; rw [updN, if_neg (fun h => by have := h.2; simp only [List.length_nil] at this; omega)]
  | cons z zs ih =>
    intro j H m
    rw [updN, ih]
    obtain ⟨m1, m2⟩ := m
    simp only [List.length_cons, upd]
    by_cases h1 : m1 = b
    · subst h1
      by_cases h2 : m2 = j
      · subst h2
        rw [if_neg (by omega), if_pos rfl, if_pos (by omega)]
        simp
      · by_cases h3 : j ≤ m2 ∧ m2 < j + (zs.length + 1)
        · rw [if_pos (by omega), if_pos (by omega)]
          have : m2 - j = (m2 - (j + 1)) + 1 := by omega
          rw [this, List.getElem?_cons_succ]
        · rw [if_neg (by omega), if_neg (by simp; omega), if_neg (by omega)]
    · rw [if_neg (by omega), if_neg (by simp; omega), if_neg (by omega)]

theorem applyOut_gen (n : Nat) (r : Out) (H : Heap) : applyOut n r H = updN n 0 r.news (modN r.mods H) := by
  funext m
  rw [updN_at, ← modN_eq]
  simp only [applyOut, Nat.zero_add, Nat.zero_le, true_and, Nat.sub_zero]

theorem stepK_gen (b i : Nat) (os : List LOper) (log : List Done) (d : Option Nat) (tm : List LV) (H : Heap) (nx np : Nat) (v : LV) (news : List Cells) (ms : List (Nm × Option Cells)) :
    stepK E b i os log d tm H nx np (some ⟨v, news, ms⟩) = evOpers E b (i + 1) os log ⟨put tm d v, updN (b + i) 0 news (modN ms H), nx, np⟩ := by
  simp only [stepK, applyOut_gen]
theorem ordK_gen (b i : Nat) (os : List LOper) (log : List Done) (d : Option Nat) (bf : Nat) (X : List Nm) (tm : List LV) (H : Heap) (nx np : Nat) (v : LV) (news : List Cells) (ms : List (Nm × Option Cells)) :
    ordK E b i os log d bf X tm H nx np (some ⟨v, news, ms⟩) = if ordOk X (ms.map (·.1)) log b bf = true then evOpers E b (i + 1) os (⟨i, X, ms.map (·.1)⟩ :: log) ⟨put tm d v, updN (b + i) 0 news (modN ms H), nx, np⟩ else none := by
  simp only [ordK, applyOut_gen]

/-! ### calls -/

def resK (names : List Nm) (base : Nat) (plain : Bool) : Option CallRes → Option Out
  | some res => if plain || plainRes res then some (backTo names base res) else none
  | none => none
def callN (E : Env) (H : Heap) (base : Nat) (g : FuncId) (args' : List LV) (lent names : List Nm) : Option Out :=
  if lent.any (fun n => names.contains n) = true then none else
    resK names base lent.isEmpty (E.cal g (args'.map (ren D (toCallee names))) ((names.filterMap H).map fun cs => cs.map (ren D (toCallee names))))
def callL (E : Env) (H : Heap) (base : Nat) (g : FuncId) : Option (List LV × List Nm) → Option Out
  | some (args', lent) => callN E H base g args' lent (reach H FUEL [] (args'.flatMap (nms D)))
  | none => none
theorem callOp_L (g : FuncId) (args : List LV) : callOp E H b g args = callL E H b g (lend H (E.borrow g) 0 args) := by
  unfold callOp callL
  cases lend H (E.borrow g) 0 args with
  | none => rfl
  | some p =>
    obtain ⟨args', lent⟩ := p
    simp only [callN, resK]
    split
    · rfl
    · split <;> simp_all
theorem callL_some (base : Nat) (g : FuncId) (args' : List LV) (lent : List Nm) : callL E H base g (some (args', lent)) = callN E H base g args' lent (reach H FUEL [] (args'.flatMap (nms D))) := nf rfl
theorem callN_eq (base : Nat) (g : FuncId) (args' : List LV) (lent names : List Nm) (h : lent.any (fun n => names.contains n) = false) :
    callN E H base g args' lent names = resK names base lent.isEmpty (E.cal g (args'.map (ren D (toCallee names))) ((names.filterMap H).map fun cs => cs.map (ren D (toCallee names)))) := by
  rw [callN, if_neg (by rw [h]; decide)]
theorem resK_sc (names : List Nm) (base : Nat) (res : CallRes) : resK names base true (some res) = some (backTo names base res) := nf rfl
theorem resK_plain (names : List Nm) (base : Nat) (res : CallRes) (h : plainRes res = true) : resK names base false (some res) = some (backTo names base res) := by
  simp only [resK, Bool.false_or, if_pos h]
theorem backTo_eq (names : List Nm) (base : Nat) (r : LV) (passed : List (Option Cells)) (news : List Cells) :
    backTo names base (r, passed, news) = ⟨ren D (toCaller names base news.length) r, news.map (fun cs => cs.map (ren D (toCaller names base news.length))), List.zipWith (fun n p => (n, p.map fun cs => cs.map (ren D (toCaller names base news.length)))) names passed⟩ := nf rfl

/-! ### what is lent -/

def lendC (x : Option (LV × List Nm)) (r : Option (List LV × List Nm)) : Option (List LV × List Nm) :=
  match x, r with
  | some (y, a), some (ys, c) => some (y :: ys, a ++ c)
  | _, _ => none
theorem lend_nil (f : Nat → Bool) (i : Nat) : lend H f i [] = some ([], []) := nf rfl
theorem lend_cons (f : Nat → Bool) (i : Nat) (x : LV) (xs : List LV) : lend H f i (x :: xs) = lendC (if f i = true then snap H D x else some (x, [])) (lend H f (i + 1) xs) := by
  rw [lend]
  generalize (if f i = true then snap H D x else some (x, [])) = o
  generalize lend H f (i + 1) xs = r
  cases o with
  | none => rfl
  | some p => cases r with
    | none => rfl
    | some q => rfl
theorem lendC_some (y : LV) (a : List Nm) (ys : List LV) (c : List Nm) : lendC (some (y, a)) (some (ys, c)) = some (y :: ys, a ++ c) := nf rfl

theorem snapL_bs (H : Heap) (d : Nat) (l : List (BitVec 8)) : snapL (snap H (d + 1)) (bs l) = some (bs l, []) := by
  induction l with
  | nil => rfl
  | cons x l ih => simp only [bs, List.map_cons] at ih ⊢; simp only [snapL, ih]; rfl
theorem snap_bytes (n : Nm) (off len : Nat) (cap : Option Nat) (l : List (BitVec 8)) (h : H n = some (bs l)) (h0 : len ≠ 0) :
    snap H D (.sl n off len cap 1) = some (.isl (bs ((l.drop off).take len)) len, [n]) := by
  simp only [snap, if_neg h0, h, bs_drop, Nat.mul_one, bs_take, snapL_bs, Option.map_some]
theorem snap_zero (n : Nm) (off : Nat) (cap : Option Nat) (es : Nat) : snap H D (.sl n off 0 cap es) = some (.isl [] 0, []) := nf rfl
theorem snap_isl (xs : List LV) (len : Nat) : snap H D (.isl xs len) = some (.isl xs len, []) := nf rfl
theorem snap_v (x : Value) : snap H D (.v x) = some (.v x, []) := nf rfl
theorem snap_nil : snap H D Nil = some (Nil, []) := nf rfl

/-- a text of constant bytes -/
def strL (l : List Nat) : LV := .v (.string ⟨⟨l.map UInt8.ofNat⟩⟩)

/-! ### names -/

theorem ren_ptr (π : Nm → Option Nm) (n m : Nm) (off : Nat) (h : π n = some m) : ren D π (.ptr n off) = .ptr m off := by simp only [ren, h]
theorem ren_sl (π : Nm → Option Nm) (n m : Nm) (off len : Nat) (c : Option Nat) (es : Nat) (h : π n = some m) : ren D π (.sl n off len c es) = .sl m off len c es := by simp only [ren, h]
theorem toCallee_eq (names : List Nm) (n : Nm) : toCallee names n = (idx n names 0).map fun i => (0, i) := nf rfl
theorem idx_cons (n m : Nm) (ms : List Nm) (i : Nat) : idx n (m :: ms) i = if m = n then some i else idx n ms (i + 1) := nf rfl
theorem toCaller_0 (names : List Nm) (base k j : Nat) : toCaller names base k (0, j) = names[j]? := by simp [toCaller]
theorem toCaller_1 (names : List Nm) (base k j : Nat) (h : j < k) : toCaller names base k (1, j) = some (base, j) := by simp [toCaller, h]
theorem ipt_nms (g : List LV) (h : g.flatMap (nms 7) = []) : nms D (.ipt g) = [] := h
theorem ibs_nms (l : List (BitVec 8)) (n : Nat) : nms D (.isl (bs l) n) = [] := by
  show (bs l).flatMap (nms 7) = []
  rw [List.flatMap_eq_nil_iff]; intro x hx; simp only [bs, List.mem_map] at hx; obtain ⟨y, _, rfl⟩ := hx; rfl
theorem ibs_ren (π : Nm → Option Nm) (l : List (BitVec 8)) (n : Nat) : ren D π (.isl (bs l) n) = .isl (bs l) n := by
  show LV.isl ((bs l).map (ren 7 π)) n = _
  congr 1
  simp only [bs, List.map_map]; apply List.map_congr_left; intro x _; rfl

/-! ### what a function hands back, where there is memory -/

theorem outOf_mem (np : Nat) (st : St) (ret : LV) (names : List Nm) (h : canonNames st.H np [ret] = names) :
    outOf np st ret = (ren D (canonMap names) ret, (List.range np).map (fun i => (st.H (0, i)).map fun cs => cs.map (ren D (canonMap names))), (names.filterMap st.H).map fun cs => cs.map (ren D (canonMap names))) := by
  subst h; rfl
theorem canonMap_0 (names : List Nm) (j : Nat) : canonMap names (0, j) = some (0, j) := by simp [canonMap]
theorem canonMap_ne (names : List Nm) (i j : Nat) (h : i ≠ 0) : canonMap names (i, j) = (idx (i, j) names 0).map fun i => (1, i) := by simp [canonMap, h]

end Go.LE
namespace Go.LE
/-! ### nil -/
def chkV : LV → Option LV
  | .ptr n off => some (.ptr n off)
  | .ipt xs => some (.ipt xs)
  | .fn (.func f) a b => some (.fn (.func f) a b)
  | _ => none
theorem op_chk {E : Env} {tm : List LV} {H : Heap} {b : Nat} (x : LX) : opRes E tm H b (.chk x) = outR (chkV (evX E.gl tm x)) := by
  simp only [opRes, pureOp, heapOp]
  generalize evX E.gl tm x = y
  cases y with
  | fn f a c => cases f <;> rfl
  | _ => rfl
theorem chkV_ptr (n : Nm) (off : Nat) : chkV (.ptr n off) = some (.ptr n off) := nf rfl
theorem eqp_ptr (n : Nm) (off : Nat) : binV .eql .ptr (.ptr n off) NilP = some (Bo false) := nf rfl
theorem eqp_nil : binV .eql .ptr NilP NilP = some (Bo true) := nf rfl
theorem nep_ptr (n : Nm) (off : Nat) : binV .neq .ptr (.ptr n off) NilP = some (Bo true) := nf rfl
theorem nep_nil : binV .neq .ptr NilP NilP = some (Bo false) := nf rfl
theorem eqs_sl (n : Nm) (off len : Nat) (c : Option Nat) (es : Nat) : binV .eql .slice (.sl n off len c es) Nil = some (Bo false) := nf rfl
theorem eqs_nil : binV .eql .slice Nil Nil = some (Bo true) := nf rfl
theorem isCell_isl (xs : List LV) (n : Nat) : isCell (.isl xs n) = true := nf rfl
theorem calK_ptr_new (b : Nat) (z : Cells) (off : Nat) (h : z.map (ren D (toCaller [] b 1)) = z) : calK b (some (.ptr (1, 0) off, [], [z])) = some ⟨.ptr (b, 0) off, [z], []⟩ := by
  simp only [calK, backTo, List.length_cons, List.length_nil, List.map_cons, List.map_nil, List.zipWith_nil_left]
  rw [show (0 + 1 : Nat) = 1 from rfl, h]
  rfl
theorem cN_zero (names : List Nm) (H : Heap) (j : Nat) : cN names H (0, j) = (H (0, j)).map (fun cs => cs.map (ren D (canonMap names))) := nf rfl
end Go.LE
namespace Go.LE
theorem inHeap_at (objs : List Cells) (j : Nat) : inHeap objs (0, j) = objs[j]? := by simp [inHeap]
theorem inHeap_none (objs : List Cells) (i j : Nat) (h : i ≠ 0) : inHeap objs (i, j) = none := by simp [inHeap, h]
theorem range_one : List.range 1 = [0] := nf rfl
theorem range_two : List.range 2 = [0, 1] := nf rfl
theorem range_three : List.range 3 = [0, 1, 2] := nf rfl
end Go.LE
namespace Go.LE
def ptrO (off : Nat) : Option Nm → LV
  | some m => .ptr m off
  | none => .undef
def slO (off len : Nat) (c : Option Nat) (es : Nat) : Option Nm → LV
  | some m => .sl m off len c es
  | none => .undef
theorem ren_ptrF (π : Nm → Option Nm) (n : Nm) (off : Nat) : ren D π (.ptr n off) = ptrO off (π n) := by
  simp only [ren, ptrO]; cases π n <;> rfl
theorem ren_slF (π : Nm → Option Nm) (n : Nm) (off len : Nat) (c : Option Nat) (es : Nat) : ren D π (.sl n off len c es) = slO off len c es (π n) := by
  simp only [ren, slO]; cases π n <;> rfl
theorem ptrO_some (off : Nat) (m : Nm) : ptrO off (some m) = .ptr m off := nf rfl
theorem slO_some (off len : Nat) (c : Option Nat) (es : Nat) (m : Nm) : slO off len c es (some m) = .sl m off len c es := nf rfl
end Go.LE
namespace Go.LE
theorem nms_tup0 : nms D (.tup []) = [] := nf rfl
theorem ren_tup0 (π : Nm → Option Nm) : ren D π (.tup []) = .tup [] := nf rfl
end Go.LE
namespace Go.LE
theorem stepK_nm {E : Env} (b i : Nat) (os : List LOper) (log : List Done) (d : Option Nat) (tm : List LV) (H : Heap) (nx np : Nat) (v : LV) (z : Cells) (n : Nm) (x : Option Cells) :
    stepK E b i os log d tm H nx np (some ⟨v, [z], [(n, x)]⟩) = evOpers E b (i + 1) os log ⟨put tm d v, upd (upd H n x) (b + i, 0) (some z), nx, np⟩ := by
  rw [stepK_gen]; rfl
theorem reachK_gone (H : Heap) (f : Nat) (seen : List Nm) (n : Nm) (todo : List Nm) : reachK H f seen n todo none = reach H f seen todo := nf rfl
end Go.LE
namespace Go.LE
theorem stepK_nm2 {E : Env} (b i : Nat) (os : List LOper) (log : List Done) (d : Option Nat) (tm : List LV) (H : Heap) (nx np : Nat) (v : LV) (z : Cells) (n : Nm) (x : Option Cells) (n2 : Nm) (x2 : Option Cells) :
    stepK E b i os log d tm H nx np (some ⟨v, [z], [(n, x), (n2, x2)]⟩) = evOpers E b (i + 1) os log ⟨put tm d v, upd (upd (upd H n2 x2) n x) (b + i, 0) (some z), nx, np⟩ := by
  rw [stepK_gen]; rfl
theorem stepK_n2m2 {E : Env} (b i : Nat) (os : List LOper) (log : List Done) (d : Option Nat) (tm : List LV) (H : Heap) (nx np : Nat) (v : LV) (z z2 : Cells) (n : Nm) (x : Option Cells) (n2 : Nm) (x2 : Option Cells) :
    stepK E b i os log d tm H nx np (some ⟨v, [z, z2], [(n, x), (n2, x2)]⟩) = evOpers E b (i + 1) os log ⟨put tm d v, upd (upd (upd (upd H n2 x2) n x) (b + i, 0) (some z)) (b + i, 1) (some z2), nx, np⟩ := by
  rw [stepK_gen]; rfl
end Go.LE
namespace Go.LE
theorem stepK_m2 {E : Env} (b i : Nat) (os : List LOper) (log : List Done) (d : Option Nat) (tm : List LV) (H : Heap) (nx np : Nat) (v : LV) (n : Nm) (x : Option Cells) (n2 : Nm) (x2 : Option Cells) :
    stepK E b i os log d tm H nx np (some ⟨v, [], [(n, x), (n2, x2)]⟩) = evOpers E b (i + 1) os log ⟨put tm d v, upd (upd H n2 x2) n x, nx, np⟩ := by
  rw [stepK_gen]; rfl
end Go.LE
namespace Go.LE
/-! ### bytes as text -/
def txt (l : List (BitVec 8)) : LV := .v (.string ⟨(l.map fun x => UInt8.ofNat x.toNat).toArray⟩)
theorem bytesOf_bs (l : List (BitVec 8)) : bytesOf (bs l) = some (l.map fun x => UInt8.ofNat x.toNat) := by
  induction l with
  | nil => rfl
  | cons x l ih => simp only [bs, List.map_cons] at ih ⊢; simp only [B8, bytesOf, ih]; rfl
def b2sK : Option Cells → Option Out
  | some cs => (bytesOf cs).map fun b => ⟨.v (.string ⟨b.toArray⟩), [], []⟩
  | none => none
theorem b2sK_bs (l : List (BitVec 8)) : b2sK (some (bs l)) = some ⟨txt l, [], []⟩ := by
  simp only [b2sK, bytesOf_bs]; rfl
theorem op_b2s_sl {E : Env} {tm : List LV} {H : Heap} {b : Nat} (x : LX) (m : Nm) (off len : Nat) (c : Option Nat) (es : Nat) (h : evX E.gl tm x = .sl m off len c es) :
    opRes E tm H b (.b2s x) = b2sK (front H 1 len (.sl m off len c es)) := by
  simp only [opRes, pureOp, heapOp, h, lenOf, b2sK]
  cases front H 1 len (.sl m off len c es) <;> rfl
def b2sV (H : Heap) (y : LV) : Option Nat → Option Out
  | some n => (match y with
    | .v (.string _) => none
    | y => b2sK (front H 1 n y))
  | none => none
theorem op_b2s {E : Env} {tm : List LV} {H : Heap} {b : Nat} (x : LX) : opRes E tm H b (.b2s x) = b2sV H (evX E.gl tm x) (lenOf (evX E.gl tm x)) := by
  simp only [opRes, pureOp, heapOp, b2sV]
  generalize evX E.gl tm x = y
  cases lenOf y with
  | none => rfl
  | some n =>
    cases y with
    | v z => cases z <;> (try rfl) <;> (simp only [b2sK]; cases front H 1 n _ <;> rfl)
    | _ => simp only [b2sK]; cases front H 1 n _ <;> rfl
theorem b2sV_sl (H : Heap) (m : Nm) (off len : Nat) (c : Option Nat) (es n : Nat) : b2sV H (.sl m off len c es) (some n) = b2sK (front H 1 n (.sl m off len c es)) := nf rfl
theorem b2sV_isl (H : Heap) (xs : List LV) (len n : Nat) : b2sV H (.isl xs len) (some n) = b2sK (front H 1 n (.isl xs len)) := nf rfl
theorem txt_same (e : EqT) (l : List (BitVec 8)) : binV .eql e (txt l) (txt l) = some (Bo true) := by
  simp only [binV, txt, strOp, beq_self_eq_true]; rfl
end Go.LE
