/- Equations on slices: lengths, parts, cells, appending, copying, text as bytes and back. -/
import Derived.Test.YtpkifhjlmkbdpaaDoorLeOps
set_option linter.unusedVariables false
set_option linter.unusedSimpArgs false
namespace Go.LE
variable {E : Env} {tm : List LV} {H : Heap} {b : Nat}

/-! ### rows of bytes as lists -/

def bs (l : List (BitVec 8)) : Cells := l.map B8
theorem bs_length (l : List (BitVec 8)) : (bs l).length = l.length := by simp [bs]
theorem bs_append (l m : List (BitVec 8)) : bs l ++ bs m = bs (l ++ m) := by simp [bs]
theorem bs_take (l : List (BitVec 8)) (n : Nat) : (bs l).take n = bs (l.take n) := by simp [bs]
theorem bs_drop (l : List (BitVec 8)) (n : Nat) : (bs l).drop n = bs (l.drop n) := by simp [bs]
theorem bs_nil : bs [] = [] := nf rfl
theorem bs_cons (x : BitVec 8) (l : List (BitVec 8)) : B8 x :: bs l = bs (x :: l) := nf rfl
theorem bs_one (x : BitVec 8) : [B8 x] = bs [x] := nf rfl
theorem bs_rep (n : Nat) (x : BitVec 8) : List.replicate n (B8 x) = bs (List.replicate n x) := by simp [bs]
theorem bs_isCell (l : List (BitVec 8)) : (bs l).all isCell = true := by
  rw [List.all_eq_true]; intro x hx; simp only [bs, List.mem_map] at hx; obtain ⟨y, _, rfl⟩ := hx; rfl
theorem bs_nms (l : List (BitVec 8)) : (bs l).flatMap (nms D) = [] := by
  rw [List.flatMap_eq_nil_iff]; intro x hx; simp only [bs, List.mem_map] at hx; obtain ⟨y, _, rfl⟩ := hx; rfl
theorem bs_ren (l : List (BitVec 8)) (π : Nm → Option Nm) : (bs l).map (ren D π) = bs l := by
  simp only [bs, List.map_map]; apply List.map_congr_left; intro x _; rfl
theorem bs_cell (l : List (BitVec 8)) (i : Nat) (h : i < l.length) : cellK i 1 (some (bs l)) = some [B8 (l.getD i 0#8)] := by
  have h2 : i < (bs l).length := by rw [bs_length]; exact h
  rw [cellK_some, if_pos (by omega), List.drop_eq_getElem_cons h2, List.take_succ_cons, List.take_zero]
  simp [bs, h]
theorem bs_cells (l : List (BitVec 8)) (i n : Nat) (h : i + n ≤ l.length) : cellK i n (some (bs l)) = some (bs ((l.drop i).take n)) := by
  rw [cellK_some, if_pos (by rw [bs_length]; omega), bs_drop, bs_take]
theorem bs_splice (l m : List (BitVec 8)) (i : Nat) : splice (bs l) i (bs m) = bs (l.take i ++ m ++ l.drop (i + m.length)) := by
  simp only [splice, bs_take, bs_drop, bs_append, bs_length]
theorem bs_st (l : List (BitVec 8)) (i : Nat) (x : BitVec 8) (m : Nm) (h : i < l.length) : stK 1 i m (some [B8 x]) (some (bs l)) = some ⟨Un, [], [(m, some (bs (l.set i x)))]⟩ := by
  rw [stK_some, if_pos ⟨rfl, by rw [bs_length]; omega, rfl⟩, bs_one, bs_splice, List.set_eq_take_append_cons_drop, if_pos h]
  simp
/-- the same as a row of bytes by places -/
theorem bs_aB (l : List (BitVec 8)) (n : Nat) (h : l.length = n) : bs l = aB n fun i => l.getD i 0#8 := by
  subst h
  apply List.ext_getElem
  · simp [bs, aB, arr]
  · intro i h1 h2
    have h3 : i < l.length := by simpa [bs] using h1
    simp [bs, aB, arr, h3]
theorem aB_bs (n : Nat) (g : Nat → BitVec 8) : aB n g = bs ((List.range n).map g) := by
  simp only [aB, arr, bs, List.map_map]; rfl

/-! ### lengths -/

def lenV : Option Nat → Option Out
  | some n => some ⟨N n, [], []⟩
  | none => none
theorem lenV_some (n : Nat) : lenV (some n) = some ⟨N n, [], []⟩ := nf rfl
theorem op_len (x : LX) : opRes E tm H b (.len x) = lenV (lenS (evX E.gl tm x)) := by
  simp only [opRes, pureOp, heapOp]
  cases lenS (evX E.gl tm x) <;> rfl
theorem lenS_sl (n : Nm) (off len : Nat) (cap : Option Nat) (es : Nat) : lenS (.sl n off len cap es) = some len := nf rfl
theorem lenS_isl (xs : List LV) (len : Nat) : lenS (.isl xs len) = some len := nf rfl
def Nil : LV := .v (.slice none 0 0)
theorem lenS_nil : lenS Nil = some 0 := nf rfl
theorem lenOf_sl (n : Nm) (off len : Nat) (cap : Option Nat) (es : Nat) : lenOf (.sl n off len cap es) = some len := nf rfl
theorem lenOf_isl (xs : List LV) (len : Nat) : lenOf (.isl xs len) = some len := nf rfl
theorem lenOf_nil : lenOf Nil = some 0 := nf rfl
theorem lenOf_str (s : ByteArray) : lenOf (.v (.string s)) = some s.size := nf rfl
theorem nms_nil : nms D Nil = [] := nf rfl
theorem ren_nil (π : Nm → Option Nm) : ren D π Nil = Nil := nf rfl
theorem cellsOf_nil : cellsOf Nil = some [Nil] := nf rfl
theorem isCell_nil : isCell Nil = true := nf rfl
theorem cellsOf_sl (n : Nm) (off len : Nat) (cap : Option Nat) (es : Nat) : cellsOf (.sl n off len cap es) = some [.sl n off len cap es] := nf rfl
theorem isCell_sl (n : Nm) (off len : Nat) (cap : Option Nat) (es : Nat) : isCell (.sl n off len cap es) = true := nf rfl
theorem cellsOf_ptr (n : Nm) (off : Nat) : cellsOf (.ptr n off) = some [.ptr n off] := nf rfl
theorem isCell_ptr (n : Nm) (off : Nat) : isCell (.ptr n off) = true := nf rfl
def NilP : LV := .v (.pointer none)
theorem cellsOf_nilP : cellsOf NilP = some [NilP] := nf rfl
theorem nms_nilP : nms D NilP = [] := nf rfl
theorem ren_nilP (π : Nm → Option Nm) : ren D π NilP = NilP := nf rfl

/-! ### the front of a slice -/

def frontK (off size n : Nat) : Option Cells → Option Cells
  | some cs => if off + n * size ≤ cs.length then some ((cs.drop off).take (n * size)) else none
  | none => none
theorem front_sl (m : Nm) (off len : Nat) (cap : Option Nat) (es size n : Nat) (h : n ≤ len) (h0 : n ≠ 0) : front H size n (.sl m off len cap es) = frontK off size n (H m) := by
  simp only [front, if_neg h0, if_pos h]
  cases H m <;> rfl
theorem front_sl0 (m : Nm) (off len : Nat) (cap : Option Nat) (es size : Nat) : front H size 0 (.sl m off len cap es) = some [] := nf rfl
theorem front_isl (xs : List LV) (len size n : Nat) (h : n ≤ len) (h2 : n * size ≤ xs.length) : front H size n (.isl xs len) = some (xs.take (n * size)) := by
  simp only [front]
  by_cases h0 : n = 0
  · subst h0; simp
  · rw [if_neg h0, if_pos ⟨h, h2⟩]
theorem front_nil (size : Nat) : front H size 0 Nil = some [] := nf rfl
/-- of bytes that lie in an object -/
theorem front_bytes (m : Nm) (off len : Nat) (cap : Option Nat) (l : List (BitVec 8)) (h : H m = some (bs l)) (hl : off + len ≤ l.length) :
    front H 1 len (.sl m off len cap 1) = some (bs ((l.drop off).take len)) := by
  by_cases h0 : len = 0
  · subst h0; simp [front_sl0, bs]
  · rw [front_sl _ _ _ _ _ _ _ (Nat.le_refl _) h0, h]
    simp only [frontK, Nat.mul_one, bs_length, if_pos hl, bs_drop, bs_take]
theorem front_ibytes (l : List (BitVec 8)) (len : Nat) (hl : l.length = len) : front H 1 len (.isl (bs l) len) = some (bs l) := by
  rw [front_isl _ _ _ _ (Nat.le_refl _) (by rw [bs_length]; omega), Nat.mul_one, List.take_of_length_le (by rw [bs_length]; omega)]

/-! ### appending -/

def appX (b size bytes k : Nat) (H : Heap) (ms : List (Nm × Option Cells)) (new : Cells) : LV → Option Out
  | .sl m off len (some c) es =>
    if es = size ∧ (len + k) * bytes ≤ 2 ^ 44 ∧ ms.all (fun p => p.1 != m) = true then
      if len + k ≤ c then (match H m with
        | some cs => if off + (len + k) * size ≤ cs.length then some ⟨.sl m off (len + k) (some c) es, [], (m, some (splice cs (off + len * size) new)) :: ms⟩ else none
        | none => none)
      else (match front H size len (.sl m off len (some c) es) with
        | some old => some ⟨.sl (b, 0) 0 (len + k) none size, [old ++ new], ms⟩
        | none => none)
    else none
  | .sl m off len none es =>
    if es = size ∧ (len + k) * bytes ≤ 2 ^ 44 ∧ ms.all (fun p => p.1 != m) = true then (match H m with
      | some cs => if off + len * size ≤ cs.length then some ⟨.sl (b, 0) 0 (len + k) none size, [(cs.drop off).take (len * size) ++ new], (m, none) :: ms⟩ else none
      | none => none)
    else none
  | .v (.slice none 0 0) => if k = 0 then some ⟨.v (.slice none 0 0), [], ms⟩ else if k * bytes ≤ 2 ^ 44 then some ⟨.sl (b, 0) 0 k none size, [new], ms⟩ else none
  | _ => none
def appF (b size bytes k : Nat) (H : Heap) (x : LV) : Option Cells → Option Out
  | some new => if bytes ≤ 2 ^ 20 ∧ new.all isCell = true then appX b size bytes k H [] new x else none
  | none => none
def appK (b size bytes : Nat) (H : Heap) (x y : LV) : Option Nat → Option Out
  | some k => appF b size bytes k H x (front H size k y)
  | none => none
theorem op_append (size bytes : Nat) (x y : LX) : opRes E tm H b (.append size bytes false x y) = appK b size bytes H (evX E.gl tm x) (evX E.gl tm y) (lenOf (evX E.gl tm y)) := by
  simp only [opRes, pureOp, heapOp]
  generalize evX E.gl tm y = y
  generalize evX E.gl tm x = x
  cases lenOf y with
  | none => rfl
  | some k =>
    simp only [appK]
    cases front H size k y with
    | none => rfl
    | some new => rfl
theorem appK_some (size bytes k : Nat) (x y : LV) : appK b size bytes H x y (some k) = appF b size bytes k H x (front H size k y) := nf rfl
theorem appF_some (size bytes k : Nat) (x : LV) (new : Cells) (h1 : bytes ≤ 1048576) (h2 : new.all isCell = true) : appF b size bytes k H x (some new) = appX b size bytes k H [] new x := by
  rw [appF, if_pos ⟨h1, h2⟩]
def appN (b size k off len : Nat) (m : Nm) (new : Cells) : Option Cells → Option Out
  | some cs => if off + len * size ≤ cs.length then some ⟨.sl (b, 0) 0 (len + k) none size, [(cs.drop off).take (len * size) ++ new], [(m, none)]⟩ else none
  | none => none
theorem appX_none (size bytes k : Nat) (m : Nm) (off len : Nat) (new : Cells) (h : (len + k) * bytes ≤ 17592186044416) : appX b size bytes k H [] new (.sl m off len none size) = appN b size k off len m new (H m) := by
  rw [appX, if_pos ⟨rfl, h, rfl⟩]; rfl
theorem appX_nil (size bytes k : Nat) (new : Cells) (h0 : k ≠ 0) (h : k * bytes ≤ 17592186044416) : appX b size bytes k H [] new Nil = some ⟨.sl (b, 0) 0 k none size, [new], []⟩ := by
  rw [Nil, appX, if_neg h0, if_pos h]
theorem appX_nil0 (size bytes : Nat) (new : Cells) : appX b size bytes 0 H [] new Nil = some ⟨Nil, [], []⟩ := by
  rw [Nil, appX, if_pos rfl]
/-- bytes behind bytes -/
theorem appN_bytes (k off len : Nat) (m : Nm) (l new : List (BitVec 8)) (h : off + len ≤ l.length) :
    appN b 1 k off len m (bs new) (some (bs l)) = some ⟨.sl (b, 0) 0 (len + k) none 1, [bs ((l.drop off).take len ++ new)], [(m, none)]⟩ := by
  simp only [appN, Nat.mul_one, bs_length, if_pos h, bs_drop, bs_take, bs_append]
/-- to a row that is full -/
theorem appX_full (k : Nat) (m : Nm) (off len c : Nat) (l new : List (BitVec 8)) (hm : H m = some (bs l)) (hl : off + len ≤ l.length) (h : (len + k) * 1 ≤ 17592186044416) (hc : c < len + k) :
    appX b 1 1 k H [] (bs new) (.sl m off len (some c) 1) = some ⟨.sl (b, 0) 0 (len + k) none 1, [bs ((l.drop off).take len ++ new)], []⟩ := by
  rw [appX, if_pos ⟨rfl, h, rfl⟩, if_neg (by omega), front_bytes m off len (some c) l hm hl]
  simp only [bs_append]
/-- to a row with room -/
theorem appX_room (k : Nat) (m : Nm) (off len c : Nat) (l new : List (BitVec 8)) (hm : H m = some (bs l)) (hl : off + (len + k) ≤ l.length) (h : (len + k) * 1 ≤ 17592186044416) (hc : len + k ≤ c) :
    appX b 1 1 k H [] (bs new) (.sl m off len (some c) 1) = some ⟨.sl m off (len + k) (some c) 1, [], [(m, some (bs (l.take (off + len) ++ new ++ l.drop (off + len + new.length))))]⟩ := by
  rw [appX, if_pos ⟨rfl, h, rfl⟩, if_pos hc, hm]
  simp only [Nat.mul_one, bs_length, if_pos hl, bs_splice]

/-! ### copying -/

def cpK (size : Nat) (H : Heap) (x y : LV) : Option Nat → Option Out
  | some k => (match x with
    | .sl m off len _ es =>
      if min k len = 0 then some ⟨.v (.int .i64 0), [], []⟩ else
      (match front H size (min k len) y, H m with
      | some new, some cs => if es = size ∧ new.all isCell = true ∧ off + (min k len) * size ≤ cs.length then
          some ⟨.v (.int .i64 (min k len : Nat)), [], [(m, some (splice cs off new))]⟩ else none
      | _, _ => none)
    | .v (.slice none 0 0) => some ⟨.v (.int .i64 0), [], []⟩
    | _ => none)
  | none => none
theorem op_copy (size : Nat) (x y : LX) : opRes E tm H b (.copy size x y) = cpK size H (evX E.gl tm x) (evX E.gl tm y) (lenOf (evX E.gl tm y)) := by
  simp only [opRes, pureOp, heapOp]
  generalize evX E.gl tm y = y
  generalize evX E.gl tm x = x
  cases lenOf y with
  | none => rfl
  | some k =>
    cases x with
    | sl m off len c es => rfl
    | v y =>
      cases y with
      | slice a n c =>
        cases a with
        | some _ => rfl
        | none => cases n <;> cases c <;> rfl
      | _ => rfl
    | _ => rfl
theorem cp_zero (size k : Nat) (m : Nm) (off len : Nat) (c : Option Nat) (es : Nat) (y : LV) (h : min k len = 0) : cpK size H (.sl m off len c es) y (some k) = some ⟨N 0, [], []⟩ := by
  simp only [cpK, h, if_true]; rfl
theorem cp_bytes (k : Nat) (m : Nm) (off len : Nat) (c : Option Nat) (y : LV) (l new : List (BitVec 8)) (h0 : min k len ≠ 0) (hf : front H 1 (min k len) y = some (bs new)) (hm : H m = some (bs l)) (hl : off + min k len ≤ l.length) :
    cpK 1 H (.sl m off len c 1) y (some k) = some ⟨N (min k len), [], [(m, some (bs (l.take off ++ new ++ l.drop (off + new.length))))]⟩ := by
  simp only [cpK, if_neg h0, hf, hm, bs_isCell, Nat.mul_one, bs_length, hl, and_self, if_true, bs_splice]
  rfl

/-! ### parts of slices -/

theorem optNat_none (gl : Nat → Option Cells) (d : Nat) : optNat gl tm d none = some d := nf rfl
theorem optNat_some (gl : Nat → Option Cells) (d : Nat) (x : LX) : optNat gl tm d (some x) = natOf (evX gl tm x) := nf rfl

def slcV (size : Nat) (lo hi : Option Nat) : LV → Option LV
  | .sl nm off len (some c) es => match lo, hi with
    | some l, some h => if l ≤ h ∧ h ≤ c ∧ es = size then some (.sl nm (off + l * size) (h - l) (some (c - l)) size) else none
    | _, _ => none
  | .sl nm off len none es => match lo, hi with
    | some l, some h => if l ≤ h ∧ h ≤ len ∧ es = size then some (.sl nm (off + l * size) (h - l) none size) else none
    | _, _ => none
  | .isl xs len => match lo, hi with
    | some l, some h => if l ≤ h ∧ h ≤ len then some (.isl ((xs.drop (l * size)).take ((h - l) * size)) (h - l)) else none
    | _, _ => none
  | .v (.slice none 0 0) => match lo, hi with
    | some l, some h => if l = 0 ∧ h = 0 then some Nil else none
    | _, _ => none
  | _ => none
/-- the length that stands for an upper bound that is not given -/
def hiV (d : Option Nat) : Option Nat → Option Nat
  | some h => some h
  | none => d
theorem op_slcS (size : Nat) (x : LX) (lo hi : Option LX) : opRes E tm H b (.slcS size x lo hi none) = outR (slcV size (optNat E.gl tm 0 lo) (optNat E.gl tm ((lenS (evX E.gl tm x)).getD 0) hi) (evX E.gl tm x)) := by
  simp only [opRes, pureOp, heapOp]
  generalize evX E.gl tm x = x
  cases x with
  | sl nm off len cap es =>
    cases cap with
    | none =>
      simp only [lenS, Option.getD_some, slcV, Option.isNone_none, if_true]
      cases optNat E.gl tm 0 lo <;> cases optNat E.gl tm len hi <;> try rfl
      rename_i l h
      by_cases hc : l ≤ h ∧ h ≤ len ∧ es = size <;> simp [hc, outR]
    | some c =>
      simp only [lenS, Option.getD_some, slcV]
      cases optNat E.gl tm 0 lo <;> cases optNat E.gl tm len hi <;> try rfl
      rename_i l h
      by_cases hc : l ≤ h ∧ h ≤ c ∧ es = size <;> simp [hc, outR, optNat]
  | isl xs len =>
    simp only [lenS, Option.getD_some, slcV, Option.isNone_none, if_true]
    cases optNat E.gl tm 0 lo <;> cases optNat E.gl tm len hi <;> first | rfl | (rename_i l h; by_cases hc : l ≤ h ∧ h ≤ len <;> simp [hc, outR])
  | v y =>
    cases y with
    | slice a n c =>
      cases a with
      | some _ => rfl
      | none =>
        cases n with
        | succ _ => rfl
        | zero =>
          cases c with
          | succ _ => rfl
          | zero =>
            simp only [lenS, Option.getD_some, slcV, Option.isNone_none, if_true]
            cases optNat E.gl tm 0 lo <;> cases optNat E.gl tm 0 hi <;> try rfl
            first | done | (rename_i l h; by_cases hc : l = 0 ∧ h = 0 <;> simp [hc, outR, Nil])
    | _ => rfl
  | _ => rfl
theorem slcV_none (size : Nat) (nm : Nm) (off len l h : Nat) (h1 : l ≤ h) (h2 : h ≤ len) : slcV size (some l) (some h) (.sl nm off len none size) = some (.sl nm (off + l * size) (h - l) none size) := by
  rw [slcV, if_pos ⟨h1, h2, rfl⟩]
theorem slcV_cap (size : Nat) (nm : Nm) (off len c l h : Nat) (h1 : l ≤ h) (h2 : h ≤ c) : slcV size (some l) (some h) (.sl nm off len (some c) size) = some (.sl nm (off + l * size) (h - l) (some (c - l)) size) := by
  rw [slcV, if_pos ⟨h1, h2, rfl⟩]
theorem slcV_isl (size : Nat) (xs : List LV) (len l h : Nat) (h1 : l ≤ h) (h2 : h ≤ len) : slcV size (some l) (some h) (.isl xs len) = some (.isl ((xs.drop (l * size)).take ((h - l) * size)) (h - l)) := by
  rw [slcV, if_pos ⟨h1, h2⟩]
theorem slcV_nil (size : Nat) : slcV size (some 0) (some 0) Nil = some Nil := nf rfl
theorem getD_some (n : Nat) : (some n).getD 0 = n := nf rfl

def arrpV (n : Nat) : LV → Option LV
  | .sl m off len _ _ => if 0 < n ∧ n ≤ len then some (.ptr m off) else none
  | .isl xs len => if 0 < n ∧ n ≤ len then some (.ipt xs) else none
  | _ => none
theorem op_arrp (n : Nat) (x : LX) : opRes E tm H b (.arrp n x) = outR (arrpV n (evX E.gl tm x)) := by
  simp only [opRes, pureOp, heapOp]
  generalize evX E.gl tm x = x
  cases x with
  | sl m off len c es => simp only [arrpV]; by_cases hc : 0 < n ∧ n ≤ len <;> simp [hc, outR]
  | isl xs len => simp only [arrpV]; by_cases hc : 0 < n ∧ n ≤ len <;> simp [hc, outR]
  | _ => rfl
theorem arrpV_sl (n : Nat) (m : Nm) (off len : Nat) (c : Option Nat) (es : Nat) (h0 : 0 < n) (h : n ≤ len) : arrpV n (.sl m off len c es) = some (.ptr m off) := by rw [arrpV, if_pos ⟨h0, h⟩]
theorem arrpV_isl (n : Nat) (xs : List LV) (len : Nat) (h0 : 0 < n) (h : n ≤ len) : arrpV n (.isl xs len) = some (.ipt xs) := by rw [arrpV, if_pos ⟨h0, h⟩]

def iaSV (size : Nat) (j : Option Nat) : LV → Option LV
  | .sl nm off len _ _ => match j with | some j => if j < len then some (.ptr nm (off + j * size)) else none | none => none
  | .isl xs len => match j with | some j => if j < len then some (.ipt (xs.drop (j * size))) else none | none => none
  | _ => none
theorem op_iaS (size : Nat) (x i : LX) : opRes E tm H b (.iaS size x i) = outR (iaSV size (natOf (evX E.gl tm i)) (evX E.gl tm x)) := by
  simp only [opRes, pureOp, heapOp]
  generalize evX E.gl tm x = x
  cases natOf (evX E.gl tm i) with
  | none => cases x <;> rfl
  | some j =>
    cases x with
    | sl m off len c es => simp only [iaSV]; by_cases hc : j < len <;> simp [hc, outR]
    | isl xs len => simp only [iaSV]; by_cases hc : j < len <;> simp [hc, outR]
    | _ => rfl
theorem iaSV_sl (size : Nat) (nm : Nm) (off len : Nat) (c : Option Nat) (es j : Nat) (h : j < len) : iaSV size (some j) (.sl nm off len c es) = some (.ptr nm (off + j * size)) := by rw [iaSV, if_pos h]
theorem iaSV_isl (size : Nat) (xs : List LV) (len j : Nat) (h : j < len) : iaSV size (some j) (.isl xs len) = some (.ipt (xs.drop (j * size))) := by rw [iaSV, if_pos h]
theorem cellAt_ipt (n : Nat) (xs : List LV) : cellAt H n (.ipt xs) = if n ≤ xs.length then some (xs.take n) else none := nf rfl
/-- a byte of bytes that are never written -/
theorem cellAt_ibyte (l : List (BitVec 8)) (j : Nat) (h : j < l.length) : cellAt H 1 (.ipt ((bs l).drop j)) = some [B8 (l.getD j 0#8)] := by
  have h2 : j < (bs l).length := by rw [bs_length]; exact h
  rw [cellAt_ipt, if_pos (by rw [List.length_drop]; omega), List.drop_eq_getElem_cons h2, List.take_succ_cons, List.take_zero]
  simp [bs, h]

def slcAV (n size : Nat) (lo hi : Option Nat) : LV → Option LV
  | .ptr nm off => match lo, hi with
    | some l, some h => if l ≤ h ∧ h ≤ n then some (.sl nm (off + l * size) (h - l) (some (n - l)) size) else none
    | _, _ => none
  | .ipt xs => match lo, hi with
    | some l, some h => if l ≤ h ∧ h ≤ n then some (.isl ((xs.drop (l * size)).take ((h - l) * size)) (h - l)) else none
    | _, _ => none
  | _ => none
theorem op_slcAV (n size : Nat) (x : LX) (lo hi : Option LX) : opRes E tm H b (.slcA n size x lo hi none) = outR (slcAV n size (optNat E.gl tm 0 lo) (optNat E.gl tm n hi) (evX E.gl tm x)) := by
  simp only [opRes, pureOp, heapOp]
  generalize evX E.gl tm x = x
  cases optNat E.gl tm 0 lo with
  | none => cases x <;> rfl
  | some l =>
    cases optNat E.gl tm n hi with
    | none => cases x <;> rfl
    | some h =>
      simp only [optNat, Nat.le_refl, true_and, Option.isSome_none, Bool.false_eq_true, false_implies, and_true]
      cases x with
      | ptr nm off => simp only [slcAV]; by_cases hh : l ≤ h ∧ h ≤ n <;> simp [hh, outR]
      | ipt xs => simp only [slcAV]; by_cases hh : l ≤ h ∧ h ≤ n <;> simp [hh, outR]
      | _ => simp [slcAV, outR]
theorem slcAV_ptr (n size : Nat) (nm : Nm) (off l h : Nat) (h1 : l ≤ h) (h2 : h ≤ n) : slcAV n size (some l) (some h) (.ptr nm off) = some (.sl nm (off + l * size) (h - l) (some (n - l)) size) := by rw [slcAV, if_pos ⟨h1, h2⟩]
theorem slcAV_ipt (n size : Nat) (xs : List LV) (l h : Nat) (h1 : l ≤ h) (h2 : h ≤ n) : slcAV n size (some l) (some h) (.ipt xs) = some (.isl ((xs.drop (l * size)).take ((h - l) * size)) (h - l)) := by rw [slcAV, if_pos ⟨h1, h2⟩]

/-! ### new rows -/

def mkK (b size bytes : Nat) (zero : Cells) : Option Nat → Option Nat → Option Out
  | some l, some c => if l ≤ c ∧ c * bytes ≤ 2 ^ 47 ∧ c < 2 ^ 62 ∧ zero.length = size then some ⟨.sl (b, 0) 0 l (some c) size, [(List.replicate c zero).flatten], []⟩ else none
  | _, _ => none
theorem op_mkslice (size bytes : Nat) (zero : Cells) (l c : LX) : opRes E tm H b (.mkslice size bytes zero l c) = mkK b size bytes zero (natOf (evX E.gl tm l)) (natOf (evX E.gl tm c)) := by
  simp only [opRes, pureOp, heapOp]
  cases natOf (evX E.gl tm l) <;> cases natOf (evX E.gl tm c) <;> rfl
theorem mk_bytes (x : BitVec 8) (l c : Nat) (h1 : l ≤ c) (h2 : c < 4611686018427387904) (h3 : c ≤ 140737488355328) : mkK b 1 1 [B8 x] (some l) (some c) = some ⟨.sl (b, 0) 0 l (some c) 1, [bs (List.replicate c x)], []⟩ := by
  rw [mkK, if_pos ⟨h1, by omega, by omega, rfl⟩]
  congr 3
  rw [← bs_rep]
  clear h1 h2 h3
  induction c with
  | zero => rfl
  | succ c ih => rw [List.replicate_succ, List.replicate_succ, List.flatten_cons, ih]; rfl

def rowK (b size len : Nat) : Option Cells → Option Out
  | some cs => some ⟨.sl (b, 0) 0 len (some len) size, [cs], []⟩
  | none => none
theorem op_mkrow (size : Nat) (zero : Cells) (ps : List (Nat × Nat × LX)) (len : Nat) : opRes E tm H b (.mkrow size zero ps len) = rowK b size len (fill zero (ps.map fun p => (p.1, p.2.1, evX E.gl tm p.2.2))) := by
  simp only [opRes, pureOp, heapOp]
  cases fill zero (ps.map fun p => (p.1, p.2.1, evX E.gl tm p.2.2)) <;> rfl
theorem rowK_some (size len : Nat) (cs : Cells) : rowK b size len (some cs) = some ⟨.sl (b, 0) 0 len (some len) size, [cs], []⟩ := nf rfl

end Go.LE
namespace Go.LE
def cvsV (H : Heap) : LV → Option Out
  | .sl m off len c es => if 0 < len then (match H m with
    | some cs => some ⟨.sl m off len c es, [], [(m, some cs)]⟩
    | none => none) else none
  | _ => none
theorem op_cvs {E : Env} {tm : List LV} {H : Heap} {b : Nat} (x : LX) : opRes E tm H b (.cvs x) = cvsV H (evX E.gl tm x) := by
  simp only [opRes, pureOp, heapOp]
  generalize evX E.gl tm x = y
  cases y <;> rfl
def cvsK (m : Nm) (off len : Nat) (c : Option Nat) (es : Nat) : Option Cells → Option Out
  | some cs => some ⟨.sl m off len c es, [], [(m, some cs)]⟩
  | none => none
theorem cvsV_sl (H : Heap) (m : Nm) (off len : Nat) (c : Option Nat) (es : Nat) (h : 0 < len) : cvsV H (.sl m off len c es) = cvsK m off len c es (H m) := by
  rw [cvsV, if_pos h]; rfl
theorem cvsK_some (m : Nm) (off len : Nat) (c : Option Nat) (es : Nat) (cs : Cells) : cvsK m off len c es (some cs) = some ⟨.sl m off len c es, [], [(m, some cs)]⟩ := nf rfl
end Go.LE
