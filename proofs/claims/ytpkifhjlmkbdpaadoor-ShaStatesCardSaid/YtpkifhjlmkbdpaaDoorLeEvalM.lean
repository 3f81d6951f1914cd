/- Equations by which operations on memory are carried out on values with variables in them. -/
import Derived.Test.YtpkifhjlmkbdpaaDoorLeArgs
set_option linter.unusedVariables false
set_option linter.unusedSimpArgs false
namespace Go.LE
variable {E : Env}

theorem upd_at (H : Heap) (n : Nm) (x : Option Cells) (m : Nm) : upd H n x m = if m = n then x else H m := nf rfl

theorem stepK_new (b i : Nat) (os : List LOper) (log : List Done) (d : Option Nat) (tm : List LV) (H : Heap) (nx np : Nat) (v : LV) (z : Cells) :
    stepK E b i os log d tm H nx np (some ⟨v, [z], []⟩) = evOpers E b (i + 1) os log ⟨put tm d v, upd H (b + i, 0) (some z), nx, np⟩ := by
  simp only [stepK, applyOut_one]
  rfl
theorem stepK_mod (b i : Nat) (os : List LOper) (log : List Done) (d : Option Nat) (tm : List LV) (H : Heap) (nx np : Nat) (v : LV) (n : Nm) (z : Option Cells) :
    stepK E b i os log d tm H nx np (some ⟨v, [], [(n, z)]⟩) = evOpers E b (i + 1) os log ⟨put tm d v, upd H n z, nx, np⟩ := by
  simp only [stepK, applyOut_none]
  rfl

theorem cellsOf_agg (xs : Cells) : cellsOf (.agg xs) = some xs := nf rfl
theorem cellsOf_B8 (x : BitVec 8) : cellsOf (B8 x) = some [B8 x] := nf rfl
theorem cellsOf_B32 (x : BitVec 32) : cellsOf (B32 x) = some [B32 x] := nf rfl
theorem cellsOf_B64 (x : BitVec 64) : cellsOf (B64 x) = some [B64 x] := nf rfl
theorem cellsOf_I (x : Int) : cellsOf (I x) = some [I x] := nf rfl
theorem cellsOf_Bo (x : Bool) : cellsOf (Bo x) = some [Bo x] := nf rfl
theorem isCell_B8 (x : BitVec 8) : isCell (B8 x) = true := nf rfl
theorem isCell_B32 (x : BitVec 32) : isCell (B32 x) = true := nf rfl
theorem isCell_B64 (x : BitVec 64) : isCell (B64 x) = true := nf rfl
theorem isCell_I (x : Int) : isCell (I x) = true := nf rfl
theorem isCell_Bo (x : Bool) : isCell (Bo x) = true := nf rfl

/-! ### loads and stores -/

def cellK (off n : Nat) : Option Cells → Option Cells
  | some cs => if off + n ≤ cs.length then some ((cs.drop off).take n) else none
  | none => none
theorem cellAt_ptr (H : Heap) (n : Nat) (m : Nm) (off : Nat) : cellAt H n (.ptr m off) = cellK off n (H m) := nf rfl
theorem cellK_some (off n : Nat) (cs : Cells) : cellK off n (some cs) = if off + n ≤ cs.length then some ((cs.drop off).take n) else none := nf rfl

def ld1K : Option Cells → Option Out
  | some [y] => some ⟨y, [], []⟩
  | _ => none
theorem ld1K_some (y : LV) : ld1K (some [y]) = some ⟨y, [], []⟩ := nf rfl
def ldK : Option Cells → Option Out
  | some ys => some ⟨.agg ys, [], []⟩
  | none => none
theorem ldK_some (ys : Cells) : ldK (some ys) = some ⟨.agg ys, [], []⟩ := nf rfl

variable (tm : List LV) (H : Heap) (b : Nat)
theorem op_ld1 (x : LX) : opRes E tm H b (.ld1 x) = ld1K (cellAt H 1 (evX E.gl tm x)) := nf rfl
theorem op_ld (n : Nat) (x : LX) : opRes E tm H b (.ld n x) = ldK (cellAt H n (evX E.gl tm x)) := nf rfl
theorem op_new (z : Cells) : opRes E tm H b (.new z) = some ⟨.ptr (b, 0) 0, [z], []⟩ := nf rfl

def boxK (b : Nat) : Option Cells → Option Out
  | some ys => some ⟨.ptr (b, 0) 0, [ys], []⟩
  | none => none
theorem op_box (x : LX) : opRes E tm H b (.box x) = boxK b (cellsOf (evX E.gl tm x)) := nf rfl
theorem boxK_some (ys : Cells) : boxK b (some ys) = some ⟨.ptr (b, 0) 0, [ys], []⟩ := nf rfl

def stK (n off : Nat) (m : Nm) : Option Cells → Option Cells → Option Out
  | some ys, some cs => if ys.length = n ∧ off + n ≤ cs.length ∧ ys.all isCell = true then some ⟨Un, [], [(m, some (splice cs off ys))]⟩ else none
  | _, _ => none
def stV (H : Heap) (n : Nat) (ys : Option Cells) : LV → Option Out
  | .ptr m off => stK n off m ys (H m)
  | _ => none
theorem op_st (n : Nat) (x y : LX) : opRes E tm H b (.st n x y) = stV H n (cellsOf (evX E.gl tm y)) (evX E.gl tm x) := by
  simp only [opRes, pureOp, heapOp]
  generalize evX E.gl tm x = p
  generalize cellsOf (evX E.gl tm y) = q
  cases p <;> cases q <;> simp only [stV, stK]
  rename_i m off ys
  cases H m <;> rfl
theorem stV_ptr (n : Nat) (ys : Option Cells) (m : Nm) (off : Nat) : stV H n ys (.ptr m off) = stK n off m ys (H m) := nf rfl
theorem stK_some (n off : Nat) (m : Nm) (ys cs : Cells) :
    stK n off m (some ys) (some cs) = if ys.length = n ∧ off + n ≤ cs.length ∧ ys.all isCell = true then some ⟨Un, [], [(m, some (splice cs off ys))]⟩ else none := nf rfl

def faV (k : Nat) : LV → Option LV
  | .ptr n off => some (.ptr n (off + k))
  | .ipt xs => some (.ipt (xs.drop k))
  | _ => none
theorem op_fa (k : Nat) (x : LX) : opRes E tm H b (.fa k x) = outR (faV k (evX E.gl tm x)) := by
  simp only [opRes, pureOp, heapOp, faV]
  generalize evX E.gl tm x = p
  cases p <;> rfl
theorem faV_ptr (k : Nat) (n : Nm) (off : Nat) : faV k (.ptr n off) = some (.ptr n (off + k)) := nf rfl
theorem faV_ipt (k : Nat) (xs : List LV) : faV k (.ipt xs) = some (.ipt (xs.drop k)) := nf rfl

def iaV (n size : Nat) (x : LV) : Option Nat → Option LV
  | some j => if j < n then (match x with
      | .ptr nm off => some (.ptr nm (off + j * size))
      | .ipt xs => some (.ipt (xs.drop (j * size)))
      | _ => none) else none
  | none => none
theorem op_iaA (n size : Nat) (x i : LX) : opRes E tm H b (.iaA n size x i) = outR (iaV n size (evX E.gl tm x) (natOf (evX E.gl tm i))) := by
  simp only [opRes, pureOp, heapOp, iaV]
  generalize natOf (evX E.gl tm i) = j
  generalize evX E.gl tm x = p
  cases j with
  | none => rfl
  | some j =>
    by_cases h : j < n
    · cases p <;> simp [h, outR]
    · simp [h, outR]
theorem iaV_ptr (n size : Nat) (nm : Nm) (off j : Nat) : iaV n size (.ptr nm off) (some j) = if j < n then some (.ptr nm (off + j * size)) else none := nf rfl

def ix1V (len size : Nat) : LV → Option Nat → Option LV
  | .agg xs, some j => if j < len then xs[j * size]? else none
  | _, _ => none
theorem op_ix1 (len size : Nat) (x i : LX) : opRes E tm H b (.ix1 len size x i) = outR (ix1V len size (evX E.gl tm x) (natOf (evX E.gl tm i))) := by
  simp only [opRes, pureOp, heapOp]
  generalize natOf (evX E.gl tm i) = j
  generalize evX E.gl tm x = p
  cases j with
  | none => cases p <;> rfl
  | some j =>
    cases p with
    | agg xs =>
      simp only [ix1V]
      by_cases h : j < len
      · simp only [h, if_true]; cases xs[j * size]? <;> rfl
      · simp only [h, if_false]; rfl
    | _ => rfl
theorem ix1V_agg (len size : Nat) (xs : Cells) (j : Nat) : ix1V len size (.agg xs) (some j) = if j < len then xs[j * size]? else none := nf rfl

def fillK (cells : Cells) (off n : Nat) (rest : List (Nat × Nat × LV)) : Option Cells → Option Cells
  | some ys => if ys.length = n ∧ off + n ≤ cells.length then fill (splice cells off ys) rest else none
  | none => none
theorem fill_nil (cells : Cells) : fill cells [] = some cells := nf rfl
theorem fill_cons (cells : Cells) (off n : Nat) (x : LV) (rest : List (Nat × Nat × LV)) : fill cells ((off, n, x) :: rest) = fillK cells off n rest (cellsOf x) := by
  simp only [fill]
  cases cellsOf x <;> rfl
theorem fillK_some (cells : Cells) (off n : Nat) (rest : List (Nat × Nat × LV)) (ys : Cells) :
    fillK cells off n rest (some ys) = if ys.length = n ∧ off + n ≤ cells.length then fill (splice cells off ys) rest else none := nf rfl
def aggR : Option Cells → Option Out
  | some xs => some ⟨.agg xs, [], []⟩
  | none => none
theorem aggR_some (xs : Cells) : aggR (some xs) = some ⟨.agg xs, [], []⟩ := nf rfl
theorem op_build (z : Cells) (ps : List (Nat × Nat × LX)) : opRes E tm H b (.build z ps) = aggR (fill z (ps.map fun p => (p.1, p.2.1, evX E.gl tm p.2.2))) := by
  simp only [opRes, pureOp, heapOp]
  cases fill z (ps.map fun p => (p.1, p.2.1, evX E.gl tm p.2.2)) <;> rfl

def aggV : Option Cells → Option LV
  | some ys => some (.agg ys)
  | none => none
theorem aggV_some (ys : Cells) : aggV (some ys) = some (.agg ys) := nf rfl
def oneV : Option Cells → Option LV
  | some [y] => some y
  | _ => none
theorem oneV_some (y : LV) : oneV (some [y]) = some y := nf rfl
def resL : List (Option LV) → Option LV
  | [some x] => some x
  | [some x, some y] => some (.tup [x, y])
  | [some x, some y, some z] => some (.tup [x, y, z])
  | _ => none
theorem resVal_agg (t n nx np : Nat) : resVal ⟨tm, H, nx, np⟩ [.agg t n] = aggV (cellAt H n (tm.getD t .undef)) := by
  simp only [resVal, List.map_cons, List.map_nil, resOf]
  cases cellAt H n (tm.getD t .undef) <;> rfl
theorem resVal_one (t nx np : Nat) : resVal ⟨tm, H, nx, np⟩ [.one t] = oneV (cellAt H 1 (tm.getD t .undef)) := by
  simp only [resVal, List.map_cons, List.map_nil, resOf]
  generalize cellAt H 1 (tm.getD t .undef) = x
  match x with
  | none => rfl
  | some [] => rfl
  | some [y] => rfl
  | some (_ :: _ :: _) => rfl
theorem resVal_tt (t u nx np : Nat) : resVal ⟨tm, H, nx, np⟩ [.tmp t, .tmp u] = some (.tup [tm.getD t .undef, tm.getD u .undef]) := nf rfl

/-! ### halves -/

def Hf (lo hi : BitVec 64) : LV := .agg [B64 lo, B64 hi]
theorem ix1V_Hf (len size : Nat) (x y : BitVec 64) (j : Nat) : ix1V len size (Hf x y) (some j) = if j < len then [B64 x, B64 y][j * size]? else none := nf rfl
theorem agg_Hf (lo hi : BitVec 64) : LV.agg [B64 lo, B64 hi] = Hf lo hi := nf rfl
theorem cellsOf_Hf (lo hi : BitVec 64) : cellsOf (Hf lo hi) = some [B64 lo, B64 hi] := nf rfl
theorem nms_Hf (lo hi : BitVec 64) : nms D (Hf lo hi) = [] := nf rfl
theorem ren_Hf (π : Nm → Option Nm) (lo hi : BitVec 64) : ren D π (Hf lo hi) = Hf lo hi := nf rfl
theorem calK_Hf (b : Nat) (lo hi : BitVec 64) : calK b (some (Hf lo hi, [], [])) = some ⟨Hf lo hi, [], []⟩ := calK_plain b fun _ => rfl
theorem outOf_Hf (st : St) (lo hi : BitVec 64) : outOf 0 st (Hf lo hi) = (Hf lo hi, [], []) := outOf_plain rfl fun _ => rfl
theorem Hf_eql (a b c d : BitVec 64) : binV .eql (.flat [(2, .int)]) (Hf a b) (Hf c d) = some (Bo (a == c && b == d)) := by
  have h1 : ((a.toNat : Int) == (c.toNat : Int)) = (a == c) := by rw [Bool.eq_iff_iff]; simp [BitVec.toNat_inj, Int.ofNat_inj]
  have h2 : ((b.toNat : Int) == (d.toNat : Int)) = (b == d) := by rw [Bool.eq_iff_iff]; simp [BitVec.toNat_inj, Int.ofNat_inj]
  rw [show (a == c && b == d) = ((a == c && (b == d && true)) && true) by simp, ← h1, ← h2]
  rfl

/-! ### names made new, where memory is reached -/

def reachK (H : Heap) (f : Nat) (seen : List Nm) (n : Nm) (todo : List Nm) : Option Cells → List Nm
  | none => reach H f seen todo
  | some cs => reach H f (seen ++ [n]) (cs.flatMap (nms D) ++ todo)
theorem reach_cons (f : Nat) (seen : List Nm) (n : Nm) (todo : List Nm) : reach H (f + 1) seen (n :: todo) = if seen.contains n = true then reach H f seen todo else reachK H f seen n todo (H n) := by
  simp only [reach]
  by_cases h : seen.contains n = true
  · rw [if_pos h, if_pos h]
  · rw [if_neg h, if_neg h]
    cases H n <;> rfl
theorem reachK_some (f : Nat) (seen : List Nm) (n : Nm) (todo : List Nm) (cs : Cells) : reachK H f seen n todo (some cs) = reach H f (seen ++ [n]) (cs.flatMap (nms D) ++ todo) := nf rfl
theorem reach_nil (f : Nat) (seen : List Nm) : reach H (f + 1) seen [] = seen := nf rfl

/-- memory under new names -/
def cN (names : List Nm) (H : Heap) : Heap := fun n =>
  if n.1 = 0 then (H n).map (fun cs => cs.map (ren D (canonMap names)))
  else if n.1 = 1 then (match names[n.2]? with | some m => (H m).map (fun cs => cs.map (ren D (canonMap names))) | none => none) else none

theorem canon_mem {keep : List Bool} {tm tm' tm'' : List LV} {H : Heap} {nx np : Nat} {names : List Nm} (h0 : mask keep tm = tm') (hn : canonNames H np tm' = names) (h2 : tm'.map (ren D (canonMap names)) = tm'') :
    canon keep ⟨tm, H, nx, np⟩ = ⟨tm'', cN names H, 2, np⟩ := by
  simp only [canon, h0, hn, h2]
  rfl

theorem cN_one (names : List Nm) (H : Heap) (i : Nat) (m : Nm) (cs : Cells) (h : names[i]? = some m) (hm : H m = some cs) : cN names H (1, i) = some (cs.map (ren D (canonMap names))) := by
  simp [cN, h, hm]

theorem cN_same {names : List Nm} {H : Heap} {i : Nat} {cs : Cells} (m : Nm) (h : names[i]? = some m) (hm : H m = some cs) (hr : cs.map (ren D (canonMap names)) = cs) : cN names H (1, i) = some cs := by
  rw [cN_one names H i m cs h hm, hr]

theorem canon_goal {keep : List Bool} {tm tm' tm'' : List LV} {H : Heap} {nx np : Nat} {X : Heap → St} {Q : Heap → Prop} (names : List Nm) (h0 : mask keep tm = tm') (hx : ∀ H1, X H1 = ⟨tm'', H1, 2, np⟩)
    (hn : canonNames H np tm' = names) (h2 : tm'.map (ren D (canonMap names)) = tm'') (hq : Q (cN names H)) : ∃ H1, canon keep ⟨tm, H, nx, np⟩ = X H1 ∧ Q H1 :=
  ⟨cN names H, (canon_mem h0 hn h2).trans (hx _).symm, hq⟩

theorem nms_ptr (n : Nm) (off : Nat) : nms D (.ptr n off) = [n] := nf rfl
theorem nms_sl (n : Nm) (a b : Nat) (c : Option Nat) (d : Nat) : nms D (.sl n a b c d) = [n] := nf rfl

end Go.LE
