/- The document's Encrypt and Decrypt, evaluated. -/
/- The document's Decrypt, evaluated. -/
/- boxed, the document's Boxes, evaluated. -/
/- The key schedule in plain Lean; what must come of every program. -/
/- Rows of words and of round keys: made, appended to. -/
import Derived.Test.YtgabgpgcplkebaaLeV
set_option linter.unusedVariables false
set_option linter.unusedSimpArgs false

namespace Aes
open Go Go.LE

end Aes

namespace Aes
open Go Go.LE

end Aes

namespace Aes
open Go Go.LE

theorem boxed_F (k : Nat) (w : R) : F C (k + 1) 29 [.ptr (0, 0) 0, .agg (aB 4 w)] [CF Nil TB] = some (.agg (aB 4 fun j => BX (w j).toNat), [some (CF Nil TB)], []) := by
  rw [qbK f29]
  have hb : [B8 (BX (w 0).toNat), B8 (BX (w 1).toNat), B8 (BX (w 2).toNat), B8 (BX (w 3).toNat)] = aB 4 fun j => BX (w j).toNat := rfl
  simp (disch := first | omega | decide | simp only [qaf, qad, qag, qae, qah, qac, qaa, qab, qai]) only [qba, qbD, qav, qap, qao, qam, qal, qaO, qar, qbo, qaC, qaH, qas, qaK, qaj, qbi, List.set_cons_zero, List.set_cons_succ, List.getD_cons_zero, List.getD_cons_succ, List.map_cons, List.map_nil, List.nil_append, List.cons_append, List.append_nil, qa4, List.replicate_zero, List.length_cons, List.length_nil, B8_nat, Option.map_some, Nat.reduceAdd, Nat.reduceSub, qaq, stepK_new, qa9, cellsOf_B8, qaQ, qbs, op_ld1, op_new, op_box, qb2, op_st, qbt, stK_cons, op_fa, faV_ptr, op_iaA, iaV_lt, fill_nil, fill_cons, fillK_some, aggR_some, op_build, qbw, List.take_succ_cons, List.take_zero, List.drop_succ_cons, List.drop_zero, List.drop_nil, List.all_cons, List.all_nil, Bool.and_true, Prod.mk.injEq, Nat.reduceEqDiff, Nat.reduceLeDiff, Nat.reduceLT, and_true, and_self, if_true, if_false, Nat.zero_add, Nat.add_zero, Nat.le_refl, decide_true, resVal_agg, aggV_some, aB_length, aB_cell, aB_cells, qbn, qae, Nat.mul_one, Nat.add_zero, Nat.zero_add, B8_nat, N_nat, Nat.reduceLT, Nat.reduceLeDiff, Nat.reduceEqDiff, Nat.reduceAdd, decide_true, nm_beq, Bool.not_false, Bool.not_true, op_chk, qb3, Option.map_some, Nat.mul_one, qbG, qa0, List.getElem?_cons_zero, qa7, qbr, ordK_pure, ordK_mod, qbV, touch_ld1, touch_st, qaI, List.contains_cons, List.contains_nil, beq_self_eq_true, Bool.or_true, Bool.or_false, ordOk, qaZ, List.all_cons, List.all_nil, Nat.testBit, Nat.reduceShiftRight, Nat.reduceAnd, Nat.reduceBEq, Bool.not_true, Bool.not_false, Bool.and_self, Bool.and_true, Bool.and_false, Nat.reduceSub, Nat.reduceLT, bne, qbh, qbN, trimO_f, qbA, qb8, isCall_st, Bool.and_false, Bool.and_true, L29, CT_bx, hb]
  rw [outOf_mem 1 _ _ [] (by simp only [qay, FUEL, qaD, qaB, qax, List.flatMap_cons, List.flatMap_nil, List.nil_append, List.append_nil, List.map_nil, List.map_cons, List.contains_nil, Prod.mk.injEq, Bool.false_eq_true, Nat.reduceEqDiff, and_true, if_false, List.filter_cons, List.filter_nil, bne_iff_ne, ne_eq, not_true_eq_false, qaq, qbG, range_one, List.getElem?_cons_zero, qbE, qaR, qbE, qbn])]
  simp (disch := first | omega | decide | simp only [qaf, qad, qag, qae, qah, qac, qaa, qab, qai]) only [List.map_cons, List.map_nil, Option.map_some, qaq, Prod.mk.injEq, Nat.reduceEqDiff, false_and, if_false, ren_nil, List.filterMap_nil, Option.map_some, qbG, range_one, List.getElem?_cons_zero, qaV, ren_nil, qbO]

end Aes

namespace Aes

def wd (ws : List (BitVec 8)) (i j : Nat) : BitVec 8 := ws.getD (4 * i + j) 0#8
/-- the word ahead, as it goes in -/
def tw (n : Nat) (c : BitVec 8) (i : Nat) (ws : List (BitVec 8)) : R :=
  if i % n = 0 then fun j => BX (wd ws (i - 1) ((j + 1) % 4)).toNat ^^^ (if j = 0 then c else 0#8)
  else if n = 8 ∧ i % 8 = 4 then fun j => BX (wd ws (i - 1) j).toNat else fun j => wd ws (i - 1) j
def nwd (n : Nat) (c : BitVec 8) (i : Nat) (ws : List (BitVec 8)) : R := fun j => tw n c i ws j ^^^ wd ws (i - n) j
def ext4 (ws : List (BitVec 8)) (w : R) : List (BitVec 8) := ws ++ [w 0, w 1, w 2, w 3]
def kstep (n i : Nat) (p : List (BitVec 8) × BitVec 8) : List (BitVec 8) × BitVec 8 := (ext4 p.1 (nwd n p.2 i p.1), if i % n = 0 then T2 p.2 else p.2)
def KS (n : Nat) (key : List (BitVec 8)) : Nat → List (BitVec 8) × BitVec 8
  | 0 => (key, 1#8)
  | m + 1 => kstep n (n + m) (KS n key m)
/-- all round keys, one behind the other -/
def W (n : Nat) (key : List (BitVec 8)) : List (BitVec 8) := (KS n key (3 * n + 28)).1

theorem KS_length (n : Nat) (key : List (BitVec 8)) (hk : key.length = 4 * n) : ∀ m, (KS n key m).1.length = 4 * (n + m) := by
  intro m
  induction m with
  | zero => simpa [KS] using hk
  | succ m ih => simp only [KS, kstep, ext4, List.length_append, List.length_cons, List.length_nil, ih]; omega
theorem W_length (n : Nat) (key : List (BitVec 8)) (hk : key.length = 4 * n) : (W n key).length = 16 * (n + 7) := by
  rw [W, KS_length n key hk]; omega
/-! ### what must come of every program -/

def fl (l : List (BitVec 8)) : R := fun j => l.getD j 0#8
end Aes

namespace Aes
open Go Go.LE

theorem mk4 (b l c : Nat) (h1 : l ≤ c) (h2 : c < 1048576) : mkK b 4 4 [B8 0#8, B8 0#8, B8 0#8, B8 0#8] (some l) (some c) = some ⟨.sl (b, 0) 0 l (some c) 4, [bs (List.replicate (4 * c) 0#8)], []⟩ := by
  rw [mkK, if_pos ⟨h1, by omega, by omega, rfl⟩]
  congr 3
  rw [← bs_rep]
  clear h1 h2
  induction c with
  | zero => rfl
  | succ c ih =>
    rw [List.replicate_succ, List.flatten_cons, ih, show 4 * (c + 1) = 4 * c + 1 + 1 + 1 + 1 by omega, List.replicate_succ, List.replicate_succ, List.replicate_succ, List.replicate_succ]
    rfl
theorem aB4_bs (w : R) : aB 4 w = bs [w 0, w 1, w 2, w 3] := rfl
theorem app4_room (b i c z : Nat) (H : Heap) (m : Nm) (ws : List (BitVec 8)) (w : R) (hm : H m = some (bs (ws ++ List.replicate z 0#8))) (hw : ws.length = 4 * i) (hz : 4 ≤ z) (hc : i + 1 ≤ c) (hi : i < 1048576) :
    appX b 4 4 1 H [] (aB 4 w) (.sl m 0 i (some c) 4) = some ⟨.sl m 0 (i + 1) (some c) 4, [], [(m, some (bs (ext4 ws w ++ List.replicate (z - 4) 0#8)))]⟩ := by
  rw [appX, if_pos ⟨rfl, by omega, rfl⟩, if_pos hc, hm]
  simp only [qad, List.length_append, List.length_replicate, hw]
  rw [if_pos (by omega), aB4_bs, bs_splice]
  congr 6
  have e1 : (ws ++ List.replicate z 0#8).take (0 + i * 4) = ws := by
    rw [List.take_append_of_le_length (by omega), List.take_of_length_le (by omega)]
  have e2 : (ws ++ List.replicate z 0#8).drop (0 + i * 4 + [w 0, w 1, w 2, w 3].length) = List.replicate (z - 4) 0#8 := by
    rw [List.drop_append, List.drop_of_length_le (by simp only [List.length_cons, List.length_nil]; omega), List.drop_replicate, List.nil_append]
    congr 1
    simp only [List.length_cons, List.length_nil]; omega
  rw [e1, e2, ext4]
/-- the next sixteen bytes of a row -/
theorem take16 (l : List (BitVec 8)) (i : Nat) (h : 16 * (i + 1) ≤ l.length) : l.take (16 * i) ++ (List.range 16).map (kf l i) = l.take (16 * (i + 1)) := by
  rw [show 16 * (i + 1) = 16 * i + 16 by omega, List.take_add]
  congr 1
  apply List.ext_getElem
  · simp only [List.length_map, List.length_range, List.length_take, List.length_drop]; omega
  · intro j h1 h2
    simp only [List.length_map, List.length_range] at h1
    simp only [List.getElem_map, List.getElem_range, kf, List.getElem_take, List.getElem_drop, List.getD_eq_getElem?_getD]
    rw [List.getElem?_eq_getElem (by omega), Option.getD_some]
    congr 1; omega
end Aes
