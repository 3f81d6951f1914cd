/- Doubling a tweak, evaluated. -/
/- A tweak's bits, there and back, evaluated. -/
/- A tweak of bits, evaluated. -/
/- The document's bytes of a tweak, and back, evaluated. -/
/- The program's bytes of a tweak, and back, evaluated. -/
/- The document's double of a tweak, evaluated. -/
/- xts: a block's way under a tweak, evaluated. -/
/- xts: New, and the document's, evaluated. -/
/- xts: Clone, a unit's first tweak, evaluated; calls of with. -/
/- xts: what a unit becomes, in plain Lean. -/
/- xts: there and back, places, fronts: plain Lean. -/
import Derived.Test.YtgabgpgcplkebaaLeQ
set_option linter.unusedVariables false
set_option linter.unusedSimpArgs false

namespace Xf
open Go Go.LE Aes

theorem double_F (k : Nat) (lo hi : BitVec 64) : F C (k + 1) 53 [Hf lo hi] [] = some (Hf (lo <<< 1 ^^^ (hi >>> 63) * 135#64) (hi <<< 1 ||| lo >>> 63), [], []) := by
  rw [qbK f53]
  simp (disch := first | omega | decide | simp only [qaf, qad, qag, qae, qah, qac, qaa, qab, qai]) only [qba, qbD, qav, qap, qao, qam, qal, qaO, qar, qbo, qaC, qaH, qas, qaK, qaJ, qaj, qbi, List.set_cons_zero, List.set_cons_succ, List.getD_cons_zero, List.getD_cons_succ, List.map_cons, List.map_nil, List.nil_append, List.cons_append, List.append_nil, qa4, List.replicate_zero, List.length_cons, List.length_nil, B64_mul, B64_or, B64_xor, B64_shl64, B64_shr64, Option.map_some, BitVec.toNat_ofNat, Nat.reduceAdd, Nat.reduceSub, Option.map_some, qa0, qaq, stepK_new, stepK_mod, cellsOf_B64, isCell_B64, qaQ, qbM, qbs, op_ld1, op_new, op_box, qb2, op_st, qbt, stK_cons, op_fa, faV_ptr, fill_nil, fill_cons, fillK_some, aggR_some, op_build, agg_Hf, cellsOf_Hf, outOf_Hf, qbw, List.take_succ_cons, List.take_zero, List.drop_succ_cons, List.drop_zero, List.drop_nil, List.take_nil, List.all_cons, List.all_nil, Bool.and_true, Prod.mk.injEq, Nat.reduceEqDiff, Nat.reduceLeDiff, and_true, and_self, if_true, if_false, Nat.zero_add, Nat.add_zero, Nat.le_refl, resVal_agg, aggV_some, Nat.reducePow, Nat.reduceMod, L53]
def lo (x : BitVec 128) : BitVec 64 := x.setWidth 64
def hi (x : BitVec 128) : BitVec 64 := (x >>> 64).setWidth 64
def hc (x : BitVec 128) : qat := [B64 (lo x), B64 (hi x)]

theorem lo_bit (x : BitVec 128) (i : Nat) : (lo x).getLsbD i = (decide (i < 64) && x.getLsbD i) := by simp [lo, BitVec.getLsbD_setWidth]
theorem hi_bit (x : BitVec 128) (i : Nat) : (hi x).getLsbD i = (decide (i < 64) && x.getLsbD (64 + i)) := by simp [hi, BitVec.getLsbD_setWidth, BitVec.getLsbD_ushiftRight]

theorem lo_xor (x y : BitVec 128) : lo x ^^^ lo y = lo (x ^^^ y) := by simp [lo]
theorem dbl_lo (x : BitVec 128) : lo x <<< 1 ^^^ (hi x >>> 63) * 135#64 = lo (GF.dbl 135#128 x) := by
  have ht : hi x >>> 63 = if x.getLsbD 127 = true then 1#64 else 0#64 := by
    have bit : ∀ i, (hi x >>> 63).getLsbD i = (decide (i = 0) && x.getLsbD 127) := by
      intro i
      rw [BitVec.getLsbD_ushiftRight, hi_bit]
      by_cases h0 : i = 0
      · subst h0; rfl
      · have h1 : ¬ 63 + i < 64 := by omega
        rw [decide_eq_false h0, decide_eq_false h1, Bool.false_and, Bool.false_and]
    apply BitVec.eq_of_getLsbD_eq; intro i h
    rw [bit]
    by_cases hx : x.getLsbD 127 = true
    · rw [if_pos hx, hx, BitVec.getLsbD_one]; simp
    · have hx' : x.getLsbD 127 = false := by simpa using hx
      rw [if_neg hx, hx']; simp
  unfold GF.dbl
  rw [ht, ← lo_xor]
  congr 1
  · apply BitVec.eq_of_getLsbD_eq; intro i h
    simp only [BitVec.getLsbD_shiftLeft, lo_bit, h, decide_true, Bool.true_and]
    have h1 : i < 128 := by omega
    have h2 : i - 1 < 64 := by omega
    simp [h1, h2]
  · by_cases hx : x.getLsbD 127 = true
    · rw [if_pos hx, if_pos hx]; rfl
    · rw [if_neg hx, if_neg hx]; rfl

theorem dbl_hi (x : BitVec 128) : hi x <<< 1 ||| lo x >>> 63 = hi (GF.dbl 135#128 x) := by
  have h135 : ∀ i, (135#128).getLsbD (64 + i) = false := by
    intro i
    have : (135#128).toNat < 2 ^ (64 + i) := Nat.lt_of_lt_of_le (by decide : (135#128).toNat < 2 ^ 64) (Nat.pow_le_pow_right (by decide) (by omega))
    rw [BitVec.getLsbD]
    exact Nat.testBit_lt_two_pow this
  apply BitVec.eq_of_getLsbD_eq; intro i h
  unfold GF.dbl
  simp only [BitVec.getLsbD_or, BitVec.getLsbD_shiftLeft, BitVec.getLsbD_ushiftRight, hi_bit, lo_bit, BitVec.getLsbD_xor, h, decide_true, Bool.true_and]
  have h0 : ((if x.getLsbD (128 - 1) = true then 135#128 else 0#128) : BitVec 128).getLsbD (64 + i) = false := by
    split
    · exact h135 i
    · simp
  rw [h0, Bool.xor_false]
  have h3 : 64 + i < 128 := by omega
  by_cases hi0 : i = 0
  · subst hi0; simp
  · have h1 : ¬ 63 + i < 64 := by omega
    have h2 : i - 1 < 64 := by omega
    have h4 : 64 + (i - 1) = 64 + i - 1 := by omega
    have h5 : ¬ i < 1 := by omega
    have h6 : ¬ 64 + i < 1 := by omega
    simp [h1, h2, h3, h4, h5, h6]

theorem dbl_F (k : Nat) (x : BitVec 128) : F C (k + 1) 53 [Hf (lo x) (hi x)] [] = some (Hf (lo (GF.dbl 135#128 x)) (hi (GF.dbl 135#128 x)), [], []) := by
  rw [double_F, dbl_lo, dbl_hi]

end Xf

namespace Xf
open Go Go.LE Aes

end Xf

namespace Xf
open Go Go.LE Aes

def fbv (b : Nat → Bool) : Nat → BitVec 64
  | 0 => 0#64
  | i + 1 => if b i = true then fbv b i ||| 1#64 <<< i else fbv b i

theorem fbv_bit (b : Nat → Bool) : ∀ n j, (fbv b n).getLsbD j = (decide (j < n) && decide (j < 64) && b j) := by
  intro n
  induction n with
  | zero => intro j; simp [fbv]
  | succ n ih =>
    intro j
    simp only [fbv]
    split
    · rename_i h
      rw [BitVec.getLsbD_or, ih, BitVec.getLsbD_shiftLeft]
      by_cases hj : j = n
      · subst hj; simp [h]
      · by_cases hj2 : j < n
        · simp [hj2, show j < n + 1 by omega]
        · have h3 : ¬ j < n + 1 := by omega
          have h4 : ¬ j - n = 0 := by omega
          simp [hj2, h3, h4]
    · rename_i h
      rw [ih]
      by_cases hj : j = n
      · subst hj; simp [h]
      · have : (j < n + 1) ↔ (j < n) := by omega
        simp only [this]

def ofBits (b : Nat → Bool) : BitVec 128 := fbv (fun j => b (64 + j)) 64 ++ fbv b 64
theorem ofBits_bit (b : Nat → Bool) (j : Nat) : (ofBits b).getLsbD j = (decide (j < 128) && b j) := by
  rw [ofBits, BitVec.getLsbD_append]
  by_cases h : j < 64
  · rw [if_pos h, fbv_bit]
    have : j < 128 := by omega
    simp [h, this]
  · rw [if_neg h, fbv_bit]
    by_cases h2 : j < 128
    · have h3 : j - 64 < 64 := by omega
      have h4 : 64 + (j - 64) = j := by omega
      simp [h2, h3, h4]
    · have h3 : ¬ j - 64 < 64 := by omega
      simp [h2, h3]
theorem lo_app (x y : BitVec 64) : lo (y ++ x) = x := by
  apply BitVec.eq_of_getLsbD_eq; intro i hi
  rw [lo_bit, BitVec.getLsbD_append]
  simp [hi]
theorem hi_app (x y : BitVec 64) : hi (y ++ x) = y := by
  apply BitVec.eq_of_getLsbD_eq; intro i hi
  rw [hi_bit, BitVec.getLsbD_append]
  have h1 : ¬ 64 + i < 64 := by omega
  simp [hi, h1]

end Xf

namespace Xf
open Go Go.LE Aes

def byteBit (c : Nat → BitVec 8) (j : Nat) : Bool := (c (j / 8)).getLsbD (j % 8)
/-! ### bytes of a tweak -/

def byteOf (a : BitVec 128) (j : Nat) : BitVec 8 := (a >>> (8 * j)).setWidth 8
theorem byteOf_bit (a : BitVec 128) (j n : Nat) : (byteOf a j).getLsbD n = (decide (n < 8) && a.getLsbD (8 * j + n)) := by
  simp [byteOf, BitVec.getLsbD_setWidth, BitVec.getLsbD_ushiftRight]
end Xf

namespace Xf
open Go Go.LE Aes

theorem byte_lo (a : BitVec 128) (i : Nat) (h : i < 8) : (lo a >>> (8 * i)).setWidth 8 = byteOf a i := by
  apply BitVec.eq_of_getLsbD_eq
  intro n hn
  rw [byteOf_bit, BitVec.getLsbD_setWidth, BitVec.getLsbD_ushiftRight, lo_bit]
  have : 8 * i + n < 64 := by omega
  simp [this]
theorem byte_hi (a : BitVec 128) (i : Nat) (h : i < 8) : (hi a >>> (8 * i)).setWidth 8 = byteOf a (8 + i) := by
  apply BitVec.eq_of_getLsbD_eq
  intro n hn
  rw [byteOf_bit, BitVec.getLsbD_setWidth, BitVec.getLsbD_ushiftRight, hi_bit]
  have : 8 * i + n < 64 := by omega
  have e : 64 + (8 * i + n) = 8 * (8 + i) + n := by omega
  simp [this, e]

def byP (a : BitVec 128) (i j : Nat) : BitVec 8 := if j < i ∨ (8 ≤ j ∧ j < 8 + i) then byteOf a j else 0#8
theorem byP_succ (a : BitVec 128) (i : Nat) (h : i < 8) : byP a (i + 1) = set1 (set1 (byP a i) i (byteOf a i)) (8 + i) (byteOf a (8 + i)) := by
  funext j
  simp only [set1, byP]
  by_cases h1 : j = 8 + i
  · subst h1
    rw [if_pos (by omega), if_pos rfl]
  · rw [if_neg h1]
    by_cases h2 : j = i
    · subst h2
      rw [if_pos (by omega), if_pos rfl]
    · rw [if_neg h2]
      have : (j < i + 1 ∨ 8 ≤ j ∧ j < 8 + (i + 1)) ↔ (j < i ∨ 8 ≤ j ∧ j < 8 + i) := by omega
      simp only [this]

def byI (a : BitVec 128) (i : Nat) (st : St) : Prop := ∃ (H : Heap), st = ⟨[.undef, .ptr (1, 0) 0, .ptr (1, 1) 0, .ptr (1, 2) 0, .undef, N i, .undef, .undef, .undef, .undef, .undef, .undef, .undef, .undef, .undef, .undef, .undef, .undef, .undef, .undef, .undef, .undef, .undef, .undef, .undef, .undef, .undef], H, 2, 0⟩ ∧
  H (1, 0) = some [B64 (lo a), B64 (hi a)] ∧ H (1, 1) = some (aB 16 fun _ => 0#8) ∧ H (1, 2) = some (aB 16 (byP a i))

theorem by_round (k K : Nat) (a : BitVec 128) (i : Nat) (hi' : i < 8) (st : St) (hI : byI a i st) :
    ∃ st1, ev (envC C k) K L60b0 st = some (.normal, st1) ∧ byI a (i + 1) (canon L60k0 st1) := by
  obtain ⟨H, rfl, h0, h1, h2⟩ := hI
  apply Exists.intro
  apply And.intro
  · simp (disch := first | omega | decide | simp only [qaf, qad, qag, qae, qah, qac, qaa, qab, qai]) only [qbv, qav, qbg, qap, qao, qam, qal, qaO, qar, qbo, qaC, qaH, qas, qaK, qaJ, op_cvt, qaj, qbc, qaL, qbq, nms_B8, List.set_cons_zero, List.set_cons_succ, List.getD_cons_zero, List.getD_cons_succ, List.append_nil, List.length_cons, List.length_nil, cvt_64_8, Nat.reduceAdd, Nat.reduceSub, Nat.mul_one, qaq, cellsOf_B8, qaQ, qbM, qbs, op_ld1, op_st, qbt, op_fa, faV_ptr, op_iaA, iaV_lt, List.take_succ_cons, List.take_zero, List.drop_succ_cons, List.drop_zero, List.take_nil, List.all_cons, List.all_nil, Bool.and_true, Nat.reduceLeDiff, Nat.reduceLT, if_true, Nat.zero_add, Nat.add_zero, Nat.le_refl, decide_true, aB_st, Nat.mul_one, Nat.add_zero, Nat.zero_add, N_add, N_mul, qbp, N_nat, B64_shrN, Nat.reduceLT, Nat.reduceLeDiff, Nat.reduceAdd, decide_true, nm_beq, Bool.not_false, Bool.not_true, qa7, qbr, ordK_pure, ordK_mod, qbV, touch_ld1, touch_st, qaI, List.contains_cons, List.contains_nil, beq_self_eq_true, Bool.or_true, Bool.or_false, ordOk, qaZ, List.all_cons, List.all_nil, Nat.testBit, Nat.reduceShiftRight, Nat.reduceAnd, Nat.reduceBEq, Bool.not_true, Bool.not_false, Bool.and_self, Bool.and_true, Bool.and_false, Nat.reduceSub, Nat.reduceLT, bne, qbh, qbN, trimO_f, qbA, qb8, isCall_st, Bool.and_false, Bool.and_true, L60b0, hi', h0, h2, byte_lo, byte_hi]
    rfl
  · refine qbm [(1, 0), (1, 1), (1, 2)] rfl (by simp only [qay, FUEL, qaD, qaB, qax, qaI, nms_B64, qa6, List.flatMap_cons, List.flatMap_nil, List.nil_append, List.cons_append, List.append_nil, List.range_zero, List.map_nil, List.contains_nil, List.contains_cons, Prod.mk.injEq, beq_iff_eq, Bool.or_eq_true, Bool.false_eq_true, Nat.reduceEqDiff, and_false, or_false, if_true, if_false, Nat.one_ne_zero, List.filter_cons, List.filter_nil, bne_iff_ne, ne_eq, not_false_eq_true, qaq, qbb, qa5, qaW, nms_N, L60k0, h0, h1, h2, aB_nms, nms_N]) rfl ⟨_, rfl, ?_, ?_, ?_⟩
    · exact qaP (1, 0) rfl (by simp only [qaq, Prod.mk.injEq, Nat.reduceEqDiff, and_false, if_false, h0]) rfl
    · exact qaP (1, 1) rfl (by simp only [qaq, Prod.mk.injEq, Nat.reduceEqDiff, and_false, if_false, h1]) (qbB _ _ _)
    · rw [byP_succ a i hi']
      exact qaP (1, 2) rfl (by simp only [qaq, if_true]) (qbB _ _ _)

theorem bytes_F (k : Nat) (a : BitVec 128) : F C (k + 10) 60 [Hf (lo a) (hi a)] [] = some (.agg (aB 16 (byteOf a)), [], []) := by
  rw [qbK f60]
  simp (disch := first | omega | decide | simp only [qaf, qad, qag, qae, qah, qac, qaa, qab, qai]) only [qba, qav, qbg, qap, qao, qam, qal, qaO, qar, qaC, qaH, qaK, qaj, List.set_cons_zero, List.set_cons_succ, List.getD_cons_zero, List.nil_append, List.cons_append, qa4, List.replicate_zero, List.length_cons, List.length_nil, ev_loop, Nat.reduceAdd, Nat.reduceSub, stepK_new, op_new, op_box, qb2, cellsOf_Hf, Nat.zero_add, Nat.add_zero, aB_rep, Nat.add_zero, Nat.zero_add, Nat.reduceAdd, L60]
  generalize hL : loopN L60k0 _ _ _ = r
  refine loop_use hL (byI a) 8 (by omega) (fun i st hi hI => by_round _ _ a i hi st hI) ?_ ?_ ?_
  · refine qbm [(2, 0), (3, 0), (4, 0)] rfl (by simp only [qay, FUEL, qaD, qaB, qax, qaI, nms_B64, qa6, List.flatMap_cons, List.flatMap_nil, List.nil_append, List.cons_append, List.append_nil, List.range_zero, List.map_nil, List.contains_nil, List.contains_cons, Prod.mk.injEq, beq_iff_eq, Bool.or_eq_true, Bool.false_eq_true, Nat.reduceEqDiff, and_true, or_false, if_true, if_false, List.filter_cons, List.filter_nil, bne_iff_ne, ne_eq, not_false_eq_true, qaq, qbb, qa5, qaW, qa0, nms_N, L60k0, aB_nms, nms_N]) rfl ⟨_, rfl, ?_, ?_, ?_⟩
    · exact qaP (2, 0) rfl (by simp only [qaq, Prod.mk.injEq, Nat.reduceEqDiff, and_true, if_true, if_false]) rfl
    · exact qaP (3, 0) rfl (by simp only [qaq, Prod.mk.injEq, Nat.reduceEqDiff, and_true, if_true, if_false]) (qbB _ _ _)
    · rw [show byP a 0 = fun _ => 0#8 by funext j; simp [byP]; omega]
      exact qaP (4, 0) rfl (by simp only [qaq, Prod.mk.injEq, Nat.reduceEqDiff, and_true, if_true, if_false]) (qbB _ _ _)
  · rintro st ⟨H, rfl, h0, h1, h2⟩
    apply qb7
    simp (disch := first | omega | decide | simp only [qaf, qad, qag, qae, qah, qac, qaa, qab, qai]) only [qbx, qav, qap, qao, qam, qal, qaO, qar, qaC, qaH, qas, qaJ, qaj, qaU, qaL, qaF, List.set_cons_zero, List.set_cons_succ, List.getD_cons_zero, List.getD_cons_succ, List.length_cons, List.length_nil, Nat.reduceAdd, Nat.zero_add, Nat.add_zero, decide_false, qbp, Nat.reduceAdd, Nat.lt_irrefl, decide_false, L60b0]
    rfl
  · rintro st ⟨H, rfl, h0, h1, h2⟩ rfl
    have e : aB 16 (byP a 8) = aB 16 (byteOf a) := aB_ext 16 fun j hj => by
      simp only [byP]
      rw [if_pos (by omega)]
    rw [e] at h2
    simp (disch := first | omega | decide | simp only [qaf, qad, qag, qae, qah, qac, qaa, qab, qai]) only [qbD, qbx, qav, qap, qao, qam, qal, qaO, qar, qbo, qaC, qaH, qas, qaJ, qaj, qaU, qbL, qaL, qaF, qbi, List.set_cons_zero, List.set_cons_succ, List.getD_cons_zero, List.getD_cons_succ, List.length_cons, List.length_nil, Option.map_some, Nat.reduceAdd, Option.map_some, qaq, stepK_mod, qa9, qaQ, qbU, op_ld, op_st, qbt, if_true, Nat.zero_add, Nat.add_zero, decide_false, resVal_agg, aggV_some, aB_cells, aB_st_all, aB_outOf, Nat.add_zero, Nat.zero_add, qbp, Nat.reduceAdd, Nat.lt_irrefl, decide_false, L60b0, h1, h2]

/-! ### back -/

def ofv (c : Nat → BitVec 8) : Nat → BitVec 64
  | 0 => 0#64
  | i + 1 => ofv c i ||| (c i).setWidth 64 <<< (8 * i)

theorem ofv_bit (c : Nat → BitVec 8) : ∀ n j, (ofv c n).getLsbD j = (decide (j < 8 * n) && decide (j < 64) && byteBit c j) := by
  intro n
  induction n with
  | zero => intro j; simp [ofv]
  | succ n ih =>
    intro j
    rw [ofv, BitVec.getLsbD_or, ih, BitVec.getLsbD_shiftLeft, BitVec.getLsbD_setWidth]
    by_cases h64 : j < 64
    · by_cases h1 : j < 8 * n
      · have h2 : j < 8 * (n + 1) := by omega
        simp [h1, h2, h64]
      · by_cases h2 : j < 8 * (n + 1)
        · have h3 : j / 8 = n := by omega
          have h4 : j % 8 = j - 8 * n := by omega
          have h5 : j - 8 * n < 64 := by omega
          simp [h1, h2, h64, byteBit, h3, h4, h5]
        · have h3 : (c n).getLsbD (j - 8 * n) = false := BitVec.getLsbD_of_ge _ _ (by omega)
          simp [h1, h2, h3]
    · simp [h64]

theorem of_app (c : Nat → BitVec 8) : ofv (fun j => c (8 + j)) 8 ++ ofv c 8 = ofBits (byteBit c) := by
  apply BitVec.eq_of_getLsbD_eq
  intro j hj
  rw [ofBits_bit, BitVec.getLsbD_append]
  by_cases h : j < 64
  · rw [if_pos h, ofv_bit]
    have h2 : j < 8 * 8 := by omega
    simp [h, hj]
  · rw [if_neg h, ofv_bit]
    have h3 : j - 64 < 64 := by omega
    have h4 : (j - 64) / 8 = j / 8 - 8 := by omega
    have h5 : (j - 64) % 8 = j % 8 := by omega
    have h6 : 8 + (j / 8 - 8) = j / 8 := by omega
    simp [h3, hj, byteBit, h4, h5, h6]

def ofI (c : Nat → BitVec 8) (i : Nat) (st : St) : Prop := ∃ (H : Heap), st = ⟨[.undef, .ptr (1, 0) 0, .ptr (1, 1) 0, .ptr (1, 2) 0, .undef, .undef, N i, .undef, .undef, .undef, .undef, .undef, .undef, .undef, .undef, .undef, .undef, .undef, .undef, .undef, .undef, .undef, .undef, .undef, .undef, .undef, .undef, .undef, .undef, .undef, .undef, .undef, .undef, .undef], H, 2, 0⟩ ∧
  H (1, 0) = some (aB 16 c) ∧ H (1, 1) = some [B64 0#64, B64 0#64] ∧ H (1, 2) = some [B64 (ofv c i), B64 (ofv (fun j => c (8 + j)) i)]

theorem of_round (k K : Nat) (c : Nat → BitVec 8) (i : Nat) (hi' : i < 8) (st : St) (hI : ofI c i st) :
    ∃ st1, ev (envC C k) K L59b0 st = some (.normal, st1) ∧ ofI c (i + 1) (canon L59k0 st1) := by
  obtain ⟨H, rfl, h0, h1, h2⟩ := hI
  apply Exists.intro
  apply And.intro
  · simp (disch := first | omega | decide | simp only [qaf, qad, qag, qae, qah, qac, qaa, qab, qai]) only [qbv, qav, qbg, qap, qao, qam, qal, qaO, qar, qbo, qaC, qaH, qas, qaK, qaJ, op_cvt, qaj, qbc, qaL, qbq, nms_B64, List.set_cons_zero, List.set_cons_succ, List.getD_cons_zero, List.getD_cons_succ, List.nil_append, List.cons_append, List.append_nil, List.length_cons, List.length_nil, cvt_8_64, B64_or, Nat.reduceAdd, Nat.reduceSub, Nat.mul_one, qaq, cellsOf_B64, isCell_B64, qaQ, qbM, qbs, op_ld1, op_st, qbt, stK_cons, op_fa, faV_ptr, op_iaA, iaV_lt, qbw, List.take_succ_cons, List.take_zero, List.drop_succ_cons, List.drop_zero, List.drop_nil, List.take_nil, List.all_cons, List.all_nil, Bool.and_true, Prod.mk.injEq, Nat.reduceEqDiff, Nat.reduceLeDiff, Nat.reduceLT, and_false, and_self, if_true, if_false, Nat.zero_add, Nat.add_zero, Nat.le_refl, decide_true, aB_cell, Nat.mul_one, Nat.add_zero, Nat.zero_add, N_add, N_mul, qbp, N_nat, B64_shlN, Nat.reduceLT, Nat.reduceLeDiff, Nat.reduceEqDiff, Nat.reduceAdd, decide_true, nm_beq, Bool.not_false, Bool.not_true, qa7, qbr, ordK_pure, ordK_mod, qbV, touch_ld1, touch_st, qaI, List.contains_cons, List.contains_nil, beq_self_eq_true, Bool.or_true, Bool.or_false, ordOk, qaZ, List.all_cons, List.all_nil, Nat.testBit, Nat.reduceShiftRight, Nat.reduceAnd, Nat.reduceBEq, Bool.not_true, Bool.not_false, Bool.and_self, Bool.and_true, Bool.and_false, Nat.reduceSub, Nat.reduceLT, bne, qbh, qbN, trimO_f, qbA, qb8, isCall_st, Bool.and_false, Bool.and_true, L59b0, hi', h0, h2]
    rfl
  · refine qbm [(1, 0), (1, 1), (1, 2)] rfl (by simp only [qay, FUEL, qaD, qaB, qax, qaI, nms_B64, qa6, List.flatMap_cons, List.flatMap_nil, List.nil_append, List.cons_append, List.append_nil, List.range_zero, List.map_nil, List.contains_nil, List.contains_cons, Prod.mk.injEq, beq_iff_eq, Bool.or_eq_true, Bool.false_eq_true, Nat.reduceEqDiff, and_false, or_false, if_true, if_false, Nat.one_ne_zero, List.filter_cons, List.filter_nil, bne_iff_ne, ne_eq, not_false_eq_true, qaq, qbb, qa5, qaW, nms_N, L59k0, h0, h1, h2, aB_nms, nms_N]) rfl ⟨_, rfl, ?_, ?_, ?_⟩
    · exact qaP (1, 0) rfl (by simp only [qaq, Prod.mk.injEq, Nat.reduceEqDiff, and_false, if_false, h0]) (qbB _ _ _)
    · exact qaP (1, 1) rfl (by simp only [qaq, Prod.mk.injEq, Nat.reduceEqDiff, and_false, if_false, h1]) rfl
    · exact qaP (1, 2) rfl (by simp only [qaq, if_true, ofv]) rfl

theorem of_F (k : Nat) (c : Nat → BitVec 8) : F C (k + 10) 59 [.agg (aB 16 c)] [] = some (Hf (lo (ofBits (byteBit c))) (hi (ofBits (byteBit c))), [], []) := by
  rw [qbK f59]
  simp (disch := first | omega | decide | simp only [qaf, qad, qag, qae, qah, qac, qaa, qab, qai]) only [qba, qav, qbg, qap, qao, qam, qal, qaO, qar, qbo, qaC, qaH, qaK, qaj, List.set_cons_zero, List.set_cons_succ, List.getD_cons_zero, List.getD_cons_succ, List.map_nil, List.nil_append, List.cons_append, List.append_nil, qa4, List.replicate_zero, List.length_cons, List.length_nil, ev_loop, Nat.reduceAdd, Nat.reduceSub, qa0, qaq, stepK_new, stepK_mod, qa9, isCell_B64, op_new, op_box, qb2, op_st, qbt, stK_cons, fill_nil, aggR_some, op_build, agg_Hf, cellsOf_Hf, qbw, List.take_zero, List.drop_succ_cons, List.drop_nil, List.all_cons, List.all_nil, Bool.and_true, Prod.mk.injEq, Nat.reduceEqDiff, and_true, and_self, if_true, if_false, Nat.zero_add, Nat.add_zero, Nat.le_refl, Nat.add_zero, Nat.zero_add, Nat.reduceEqDiff, Nat.reduceAdd, L59]
  generalize hL : loopN L59k0 _ _ _ = r
  refine loop_use hL (ofI c) 8 (by omega) (fun i st hi hI => of_round _ _ c i hi st hI) ?_ ?_ ?_
  · refine qbm [(2, 0), (3, 0), (5, 0)] rfl (by simp only [qay, FUEL, qaD, qaB, qax, qaI, nms_B64, qa6, List.flatMap_cons, List.flatMap_nil, List.nil_append, List.cons_append, List.append_nil, List.range_zero, List.map_nil, List.contains_nil, List.contains_cons, Prod.mk.injEq, beq_iff_eq, Bool.or_eq_true, Bool.false_eq_true, Nat.reduceEqDiff, and_true, or_false, if_true, if_false, List.filter_cons, List.filter_nil, bne_iff_ne, ne_eq, not_false_eq_true, qaq, qbb, qa5, qaW, qa0, nms_N, L59k0, aB_nms, nms_N]) rfl ⟨_, rfl, ?_, ?_, ?_⟩
    · exact qaP (2, 0) rfl (by simp only [qaq, Prod.mk.injEq, Nat.reduceEqDiff, and_true, if_true, if_false]) (qbB _ _ _)
    · exact qaP (3, 0) rfl (by simp only [qaq, Prod.mk.injEq, Nat.reduceEqDiff, and_true, if_true, if_false]) rfl
    · exact qaP (5, 0) rfl (by simp only [qaq, Prod.mk.injEq, Nat.reduceEqDiff, and_true, if_true, if_false, ofv]) rfl
  · rintro st ⟨H, rfl, h0, h1, h2⟩
    apply qb7
    simp (disch := first | omega | decide | simp only [qaf, qad, qag, qae, qah, qac, qaa, qab, qai]) only [qbx, qav, qap, qao, qam, qal, qaO, qar, qaC, qaH, qas, qaJ, qaj, qaU, qaL, qaF, List.set_cons_zero, List.set_cons_succ, List.getD_cons_zero, List.getD_cons_succ, List.length_cons, List.length_nil, Nat.reduceAdd, Nat.zero_add, Nat.add_zero, decide_false, qbp, Nat.reduceAdd, Nat.lt_irrefl, decide_false, L59b0]
    rfl
  · rintro st ⟨H, rfl, h0, h1, h2⟩ rfl
    rw [← of_app, lo_app, hi_app]
    simp (disch := first | omega | decide | simp only [qaf, qad, qag, qae, qah, qac, qaa, qab, qai]) only [qbD, qbx, qav, qap, qao, qam, qal, qaO, qar, qbo, qaC, qaH, qas, qaJ, qaj, qaU, qbL, qaL, qaF, qbi, List.set_cons_zero, List.set_cons_succ, List.getD_cons_zero, List.getD_cons_succ, List.nil_append, List.append_nil, List.length_cons, List.length_nil, Option.map_some, Nat.reduceAdd, Option.map_some, qaq, stepK_mod, isCell_B64, qaQ, qbM, qbU, op_ld, op_st, qbt, stK_cons, agg_Hf, cellsOf_Hf, outOf_Hf, qbw, List.take_succ_cons, List.take_zero, List.drop_succ_cons, List.drop_zero, List.drop_nil, List.take_nil, List.all_cons, List.all_nil, Bool.and_true, and_self, if_true, Nat.zero_add, Nat.add_zero, Nat.le_refl, decide_false, resVal_agg, aggV_some, Nat.add_zero, Nat.zero_add, qbp, Nat.reduceAdd, Nat.lt_irrefl, decide_false, L59b0, h1, h2]

end Xf

namespace Xf
open Go Go.LE Aes

/-! ### the double -/

def dP (a : BitVec 128) (i : Nat) : Nat → Bool := fun j => decide (1 ≤ j ∧ j ≤ i) && a.getLsbD (j - 1)
def dJ (a : BitVec 128) (i : Nat) (st : St) : Prop := ∃ (H : Heap),
  st = ⟨[.undef, .undef, .ptr (1, 0) 0, .ptr (1, 1) 0, .ptr (1, 2) 0, N i, .undef, .undef, .undef, .undef, .undef, .undef, .undef, .undef, .undef, .undef, .undef, .undef, .undef, .undef, .undef, .undef, .undef, .undef, .undef, .undef, .undef, .undef, .undef, .undef, .undef, .undef, .undef, .undef, .undef, .undef, .undef, .undef], H, 2, 0⟩ ∧ H (1, 0) = some [B64 0#64, B64 0#64] ∧ H (1, 1) = some (aO 128 fun j => a.getLsbD j) ∧ H (1, 2) = some (aO 128 (dP a i))

end Xf

namespace Aes
open Go Go.LE Xf
set_option maxRecDepth 20000

/-- a block under a tweak -/
def wt (E : R → R) (t : BitVec 128) (x : R) : R := fun j => E (fun i => x i ^^^ byteOf t i) j ^^^ byteOf t j
def xr (x y : R) (i : Nat) : R := fun j => if j < i then x j ^^^ y j else x j
theorem xr_0 (x y : R) : xr x y 0 = x := funext fun j => if_neg (Nat.not_lt_zero j)
theorem xr_succ (x y : R) (i : Nat) : set1 (xr x y i) i (x i ^^^ y i) = xr x y (i + 1) := by
  funext j
  simp only [set1, xr]
  by_cases h : j = i
  · subst h; rw [if_pos rfl, if_pos (Nat.lt_succ_self _)]
  · rw [if_neg h]
    by_cases h' : j < i
    · rw [if_pos h', if_pos (by omega)]
    · rw [if_neg h', if_neg (by omega)]
theorem xr_at (x y : R) (i : Nat) : xr x y i i = x i := if_neg (Nat.lt_irrefl i)
theorem xr_all (x y : R) : aB 16 (xr x y 16) = aB 16 (fun j => x j ^^^ y j) := aB_ext _ fun j hj => if_pos hj
theorem nms_fn1 (g : FuncId) (m : Nm) (o : Nat) : nms D (.fn (.func g) [.ptr m o] []) = [m] := rfl
theorem ren_fn1 (π : Nm → Option Nm) (g : FuncId) (m : Nm) (o : Nat) : ren D π (.fn (.func g) [.ptr m o] []) = .fn (.func g) [ren 7 π (.ptr m o)] [] := rfl
theorem callV_fn1 {E : Env} {H : Heap} {b : Nat} (g : FuncId) (x : LV) (args : List LV) : callV E H b args (.fn (.func g) [x] []) = qbl E H b g (x :: args) := by simp [callV]
def wJ1 (g n : Nat) (l : List (BitVec 8)) (x y : R) (i : Nat) (st : St) : Prop := ∃ (H : Heap), st = ⟨[.fn (.func g) [.ptr (0, 0) 0] [], .undef, .undef, .undef, .undef, .undef, .undef, .ptr (1, 0) 0, .ptr (1, 1) 0, .undef, .undef, .undef, .undef, .undef, .undef, .undef, N i, .undef, .undef, .undef, .undef, .undef, .undef, .undef, .undef, .undef, .undef, .undef, .undef, .undef, .undef, .undef, .undef, .undef, .undef, .undef, .undef, .undef, .undef, .undef, .undef, .undef, .undef, .undef], H, 2, 2⟩ ∧
  H (0, 0) = some (KO n) ∧ H (0, 1) = some (bs l) ∧ H (1, 0) = some (aB 16 y) ∧ H (1, 1) = some (aB 16 (xr x y i))
def wJ0 (n : Nat) (l : List (BitVec 8)) (x y : R) (i : Nat) (st : St) : Prop := ∃ (H : Heap), st = ⟨[.undef, .undef, .undef, .undef, .undef, .undef, .undef, .ptr (1, 0) 0, .ptr (1, 1) 0, .undef, .undef, .undef, .undef, .undef, .undef, .undef, .undef, .undef, .undef, .undef, .undef, .undef, .undef, .undef, .undef, .undef, .undef, .undef, .undef, .undef, .undef, N i, .undef, .undef, .undef, .undef, .undef, .undef, .undef, .undef, .undef, .undef, .undef, .undef], H, 2, 2⟩ ∧
  H (0, 0) = some (KO n) ∧ H (0, 1) = some (bs l) ∧ H (1, 0) = some (aB 16 y) ∧ H (1, 1) = some (aB 16 (xr x y i))
theorem w1_round (k g n : Nat) (l : List (BitVec 8)) (x y : R) (i : Nat) (hi : i < 16) (st : St) (hJ : wJ1 g n l x y i st) :
    ∃ st1, ev (envC C k) k L52b1 st = some (.normal, st1) ∧ wJ1 g n l x y (i + 1) (canon L52k1 st1) := by
  obtain ⟨H, rfl, h0, h1, h2, h3⟩ := hJ
  simp (disch := first | omega | decide | simp only [qaf, qad, qag, qae, qah, qac, qaa, qab, qai]) only [qbv, qav, qbg, qap, qao, qam, qal, qar, qbo, qaC, qaH, qas, qaK, qaJ, qaj, qbc, qaL, qbq, nms_B8, List.set_cons_zero, List.set_cons_succ, List.getD_cons_zero, List.getD_cons_succ, List.map_cons, List.map_nil, List.append_nil, List.length_cons, List.length_nil, B8_xor, Nat.reduceAdd, Nat.reduceSub, cellsOf_B8, qaQ, qbs, op_ld1, op_st, qbt, op_iaA, iaV_lt, List.all_cons, List.all_nil, Bool.and_true, Nat.reduceLT, if_true, Nat.zero_add, Nat.add_zero, decide_true, aB_cell, aB_st, Nat.mul_one, Nat.add_zero, Nat.zero_add, N_add, qbp, N_nat, Nat.reduceLT, Nat.reduceAdd, decide_true, nm_beq, Bool.not_false, Bool.not_true, qaz, qau, qa2, Nat.mul_one, qa7, qbr, qbV, touch_ld1, touch_st, qaI, List.contains_cons, List.contains_nil, beq_self_eq_true, Bool.or_true, Bool.or_false, ordOk, qaZ, List.all_cons, List.all_nil, Nat.testBit, Nat.reduceShiftRight, Nat.reduceAnd, Nat.reduceBEq, Bool.not_true, Bool.not_false, Bool.and_self, Bool.and_true, Bool.and_false, Nat.reduceSub, Nat.reduceLT, bne, qbh, qbN, trimO_f, qbA, qb8, isCall_st, Bool.and_false, Bool.and_true, qaM, qan, qan, qaM, L52b1, h2, h3, hi, xr_at, xr_succ]
  refine ⟨_, rfl, ?_⟩
  refine qbm [(1, 0), (1, 1)] rfl (by simp only [qay, FUEL, qaD, qaB, qax, qaI, qa6, List.flatMap_cons, List.flatMap_nil, List.nil_append, List.cons_append, List.append_nil, List.map_nil, List.map_cons, List.contains_nil, List.contains_cons, Prod.mk.injEq, beq_iff_eq, Bool.or_eq_true, Bool.false_eq_true, and_true, and_false, or_false, or_true, if_true, if_false, Nat.one_ne_zero, Nat.zero_ne_one, List.filter_cons, List.filter_nil, bne_iff_ne, ne_eq, not_false_eq_true, not_true_eq_false, qaq, qbb, qa5, qaW, qbQ, nms_N, L52k1, nms_fn1, aB_nms, KO_nms, qaw, h0, h1, h2, h3]) (by simp only [List.map_nil, List.map_cons, qbb, qa5, qaW, L52k1, List.map_cons, List.map_nil, ren_fn1]; rfl) ⟨_, rfl, ?_, ?_, ?_, ?_⟩
  · rw [qbF]; simp (disch := first | omega | decide | simp only [qaf, qad, qag, qae, qah, qac, qaa, qab, qai]) only [Option.map_some, qaq, Prod.mk.injEq, and_self, if_false, Nat.zero_ne_one, Option.map_some, h0, KO_ren]
  · rw [qbF]; simp (disch := first | omega | decide | simp only [qaf, qad, qag, qae, qah, qac, qaa, qab, qai]) only [Option.map_some, qaq, Prod.mk.injEq, and_true, if_false, Nat.zero_ne_one, Option.map_some, qaE, h1]
  · exact qaP (1, 0) rfl (by simp (disch := first | omega | decide | simp only [qaf, qad, qag, qae, qah, qac, qaa, qab, qai]) only [qaq, Prod.mk.injEq, and_false, if_false, Nat.zero_ne_one, h2]) (qbB _ _ _)
  · exact qaP (1, 1) rfl (by simp (disch := first | omega | decide | simp only [qaf, qad, qag, qae, qah, qac, qaa, qab, qai]) only [qaq, if_true]) (qbB _ _ _)
theorem w0_round (k n : Nat) (l : List (BitVec 8)) (x y : R) (i : Nat) (hi : i < 16) (st : St) (hJ : wJ0 n l x y i st) :
    ∃ st1, ev (envC C k) k L52b0 st = some (.normal, st1) ∧ wJ0 n l x y (i + 1) (canon L52k0 st1) := by
  obtain ⟨H, rfl, h0, h1, h2, h3⟩ := hJ
  simp (disch := first | omega | decide | simp only [qaf, qad, qag, qae, qah, qac, qaa, qab, qai]) only [qbv, qav, qbg, qap, qao, qam, qal, qar, qbo, qaC, qaH, qas, qaK, qaJ, qaj, qbc, qaL, qbq, nms_B8, List.set_cons_zero, List.set_cons_succ, List.getD_cons_zero, List.getD_cons_succ, List.map_cons, List.map_nil, List.append_nil, List.length_cons, List.length_nil, B8_xor, Nat.reduceAdd, Nat.reduceSub, cellsOf_B8, qaQ, qbs, op_ld1, op_st, qbt, op_iaA, iaV_lt, List.all_cons, List.all_nil, Bool.and_true, Nat.reduceLT, if_true, Nat.zero_add, Nat.add_zero, decide_true, aB_cell, aB_st, Nat.mul_one, Nat.add_zero, Nat.zero_add, N_add, qbp, N_nat, Nat.reduceLT, Nat.reduceAdd, decide_true, nm_beq, Bool.not_false, Bool.not_true, qaz, qau, qa2, Nat.mul_one, qa7, qbr, qbV, touch_ld1, touch_st, qaI, List.contains_cons, List.contains_nil, beq_self_eq_true, Bool.or_true, Bool.or_false, ordOk, qaZ, List.all_cons, List.all_nil, Nat.testBit, Nat.reduceShiftRight, Nat.reduceAnd, Nat.reduceBEq, Bool.not_true, Bool.not_false, Bool.and_self, Bool.and_true, Bool.and_false, Nat.reduceSub, Nat.reduceLT, bne, qbh, qbN, trimO_f, qbA, qb8, isCall_st, Bool.and_false, Bool.and_true, qaM, qan, qan, qaM, L52b0, h2, h3, hi, xr_at, xr_succ]
  refine ⟨_, rfl, ?_⟩
  refine qbm [(1, 0), (1, 1)] rfl (by simp only [qay, FUEL, qaD, qaB, qax, qaI, qa6, List.flatMap_cons, List.flatMap_nil, List.nil_append, List.cons_append, List.append_nil, List.map_nil, List.map_cons, List.contains_nil, List.contains_cons, Prod.mk.injEq, beq_iff_eq, Bool.or_eq_true, Bool.false_eq_true, and_true, and_false, or_false, or_true, if_true, if_false, Nat.one_ne_zero, Nat.zero_ne_one, List.filter_cons, List.filter_nil, bne_iff_ne, ne_eq, not_false_eq_true, not_true_eq_false, qaq, qbb, qa5, qaW, qbQ, nms_N, L52k0, aB_nms, KO_nms, qaw, h0, h1, h2, h3]) rfl ⟨_, rfl, ?_, ?_, ?_, ?_⟩
  · rw [qbF]; simp (disch := first | omega | decide | simp only [qaf, qad, qag, qae, qah, qac, qaa, qab, qai]) only [Option.map_some, qaq, Prod.mk.injEq, and_self, if_false, Nat.zero_ne_one, Option.map_some, h0, KO_ren]
  · rw [qbF]; simp (disch := first | omega | decide | simp only [qaf, qad, qag, qae, qah, qac, qaa, qab, qai]) only [Option.map_some, qaq, Prod.mk.injEq, and_true, if_false, Nat.zero_ne_one, Option.map_some, qaE, h1]
  · exact qaP (1, 0) rfl (by simp (disch := first | omega | decide | simp only [qaf, qad, qag, qae, qah, qac, qaa, qab, qai]) only [qaq, Prod.mk.injEq, and_false, if_false, Nat.zero_ne_one, h2]) (qbB _ _ _)
  · exact qaP (1, 1) rfl (by simp (disch := first | omega | decide | simp only [qaf, qad, qag, qae, qah, qac, qaa, qab, qai]) only [qaq, if_true]) (qbB _ _ _)
/-- what a cipher's way is: a block's, on a cipher in memory -/
def Way (g : FuncId) (n : Nat) (l : List (BitVec 8)) (E : R → R) : Prop :=
  ∀ (k b : Nat) (H : Heap) (c m : Nm), KG H c m (n + 2) none l → ∀ s, qbl (envC C (k + 60)) H b g [.ptr c 0, .agg (aB 16 s)] = some ⟨.agg (aB 16 (E s)), [], [(c, some (CF (.sl m 0 (n + 2) none 16) TB)), (m, some (bs l))]⟩
theorem way_enc (n : Nat) (hn : n ≤ 20) (l : List (BitVec 8)) (hl : l.length = 16 * (n + 2)) : Way 17 n l (enc (kf l) n) := fun k b H c m h s => c_enc k n b hn H c m l h hl s
theorem way_dec (n : Nat) (hn : n ≤ 20) (l : List (BitVec 8)) (hl : l.length = 16 * (n + 2)) : Way 19 n l (dec (kf l) n) := fun k b H c m h s => c_dec k n b hn H c m l h hl s
theorem bsb16 (b : List (BitVec 8)) (h : b.length = 16) (H : Heap) : cellAt H 16 (.ipt (bs b)) = some (aB 16 (fl b)) := by
  rw [cellAt, if_pos (by rw [qad]; omega), bs_take, List.take_of_length_le (by omega), bs_aB _ 16 h]; rfl
theorem with_F (k g n : Nat) (l : List (BitVec 8)) (E : R → R) (hE : Way g n l E) (t : BitVec 128) (b : List (BitVec 8)) (hb : b.length = 16) :
    F C (k + 80) 52 [.fn (.func g) [.ptr (0, 0) 0] [], Hf (lo t) (hi t), .isl (bs b) 16] [KO n, bs l] = some (.sl (1, 0) 0 16 (some 16) 1, [some (KO n), some (bs l)], [aB 16 (wt E t (fl b))]) := by
  rw [qbK f52]
  have hby : F C (k + 79) 60 [Hf (lo t) (hi t)] [] = some (.agg (aB 16 (byteOf t)), [], []) := Xf.bytes_F (k + 69) t
  simp (disch := first | omega | decide | simp only [nms_B8, nms_B32, nms_B64, nms_I, nms_N, nms_Bo, nms_Un, qa6, nms_Hf, qaI, qaT, qbn, aW_agg_nms, aD_agg_nms, aO_agg_nms, List.flatMap_cons, List.flatMap_nil, List.nil_append, List.append_nil, ren_B8, ren_B32, qbT, ren_I, ren_N, ren_Bo, ren_Un, ren_undef, ren_Hf, qbO, aW_agg_ren, aD_agg_ren, aO_agg_ren, List.map_cons, List.map_nil, ren7_I, ren7_N, ren7_Bo, ren7_B8, ren7_B32, ren7_B64, nms7_I, nms7_N, nms7_Bo, nms7_B8, nms7_B32, nms7_B64, nms_tup, ren_tup, implies_true, l60, qaf, qaw, qaE, ibs_nms, qbI, qad, qag, qae, qah, qac, qaa, qab, qai]) only [qba, qav, qbg, qap, qao, qam, qal, qar, qbo, qaC, qaH, qas, qaK, qa3, qaY, qaj, List.set_cons_zero, List.set_cons_succ, List.getD_cons_zero, List.getD_cons_succ, List.map_cons, List.map_nil, List.nil_append, List.cons_append, qa4, List.replicate_zero, List.length_cons, List.length_nil, callOp_C, ev_loop, Nat.reduceAdd, Nat.reduceSub, qaq, qa9, qaQ, qbM, qbU, op_ld, op_new, op_box, qb2, op_st, qbt, agg_Hf, cellsOf_Hf, List.take_succ_cons, List.drop_zero, List.take_nil, Prod.mk.injEq, Nat.reduceEqDiff, and_true, if_true, if_false, Nat.zero_add, Nat.add_zero, Nat.le_refl, aB_rep, aB_st_all, aB_calK, Nat.add_zero, Nat.zero_add, Nat.reduceEqDiff, Nat.reduceAdd, op_arrp, arrpV_isl, qaz, qaS, qau, qa2, qa0, Nat.reduceSub, qan, qan, L52, hby, bsb16 b hb]
  generalize hL : loopN L52k1 _ _ _ = r
  refine loop_use hL (wJ1 g n l (fl b) (byteOf t)) 16 (by omega) (fun i st hi hJ => w1_round _ g n l _ _ i hi st hJ) ?_ ?_ ?_
  · refine qbm [(6, 0), (11, 0)] rfl (by simp only [qay, FUEL, qaD, qaB, qax, qaI, qa6, List.flatMap_cons, List.flatMap_nil, List.nil_append, List.cons_append, List.append_nil, List.map_nil, List.map_cons, List.contains_nil, List.contains_cons, Prod.mk.injEq, beq_iff_eq, Bool.or_eq_true, Bool.false_eq_true, Nat.reduceEqDiff, and_true, and_false, or_false, or_true, if_true, if_false, Nat.one_ne_zero, Nat.zero_ne_one, List.filter_cons, List.filter_nil, bne_iff_ne, ne_eq, not_false_eq_true, not_true_eq_false, qaq, qbb, qa5, qaW, qbG, qa0, qbQ, List.getElem?_cons_zero, List.getElem?_cons_succ, nms_N, L52k1, nms_fn1, aB_nms, KO_nms, qaw]) (by simp only [List.map_nil, List.map_cons, qbb, qa5, qaW, L52k1, List.map_cons, List.map_nil, ren_fn1]; rfl) ⟨_, rfl, ?_, ?_, ?_, ?_⟩
    · rw [qbF]; simp (disch := first | omega | decide | simp only [qaf, qad, qag, qae, qah, qac, qaa, qab, qai]) only [Option.map_some, qaq, Prod.mk.injEq, Nat.reduceEqDiff, and_true, if_false, Option.map_some, qbG, List.getElem?_cons_zero, KO_ren]
    · rw [qbF]; simp (disch := first | omega | decide | simp only [qaf, qad, qag, qae, qah, qac, qaa, qab, qai]) only [Option.map_some, qaq, Prod.mk.injEq, Nat.reduceEqDiff, and_self, if_false, Nat.one_ne_zero, Option.map_some, qaE, qbG, List.getElem?_cons_zero, List.getElem?_cons_succ]
    · exact qaP (6, 0) rfl (by simp (disch := first | omega | decide | simp only [qaf, qad, qag, qae, qah, qac, qaa, qab, qai]) only [qaq, Prod.mk.injEq, Nat.reduceEqDiff, and_true, if_true, if_false, qa0]) (qbB _ _ _)
    · rw [xr_0]; exact qaP (11, 0) rfl (by simp (disch := first | omega | decide | simp only [qaf, qad, qag, qae, qah, qac, qaa, qab, qai]) only [qaq, Prod.mk.injEq, Nat.reduceEqDiff, and_true, if_true, if_false, qa0]) (qbB _ _ _)
  · rintro st ⟨H, rfl, h0, h1, h2, h3⟩
    apply qb7
    simp (disch := first | omega | decide | simp only [qaf, qad, qag, qae, qah, qac, qaa, qab, qai]) only [qbx, qav, qap, qao, qam, qal, qaO, qar, qaC, qaH, qas, qaJ, qaj, qaU, qaL, qaF, List.set_cons_zero, List.set_cons_succ, List.getD_cons_zero, List.getD_cons_succ, List.length_cons, List.length_nil, Nat.reduceAdd, Nat.zero_add, Nat.add_zero, decide_false, Nat.add_zero, Nat.zero_add, qbp, Nat.reduceAdd, Nat.lt_irrefl, decide_false, L52b1]
    rfl
  · rintro st ⟨H, rfl, h0, h1, h2, h3⟩ rfl
    rw [xr_all] at h3
    simp (disch := first | omega | decide | simp only [qaf, qad, qag, qae, qah, qac, qaa, qab, qai]) only [qbx, qav, qap, qao, qam, qal, qar, qaC, qaH, qas, qaK, qaJ, qa3, qaj, qaU, qbL, qaL, qaF, List.set_cons_zero, List.set_cons_succ, List.getD_cons_zero, List.getD_cons_succ, List.map_cons, List.map_nil, List.length_cons, List.length_nil, Nat.reduceAdd, qaQ, qbU, op_ld, if_true, Nat.zero_add, Nat.add_zero, decide_false, aB_cells, Nat.add_zero, Nat.zero_add, qbp, Nat.reduceAdd, Nat.lt_irrefl, decide_false, qaz, qau, qan, qan, L52b1, h3, callV_fn1]
    rw [hE (k + 19) _ H (0, 0) (0, 1) ⟨h0, h1, by decide⟩]
    simp (disch := first | omega | decide | simp only [qaf, qad, qag, qae, qah, qac, qaa, qab, qai]) only [qav, qbg, qap, qao, qam, qal, qar, qbo, qaC, qaH, qaK, qaj, List.set_cons_zero, List.set_cons_succ, List.getD_cons_zero, List.getD_cons_succ, List.length_cons, List.length_nil, ev_loop, Nat.reduceAdd, qaq, qa9, op_st, qbt, Prod.mk.injEq, and_true, and_self, if_false, Nat.zero_add, Nat.add_zero, Nat.one_ne_zero, aB_st_all, Nat.add_zero, Nat.zero_add, Nat.reduceAdd, qaz, qau, qa2, qan, qan, h3]
    clear hL
    generalize hL : loopN L52k0 _ _ _ = r
    refine loop_use hL (wJ0 n l (E fun j => fl b j ^^^ byteOf t j) (byteOf t)) 16 (by omega) (fun i st hi hJ => w0_round _ n l _ _ i hi st hJ) ?_ ?_ ?_
    · refine qbm [(1, 0), (1, 1)] rfl (by simp only [qay, FUEL, qaD, qaB, qax, qaI, qaT, qa6, List.flatMap_cons, List.flatMap_nil, List.nil_append, List.cons_append, List.append_nil, List.map_nil, List.map_cons, List.contains_nil, List.contains_cons, Prod.mk.injEq, beq_iff_eq, Bool.or_eq_true, Bool.false_eq_true, and_true, and_false, or_false, or_true, if_true, if_false, Nat.one_ne_zero, Nat.zero_ne_one, List.filter_cons, List.filter_nil, bne_iff_ne, ne_eq, not_false_eq_true, not_true_eq_false, qaq, qbb, qa5, qaW, qbQ, nms_N, L52k0, aB_nms, qaR, qaT, qaw, h0, h1, h2, h3]) rfl ⟨_, rfl, ?_, ?_, ?_, ?_⟩
      · rw [qbF]; simp (disch := first | omega | decide | simp only [qaf, qad, qag, qae, qah, qac, qaa, qab, qai]) only [Option.map_some, qaq, Prod.mk.injEq, and_false, and_self, if_true, if_false, Nat.zero_ne_one, qby, Option.map_some, qaX, qbe, qaV]; rfl
      · rw [qbF]; simp (disch := first | omega | decide | simp only [qaf, qad, qag, qae, qah, qac, qaa, qab, qai]) only [Option.map_some, qaq, Prod.mk.injEq, and_true, and_false, if_true, if_false, Nat.one_ne_zero, Nat.zero_ne_one, Option.map_some, qaE]
      · exact qaP (1, 0) rfl (by simp (disch := first | omega | decide | simp only [qaf, qad, qag, qae, qah, qac, qaa, qab, qai]) only [qaq, Prod.mk.injEq, and_true, and_false, and_self, if_false, Nat.one_ne_zero, Nat.zero_ne_one, h2]) (qbB _ _ _)
      · rw [xr_0]; exact qaP (1, 1) rfl (by simp (disch := first | omega | decide | simp only [qaf, qad, qag, qae, qah, qac, qaa, qab, qai]) only [qaq, Prod.mk.injEq, and_true, and_self, if_true, if_false, Nat.one_ne_zero]) (qbB _ _ _)
    · rintro st ⟨H, rfl, h0, h1, h2, h3⟩
      apply qb7
      simp (disch := first | omega | decide | simp only [qaf, qad, qag, qae, qah, qac, qaa, qab, qai]) only [qbx, qav, qap, qao, qam, qal, qaO, qar, qaC, qaH, qas, qaJ, qaj, qaU, qaL, qaF, List.set_cons_zero, List.set_cons_succ, List.getD_cons_zero, List.getD_cons_succ, List.length_cons, List.length_nil, Nat.reduceAdd, Nat.zero_add, Nat.add_zero, decide_false, Nat.add_zero, Nat.zero_add, qbp, Nat.reduceAdd, Nat.lt_irrefl, decide_false, L52b0]
      rfl
    · rintro st ⟨H, rfl, h0, h1, h2, h3⟩ rfl
      rw [xr_all] at h3
      simp (disch := first | omega | decide | simp only [qaf, qad, qag, qae, qah, qac, qaa, qab, qai]) only [qbD, qbx, qav, qap, qao, qam, qal, qar, qaC, qaH, qas, qaK, qaJ, qaj, qaU, qbL, qaL, qaF, qbi, qbX, List.set_cons_zero, List.set_cons_succ, List.getD_cons_zero, List.getD_cons_succ, List.length_cons, List.length_nil, Option.map_some, Nat.reduceAdd, if_true, Nat.zero_add, Nat.add_zero, decide_false, Nat.mul_one, Nat.add_zero, Nat.zero_add, qbp, Nat.reduceAdd, Nat.lt_irrefl, decide_false, qb6, op_slcAV, slcAV_ptr, qaz, qau, Option.map_some, Nat.sub_zero, Nat.mul_one, qan, qan, L52b0]
      rw [outOf_mem 2 _ _ [(1, 1)] (by simp only [qay, FUEL, qaD, qaB, qax, qaT, List.flatMap_cons, List.flatMap_nil, List.nil_append, List.cons_append, List.append_nil, List.map_nil, List.map_cons, List.contains_nil, List.contains_cons, Prod.mk.injEq, beq_iff_eq, Bool.or_eq_true, Bool.false_eq_true, and_true, and_false, or_false, or_true, if_true, if_false, Nat.one_ne_zero, List.filter_cons, List.filter_nil, bne_iff_ne, ne_eq, not_false_eq_true, not_true_eq_false, qbQ, KO_nms, qaw, aB_nms, qaT, h0, h1, h3])]
      simp (disch := first | omega | decide | simp only [qaf, qad, qag, qae, qah, qac, qaa, qab, qai]) only [List.map_cons, List.map_nil, Option.map_some, if_true, Nat.zero_add, idx_cons, canonMap_ne, List.filterMap_nil, Option.map_some, qaE, qbQ, List.filterMap_cons, qaX, qbe, KO_ren, qaE, qbB, h0, h1, h3, qaX]
      rfl
end Aes

namespace Aes
open Go Go.LE Xf
set_option maxRecDepth 20000

theorem xnew_F (k n : Nat) (hn : n = 4 ∨ n = 8) (key : List (BitVec 8)) (hk : key.length = 8 * n) : F C (k + 401) 21 [.isl (bs key) key.length] [] =
    some (.tup [.ptr (1, 0) 0, N 0], [], [[.ptr (1, 1) 0, .ptr (1, 3) 0], CF (.sl (1, 2) 0 (n + 7) none 16) TB, bs (W n (key.take (4 * n))), CF (.sl (1, 4) 0 (n + 7) none 16) TB, bs (W n (key.drop (4 * n)))]) := by
  rw [qbK f21]
  have hd : 8 * n / 2 = 4 * n := by omega
  have hle : 4 * n ≤ 8 * n := by omega
  have hs : 8 * n - 4 * n = 4 * n := by omega
  have h16 : (8 * n = 32) = (n = 4) := by apply propext; omega
  have h32 : (8 * n = 64) = (n = 8) := by apply propext; omega
  have hn8 : n ≠ 4 → n = 8 := fun h => hn.resolve_left h
  have ht : (key.take (4 * n)).length = 4 * n := by rw [List.length_take]; omega
  have hdr : (key.drop (4 * n)).length = 4 * n := by rw [List.length_drop]; omega
  have hs1 : ∀ H, snap H D (.isl (bs (key.take (4 * n))) (4 * n)) = some (.isl (bs (key.take (4 * n))) (key.take (4 * n)).length, []) := fun H => by rw [ht]; rfl
  have hs2 : ∀ H, snap H D (.isl (bs (key.drop (4 * n))) (4 * n)) = some (.isl (bs (key.drop (4 * n))) (key.drop (4 * n)).length, []) := fun H => by rw [hdr]; rfl
  have hc1 : ∀ b H, qbl (envC C (k + 400)) H b 12 [.isl (bs (key.take (4 * n))) (4 * n)] = _ := fun b H => c_new k n b hn H _ _ ht [] (hs1 H)
  have hc2 : ∀ b H, qbl (envC C (k + 400)) H b 12 [.isl (bs (key.drop (4 * n))) (4 * n)] = _ := fun b H => c_new k n b hn H _ _ hdr [] (hs2 H)
  have htd : (key.drop (4 * n)).take (4 * n) = key.drop (4 * n) := List.take_of_length_le (by omega)
  rcases hn with rfl | rfl
  all_goals
    simp (disch := first | omega | decide | simp only [qaf, qad, qag, qae, qah, qac, qaa, qab, qai]) only [qba, qbv, qbD, qav, qap, qao, qam, qal, qbf, guardK_true, guardK_false, qar, qaC, qaH, qas, pickV_true, qb0, qaK, op_pick, qaJ, qa3, qaY, qaj, qaL, qaF, qbi, List.set_cons_zero, List.set_cons_succ, List.getD_cons_zero, List.getD_cons_succ, List.map_cons, List.map_nil, List.nil_append, List.cons_append, List.append_nil, qa4, List.replicate_zero, List.length_cons, List.length_nil, Option.map_some, Nat.reduceAdd, Nat.reduceSub, qa9, op_box, qb2, fill_nil, fill_cons, fillK_some, aggR_some, op_build, qbw, List.take_succ_cons, List.take_zero, List.drop_succ_cons, List.drop_zero, List.drop_nil, Nat.reduceEqDiff, Nat.reduceLeDiff, and_self, if_true, Nat.zero_add, Nat.add_zero, Nat.le_refl, decide_true, decide_false, resVal_tt, Nat.mul_one, Nat.add_zero, Nat.zero_add, N_quo, N_neq, N_nat, decide_not, Nat.reduceLeDiff, Nat.reduceEqDiff, Nat.reduceMul, Nat.reduceAdd, Nat.reduceDiv, decide_false, decide_true, Bool.not_false, Bool.not_true, op_len, qbC, lenS_isl, cellsOf_ptr, qb6, qbZ, op_slcS, slcV_isl, getD_some, qaz, qaS, qau, Option.map_some, Nat.sub_zero, Nat.mul_one, List.getElem?_cons_zero, List.getElem?_cons_succ, op_extV, qb1, List.getElem?_cons_zero, List.getElem?_cons_succ, Bool.not_true, Bool.not_false, Nat.reduceSub, qan, qan, L21, hk, bs_take, bs_drop, hc1, hc2, htd]
    rw [outOf_mem 0 _ _ [(37, 0), (19, 0), (19, 1), (28, 0), (28, 1)] (by simp only [qay, FUEL, qaD, qaB, qax, qaI, qaT, List.flatMap_cons, List.flatMap_nil, List.nil_append, List.cons_append, List.append_nil, List.range_zero, List.map_nil, List.contains_nil, List.contains_cons, Prod.mk.injEq, beq_iff_eq, Bool.or_eq_true, Bool.false_eq_true, Nat.reduceEqDiff, and_true, and_false, or_false, if_true, if_false, Nat.one_ne_zero, Nat.zero_ne_one, List.filter_cons, List.filter_nil, bne_iff_ne, ne_eq, not_false_eq_true, qaq, qa0, qaR, qaw, nms_tup, nms7_ptr, nms7_N, qaT])]
    simp (disch := first | omega | decide | simp only [qaf, qad, qag, qae, qah, qac, qaa, qab, qai]) only [List.map_cons, List.map_nil, Option.map_some, Nat.reduceAdd, qaq, Prod.mk.injEq, Nat.reduceEqDiff, and_true, and_false, false_and, and_self, if_true, if_false, Nat.zero_add, Nat.one_ne_zero, Nat.zero_ne_one, idx_cons, canonMap_ne, List.filterMap_nil, Option.map_some, qaE, qbG, qa0, List.filterMap_cons, List.range_zero, qbk, qaX, qbH, qbe, qaV, qaE, ren_tup]
    rfl

end Aes

namespace Aes
open Go Go.LE Xf
set_option maxRecDepth 20000

theorem xclone_F (k : Nat) (d : List (BitVec 8)) (h0 : d.length ≠ 0) (hb : d.length ≤ 211106232532992) : F C (k + 5) 50 [.isl (bs d) d.length] [] = some (.sl (1, 0) 0 d.length none 1, [], [bs d]) := by
  rw [qbK f50]
  have hfr : ∀ H, front H 1 d.length (.isl (bs d) d.length) = some (bs d) := fun H => front_ibytes d d.length rfl
  have hap : ∀ b H m, appX b 1 1 d.length H [] (bs d) (.sl m 0 0 (some 0) 1) = some ⟨.sl (b, 0) 0 d.length none 1, [bs d], []⟩ := fun b H m => appX_e b d.length H m (bs d) h0 (by omega)
  have hnil : binV .eql .slice (.isl (bs d) d.length) Nil = some (Bo false) := by
    simp only [binV, eqV, nilCS, nilS, if_pos (Nat.pos_of_ne_zero h0)]
    rfl
  simp (disch := first | omega | decide | simp only [qaf, qad, qag, qae, qah, qac, qaa, qab, qai]) only [qba, qbv, qbD, qav, qap, qao, qam, qal, qar, qaC, qaH, qas, qaK, qaJ, qaj, qaL, qaF, qbi, qbX, List.set_cons_zero, List.set_cons_succ, List.getD_cons_zero, List.getD_cons_succ, List.map_nil, List.nil_append, List.cons_append, qa4, List.replicate_zero, List.length_cons, List.length_nil, Option.map_some, Nat.reduceAdd, Nat.reduceSub, fill_nil, Nat.zero_add, Nat.add_zero, Nat.add_zero, Nat.zero_add, Nat.reduceAdd, lenOf_isl, op_append, appK_some, appF_some, op_mkrow, rowK_some, qaz, qaS, qau, Option.map_some, Nat.reduceSub, qan, qan, L50, hnil, hfr, hap]
  rw [outOf_mem 0 _ _ [(7, 0)] (by simp only [qay, FUEL, qaD, qaB, qax, qaT, List.flatMap_cons, List.flatMap_nil, List.nil_append, List.append_nil, List.range_zero, List.map_nil, List.contains_nil, Prod.mk.injEq, Bool.false_eq_true, Nat.reduceEqDiff, and_true, if_true, if_false, List.filter_cons, List.filter_nil, bne_iff_ne, ne_eq, not_false_eq_true, qaq, qa0, qaw])]
  simp (disch := first | omega | decide | simp only [qaf, qad, qag, qae, qah, qac, qaa, qab, qai]) only [List.map_cons, List.map_nil, Option.map_some, qaq, Prod.mk.injEq, Nat.reduceEqDiff, and_true, false_and, if_true, if_false, Nat.zero_add, idx_cons, canonMap_ne, List.filterMap_nil, Option.map_some, qaE, qbG, qa0, List.filterMap_cons, List.range_zero, qaX, qbe, qaE]

def U128 (u : BitVec 64) : BitVec 128 := u.setWidth 128
theorem lo_U (u : BitVec 64) : lo (U128 u) = u := by
  apply BitVec.eq_of_getLsbD_eq; intro i hi
  rw [lo_bit, U128, BitVec.getLsbD_setWidth]; simp [hi]; omega
theorem hi_U (u : BitVec 64) : Xf.hi (U128 u) = 0#64 := by
  apply BitVec.eq_of_getLsbD_eq; intro i hi'
  rw [hi_bit, U128, BitVec.getLsbD_setWidth]; simp
def PO : qat := [.ptr (0, 1) 0, .ptr (0, 3) 0]
/-- a unit's first tweak -/
def tw0 (n : Nat) (lb : List (BitVec 8)) (u : BitVec 64) : BitVec 128 := ofBits (byteBit (enc (kf lb) n (byteOf (U128 u))))
theorem PO_k1 : cellK 1 1 (some PO) = some [.ptr (0, 3) 0] := rfl
theorem range_five : List.range 5 = [0, 1, 2, 3, 4] := rfl
theorem PO_nms : PO.flatMap (nms D) = [(0, 1), (0, 3)] := rfl
theorem PO_ren (names : List Nm) : PO.map (ren D (qb5 names)) = PO := by simp only [PO, List.map_cons, List.map_nil, qbk, qby]; rfl
def KA (i n : Nat) : qat := CF (.sl (0, i) 0 (n + 2) none 16) TB
theorem KA_nms (i n : Nat) : (KA i n).flatMap (nms D) = [(0, i)] := by rw [KA, qaR]; rfl
theorem KA_ren (i n : Nat) (names : List Nm) : (KA i n).map (ren D (qb5 names)) = KA i n := by rw [KA, qaV, qaX, qby]; rfl
theorem xfirst_F (k n : Nat) (hn : n ≤ 20) (la lb : List (BitVec 8)) (hb : lb.length = 16 * (n + 2)) (u : BitVec 64) :
    F C (k + 80) 51 [.ptr (0, 0) 0, B64 u] [PO, KA 2 n, bs la, KA 4 n, bs lb] = some (Hf (lo (tw0 n lb u)) (Xf.hi (tw0 n lb u)), [some PO, some (KA 2 n), some (bs la), some (KA 4 n), some (bs lb)], []) := by
  rw [qbK f51]
  have hby : F C (k + 79) 60 [Hf (lo (U128 u)) (Xf.hi (U128 u))] [] = some (.agg (aB 16 (byteOf (U128 u))), [], []) := Xf.bytes_F (k + 69) (U128 u)
  rw [lo_U, hi_U] at hby
  have hof := Xf.of_F (k + 69) (enc (kf lb) n (byteOf (U128 u)))
  rw [Nat.add_assoc] at hof
  simp only [Nat.reduceAdd] at hof
  simp (disch := first | omega | decide | simp only [nms_B8, nms_B32, nms_B64, nms_I, nms_N, nms_Bo, nms_Un, qa6, nms_Hf, qaI, qaT, qbn, aW_agg_nms, aD_agg_nms, aO_agg_nms, List.flatMap_cons, List.flatMap_nil, List.nil_append, List.append_nil, ren_B8, ren_B32, qbT, ren_I, ren_N, ren_Bo, ren_Un, ren_undef, ren_Hf, qbO, aW_agg_ren, aD_agg_ren, aO_agg_ren, List.map_cons, List.map_nil, ren7_I, ren7_N, ren7_Bo, ren7_B8, ren7_B32, ren7_B64, nms7_I, nms7_N, nms7_Bo, nms7_B8, nms7_B32, nms7_B64, nms_tup, ren_tup, implies_true, l17, l59, l60, qaf, qaw, qaE, ibs_nms, qbI, qad, qag, qae, qah, qac, qaa, qab, qai]) only [qba, qav, qap, qao, qam, qal, qar, qaC, qaH, qas, qaK, qa3, qaY, qaj, List.set_cons_zero, List.set_cons_succ, List.getD_cons_zero, List.getD_cons_succ, List.map_cons, List.map_nil, List.flatMap_cons, List.flatMap_nil, List.nil_append, List.cons_append, List.append_nil, qa4, List.replicate_zero, List.length_cons, List.length_nil, callOp_C, Nat.reduceAdd, Nat.reduceSub, qaq, cellsOf_B64, qaQ, qbs, op_ld1, op_new, op_fa, faV_ptr, fill_nil, fill_cons, fillK_some, aggR_some, op_build, agg_Hf, nms_Hf, qbw, List.take_zero, List.drop_succ_cons, List.drop_zero, List.all_cons, List.all_nil, Bool.and_true, Prod.mk.injEq, Nat.reduceEqDiff, Nat.reduceLeDiff, Nat.reduceLT, and_true, and_self, if_true, if_false, Nat.zero_add, Nat.add_zero, decide_true, qbn, aB_calK, Nat.add_zero, Nat.zero_add, Nat.reduceLT, Nat.reduceLeDiff, Nat.reduceEqDiff, Nat.reduceAdd, decide_true, Bool.not_false, Bool.not_true, op_chk, qb3, qaz, qaS, qau, qbG, List.getElem?_cons_zero, List.getElem?_cons_zero, qa7, qbr, qbV, touch_ld1, qbY, reach_none, nms_fn, qaI, List.contains_cons, List.contains_nil, beq_self_eq_true, Bool.or_true, Bool.or_false, ordOk, qaZ, List.all_cons, List.all_nil, Nat.testBit, Nat.reduceShiftRight, Nat.reduceAnd, Nat.reduceBEq, Bool.not_true, Bool.not_false, Bool.and_self, Bool.and_true, Bool.and_false, Nat.reduceSub, Nat.reduceLT, bne, qbh, qbN, qbA, qb8, qbP, Bool.and_false, Bool.and_true, qaM, qan, qan, qaM, L51, PO_k1, hby]
  generalize hG : upd (inHeap _) (2, 0) _ = G
  have g0 : G (0, 0) = some PO := by rw [← hG]; rfl
  have g1 : G (0, 1) = some (KA 2 n) := by rw [← hG]; rfl
  have g2 : G (0, 2) = some (bs la) := by rw [← hG]; rfl
  have g3 : G (0, 3) = some (KA 4 n) := by rw [← hG]; rfl
  have g4 : G (0, 4) = some (bs lb) := by rw [← hG]; rfl
  have g5 : G (2, 0) = some [B64 0#64, B64 0#64] := by rw [← hG]; rfl
  clear hG
  have K : KG G (0, 3) (0, 4) (n + 2) none lb := ⟨g3, g4, by decide⟩
  have hr := reach_KG K
  have he : ∀ b s, _ := fun b s => c_enc (k + 19) n b hn _ (0, 3) (0, 4) lb K.only hb s
  have ht : ∀ v, _ := fun v => tr_KG _ v (0, 3) (0, 4) (n + 2) none lb K.only
  simp (disch := first | omega | decide | simp only [nms_B8, nms_B32, nms_B64, nms_I, nms_N, nms_Bo, nms_Un, qa6, nms_Hf, qaI, qaT, qbn, aW_agg_nms, aD_agg_nms, aO_agg_nms, List.flatMap_cons, List.flatMap_nil, List.nil_append, List.append_nil, ren_B8, ren_B32, qbT, ren_I, ren_N, ren_Bo, ren_Un, ren_undef, ren_Hf, qbO, aW_agg_ren, aD_agg_ren, aO_agg_ren, List.map_cons, List.map_nil, ren7_I, ren7_N, ren7_Bo, ren7_B8, ren7_B32, ren7_B64, nms7_I, nms7_N, nms7_Bo, nms7_B8, nms7_B32, nms7_B64, nms_tup, ren_tup, implies_true, l17, l59, l60, qaf, qaw, qaE, ibs_nms, qbI, qad, qag, qae, qah, qac, qaa, qab, qai]) only [qbD, qao, qam, qar, qbo, qaC, qaH, qa3, qaY, qaj, qbi, List.set_cons_zero, List.set_cons_succ, List.getD_cons_zero, List.getD_cons_succ, List.map_cons, List.map_nil, List.flatMap_cons, List.flatMap_nil, List.nil_append, List.append_nil, List.length_cons, List.length_nil, callOp_C, Option.map_some, Nat.reduceAdd, Nat.reduceSub, qaq, isCell_B64, qaQ, qbM, op_st, qbt, stK_cons, agg_Hf, cellsOf_Hf, nms_Hf, calK_Hf, qbw, List.take_succ_cons, List.take_zero, List.drop_succ_cons, List.drop_zero, List.drop_nil, List.take_nil, List.all_cons, List.all_nil, Bool.and_true, Nat.reduceLT, and_self, if_true, Nat.zero_add, Nat.le_refl, decide_true, resVal_agg, aggV_some, qbn, Nat.zero_add, Nat.reduceLT, Nat.reduceAdd, decide_true, nm_beq, Bool.not_false, qaz, qau, qa2, Option.map_some, qa7, qbr, qbV, touch_st, qbY, reach_none, nms_fn, qaI, List.contains_cons, List.contains_nil, beq_self_eq_true, Bool.or_true, Bool.or_false, ordOk, qaZ, List.all_cons, List.all_nil, Nat.testBit, Nat.reduceShiftRight, Nat.reduceAnd, Nat.reduceBEq, Bool.not_false, Bool.and_self, Bool.and_true, Bool.and_false, Nat.reduceSub, Nat.reduceLT, bne, qbh, qbN, trimO_f, qbA, isCall_st, qbP, Bool.and_false, Bool.and_true, qaM, qaM, hr, he, ht, hof, g5, nms_Hf]
  rw [outOf_mem 5 _ _ [] (by simp only [qay, FUEL, qaD, qaB, qax, nms_Hf, List.flatMap_cons, List.flatMap_nil, List.nil_append, List.cons_append, List.append_nil, List.map_nil, List.map_cons, List.contains_nil, List.contains_cons, Prod.mk.injEq, beq_iff_eq, Bool.or_eq_true, Bool.false_eq_true, Nat.reduceEqDiff, and_true, and_false, or_false, or_true, if_true, if_false, Nat.one_ne_zero, List.filter_cons, List.filter_nil, bne_iff_ne, ne_eq, not_true_eq_false, qaq, nms_Hf, range_five, PO_nms, KA_nms, qaw, g0, g1, g2, g3, g4])]
  simp (disch := first | omega | decide | simp only [qaf, qad, qag, qae, qah, qac, qaa, qab, qai]) only [List.map_cons, List.map_nil, Option.map_some, qaq, ren_Hf, Prod.mk.injEq, Nat.reduceEqDiff, false_and, if_false, List.filterMap_nil, Option.map_some, qaE, range_five, PO_ren, KA_ren, qaE, ren_Hf, g0, g1, g2, g3, g4, tw0]
end Aes

namespace Aes
open Go Go.LE Xf

/-- a block of bytes -/
def blk (d : List (BitVec 8)) (i : Nat) : List (BitVec 8) := (d.drop (16 * i)).take 16
def wtl (E : R → R) (t : BitVec 128) (b : List (BitVec 8)) : List (BitVec 8) := (List.range 16).map (wt E t (fl b))
def tws (t0 : BitVec 128) : Nat → BitVec 128
  | 0 => t0
  | i + 1 => GF.dbl 135#128 (tws t0 i)
/-- the first i blocks, enciphered -/
def done (E : R → R) (t0 : BitVec 128) (d : List (BitVec 8)) : Nat → List (BitVec 8)
  | 0 => []
  | i + 1 => done E t0 d i ++ wtl E (tws t0 i) (blk d i)
theorem qb9 (E : R → R) (t : BitVec 128) (b : List (BitVec 8)) : (wtl E t b).length = 16 := by rw [wtl, List.length_map, List.length_range]
theorem qbR (E : R → R) (t0 : BitVec 128) (d : List (BitVec 8)) : ∀ i, (done E t0 d i).length = 16 * i := by
  intro i
  induction i with
  | zero => rfl
  | succ i ih => rw [done, List.length_append, ih, qb9]; omega
theorem blk_length (d : List (BitVec 8)) (i : Nat) (h : 16 * (i + 1) ≤ d.length) : (blk d i).length = 16 := by rw [blk, List.length_take, List.length_drop]; omega
/-- the bytes ahead of the last, broken block: its tweaks -/
def tw1 (t0 : BitVec 128) (m : Nat) (turned : Bool) : BitVec 128 := if turned then tws t0 (m + 1) else tws t0 m
def tw2 (t0 : BitVec 128) (m : Nat) (turned : Bool) : BitVec 128 := if turned then tws t0 m else tws t0 (m + 1)
def stolen (E : R → R) (t0 : BitVec 128) (d : List (BitVec 8)) (turned : Bool) (m : Nat) : List (BitVec 8) := wtl E (tw1 t0 m turned) (blk d m)
def lastB (E : R → R) (t0 : BitVec 128) (d : List (BitVec 8)) (turned : Bool) (m : Nat) : List (BitVec 8) := d.drop (16 * m + 16) ++ (stolen E t0 d turned m).drop (d.length % 16)
/-- a unit, enciphered (or back, with the inverse way and the last tweaks turned) -/
def qbj (E : R → R) (t0 : BitVec 128) (d : List (BitVec 8)) (turned : Bool) : List (BitVec 8) :=
  if d.length % 16 = 0 then done E t0 d (d.length / 16)
  else done E t0 d (d.length / 16 - 1) ++ wtl E (tw2 t0 (d.length / 16 - 1) turned) (lastB E t0 d turned (d.length / 16 - 1)) ++ (stolen E t0 d turned (d.length / 16 - 1)).take (d.length % 16)
theorem unitP_length (E : R → R) (t0 : BitVec 128) (d : List (BitVec 8)) (turned : Bool) (h : 16 ≤ d.length) : (qbj E t0 d turned).length = d.length := by
  unfold qbj
  by_cases h0 : d.length % 16 = 0
  · rw [if_pos h0, qbR]; omega
  · rw [if_neg h0, List.length_append, List.length_append, qbR, qb9, List.length_take, stolen, qb9]; omega
theorem lastB_length (E : R → R) (t0 : BitVec 128) (d : List (BitVec 8)) (turned : Bool) (h : 16 ≤ d.length) (h0 : d.length % 16 ≠ 0) : (lastB E t0 d turned (d.length / 16 - 1)).length = 16 := by
  rw [lastB, List.length_append, List.length_drop, List.length_drop, stolen, qb9]; omega

/-! ### as the program makes it: in place -/

/-- the bytes behind i rounds -/
def outI (E : R → R) (t0 : BitVec 128) (d : List (BitVec 8)) (i : Nat) : List (BitVec 8) := done E t0 d i ++ d.drop (16 * i)
theorem outI_length (E : R → R) (t0 : BitVec 128) (d : List (BitVec 8)) (i : Nat) (h : 16 * i ≤ d.length) : (outI E t0 d i).length = d.length := by
  rw [outI, List.length_append, qbR, List.length_drop]; omega
theorem outI_0 (E : R → R) (t0 : BitVec 128) (d : List (BitVec 8)) : outI E t0 d 0 = d := by rw [outI, done, List.nil_append, Nat.mul_zero, List.drop_zero]
theorem outI_drop (E : R → R) (t0 : BitVec 128) (d : List (BitVec 8)) (i : Nat) : (outI E t0 d i).drop (16 * i) = d.drop (16 * i) := by
  rw [outI, List.drop_append, qbR, Nat.sub_self, List.drop_zero, List.drop_of_length_le (by rw [qbR]; exact Nat.le_refl _), List.nil_append]
theorem outI_blk (E : R → R) (t0 : BitVec 128) (d : List (BitVec 8)) (i : Nat) : ((outI E t0 d i).drop (16 * i)).take 16 = blk d i := by rw [outI_drop, blk]
theorem outI_drop16 (E : R → R) (t0 : BitVec 128) (d : List (BitVec 8)) (i : Nat) : (outI E t0 d i).drop (16 * i + 16) = d.drop (16 * i + 16) := by
  rw [← List.drop_drop, outI_drop, List.drop_drop]
theorem outI_succ (E : R → R) (t0 : BitVec 128) (d : List (BitVec 8)) (i : Nat) (h : 16 * (i + 1) ≤ d.length) :
    (outI E t0 d i).take (16 * i) ++ wtl E (tws t0 i) (blk d i) ++ (outI E t0 d i).drop (16 * i + 16) = outI E t0 d (i + 1) := by
  have e1 : (outI E t0 d i).take (16 * i) = done E t0 d i := by
    rw [outI, List.take_append, qbR, Nat.sub_self, List.take_zero, List.append_nil, List.take_of_length_le (by rw [qbR]; exact Nat.le_refl _)]
  have e2 : (outI E t0 d i).drop (16 * i + 16) = d.drop (16 * (i + 1)) := by
    rw [← List.drop_drop, outI_drop, List.drop_drop]; congr 1
  rw [e1, e2, outI, done]
theorem outI_whole (E : R → R) (t0 : BitVec 128) (d : List (BitVec 8)) (h : d.length % 16 = 0) : outI E t0 d (d.length / 16) = qbj E t0 d false := by
  rw [outI, qbj, if_pos h, List.drop_of_length_le (by omega), List.append_nil]
theorem unitP_whole (E : R → R) (t0 : BitVec 128) (d : List (BitVec 8)) (a b : Bool) (h : d.length % 16 = 0) : qbj E t0 d a = qbj E t0 d b := by
  rw [qbj, qbj, if_pos h, if_pos h]
end Aes

namespace Aes
open Go Go.LE Xf

/-- two ways that undo one another -/
structure Inv (E D : R → R) : Prop where
  ed : ∀ s, E16 (D (E s)) s
  de : ∀ s, E16 (E (D s)) s
  ec : ∀ s t, E16 s t → E16 (E s) (E t)
  dc : ∀ s t, E16 s t → E16 (D s) (D t)
theorem Inv.symm {E D : R → R} (h : Inv E D) : Inv D E := ⟨h.de, h.ed, h.dc, h.ec⟩
theorem inv_aes (K : Nat → R) (n : Nat) : Inv (enc K n) (dec K n) := ⟨dec_enc K n, enc_dec K n, fun _ _ h => enc_c K n h, fun _ _ h => dec_c K n h⟩
theorem fl_map (w : R) : E16 (fl ((List.range 16).map w)) w := fun j hj => by
  simp [fl, List.getD_eq_getElem?_getD, hj]
theorem list16 {a b : List (BitVec 8)} (ha : a.length = 16) (hb : b.length = 16) (h : E16 (fl a) (fl b)) : a = b := by
  apply List.ext_getElem (by rw [ha, hb])
  intro j h1 h2
  have := h j (by omega)
  simpa [fl, List.getD_eq_getElem?_getD, h1, h2] using this
theorem wt_inv {E D : R → R} (h : Inv E D) (t : BitVec 128) (x : R) : E16 (wt D t (wt E t x)) x := by
  have e : (fun i => wt E t x i ^^^ byteOf t i) = E (fun i => x i ^^^ byteOf t i) := by
    funext i
    rw [wt, BitVec.xor_assoc, BitVec.xor_self, BitVec.xor_zero]
  intro j hj
  show D (fun i => wt E t x i ^^^ byteOf t i) j ^^^ byteOf t j = x j
  rw [e, h.ed _ j hj, BitVec.xor_assoc, BitVec.xor_self, BitVec.xor_zero]
theorem wt_c {E D : R → R} (h : Inv E D) (t : BitVec 128) {x y : R} (hx : E16 x y) : E16 (wt E t x) (wt E t y) := by
  intro j hj
  have : E16 (fun i => x i ^^^ byteOf t i) (fun i => y i ^^^ byteOf t i) := fun i hi => by
    show x i ^^^ _ = y i ^^^ _
    rw [hx i hi]
  show E _ j ^^^ _ = E _ j ^^^ _
  rw [h.ec _ _ this j hj]
theorem wtl_inv {E D : R → R} (h : Inv E D) (t : BitVec 128) (b : List (BitVec 8)) (hb : b.length = 16) : wtl D t (wtl E t b) = b := by
  apply list16 (qb9 _ _ _) hb
  refine (fl_map _).trans ?_
  have : E16 (fl (wtl E t b)) (wt E t (fl b)) := fl_map _
  exact (wt_c h.symm t this).trans (wt_inv h t _)
theorem blk_done (E : R → R) (t0 : BitVec 128) (d X : List (BitVec 8)) (w : Nat) (hX : done E t0 d w <+: X) (i : Nat) (hi : i < w) : blk X i = wtl E (tws t0 i) (blk d i) := by
  have hpre : ∀ w, i < w → ∃ r, done E t0 d w = done E t0 d i ++ wtl E (tws t0 i) (blk d i) ++ r := by
    intro w
    induction w with
    | zero => intro h; omega
    | succ w ih =>
      intro h
      by_cases h' : i < w
      · obtain ⟨r, hr⟩ := ih h'
        exact ⟨r ++ wtl E (tws t0 w) (blk d w), by rw [done, hr]; simp only [List.append_assoc]⟩
      · obtain rfl : w = i := by omega
        exact ⟨[], by rw [done, List.append_nil]⟩
  obtain ⟨r, hr⟩ := hpre w hi
  obtain ⟨s, rfl⟩ := hX
  rw [blk, hr]
  simp only [List.append_assoc]
  rw [List.drop_append, qbR, Nat.sub_self, List.drop_zero, List.drop_of_length_le (by rw [qbR]; exact Nat.le_refl _), List.nil_append, List.take_append_of_le_length (by rw [qb9]; exact Nat.le_refl _), List.take_of_length_le (by rw [qb9]; exact Nat.le_refl _)]
theorem take_blk (d : List (BitVec 8)) (i : Nat) : d.take (16 * i) ++ blk d i = d.take (16 * (i + 1)) := by
  rw [blk, show 16 * (i + 1) = 16 * i + 16 by omega, List.take_add]
theorem done_inv {E D : R → R} (h : Inv E D) (t0 : BitVec 128) (d X : List (BitVec 8)) (w : Nat) (hw : 16 * w ≤ d.length) (hX : done E t0 d w <+: X) : ∀ i, i ≤ w → done D t0 X i = d.take (16 * i) := by
  intro i
  induction i with
  | zero => intro _; rfl
  | succ i ih =>
    intro hi
    rw [done, ih (by omega), blk_done E t0 d X w hX i (by omega), wtl_inv h _ _ (blk_length d i (by omega)), take_blk]
theorem tw_not (t0 : BitVec 128) (m : Nat) (tu : Bool) : tw1 t0 m (!tu) = tw2 t0 m tu ∧ tw2 t0 m (!tu) = tw1 t0 m tu := by
  cases tu <;> exact ⟨rfl, rfl⟩
/-- there and back -/
theorem unit_inv {E D : R → R} (h : Inv E D) (t0 : BitVec 128) (d : List (BitVec 8)) (tu : Bool) (h16 : 16 ≤ d.length) : qbj D t0 (qbj E t0 d tu) (!tu) = d := by
  have hl := unitP_length E t0 d tu h16
  by_cases h0 : d.length % 16 = 0
  · have e : qbj E t0 d tu = done E t0 d (d.length / 16) := by rw [qbj, if_pos h0]
    rw [qbj, hl, if_pos h0, e, done_inv h t0 d _ (d.length / 16) (by omega) (List.prefix_refl _) _ (Nat.le_refl _), List.take_of_length_le (by omega)]
  · obtain ⟨m, hm⟩ : ∃ m, m = d.length / 16 - 1 := ⟨_, rfl⟩
    have hw : 16 * m + 16 + d.length % 16 = d.length := by omega
    obtain ⟨X, hX⟩ : ∃ X, X = qbj E t0 d tu := ⟨_, rfl⟩
    obtain ⟨s, hs⟩ : ∃ s, s = stolen E t0 d tu m := ⟨_, rfl⟩
    obtain ⟨la, hla⟩ : ∃ la, la = lastB E t0 d tu m := ⟨_, rfl⟩
    have hsl : s.length = 16 := by rw [hs, stolen, qb9]
    have hlal : la.length = 16 := by rw [hla, hm]; exact lastB_length E t0 d tu h16 h0
    have eX : X = done E t0 d m ++ wtl E (tw2 t0 m tu) la ++ s.take (d.length % 16) := by
      rw [hX, qbj, if_neg h0, ← hm, hla, hs]
    have hXl : X.length = d.length := by rw [hX, hl]
    have hdn : done D t0 X m = d.take (16 * m) := done_inv h t0 d X m (by omega) ⟨wtl E (tw2 t0 m tu) la ++ s.take (d.length % 16), by rw [eX, List.append_assoc]⟩ m (Nat.le_refl _)
    have hbX : blk X m = wtl E (tw2 t0 m tu) la := by
      rw [blk, eX, List.append_assoc, List.drop_append, qbR, Nat.sub_self, List.drop_zero, List.drop_of_length_le (by rw [qbR]; exact Nat.le_refl _), List.nil_append, List.take_append_of_le_length (by rw [qb9]; exact Nat.le_refl _), List.take_of_length_le (by rw [qb9]; exact Nat.le_refl _)]
    have hst : stolen D t0 X (!tu) m = la := by
      rw [stolen, (tw_not t0 m tu).1, hbX, wtl_inv h _ _ hlal]
    have hdX : X.drop (16 * m + 16) = s.take (d.length % 16) := by
      rw [eX, List.drop_append, List.length_append, qbR, qb9, Nat.sub_self, List.drop_zero, List.drop_of_length_le (by rw [List.length_append, qbR, qb9]; exact Nat.le_refl _), List.nil_append]
    have ela : la = d.drop (16 * m + 16) ++ s.drop (d.length % 16) := by rw [hla, lastB, hs]
    have hrl : (d.drop (16 * m + 16)).length = d.length % 16 := by rw [List.length_drop]; omega
    have hld : la.drop (d.length % 16) = s.drop (d.length % 16) := by
      rw [ela, List.drop_append, hrl, Nat.sub_self, List.drop_zero, List.drop_of_length_le (by omega), List.nil_append]
    have hlt : la.take (d.length % 16) = d.drop (16 * m + 16) := by
      rw [ela, List.take_append_of_le_length (by omega), List.take_of_length_le (by omega)]
    have hlast : lastB D t0 X (!tu) m = s := by
      rw [lastB, hst, hdX, hXl, hld, List.take_append_drop]
    rw [← hX, qbj, hXl, if_neg h0, ← hm, hdn, hlast, hst, (tw_not t0 m tu).2, hs, stolen, wtl_inv h _ _ (blk_length d m (by omega)), hlt, take_blk, show 16 * (m + 1) = 16 * m + 16 by omega, List.take_append_drop]

/-! ### fronts -/

theorem done_take (E : R → R) (t0 : BitVec 128) (d : List (BitVec 8)) (n : Nat) : ∀ i, 16 * i ≤ n → done E t0 (d.take n) i = done E t0 d i := by
  intro i
  induction i with
  | zero => intro _; rfl
  | succ i ih =>
    intro h
    have e : blk (d.take n) i = blk d i := by
      rw [blk, blk, List.drop_take, List.take_take, Nat.min_eq_left (by omega)]
    rw [done, done, ih (by omega), e]
theorem done_pre (E : R → R) (t0 : BitVec 128) (d : List (BitVec 8)) (i w : Nat) (h : i ≤ w) : (done E t0 d w).take (16 * i) = done E t0 d i := by
  induction w with
  | zero => obtain rfl : i = 0 := by omega
            rfl
  | succ w ih =>
    by_cases h' : i ≤ w
    · rw [done, List.take_append_of_le_length (by rw [qbR]; omega), ih h']
    · obtain rfl : i = w + 1 := by omega
      rw [List.take_of_length_le (by rw [qbR]; exact Nat.le_refl _)]
/-- the first blocks of a unit are a shorter unit's -/
theorem unit_front (E : R → R) (t0 : BitVec 128) (d : List (BitVec 8)) (tu tv : Bool) (i : Nat) (hi : 16 * i + 16 ≤ 16 * (d.length / 16)) : (qbj E t0 d tu).take (16 * i) = qbj E t0 (d.take (16 * i)) tv := by
  have hl : (d.take (16 * i)).length = 16 * i := by rw [List.length_take]; omega
  have h0 : (16 * i) % 16 = 0 := by omega
  have hd : 16 * i / 16 = i := by omega
  rw [qbj, qbj, hl, if_pos h0, hd, done_take E t0 d (16 * i) i (Nat.le_refl _)]
  by_cases hr : d.length % 16 = 0
  · rw [if_pos hr, done_pre E t0 d i _ (by omega)]
  · rw [if_neg hr, List.append_assoc, List.take_append_of_le_length (by rw [qbR]; omega), done_pre E t0 d i _ (by omega)]

/-! ### places -/

end Aes
