/- Calls on a cipher in the caller's memory; its functions, evaluated. -/
/- A round's steps, evaluated: add, round, unround (the cipher's), add, shift (the document's). -/
/- Columns mixed, and mixed back, evaluated. -/
/- The document's steps: add, shift, mix, evaluated. -/
/- The document's mix, evaluated. -/
/- Calls of the round steps on a cipher; Decrypt, evaluated. -/
/- Encrypt, evaluated. -/
/- There and back; Key, Rounds. -/
import Derived.Test.YtgabgpgcplkebaaLeU
set_option linter.unusedVariables false
set_option linter.unusedSimpArgs false

namespace Aes
open Go Go.LE

/-- a made cipher in memory: its keys' slice, the row of round keys -/
structure KG (H : Heap) (c m : Nm) (len : Nat) (cap : Option Nat) (l : List (BitVec 8)) : Prop where
  hc : H c = some (CF (.sl m 0 len cap 16) TB)
  hm : H m = some (bs l)
  ne : c ≠ m

theorem callK (k b g : Nat) (hg : lentF g = fun _ => false) (H : Heap) (c m : Nm) (len : Nat) (cap : Option Nat) (l : List (BitVec 8)) (h : KG H c m len cap l) (ps : List LV) (hp : Pl ps) (r : LV) (hr : ∀ π, ren D π r = r)
    (hw : F C k g (.ptr (0, 0) 0 :: ps) [CF (.sl (0, 1) 0 len cap 16) TB, bs l] = some (r, [some (CF (.sl (0, 1) 0 len cap 16) TB), some (bs l)], [])) :
    qbl (envC C k) H b g (.ptr c 0 :: ps) = some ⟨r, [], [(c, some (CF (.sl m 0 len cap 16) TB)), (m, some (bs l))]⟩ := by
  have hc : ([c] : List Nm).contains m = false := by simp; exact fun e => h.ne e.symm
  have hre : qbd H FUEL [] [c] = [c, m] := by
    simp only [FUEL, qaD, List.contains_nil, Bool.false_eq_true, if_false, h.hc, qaB, qaR, qaT, List.nil_append, List.cons_append, hc, h.hm, qaw, qax]
  rw [callOp_L, envC_borrow, C_bor, hg, lend_none, callL_some]
  have hn : (LV.ptr c 0 :: ps).flatMap (nms D) = [c] := by rw [List.flatMap_cons, qaI, hp.n]; rfl
  rw [hn, hre, callN_eq _ _ _ _ _ rfl, show ([c, m] : List Nm).filterMap H = [CF (.sl m 0 len cap 16) TB, bs l] by simp [h.hc, h.hm]]
  have ha : (LV.ptr c 0 :: ps).map (ren D (qa1 [c, m])) = .ptr (0, 0) 0 :: ps := by
    simp only [List.map_cons, qbk, toCallee_eq, idx0, Option.map_some, qbH, hp.r]
  rw [ha, List.map_cons, List.map_cons, List.map_nil, qaV, qaX, toCallee_eq, idx1 _ _ _ h.ne, Option.map_some, qbe, qaE, envC_cal, hw, show ([] : List Nm).isEmpty = true from rfl, resK_sc, backTo_eq, hr]
  simp only [List.zipWith_cons_cons, List.zipWith_nil_left, Option.map_some, qaV, qaX, toCaller_0, qaE, List.map_nil, qbe, List.getElem?_cons_zero, List.getElem?_cons_succ]

/-! ### the small functions -/

theorem made_F (k : Nat) (len : Nat) (hl : 0 < len) (h2 : len < 4611686018427387904) (cap : Option Nat) (f : R) (l : List (BitVec 8)) :
    F C (k + 1) 31 [.ptr (0, 0) 0] [CF (.sl (0, 1) 0 len cap 16) f, bs l] = some (Bo true, [some (CF (.sl (0, 1) 0 len cap 16) f), some (bs l)], []) := by
  rw [qbK f31]
  simp (disch := first | omega | decide | simp only [qaf, qad, qag, qae, qah, qac, qaa, qab, qai]) only [qba, qbD, qav, qap, qao, qam, qal, qbf, qaO, guardK_true, qar, qaC, qaH, qas, pickV_true, qaK, op_pick, qaJ, qaj, qbi, qbX, List.set_cons_zero, List.set_cons_succ, List.getD_cons_zero, List.getD_cons_succ, List.nil_append, List.cons_append, qa4, List.replicate_zero, List.length_cons, List.length_nil, Option.map_some, Nat.reduceAdd, Nat.reduceSub, qaQ, qbs, op_ld1, op_fa, faV_ptr, Nat.zero_add, Nat.add_zero, decide_true, Nat.add_zero, Nat.zero_add, N_gtr, Nat.reduceAdd, decide_true, op_chk, qb3, nep_ptr, op_len, qbC, lenS_sl, Option.map_some, qbG, List.getElem?_cons_zero, L31, CF_k, hl]
  rw [outOf_mem 2 _ _ [] (by simp only [qay, FUEL, qaD, qaB, qax, qaT, nms_Bo, List.flatMap_cons, List.flatMap_nil, List.nil_append, List.cons_append, List.append_nil, List.map_nil, List.map_cons, List.contains_nil, List.contains_cons, Prod.mk.injEq, beq_iff_eq, Bool.or_eq_true, Bool.false_eq_true, and_false, or_false, or_true, if_true, if_false, Nat.one_ne_zero, List.filter_cons, List.filter_nil, bne_iff_ne, ne_eq, not_true_eq_false, qbG, qbQ, List.getElem?_cons_zero, List.getElem?_cons_succ, qaR, qaw])]
  simp (disch := first | omega | decide | simp only [qaf, qad, qag, qae, qah, qac, qaa, qab, qai]) only [ren_Bo, List.map_cons, List.map_nil, Option.map_some, qby, List.filterMap_nil, Option.map_some, qaE, qbG, qbQ, List.getElem?_cons_zero, List.getElem?_cons_succ, qaX, qbe, qaV]

theorem plus_F (k : Nat) (a b : R) : F C (k + 1) 30 [.agg (aB 4 a), .agg (aB 4 b)] [] = some (.agg (aB 4 fun j => a j ^^^ b j), [], []) := by
  rw [qbK f30]
  simp (disch := first | omega | decide | simp only [qaf, qad, qag, qae, qah, qac, qaa, qab, qai]) only [qba, qbD, qav, qap, qao, qam, qal, qaO, qar, qbo, qaC, qaH, qas, qaJ, qaj, qbi, List.set_cons_zero, List.set_cons_succ, List.getD_cons_zero, List.getD_cons_succ, List.map_cons, List.map_nil, List.nil_append, List.cons_append, List.append_nil, qa4, List.replicate_zero, List.length_cons, List.length_nil, B8_xor, Option.map_some, Nat.reduceAdd, Nat.reduceSub, qaq, stepK_new, stepK_mod, qa9, cellsOf_B8, isCell_B8, qaQ, qbM, qbs, op_ld1, op_new, op_box, qb2, op_st, qbt, stK_cons, op_iaA, iaV_lt, fill_nil, fill_cons, fillK_some, aggR_some, op_build, qbw, List.take_succ_cons, List.take_zero, List.drop_succ_cons, List.drop_zero, List.drop_nil, List.take_nil, List.all_cons, List.all_nil, Bool.and_true, Prod.mk.injEq, Nat.reduceEqDiff, Nat.reduceLeDiff, and_true, and_self, if_true, if_false, Nat.zero_add, Nat.add_zero, Nat.le_refl, resVal_agg, aggV_some, aB_cell, Nat.mul_one, Nat.add_zero, Nat.zero_add, N_nat, Nat.reduceLeDiff, Nat.reduceEqDiff, Nat.reduceAdd, Option.map_some, Nat.mul_one, qa0, L30]
  rfl
end Aes

namespace Aes
open Go Go.LE

def upto (i : Nat) (f g : R) : R := fun j => if j < i then f j else g j
theorem upto_succ (i : Nat) (f g : R) (x : BitVec 8) (hx : x = f i) : set1 (upto i f g) i x = upto (i + 1) f g := by
  subst hx
  funext j
  simp only [set1, upto]
  by_cases h : j = i
  · subst h; rw [if_pos rfl, if_pos (by omega)]
  · rw [if_neg h]
    by_cases h2 : j < i
    · rw [if_pos h2, if_pos (by omega)]
    · rw [if_neg h2, if_neg (by omega)]
theorem upto_zero (f g : R) : upto 0 f g = g := by funext j; simp [upto]
theorem upto_at (i : Nat) (f g : R) : upto i f g i = g i := by simp [upto]
theorem upto_all (n : Nat) (f g : R) : aB n (upto n f g) = aB n f := aB_ext n fun j h => by simp [upto, h]

def aJ (a b : R) (i : Nat) (st : St) : Prop := ∃ (H : Heap), st = ⟨[.undef, .undef, .ptr (1, 0) 0, .ptr (1, 1) 0, .ptr (1, 2) 0, .undef, N i, .undef, .undef, .undef, .undef, .undef, .undef, .undef, .undef, .undef, .undef, .undef, .undef], H, 2, 0⟩ ∧ H (1, 0) = some (aB 16 (upto i (add a b) a)) ∧ H (1, 1) = some (aB 16 b) ∧ H (1, 2) = some (aB 16 fun _ => 0#8)

theorem add_F (k : Nat) (a b : R) : F C (k + 30) 34 [.agg (aB 16 a), .agg (aB 16 b)] [] = some (.agg (aB 16 (add a b)), [], []) := by
  rw [qbK f34]
  simp (disch := first | omega | decide | simp only [qaf, qad, qag, qae, qah, qac, qaa, qab, qai]) only [qba, qav, qbg, qap, qao, qam, qal, qaO, qar, qaC, qaH, qaK, qaj, List.set_cons_zero, List.set_cons_succ, List.getD_cons_zero, List.getD_cons_succ, List.nil_append, List.cons_append, qa4, List.replicate_zero, List.length_cons, List.length_nil, ev_loop, Nat.reduceAdd, Nat.reduceSub, stepK_new, qa9, op_new, op_box, qb2, Nat.zero_add, Nat.add_zero, aB_rep, Nat.add_zero, Nat.zero_add, Nat.reduceAdd, L34]
  generalize hL : loopN L34k0 _ _ _ = r
  refine loop_use hL (aJ a b) 16 (by omega) ?_ ?_ ?_ ?_
  · rintro i st hi ⟨H, rfl, h0, h1, h2⟩
    have hs := upto_succ i (add a b) a (a i ^^^ b i) rfl
    apply Exists.intro
    apply And.intro
    · simp (disch := first | omega | decide | simp only [qaf, qad, qag, qae, qah, qac, qaa, qab, qai]) only [qbv, qav, qbg, qap, qao, qam, qal, qaO, qar, qbo, qaC, qaH, qas, qaK, qaJ, qaj, qbc, qaL, qbq, nms_B8, List.set_cons_zero, List.set_cons_succ, List.getD_cons_zero, List.getD_cons_succ, List.append_nil, List.length_cons, List.length_nil, B8_xor, Nat.reduceAdd, Nat.reduceSub, cellsOf_B8, qaQ, qbs, op_ld1, op_st, qbt, op_iaA, iaV_lt, List.all_cons, List.all_nil, Bool.and_true, Nat.reduceLT, if_true, Nat.zero_add, Nat.add_zero, decide_true, aB_cell, aB_st, Nat.mul_one, Nat.add_zero, Nat.zero_add, N_add, qbp, N_nat, Nat.reduceLT, Nat.reduceAdd, decide_true, nm_beq, Bool.not_false, Bool.not_true, Nat.mul_one, qa7, qbr, ordK_pure, ordK_mod, qbV, touch_ld1, touch_st, qaI, List.contains_cons, List.contains_nil, beq_self_eq_true, Bool.or_true, Bool.or_false, ordOk, qaZ, List.all_cons, List.all_nil, Nat.testBit, Nat.reduceShiftRight, Nat.reduceAnd, Nat.reduceBEq, Bool.not_true, Bool.not_false, Bool.and_self, Bool.and_true, Bool.and_false, Nat.reduceSub, Nat.reduceLT, bne, qbh, qbN, trimO_f, qbA, qb8, isCall_st, Bool.and_false, Bool.and_true, L34b0, h0, h1, hi, upto_at, hs]
      rfl
    · refine qbm [(1, 0), (1, 1), (1, 2)] rfl (by simp only [qay, FUEL, qaD, qaB, qax, qaI, qa6, List.flatMap_cons, List.flatMap_nil, List.nil_append, List.cons_append, List.append_nil, List.range_zero, List.map_nil, List.contains_nil, List.contains_cons, Prod.mk.injEq, beq_iff_eq, Bool.or_eq_true, Bool.false_eq_true, Nat.reduceEqDiff, and_false, or_false, if_true, if_false, Nat.one_ne_zero, List.filter_cons, List.filter_nil, bne_iff_ne, ne_eq, not_false_eq_true, qaq, qbb, qa5, qaW, nms_N, L34k0, aB_nms, h0, h1, h2]) rfl ⟨_, rfl, ?_, ?_, ?_⟩
      · exact qaP (1, 0) rfl (by simp (disch := first | omega | decide | simp only [qaf, qad, qag, qae, qah, qac, qaa, qab, qai]) only [qaq, if_true, h0]) (qbB _ _ _)
      · exact qaP (1, 1) rfl (by simp (disch := first | omega | decide | simp only [qaf, qad, qag, qae, qah, qac, qaa, qab, qai]) only [qaq, Prod.mk.injEq, and_false, if_false, Nat.one_ne_zero, h1]) (qbB _ _ _)
      · exact qaP (1, 2) rfl (by simp (disch := first | omega | decide | simp only [qaf, qad, qag, qae, qah, qac, qaa, qab, qai]) only [qaq, Prod.mk.injEq, Nat.reduceEqDiff, and_false, if_false, h2]) (qbB _ _ _)
  · refine qbm [(2, 0), (3, 0), (4, 0)] rfl (by simp only [qay, FUEL, qaD, qaB, qax, qaI, qa6, List.flatMap_cons, List.flatMap_nil, List.nil_append, List.cons_append, List.append_nil, List.range_zero, List.map_nil, List.contains_nil, List.contains_cons, Prod.mk.injEq, beq_iff_eq, Bool.or_eq_true, Bool.false_eq_true, Nat.reduceEqDiff, and_true, or_false, if_true, if_false, List.filter_cons, List.filter_nil, bne_iff_ne, ne_eq, not_false_eq_true, qaq, qbb, qa5, qaW, qa0, nms_N, L34k0, aB_nms]) rfl ⟨_, rfl, ?_, ?_, ?_⟩
    · rw [upto_zero]; exact qaP (2, 0) rfl (by simp (disch := first | omega | decide | simp only [qaf, qad, qag, qae, qah, qac, qaa, qab, qai]) only [qaq, Prod.mk.injEq, Nat.reduceEqDiff, and_true, if_true, if_false, qa0]) (qbB _ _ _)
    · exact qaP (3, 0) rfl (by simp (disch := first | omega | decide | simp only [qaf, qad, qag, qae, qah, qac, qaa, qab, qai]) only [qaq, Prod.mk.injEq, Nat.reduceEqDiff, and_true, if_true, if_false, qa0]) (qbB _ _ _)
    · exact qaP (4, 0) rfl (by simp (disch := first | omega | decide | simp only [qaf, qad, qag, qae, qah, qac, qaa, qab, qai]) only [qaq, Prod.mk.injEq, Nat.reduceEqDiff, and_true, if_true, if_false, qa0]) (qbB _ _ _)
  · rintro st ⟨H, rfl, h0, h1, h2⟩
    apply qb7
    simp (disch := first | omega | decide | simp only [qaf, qad, qag, qae, qah, qac, qaa, qab, qai]) only [qbx, qav, qap, qao, qam, qal, qaO, qar, qaC, qaH, qas, qaJ, qaj, qaU, qaL, qaF, List.set_cons_zero, List.set_cons_succ, List.getD_cons_zero, List.getD_cons_succ, List.length_cons, List.length_nil, Nat.reduceAdd, Nat.zero_add, Nat.add_zero, decide_false, Nat.add_zero, Nat.zero_add, qbp, Nat.reduceAdd, Nat.lt_irrefl, decide_false, L34b0]
    rfl
  · rintro st ⟨H, rfl, h0, h1, h2⟩ rfl
    simp (disch := first | omega | decide | simp only [qaf, qad, qag, qae, qah, qac, qaa, qab, qai]) only [qbD, qbx, qav, qap, qao, qam, qal, qaO, qar, qbo, qaC, qaH, qas, qaJ, qaj, qaU, qbL, qaL, qaF, qbi, List.set_cons_zero, List.set_cons_succ, List.getD_cons_zero, List.getD_cons_succ, List.length_cons, List.length_nil, Option.map_some, Nat.reduceAdd, qaq, stepK_mod, qa9, qaQ, qbU, op_ld, op_st, qbt, if_true, Nat.zero_add, Nat.add_zero, decide_false, resVal_agg, aggV_some, aB_cells, aB_st_all, aB_outOf, Nat.add_zero, Nat.zero_add, qbp, Nat.reduceAdd, Nat.lt_irrefl, decide_false, Option.map_some, L34b0, h0, h2, upto_all]

/-! ### the cipher's -/

theorem TB_bx (x : BitVec 8) : TB x.toNat = BX x.toNat := if_pos x.isLt
theorem TB_ub (x : BitVec 8) : TB (256 + x.toNat) = UB x.toNat := by
  have := x.isLt
  rw [TB, if_neg (by omega), if_pos (by omega), Nat.add_sub_cancel_left]
theorem TB_off (k : Nat) (x : BitVec 8) : BitVec.ofNat 8 (256 * k + x.toNat) = x := by
  have := x.isLt
  apply BitVec.eq_of_toNat_eq; simp only [BitVec.toNat_ofNat]; omega
theorem TB_2 (x : BitVec 8) : TB (512 + x.toNat) = T2 x := by
  have := x.isLt
  rw [TB, if_neg (by omega), if_neg (by omega), if_pos (by omega)]; exact congrArg T2 (TB_off 2 x)
theorem TB_9 (x : BitVec 8) : TB (768 + x.toNat) = T9 x := by
  have := x.isLt
  rw [TB, if_neg (by omega), if_neg (by omega), if_neg (by omega), if_pos (by omega)]; exact congrArg T9 (TB_off 3 x)
theorem TB_11 (x : BitVec 8) : TB (1024 + x.toNat) = T11 x := by
  have := x.isLt
  rw [TB, if_neg (by omega), if_neg (by omega), if_neg (by omega), if_neg (by omega), if_pos (by omega)]; exact congrArg T11 (TB_off 4 x)
theorem TB_13 (x : BitVec 8) : TB (1280 + x.toNat) = T13 x := by
  have := x.isLt
  rw [TB, if_neg (by omega), if_neg (by omega), if_neg (by omega), if_neg (by omega), if_neg (by omega), if_pos (by omega)]; exact congrArg T13 (TB_off 5 x)
theorem TB_14 (x : BitVec 8) : TB (1536 + x.toNat) = T14 x := by
  have := x.isLt
  rw [TB, if_neg (by omega), if_neg (by omega), if_neg (by omega), if_neg (by omega), if_neg (by omega), if_neg (by omega)]; exact congrArg T14 (TB_off 6 x)
theorem CT_bx (r : LV) (x : BitVec 8) : cellK (1 + x.toNat) 1 (some (CF r TB)) = some [B8 (BX x.toNat)] := by
  have := x.isLt
  rw [CF_at' r TB _ x.toNat (by omega) (by omega), TB_bx]
theorem CT_ub (r : LV) (x : BitVec 8) : cellK (257 + x.toNat) 1 (some (CF r TB)) = some [B8 (UB x.toNat)] := by
  have := x.isLt
  rw [CF_at' r TB _ (256 + x.toNat) (by omega) (by omega), TB_ub]
theorem CT_2 (r : LV) (x : BitVec 8) : cellK (513 + x.toNat) 1 (some (CF r TB)) = some [B8 (T2 x)] := by
  have := x.isLt
  rw [CF_at' r TB _ (512 + x.toNat) (by omega) (by omega), TB_2]
theorem CT_9 (r : LV) (x : BitVec 8) : cellK (769 + x.toNat) 1 (some (CF r TB)) = some [B8 (T9 x)] := by
  have := x.isLt
  rw [CF_at' r TB _ (768 + x.toNat) (by omega) (by omega), TB_9]
theorem CT_11 (r : LV) (x : BitVec 8) : cellK (1025 + x.toNat) 1 (some (CF r TB)) = some [B8 (T11 x)] := by
  have := x.isLt
  rw [CF_at' r TB _ (1024 + x.toNat) (by omega) (by omega), TB_11]
theorem CT_13 (r : LV) (x : BitVec 8) : cellK (1281 + x.toNat) 1 (some (CF r TB)) = some [B8 (T13 x)] := by
  have := x.isLt
  rw [CF_at' r TB _ (1280 + x.toNat) (by omega) (by omega), TB_13]
theorem CT_14 (r : LV) (x : BitVec 8) : cellK (1537 + x.toNat) 1 (some (CF r TB)) = some [B8 (T14 x)] := by
  have := x.isLt
  rw [CF_at' r TB _ (1536 + x.toNat) (by omega) (by omega), TB_14]

def rJ (len : Nat) (cap : Option Nat) (l : List (BitVec 8)) (s : R) (i : Nat) (st : St) : Prop := ∃ (H : Heap), st = ⟨[.ptr (0, 0) 0, .undef, .undef, .ptr (1, 0) 0, .ptr (1, 1) 0, .ptr (1, 2) 0, .undef, .undef, N i, .undef, .undef, .undef, .undef, .undef, .undef, .undef, .undef, .undef, .undef, .undef, .undef, .undef, .undef, .undef, .undef, .undef, .undef, .undef], H, 2, 2⟩ ∧
  H (0, 0) = some (CF (.sl (0, 1) 0 len cap 16) TB) ∧ H (0, 1) = some (bs l) ∧ H (1, 0) = some (aB 16 s) ∧ H (1, 1) = some (aB 16 fun _ => 0#8) ∧ H (1, 2) = some (aB 16 (upto i (rnd s) fun _ => 0#8))

theorem round_F (k len : Nat) (cap : Option Nat) (l : List (BitVec 8)) (s : R) : F C (k + 30) 36 [.ptr (0, 0) 0, .agg (aB 16 s)] [CF (.sl (0, 1) 0 len cap 16) TB, bs l] =
    some (.agg (aB 16 (rnd s)), [some (CF (.sl (0, 1) 0 len cap 16) TB), some (bs l)], []) := by
  rw [qbK f36]
  simp (disch := first | omega | decide | simp only [qaf, qad, qag, qae, qah, qac, qaa, qab, qai]) only [qba, qav, qbg, qap, qao, qam, qal, qaO, qar, qbo, qaC, qaH, qaK, qaj, List.set_cons_zero, List.set_cons_succ, List.getD_cons_zero, List.getD_cons_succ, List.map_nil, List.nil_append, List.cons_append, qa4, List.replicate_zero, List.length_cons, List.length_nil, ev_loop, Nat.reduceAdd, Nat.reduceSub, qaq, stepK_new, stepK_mod, qa9, op_new, op_box, qb2, op_st, qbt, fill_nil, aggR_some, op_build, Prod.mk.injEq, Nat.reduceEqDiff, and_true, if_true, if_false, Nat.zero_add, Nat.add_zero, aB_rep, aB_st_all, Nat.add_zero, Nat.zero_add, Nat.reduceEqDiff, Nat.reduceAdd, qa0, L36]
  generalize hL : loopN L36k0 _ _ _ = r
  refine loop_use hL (rJ len cap l s) 16 (by omega) ?_ ?_ ?_ ?_
  · rintro i st hi ⟨H, rfl, h0, h1, h2, h3, h4⟩
    have hm : (i + 4 * (i % 4)) % 16 < 16 := by omega
    have hs := upto_succ i (rnd s) (fun _ => 0#8) (BX (s ((i + 4 * (i % 4)) % 16)).toNat) rfl
    apply Exists.intro
    apply And.intro
    · simp (disch := first | omega | decide | simp only [qaf, qad, qag, qae, qah, qac, qaa, qab, qai]) only [qbv, qav, qbg, qap, qao, qam, qal, qaO, qar, qbo, qaC, qaH, qas, qaK, qaJ, qaj, qbc, qaL, qbq, nms_B8, List.set_cons_zero, List.set_cons_succ, List.getD_cons_zero, List.getD_cons_succ, List.append_nil, List.length_cons, List.length_nil, B8_nat, Nat.reduceAdd, Nat.reduceSub, cellsOf_B8, qaQ, qbs, op_ld1, op_st, qbt, op_fa, faV_ptr, op_iaA, iaV_lt, List.all_cons, List.all_nil, Bool.and_true, Nat.reduceLT, if_true, Nat.zero_add, Nat.add_zero, decide_true, aB_cell, aB_st, Nat.mul_one, Nat.add_zero, Nat.zero_add, B8_nat, N_add, N_mul, N_rem, qbp, N_nat, Nat.reduceLT, Nat.reduceAdd, decide_true, nm_beq, Bool.not_false, Bool.not_true, op_chk, qb3, Nat.mul_one, qa7, qbr, ordK_pure, ordK_mod, qbV, touch_ld1, touch_st, qaI, List.contains_cons, List.contains_nil, beq_self_eq_true, Bool.or_true, Bool.or_false, ordOk, qaZ, List.all_cons, List.all_nil, Nat.testBit, Nat.reduceShiftRight, Nat.reduceAnd, Nat.reduceBEq, Bool.not_true, Bool.not_false, Bool.and_self, Bool.and_true, Bool.and_false, Nat.reduceSub, Nat.reduceLT, bne, qbh, qbN, trimO_f, qbA, qb8, isCall_st, Bool.and_false, Bool.and_true, L36b0, h0, h2, h4, hi, CT_bx, hs]
      rfl
    · refine qbm [(1, 0), (1, 1), (1, 2)] rfl (by simp only [qay, FUEL, qaD, qaB, qax, qaI, qaT, qa6, List.flatMap_cons, List.flatMap_nil, List.nil_append, List.cons_append, List.append_nil, List.map_nil, List.map_cons, List.contains_nil, List.contains_cons, Prod.mk.injEq, beq_iff_eq, Bool.or_eq_true, Bool.false_eq_true, Nat.reduceEqDiff, and_true, and_false, or_false, or_true, if_true, if_false, Nat.one_ne_zero, Nat.zero_ne_one, List.filter_cons, List.filter_nil, bne_iff_ne, ne_eq, not_false_eq_true, not_true_eq_false, qaq, qbb, qa5, qaW, qbQ, nms_N, L36k0, aB_nms, qaR, qaw, h0, h1, h2, h3, h4]) rfl ⟨_, rfl, ?_, ?_, ?_, ?_, ?_⟩
      · rw [qbF]; simp (disch := first | omega | decide | simp only [qaf, qad, qag, qae, qah, qac, qaa, qab, qai]) only [Option.map_some, qaq, Prod.mk.injEq, Nat.reduceEqDiff, and_self, if_false, Nat.zero_ne_one, qby, Option.map_some, qaX, qbe, h0, qaV]
      · rw [qbF]; simp (disch := first | omega | decide | simp only [qaf, qad, qag, qae, qah, qac, qaa, qab, qai]) only [Option.map_some, qaq, Prod.mk.injEq, Nat.reduceEqDiff, and_self, if_false, Nat.zero_ne_one, Option.map_some, qaE, h1]
      · exact qaP (1, 0) rfl (by simp (disch := first | omega | decide | simp only [qaf, qad, qag, qae, qah, qac, qaa, qab, qai]) only [qaq, Prod.mk.injEq, Nat.reduceEqDiff, and_false, if_false, h2]) (qbB _ _ _)
      · exact qaP (1, 1) rfl (by simp (disch := first | omega | decide | simp only [qaf, qad, qag, qae, qah, qac, qaa, qab, qai]) only [qaq, Prod.mk.injEq, Nat.reduceEqDiff, and_false, if_false, h3]) (qbB _ _ _)
      · exact qaP (1, 2) rfl (by simp (disch := first | omega | decide | simp only [qaf, qad, qag, qae, qah, qac, qaa, qab, qai]) only [qaq, if_true]) (qbB _ _ _)
  · refine qbm [(2, 0), (3, 0), (5, 0)] rfl (by simp only [qay, FUEL, qaD, qaB, qax, qaI, qaT, qa6, List.flatMap_cons, List.flatMap_nil, List.nil_append, List.cons_append, List.append_nil, List.map_nil, List.map_cons, List.contains_nil, List.contains_cons, Prod.mk.injEq, beq_iff_eq, Bool.or_eq_true, Bool.false_eq_true, Nat.reduceEqDiff, and_true, and_false, or_false, or_true, if_true, if_false, Nat.one_ne_zero, Nat.zero_ne_one, List.filter_cons, List.filter_nil, bne_iff_ne, ne_eq, not_false_eq_true, not_true_eq_false, qaq, qbb, qa5, qaW, qbG, qa0, qbQ, List.getElem?_cons_zero, List.getElem?_cons_succ, nms_N, L36k0, aB_nms, qaR, qaw]) rfl ⟨_, rfl, ?_, ?_, ?_, ?_, ?_⟩
    · rw [qbF]; simp (disch := first | omega | decide | simp only [qaf, qad, qag, qae, qah, qac, qaa, qab, qai]) only [Option.map_some, qaq, Prod.mk.injEq, Nat.reduceEqDiff, and_true, if_false, qby, Option.map_some, qbG, List.getElem?_cons_zero, qaX, qbe, qaV]
    · rw [qbF]; simp (disch := first | omega | decide | simp only [qaf, qad, qag, qae, qah, qac, qaa, qab, qai]) only [Option.map_some, qaq, Prod.mk.injEq, Nat.reduceEqDiff, and_self, if_false, Nat.one_ne_zero, Option.map_some, qaE, qbG, List.getElem?_cons_zero, List.getElem?_cons_succ]
    · exact qaP (2, 0) rfl (by simp (disch := first | omega | decide | simp only [qaf, qad, qag, qae, qah, qac, qaa, qab, qai]) only [qaq, Prod.mk.injEq, Nat.reduceEqDiff, and_true, if_true, if_false, qa0]) (qbB _ _ _)
    · exact qaP (3, 0) rfl (by simp (disch := first | omega | decide | simp only [qaf, qad, qag, qae, qah, qac, qaa, qab, qai]) only [qaq, Prod.mk.injEq, Nat.reduceEqDiff, and_true, if_true, if_false, qa0]) (qbB _ _ _)
    · rw [upto_zero]; exact qaP (5, 0) rfl (by simp (disch := first | omega | decide | simp only [qaf, qad, qag, qae, qah, qac, qaa, qab, qai]) only [qaq, Prod.mk.injEq, Nat.reduceEqDiff, and_true, if_true, if_false, qa0]) (qbB _ _ _)
  · rintro st ⟨H, rfl, h0, h1, h2, h3, h4⟩
    apply qb7
    simp (disch := first | omega | decide | simp only [qaf, qad, qag, qae, qah, qac, qaa, qab, qai]) only [qbx, qav, qap, qao, qam, qal, qaO, qar, qaC, qaH, qas, qaJ, qaj, qaU, qaL, qaF, List.set_cons_zero, List.set_cons_succ, List.getD_cons_zero, List.getD_cons_succ, List.length_cons, List.length_nil, Nat.reduceAdd, Nat.zero_add, Nat.add_zero, decide_false, Nat.add_zero, Nat.zero_add, qbp, Nat.reduceAdd, Nat.lt_irrefl, decide_false, L36b0]
    rfl
  · rintro st ⟨H, rfl, h0, h1, h2, h3, h4⟩ rfl
    simp (disch := first | omega | decide | simp only [qaf, qad, qag, qae, qah, qac, qaa, qab, qai]) only [qbD, qbx, qav, qap, qao, qam, qal, qaO, qar, qbo, qaC, qaH, qas, qaJ, qaj, qaU, qbL, qaL, qaF, qbi, List.set_cons_zero, List.set_cons_succ, List.getD_cons_zero, List.getD_cons_succ, List.length_cons, List.length_nil, Option.map_some, Nat.reduceAdd, qaq, stepK_mod, qa9, qaQ, qbU, op_ld, op_st, qbt, if_true, Nat.zero_add, Nat.add_zero, decide_false, resVal_agg, aggV_some, aB_cells, aB_st_all, Nat.add_zero, Nat.zero_add, qbp, Nat.reduceAdd, Nat.lt_irrefl, decide_false, Option.map_some, L36b0, h3, h4, upto_all]
    rw [outOf_mem 2 _ _ [] (by simp only [qay, FUEL, qaD, qaB, qax, qaT, List.flatMap_cons, List.flatMap_nil, List.nil_append, List.cons_append, List.append_nil, List.map_nil, List.map_cons, List.contains_nil, List.contains_cons, Prod.mk.injEq, beq_iff_eq, Bool.or_eq_true, Bool.false_eq_true, and_true, and_false, or_false, or_true, if_true, if_false, Nat.one_ne_zero, Nat.zero_ne_one, List.filter_cons, List.filter_nil, bne_iff_ne, ne_eq, not_true_eq_false, qaq, qbQ, qaR, qaw, qbn, h0, h1])]
    simp (disch := first | omega | decide | simp only [qaf, qad, qag, qae, qah, qac, qaa, qab, qai]) only [List.map_cons, List.map_nil, Option.map_some, qaq, Prod.mk.injEq, false_and, if_false, Nat.zero_ne_one, qby, List.filterMap_nil, Option.map_some, qaE, qbQ, qaX, qbe, qaV, qbO, h0, h1]

/-! unround -/

def urT (i : Nat) (s : R) : R := fun j => if j < 16 ∧ (j + 12 * (j % 4)) % 16 < i then unrnd s j else 0#8
theorem urT_succ (i : Nat) (hi : i < 16) (s : R) : set1 (urT i s) ((i + 4 * (i % 4)) % 16) (UB (s i).toNat) = urT (i + 1) s := by
  funext j
  simp only [set1, urT]
  by_cases h : j = (i + 4 * (i % 4)) % 16
  · have e : (j + 12 * (j % 4)) % 16 = i := by omega
    rw [if_pos h, if_pos (by omega), unrnd, e]
  · rw [if_neg h]
    by_cases h2 : j < 16 ∧ (j + 12 * (j % 4)) % 16 < i
    · rw [if_pos h2, if_pos (by omega)]
    · rw [if_neg h2, if_neg (by omega)]
theorem urT_zero (s : R) : urT 0 s = fun _ => 0#8 := by funext j; simp [urT]
theorem urT_all (s : R) : aB 16 (urT 16 s) = aB 16 (unrnd s) := aB_ext 16 fun j h => by rw [urT, if_pos (by omega)]

def uJ (len : Nat) (cap : Option Nat) (l : List (BitVec 8)) (s : R) (i : Nat) (st : St) : Prop := ∃ (H : Heap), st = ⟨[.ptr (0, 0) 0, .undef, .undef, .undef, .ptr (1, 0) 0, .ptr (1, 1) 0, .undef, .undef, .undef, .agg (aB 16 s), N i, .undef, .undef, .undef, .undef, .undef, .undef, .undef, .undef, .undef, .undef, .undef, .undef, .undef, .undef, .undef, .undef, .undef, .undef], H, 2, 2⟩ ∧
  H (0, 0) = some (CF (.sl (0, 1) 0 len cap 16) TB) ∧ H (0, 1) = some (bs l) ∧ H (1, 0) = some (aB 16 fun _ => 0#8) ∧ H (1, 1) = some (aB 16 (urT i s))

theorem unround_F (k len : Nat) (cap : Option Nat) (l : List (BitVec 8)) (s : R) : F C (k + 30) 40 [.ptr (0, 0) 0, .agg (aB 16 s)] [CF (.sl (0, 1) 0 len cap 16) TB, bs l] =
    some (.agg (aB 16 (unrnd s)), [some (CF (.sl (0, 1) 0 len cap 16) TB), some (bs l)], []) := by
  rw [qbK f40]
  simp (disch := first | omega | decide | simp only [qaf, qad, qag, qae, qah, qac, qaa, qab, qai]) only [qba, qav, qbg, qap, qao, qam, qal, qaO, qar, qbo, qaC, qaH, qaK, qaj, List.set_cons_zero, List.set_cons_succ, List.getD_cons_zero, List.getD_cons_succ, List.map_nil, List.nil_append, List.cons_append, qa4, List.replicate_zero, List.length_cons, List.length_nil, ev_loop, Nat.reduceAdd, Nat.reduceSub, qaq, stepK_new, stepK_mod, qa9, qaQ, qbU, op_ld, op_new, op_box, qb2, op_st, qbt, fill_nil, aggR_some, op_build, Prod.mk.injEq, Nat.reduceEqDiff, and_true, if_true, if_false, Nat.zero_add, Nat.add_zero, aB_rep, aB_cells, aB_st_all, Nat.add_zero, Nat.zero_add, Nat.reduceEqDiff, Nat.reduceAdd, qa0, L40]
  generalize hL : loopN L40k0 _ _ _ = r
  refine loop_use hL (uJ len cap l s) 16 (by omega) ?_ ?_ ?_ ?_
  · rintro i st hi ⟨H, rfl, h0, h1, h2, h3⟩
    have hm : (i + 4 * (i % 4)) % 16 < 16 := by omega
    have hm2 : (i + i % 4 * 4) % 16 = (i + 4 * (i % 4)) % 16 := by omega
    have hs := urT_succ i hi s
    apply Exists.intro
    apply And.intro
    · simp (disch := first | omega | decide | simp only [qaf, qad, qag, qae, qah, qac, qaa, qab, qai]) only [qbv, qav, qbg, qap, qao, qam, qal, qaO, qar, qbo, qaC, qaH, qas, qaK, qaJ, qaj, qbc, qaL, qbq, List.set_cons_zero, List.set_cons_succ, List.getD_cons_zero, List.getD_cons_succ, List.length_cons, List.length_nil, B8_nat, Nat.reduceAdd, stepK_mod, cellsOf_B8, qaQ, qbs, op_ld1, op_st, qbt, op_fa, faV_ptr, op_iaA, iaV_lt, Nat.zero_add, Nat.add_zero, decide_true, op_ix1, aB_st, aB_ix1, Nat.mul_one, Nat.add_zero, Nat.zero_add, B8_nat, N_add, N_mul, N_rem, qbp, N_nat, Nat.reduceAdd, decide_true, op_chk, qb3, Nat.mul_one, L40b0, h0, h3, hi, CT_ub, hs]
      rfl
    · refine qbm [(1, 0), (1, 1)] rfl (by simp only [qay, FUEL, qaD, qaB, qax, qaI, qaT, qa6, List.flatMap_cons, List.flatMap_nil, List.nil_append, List.cons_append, List.append_nil, List.map_nil, List.map_cons, List.contains_nil, List.contains_cons, Prod.mk.injEq, beq_iff_eq, Bool.or_eq_true, Bool.false_eq_true, and_true, and_false, or_false, or_true, if_true, if_false, Nat.one_ne_zero, Nat.zero_ne_one, List.filter_cons, List.filter_nil, bne_iff_ne, ne_eq, not_false_eq_true, not_true_eq_false, qaq, qbb, qa5, qaW, qbQ, nms_N, L40k0, aB_nms, qbn, qaR, qaw, h0, h1, h2, h3]) (by simp only [List.map_nil, List.map_cons, qbb, qa5, qaW, L40k0, List.map_cons, List.map_nil, qbO]; rfl) ⟨_, rfl, ?_, ?_, ?_, ?_⟩
      · rw [qbF]; simp (disch := first | omega | decide | simp only [qaf, qad, qag, qae, qah, qac, qaa, qab, qai]) only [Option.map_some, qaq, Prod.mk.injEq, and_self, if_false, Nat.zero_ne_one, qby, Option.map_some, qaX, qbe, h0, qaV]
      · rw [qbF]; simp (disch := first | omega | decide | simp only [qaf, qad, qag, qae, qah, qac, qaa, qab, qai]) only [Option.map_some, qaq, Prod.mk.injEq, and_true, if_false, Nat.zero_ne_one, Option.map_some, qaE, h1]
      · exact qaP (1, 0) rfl (by simp (disch := first | omega | decide | simp only [qaf, qad, qag, qae, qah, qac, qaa, qab, qai]) only [qaq, Prod.mk.injEq, and_false, if_false, Nat.zero_ne_one, h2]) (qbB _ _ _)
      · exact qaP (1, 1) rfl (by simp (disch := first | omega | decide | simp only [qaf, qad, qag, qae, qah, qac, qaa, qab, qai]) only [qaq, if_true, h3]) (qbB _ _ _)
  · refine qbm [(3, 0), (5, 0)] rfl (by simp only [qay, FUEL, qaD, qaB, qax, qaI, qaT, qa6, List.flatMap_cons, List.flatMap_nil, List.nil_append, List.cons_append, List.append_nil, List.map_nil, List.map_cons, List.contains_nil, List.contains_cons, Prod.mk.injEq, beq_iff_eq, Bool.or_eq_true, Bool.false_eq_true, Nat.reduceEqDiff, and_true, and_false, or_false, or_true, if_true, if_false, Nat.one_ne_zero, Nat.zero_ne_one, List.filter_cons, List.filter_nil, bne_iff_ne, ne_eq, not_false_eq_true, not_true_eq_false, qaq, qbb, qa5, qaW, qbG, qa0, qbQ, List.getElem?_cons_zero, List.getElem?_cons_succ, nms_N, L40k0, aB_nms, qbn, qaR, qaw]) (by simp only [List.map_nil, List.map_cons, qbb, qa5, qaW, L40k0, List.map_cons, List.map_nil, qbO]; rfl) ⟨_, rfl, ?_, ?_, ?_, ?_⟩
    · rw [qbF]; simp (disch := first | omega | decide | simp only [qaf, qad, qag, qae, qah, qac, qaa, qab, qai]) only [Option.map_some, qaq, Prod.mk.injEq, Nat.reduceEqDiff, and_true, if_false, qby, Option.map_some, qbG, List.getElem?_cons_zero, qaX, qbe, qaV]
    · rw [qbF]; simp (disch := first | omega | decide | simp only [qaf, qad, qag, qae, qah, qac, qaa, qab, qai]) only [Option.map_some, qaq, Prod.mk.injEq, Nat.reduceEqDiff, and_self, if_false, Nat.one_ne_zero, Option.map_some, qaE, qbG, List.getElem?_cons_zero, List.getElem?_cons_succ]
    · exact qaP (3, 0) rfl (by simp (disch := first | omega | decide | simp only [qaf, qad, qag, qae, qah, qac, qaa, qab, qai]) only [qaq, Prod.mk.injEq, Nat.reduceEqDiff, and_true, if_true, if_false, qa0]) (qbB _ _ _)
    · rw [urT_zero]; exact qaP (5, 0) rfl (by simp (disch := first | omega | decide | simp only [qaf, qad, qag, qae, qah, qac, qaa, qab, qai]) only [qaq, Prod.mk.injEq, Nat.reduceEqDiff, and_true, if_true, if_false, qa0]) (qbB _ _ _)
  · rintro st ⟨H, rfl, h0, h1, h2, h3⟩
    apply qb7
    simp (disch := first | omega | decide | simp only [qaf, qad, qag, qae, qah, qac, qaa, qab, qai]) only [qbx, qav, qap, qao, qam, qal, qaO, qar, qaC, qaH, qas, qaJ, qaj, qaU, qaL, qaF, List.set_cons_zero, List.set_cons_succ, List.getD_cons_zero, List.getD_cons_succ, List.length_cons, List.length_nil, Nat.reduceAdd, Nat.zero_add, Nat.add_zero, decide_false, Nat.add_zero, Nat.zero_add, qbp, Nat.reduceAdd, Nat.lt_irrefl, decide_false, L40b0]
    rfl
  · rintro st ⟨H, rfl, h0, h1, h2, h3⟩ rfl
    simp (disch := first | omega | decide | simp only [qaf, qad, qag, qae, qah, qac, qaa, qab, qai]) only [qbD, qbx, qav, qap, qao, qam, qal, qaO, qar, qbo, qaC, qaH, qas, qaJ, qaj, qaU, qbL, qaL, qaF, qbi, List.set_cons_zero, List.set_cons_succ, List.getD_cons_zero, List.getD_cons_succ, List.length_cons, List.length_nil, Option.map_some, Nat.reduceAdd, qaq, stepK_mod, qa9, qaQ, qbU, op_ld, op_st, qbt, if_true, Nat.zero_add, Nat.add_zero, decide_false, resVal_agg, aggV_some, aB_cells, aB_st_all, Nat.add_zero, Nat.zero_add, qbp, Nat.reduceAdd, Nat.lt_irrefl, decide_false, Option.map_some, L40b0, h2, h3, urT_all]
    rw [outOf_mem 2 _ _ [] (by simp only [qay, FUEL, qaD, qaB, qax, qaT, List.flatMap_cons, List.flatMap_nil, List.nil_append, List.cons_append, List.append_nil, List.map_nil, List.map_cons, List.contains_nil, List.contains_cons, Prod.mk.injEq, beq_iff_eq, Bool.or_eq_true, Bool.false_eq_true, and_true, and_false, or_false, or_true, if_true, if_false, Nat.one_ne_zero, Nat.zero_ne_one, List.filter_cons, List.filter_nil, bne_iff_ne, ne_eq, not_true_eq_false, qaq, qbQ, qaR, qaw, qbn, h0, h1])]
    simp (disch := first | omega | decide | simp only [qaf, qad, qag, qae, qah, qac, qaa, qab, qai]) only [List.map_cons, List.map_nil, Option.map_some, qaq, Prod.mk.injEq, false_and, if_false, Nat.zero_ne_one, qby, List.filterMap_nil, Option.map_some, qaE, qbQ, qaX, qbe, qaV, qbO, h0, h1]
end Aes

namespace Aes
open Go Go.LE

theorem upto_ge (i j : Nat) (f g : R) (h : i ≤ j) : upto i f g j = g j := if_neg (by omega)
theorem at4_col (s : R) (c r k : Nat) (hr : r < 4) : at4 s (4 * c + r) k = s (4 * c + (r + k) % 4) := by
  rw [at4]; congr 1; omega
theorem at4_col0 (s : R) (c k : Nat) (hk : k < 4) : at4 s (4 * c) k = s (4 * c + k) := by
  rw [at4]; congr 1; omega
theorem upto4 (c : Nat) (f g : R) (v0 v1 v2 v3 : BitVec 8) (h0 : v0 = f (4 * c)) (h1 : v1 = f (4 * c + 1)) (h2 : v2 = f (4 * c + 2)) (h3 : v3 = f (4 * c + 3)) :
    set1 (set1 (set1 (set1 (upto (4 * c) f g) (4 * c) v0) (4 * c + 1) v1) (4 * c + 2) v2) (4 * c + 3) v3 = upto (4 * (c + 1)) f g := by
  rw [upto_succ _ _ _ _ h0, upto_succ _ _ _ _ h1, upto_succ _ _ _ _ h2, upto_succ _ _ _ _ h3]; rfl
theorem xc (a b c : BitVec 8) : a ^^^ (b ^^^ c) = b ^^^ (a ^^^ c) := by rw [← BitVec.xor_assoc, BitVec.xor_comm a b, BitVec.xor_assoc]

def mJ (len : Nat) (cap : Option Nat) (l : List (BitVec 8)) (s : R) (i : Nat) (st : St) : Prop := ∃ (H : Heap), st = ⟨[.ptr (0, 0) 0, .undef, .undef, .ptr (1, 0) 0, .ptr (1, 1) 0, N (4 * i), .undef, .undef, .undef, .undef, .undef, .undef, .undef, .undef, .undef, .undef, .undef, .undef, .undef, .undef, .undef, .undef, .undef, .undef, .undef, .undef, .undef, .undef, .undef, .undef, .undef, .undef, .undef, .undef, .undef, .undef, .undef, .undef, .undef, .undef, .undef, .undef, .undef, .undef, .undef, .undef, .undef, .undef, .undef, .undef, .undef, .undef, .undef, .undef, .undef, .undef, .undef, .undef, .undef, .undef, .undef, .undef, .undef, .undef, .undef, .undef, .undef, .undef, .undef, .undef, .undef, .undef, .undef, .undef, .undef, .undef, .undef, .undef, .undef, .undef, .undef, .undef, .undef, .undef, .undef, .undef, .undef, .undef, .undef, .undef, .undef, .undef, .undef, .undef, .undef, .undef, .undef], H, 2, 2⟩ ∧
  H (0, 0) = some (CF (.sl (0, 1) 0 len cap 16) TB) ∧ H (0, 1) = some (bs l) ∧ H (1, 0) = some (aB 16 (upto (4 * i) (mix s) s)) ∧ H (1, 1) = some (aB 16 fun _ => 0#8)

theorem mix_F (k len : Nat) (cap : Option Nat) (l : List (BitVec 8)) (s : R) : F C (k + 30) 35 [.ptr (0, 0) 0, .agg (aB 16 s)] [CF (.sl (0, 1) 0 len cap 16) TB, bs l] =
    some (.agg (aB 16 (mix s)), [some (CF (.sl (0, 1) 0 len cap 16) TB), some (bs l)], []) := by
  rw [qbK f35]
  simp (disch := first | omega | decide | simp only [qaf, qad, qag, qae, qah, qac, qaa, qab, qai]) only [qba, qav, qbg, qap, qao, qam, qal, qaO, qar, qaC, qaH, qaK, qaj, List.set_cons_zero, List.set_cons_succ, List.getD_cons_zero, List.getD_cons_succ, List.nil_append, List.cons_append, qa4, List.replicate_zero, List.length_cons, List.length_nil, ev_loop, Nat.reduceAdd, Nat.reduceSub, stepK_new, qa9, op_new, op_box, qb2, Nat.zero_add, Nat.add_zero, aB_rep, Nat.add_zero, Nat.zero_add, Nat.reduceAdd, L35]
  generalize hL : loopN L35k0 _ _ _ = r
  refine loop_use hL (mJ len cap l s) 4 (by omega) ?_ ?_ ?_ ?_
  · rintro i st hi ⟨H, rfl, h0, h1, h2, h3⟩
    have hm : 4 * i < 16 := by omega
    have e4 : 4 * i + 4 = 4 * (i + 1) := by omega
    have v0 : s (4 * i) ^^^ (s (4 * i) ^^^ s (4 * i + 1) ^^^ s (4 * i + 2) ^^^ s (4 * i + 3)) ^^^ T2 (s (4 * i) ^^^ s (4 * i + 1)) = mix s (4 * i) := by
      simp only [mix, at4_col0 s i _ (show 0 < 4 by decide), at4_col0 s i _ (show 1 < 4 by decide), at4_col0 s i _ (show 2 < 4 by decide), at4_col0 s i _ (show 3 < 4 by decide), Nat.add_zero, T2_lin]
      simp only [BitVec.xor_assoc, BitVec.xor_comm, xc, GF.xor_self_cancel]
    have v1 : s (4 * i + 1) ^^^ (s (4 * i) ^^^ s (4 * i + 1) ^^^ s (4 * i + 2) ^^^ s (4 * i + 3)) ^^^ T2 (s (4 * i + 1) ^^^ s (4 * i + 2)) = mix s (4 * i + 1) := by
      simp only [mix, at4_col s i 1 _ (by decide), Nat.reduceAdd, Nat.reduceMod, Nat.add_zero, T2_lin]
      simp only [BitVec.xor_assoc, BitVec.xor_comm, xc, GF.xor_self_cancel]
    have v2 : s (4 * i + 2) ^^^ (s (4 * i) ^^^ s (4 * i + 1) ^^^ s (4 * i + 2) ^^^ s (4 * i + 3)) ^^^ T2 (s (4 * i + 2) ^^^ s (4 * i + 3)) = mix s (4 * i + 2) := by
      simp only [mix, at4_col s i 2 _ (by decide), Nat.reduceAdd, Nat.reduceMod, Nat.add_zero, T2_lin]
      simp only [BitVec.xor_assoc, BitVec.xor_comm, xc, GF.xor_self_cancel]
    have v3 : s (4 * i + 3) ^^^ (s (4 * i) ^^^ s (4 * i + 1) ^^^ s (4 * i + 2) ^^^ s (4 * i + 3)) ^^^ T2 (s (4 * i + 3) ^^^ s (4 * i)) = mix s (4 * i + 3) := by
      simp only [mix, at4_col s i 3 _ (by decide), Nat.reduceAdd, Nat.reduceMod, Nat.add_zero, T2_lin]
      simp only [BitVec.xor_assoc, BitVec.xor_comm, xc, BitVec.xor_self, BitVec.xor_zero]
    have hs := upto4 i (mix s) s _ _ _ _ rfl rfl rfl rfl
    apply Exists.intro
    apply And.intro
    · simp (disch := first | omega | decide | simp only [qaf, qad, qag, qae, qah, qac, qaa, qab, qai]) only [qbv, qav, qbg, qap, qao, qam, qal, qaO, qar, qbo, qaC, qaH, qas, qaK, qaJ, qaj, qbc, qaL, qbq, nms_B8, List.set_cons_zero, List.set_cons_succ, List.getD_cons_zero, List.getD_cons_succ, List.append_nil, List.length_cons, List.length_nil, B8_xor, B8_nat, Nat.reduceAdd, Nat.reduceSub, qaq, cellsOf_B8, qaQ, qbs, op_ld1, op_st, qbt, op_fa, faV_ptr, op_iaA, iaV_lt, List.all_cons, List.all_nil, Bool.and_true, Nat.reduceLT, if_true, Nat.zero_add, Nat.add_zero, decide_true, aB_cell, aB_st, Nat.mul_one, Nat.add_zero, Nat.zero_add, B8_nat, N_add, qbp, N_nat, Nat.reduceLT, Nat.reduceAdd, decide_true, nm_beq, Bool.not_false, Bool.not_true, op_chk, qb3, Nat.mul_one, qa7, qbr, ordK_pure, ordK_mod, qbV, touch_ld1, touch_st, qaI, List.contains_cons, List.contains_nil, beq_self_eq_true, Bool.or_true, Bool.or_false, ordOk, qaZ, List.all_cons, List.all_nil, Nat.testBit, Nat.reduceShiftRight, Nat.reduceAnd, Nat.reduceBEq, Bool.not_true, Bool.not_false, Bool.and_self, Bool.and_true, Bool.and_false, Nat.reduceSub, Nat.reduceLT, bne, qbh, qbN, trimO_f, qbA, qb8, isCall_st, Bool.and_false, Bool.and_true, L35b0, h0, h2, hm, upto_ge, CT_2, v0, v1, v2, v3, hs, e4]
      rfl
    · refine qbm [(1, 0), (1, 1)] rfl (by simp only [qay, FUEL, qaD, qaB, qax, qaI, qaT, qa6, List.flatMap_cons, List.flatMap_nil, List.nil_append, List.cons_append, List.append_nil, List.map_nil, List.map_cons, List.contains_nil, List.contains_cons, Prod.mk.injEq, beq_iff_eq, Bool.or_eq_true, Bool.false_eq_true, and_true, and_false, or_false, or_true, if_true, if_false, Nat.one_ne_zero, Nat.zero_ne_one, List.filter_cons, List.filter_nil, bne_iff_ne, ne_eq, not_false_eq_true, not_true_eq_false, qaq, qbb, qa5, qaW, qbQ, nms_N, L35k0, aB_nms, qaR, qaw, h0, h1, h2, h3]) rfl ⟨_, rfl, ?_, ?_, ?_, ?_⟩
      · rw [qbF]; simp (disch := first | omega | decide | simp only [qaf, qad, qag, qae, qah, qac, qaa, qab, qai]) only [Option.map_some, qaq, Prod.mk.injEq, and_true, if_false, Nat.zero_ne_one, qby, Option.map_some, qaX, qbe, h0, qaV]
      · rw [qbF]; simp (disch := first | omega | decide | simp only [qaf, qad, qag, qae, qah, qac, qaa, qab, qai]) only [Option.map_some, qaq, Prod.mk.injEq, and_self, if_false, Nat.one_ne_zero, Nat.zero_ne_one, Option.map_some, qaE, h1]
      · exact qaP (1, 0) rfl (by simp (disch := first | omega | decide | simp only [qaf, qad, qag, qae, qah, qac, qaa, qab, qai]) only [qaq, if_true, h2]) (qbB _ _ _)
      · exact qaP (1, 1) rfl (by simp (disch := first | omega | decide | simp only [qaf, qad, qag, qae, qah, qac, qaa, qab, qai]) only [qaq, Prod.mk.injEq, and_false, if_false, Nat.one_ne_zero, h3]) (qbB _ _ _)
  · refine qbm [(2, 0), (3, 0)] rfl (by simp only [qay, FUEL, qaD, qaB, qax, qaI, qaT, qa6, List.flatMap_cons, List.flatMap_nil, List.nil_append, List.cons_append, List.append_nil, List.map_nil, List.map_cons, List.contains_nil, List.contains_cons, Prod.mk.injEq, beq_iff_eq, Bool.or_eq_true, Bool.false_eq_true, Nat.reduceEqDiff, and_true, and_false, or_false, or_true, if_true, if_false, Nat.one_ne_zero, Nat.zero_ne_one, List.filter_cons, List.filter_nil, bne_iff_ne, ne_eq, not_false_eq_true, not_true_eq_false, qaq, qbb, qa5, qaW, qbG, qa0, qbQ, List.getElem?_cons_zero, List.getElem?_cons_succ, nms_N, L35k0, aB_nms, qaR, qaw]) rfl ⟨_, rfl, ?_, ?_, ?_, ?_⟩
    · rw [qbF]; simp (disch := first | omega | decide | simp only [qaf, qad, qag, qae, qah, qac, qaa, qab, qai]) only [Option.map_some, qaq, Prod.mk.injEq, Nat.reduceEqDiff, and_true, if_false, qby, Option.map_some, qbG, List.getElem?_cons_zero, qaX, qbe, qaV]
    · rw [qbF]; simp (disch := first | omega | decide | simp only [qaf, qad, qag, qae, qah, qac, qaa, qab, qai]) only [Option.map_some, qaq, Prod.mk.injEq, Nat.reduceEqDiff, and_self, if_false, Nat.one_ne_zero, Option.map_some, qaE, qbG, List.getElem?_cons_zero, List.getElem?_cons_succ]
    · rw [Nat.mul_zero, upto_zero]; exact qaP (2, 0) rfl (by simp (disch := first | omega | decide | simp only [qaf, qad, qag, qae, qah, qac, qaa, qab, qai]) only [qaq, Prod.mk.injEq, Nat.reduceEqDiff, and_true, if_true, if_false, qa0]) (qbB _ _ _)
    · exact qaP (3, 0) rfl (by simp (disch := first | omega | decide | simp only [qaf, qad, qag, qae, qah, qac, qaa, qab, qai]) only [qaq, Prod.mk.injEq, Nat.reduceEqDiff, and_true, if_true, if_false, qa0]) (qbB _ _ _)
  · rintro st ⟨H, rfl, h0, h1, h2, h3⟩
    apply qb7
    simp (disch := first | omega | decide | simp only [qaf, qad, qag, qae, qah, qac, qaa, qab, qai]) only [qbx, qav, qap, qao, qam, qal, qaO, qar, qaC, qaH, qas, qaK, qaJ, qaj, qaU, qaL, qaF, List.set_cons_zero, List.set_cons_succ, List.getD_cons_zero, List.getD_cons_succ, List.length_cons, List.length_nil, Nat.reduceAdd, Nat.zero_add, Nat.add_zero, decide_false, Nat.add_zero, Nat.zero_add, qbp, Nat.reduceMul, Nat.reduceAdd, Nat.lt_irrefl, decide_false, L35b0]
    rfl
  · rintro st ⟨H, rfl, h0, h1, h2, h3⟩ rfl
    simp (disch := first | omega | decide | simp only [qaf, qad, qag, qae, qah, qac, qaa, qab, qai]) only [qbD, qbx, qav, qap, qao, qam, qal, qaO, qar, qbo, qaC, qaH, qas, qaK, qaJ, qaj, qaU, qbL, qaL, qaF, qbi, List.set_cons_zero, List.set_cons_succ, List.getD_cons_zero, List.getD_cons_succ, List.length_cons, List.length_nil, Option.map_some, Nat.reduceAdd, qaq, stepK_mod, qa9, qaQ, qbU, op_ld, op_st, qbt, if_true, Nat.zero_add, Nat.add_zero, decide_false, resVal_agg, aggV_some, aB_cells, aB_st_all, Nat.add_zero, Nat.zero_add, qbp, Nat.reduceMul, Nat.reduceAdd, Nat.lt_irrefl, decide_false, Option.map_some, L35b0, h2, h3, upto_all]
    rw [outOf_mem 2 _ _ [] (by simp only [qay, FUEL, qaD, qaB, qax, qaT, List.flatMap_cons, List.flatMap_nil, List.nil_append, List.cons_append, List.append_nil, List.map_nil, List.map_cons, List.contains_nil, List.contains_cons, Prod.mk.injEq, beq_iff_eq, Bool.or_eq_true, Bool.false_eq_true, and_true, and_false, or_false, or_true, if_true, if_false, Nat.one_ne_zero, Nat.zero_ne_one, List.filter_cons, List.filter_nil, bne_iff_ne, ne_eq, not_true_eq_false, qaq, qbQ, qaR, qaw, qbn, h0, h1])]
    simp (disch := first | omega | decide | simp only [qaf, qad, qag, qae, qah, qac, qaa, qab, qai]) only [List.map_cons, List.map_nil, Option.map_some, qaq, Prod.mk.injEq, false_and, if_false, Nat.zero_ne_one, qby, List.filterMap_nil, Option.map_some, qaE, qbQ, qaX, qbe, qaV, qbO, h0, h1]

def umJ (len : Nat) (cap : Option Nat) (l : List (BitVec 8)) (s : R) (i : Nat) (st : St) : Prop := ∃ (H : Heap), st = ⟨[.undef, .undef, .undef, .ptr (1, 0) 0, .ptr (1, 1) 0, .ptr (0, 0) 1537, .ptr (0, 0) 1025, .ptr (0, 0) 1281, .ptr (0, 0) 769, N (4 * i), .undef, .undef, .undef, .undef, .undef, .undef, .undef, .undef, .undef, .undef, .undef, .undef, .undef, .undef, .undef, .undef, .undef, .undef, .undef, .undef, .undef, .undef, .undef, .undef, .undef, .undef, .undef, .undef, .undef, .undef, .undef, .undef, .undef, .undef, .undef, .undef, .undef, .undef, .undef, .undef, .undef, .undef, .undef, .undef, .undef, .undef, .undef, .undef, .undef, .undef, .undef, .undef, .undef, .undef, .undef, .undef, .undef, .undef, .undef, .undef, .undef, .undef, .undef, .undef, .undef, .undef, .undef, .undef, .undef, .undef, .undef, .undef, .undef, .undef, .undef, .undef, .undef, .undef, .undef, .undef, .undef, .undef, .undef, .undef, .undef, .undef, .undef, .undef, .undef, .undef, .undef, .undef, .undef, .undef, .undef, .undef, .undef, .undef, .undef, .undef, .undef, .undef, .undef, .undef, .undef, .undef, .undef, .undef, .undef, .undef, .undef, .undef, .undef, .undef, .undef, .undef, .undef, .undef, .undef, .undef, .undef, .undef, .undef, .undef, .undef, .undef, .undef, .undef, .undef, .undef, .undef, .undef, .undef, .undef, .undef, .undef, .undef, .undef, .undef], H, 2, 2⟩ ∧
  H (0, 0) = some (CF (.sl (0, 1) 0 len cap 16) TB) ∧ H (0, 1) = some (bs l) ∧ H (1, 0) = some (aB 16 (upto (4 * i) (unmix s) s)) ∧ H (1, 1) = some (aB 16 fun _ => 0#8)

set_option maxRecDepth 20000 in
set_option maxHeartbeats 1000000 in
theorem unmix_F (k len : Nat) (cap : Option Nat) (l : List (BitVec 8)) (s : R) : F C (k + 30) 41 [.ptr (0, 0) 0, .agg (aB 16 s)] [CF (.sl (0, 1) 0 len cap 16) TB, bs l] =
    some (.agg (aB 16 (unmix s)), [some (CF (.sl (0, 1) 0 len cap 16) TB), some (bs l)], []) := by
  rw [qbK f41]
  simp (disch := first | omega | decide | simp only [qaf, qad, qag, qae, qah, qac, qaa, qab, qai]) only [qba, qav, qbg, qap, qao, qam, qal, qaO, qar, qaC, qaH, qas, qaK, qaj, List.set_cons_zero, List.set_cons_succ, List.getD_cons_zero, List.getD_cons_succ, List.nil_append, List.cons_append, qa4, List.replicate_zero, List.length_cons, List.length_nil, ev_loop, Nat.reduceAdd, Nat.reduceSub, stepK_new, qa9, op_new, op_box, qb2, op_fa, faV_ptr, Nat.zero_add, Nat.add_zero, aB_rep, Nat.add_zero, Nat.zero_add, Nat.reduceAdd, op_chk, qb3, L41]
  generalize hL : loopN L41k0 _ _ _ = r
  refine loop_use hL (umJ len cap l s) 4 (by omega) ?_ ?_ ?_ ?_
  · rintro i st hi ⟨H, rfl, h0, h1, h2, h3⟩
    have hm : 4 * i < 16 := by omega
    have e4 : 4 * i + 4 = 4 * (i + 1) := by omega
    have v0 : T14 (s (4 * i)) ^^^ T11 (s (4 * i + 1)) ^^^ T13 (s (4 * i + 2)) ^^^ T9 (s (4 * i + 3)) = unmix s (4 * i) := by
      simp only [unmix, at4_col0 s i _ (show 0 < 4 by decide), at4_col0 s i _ (show 1 < 4 by decide), at4_col0 s i _ (show 2 < 4 by decide), at4_col0 s i _ (show 3 < 4 by decide), Nat.add_zero]
    have v1 : T9 (s (4 * i)) ^^^ T14 (s (4 * i + 1)) ^^^ T11 (s (4 * i + 2)) ^^^ T13 (s (4 * i + 3)) = unmix s (4 * i + 1) := by
      simp only [unmix, at4_col s i 1 _ (by decide), Nat.reduceAdd, Nat.reduceMod, Nat.add_zero]
      simp only [BitVec.xor_comm, xc]
    have v2 : T13 (s (4 * i)) ^^^ T9 (s (4 * i + 1)) ^^^ T14 (s (4 * i + 2)) ^^^ T11 (s (4 * i + 3)) = unmix s (4 * i + 2) := by
      simp only [unmix, at4_col s i 2 _ (by decide), Nat.reduceAdd, Nat.reduceMod, Nat.add_zero]
      simp only [BitVec.xor_comm, xc]
    have v3 : T11 (s (4 * i)) ^^^ T13 (s (4 * i + 1)) ^^^ T9 (s (4 * i + 2)) ^^^ T14 (s (4 * i + 3)) = unmix s (4 * i + 3) := by
      simp only [unmix, at4_col s i 3 _ (by decide), Nat.reduceAdd, Nat.reduceMod, Nat.add_zero]
      simp only [BitVec.xor_comm, xc]
    have hs := upto4 i (unmix s) s _ _ _ _ rfl rfl rfl rfl
    apply Exists.intro
    apply And.intro
    · simp (disch := first | omega | decide | simp only [qaf, qad, qag, qae, qah, qac, qaa, qab, qai]) only [qbv, qav, qbg, qap, qao, qam, qal, qaO, qar, qbo, qaC, qaH, qas, qaK, qaJ, qaj, qbc, qaL, qbq, nms_B8, List.set_cons_zero, List.set_cons_succ, List.getD_cons_zero, List.getD_cons_succ, List.append_nil, List.length_cons, List.length_nil, B8_xor, B8_nat, Nat.reduceAdd, Nat.reduceSub, qaq, cellsOf_B8, qaQ, qbs, op_ld1, op_st, qbt, op_iaA, iaV_lt, List.all_cons, List.all_nil, Bool.and_true, Prod.mk.injEq, Nat.reduceLT, and_true, if_true, if_false, Nat.zero_add, Nat.add_zero, decide_true, Nat.zero_ne_one, aB_cell, aB_st, Nat.mul_one, Nat.add_zero, Nat.zero_add, B8_nat, N_add, qbp, N_nat, Nat.reduceLT, Nat.reduceAdd, decide_true, nm_beq, Bool.not_false, Bool.not_true, op_chk, qb3, Nat.mul_one, qa7, qbr, ordK_pure, ordK_mod, qbV, touch_ld1, touch_st, qaI, List.contains_cons, List.contains_nil, beq_self_eq_true, Bool.or_true, Bool.or_false, ordOk, qaZ, List.all_cons, List.all_nil, Nat.testBit, Nat.reduceShiftRight, Nat.reduceAnd, Nat.reduceBEq, Bool.not_true, Bool.not_false, Bool.and_self, Bool.and_true, Bool.and_false, Nat.reduceSub, Nat.reduceLT, bne, qbh, qbN, trimO_f, qbA, qb8, isCall_st, Bool.and_false, Bool.and_true, L41b0, h0, h2, hm, upto_ge, CT_9, CT_11, CT_13, CT_14, v0, v1, v2, v3, hs, e4]
      rfl
    · refine qbm [(1, 0), (1, 1)] rfl (by simp only [qay, FUEL, qaD, qaB, qax, qaI, qaT, qa6, List.flatMap_cons, List.flatMap_nil, List.nil_append, List.cons_append, List.append_nil, List.map_nil, List.map_cons, List.contains_nil, List.contains_cons, Prod.mk.injEq, beq_iff_eq, Bool.or_eq_true, Bool.false_eq_true, and_true, and_false, or_false, or_true, if_true, if_false, Nat.one_ne_zero, Nat.zero_ne_one, List.filter_cons, List.filter_nil, bne_iff_ne, ne_eq, not_false_eq_true, not_true_eq_false, qaq, qbb, qa5, qaW, qbQ, nms_N, L41k0, aB_nms, qaR, qaw, h0, h1, h2, h3]) rfl ⟨_, rfl, ?_, ?_, ?_, ?_⟩
      · rw [qbF]; simp (disch := first | omega | decide | simp only [qaf, qad, qag, qae, qah, qac, qaa, qab, qai]) only [Option.map_some, qaq, Prod.mk.injEq, and_true, if_false, Nat.zero_ne_one, qby, Option.map_some, qaX, qbe, h0, qaV]
      · rw [qbF]; simp (disch := first | omega | decide | simp only [qaf, qad, qag, qae, qah, qac, qaa, qab, qai]) only [Option.map_some, qaq, Prod.mk.injEq, and_self, if_false, Nat.one_ne_zero, Nat.zero_ne_one, Option.map_some, qaE, h1]
      · exact qaP (1, 0) rfl (by simp (disch := first | omega | decide | simp only [qaf, qad, qag, qae, qah, qac, qaa, qab, qai]) only [qaq, if_true, h2]) (qbB _ _ _)
      · exact qaP (1, 1) rfl (by simp (disch := first | omega | decide | simp only [qaf, qad, qag, qae, qah, qac, qaa, qab, qai]) only [qaq, Prod.mk.injEq, and_false, if_false, Nat.one_ne_zero, h3]) (qbB _ _ _)
  · refine qbm [(2, 0), (3, 0)] rfl (by simp only [qay, FUEL, qaD, qaB, qax, qaI, qaT, qa6, List.flatMap_cons, List.flatMap_nil, List.nil_append, List.cons_append, List.append_nil, List.map_nil, List.map_cons, List.contains_nil, List.contains_cons, Prod.mk.injEq, beq_iff_eq, Bool.or_eq_true, Bool.false_eq_true, Nat.reduceEqDiff, and_true, and_false, or_false, or_true, if_true, if_false, Nat.one_ne_zero, Nat.zero_ne_one, List.filter_cons, List.filter_nil, bne_iff_ne, ne_eq, not_false_eq_true, not_true_eq_false, qaq, qbb, qa5, qaW, qbG, qa0, qbQ, List.getElem?_cons_zero, List.getElem?_cons_succ, nms_N, L41k0, aB_nms, qaR, qaw]) rfl ⟨_, rfl, ?_, ?_, ?_, ?_⟩
    · rw [qbF]; simp (disch := first | omega | decide | simp only [qaf, qad, qag, qae, qah, qac, qaa, qab, qai]) only [Option.map_some, qaq, Prod.mk.injEq, Nat.reduceEqDiff, and_true, if_false, qby, Option.map_some, qbG, List.getElem?_cons_zero, qaX, qbe, qaV]
    · rw [qbF]; simp (disch := first | omega | decide | simp only [qaf, qad, qag, qae, qah, qac, qaa, qab, qai]) only [Option.map_some, qaq, Prod.mk.injEq, Nat.reduceEqDiff, and_self, if_false, Nat.one_ne_zero, Option.map_some, qaE, qbG, List.getElem?_cons_zero, List.getElem?_cons_succ]
    · rw [Nat.mul_zero, upto_zero]; exact qaP (2, 0) rfl (by simp (disch := first | omega | decide | simp only [qaf, qad, qag, qae, qah, qac, qaa, qab, qai]) only [qaq, Prod.mk.injEq, Nat.reduceEqDiff, and_true, if_true, if_false, qa0]) (qbB _ _ _)
    · exact qaP (3, 0) rfl (by simp (disch := first | omega | decide | simp only [qaf, qad, qag, qae, qah, qac, qaa, qab, qai]) only [qaq, Prod.mk.injEq, Nat.reduceEqDiff, and_true, if_true, if_false, qa0]) (qbB _ _ _)
  · rintro st ⟨H, rfl, h0, h1, h2, h3⟩
    apply qb7
    simp (disch := first | omega | decide | simp only [qaf, qad, qag, qae, qah, qac, qaa, qab, qai]) only [qbx, qav, qap, qao, qam, qal, qaO, qar, qaC, qaH, qas, qaK, qaJ, qaj, qaU, qaL, qaF, List.set_cons_zero, List.set_cons_succ, List.getD_cons_zero, List.getD_cons_succ, List.length_cons, List.length_nil, Nat.reduceAdd, Nat.zero_add, Nat.add_zero, decide_false, Nat.add_zero, Nat.zero_add, qbp, Nat.reduceMul, Nat.reduceAdd, Nat.lt_irrefl, decide_false, L41b0]
    rfl
  · rintro st ⟨H, rfl, h0, h1, h2, h3⟩ rfl
    simp (disch := first | omega | decide | simp only [qaf, qad, qag, qae, qah, qac, qaa, qab, qai]) only [qbD, qbx, qav, qap, qao, qam, qal, qaO, qar, qbo, qaC, qaH, qas, qaK, qaJ, qaj, qaU, qbL, qaL, qaF, qbi, List.set_cons_zero, List.set_cons_succ, List.getD_cons_zero, List.getD_cons_succ, List.length_cons, List.length_nil, Option.map_some, Nat.reduceAdd, qaq, stepK_mod, qa9, qaQ, qbU, op_ld, op_st, qbt, if_true, Nat.zero_add, Nat.add_zero, decide_false, resVal_agg, aggV_some, aB_cells, aB_st_all, Nat.add_zero, Nat.zero_add, qbp, Nat.reduceMul, Nat.reduceAdd, Nat.lt_irrefl, decide_false, Option.map_some, L41b0, h2, h3, upto_all]
    rw [outOf_mem 2 _ _ [] (by simp only [qay, FUEL, qaD, qaB, qax, qaT, List.flatMap_cons, List.flatMap_nil, List.nil_append, List.cons_append, List.append_nil, List.map_nil, List.map_cons, List.contains_nil, List.contains_cons, Prod.mk.injEq, beq_iff_eq, Bool.or_eq_true, Bool.false_eq_true, and_true, and_false, or_false, or_true, if_true, if_false, Nat.one_ne_zero, Nat.zero_ne_one, List.filter_cons, List.filter_nil, bne_iff_ne, ne_eq, not_true_eq_false, qaq, qbQ, qaR, qaw, qbn, h0, h1])]
    simp (disch := first | omega | decide | simp only [qaf, qad, qag, qae, qah, qac, qaa, qab, qai]) only [List.map_cons, List.map_nil, Option.map_some, qaq, Prod.mk.injEq, false_and, if_false, Nat.zero_ne_one, qby, List.filterMap_nil, Option.map_some, qaE, qbQ, qaX, qbe, qaV, qbO, h0, h1]
end Aes

namespace Aes
open Go Go.LE

/-! ### shift -/

end Aes

namespace Aes
open Go Go.LE

def term (f s : R) (j k : Nat) : BitVec 8 := mul (f ((k + 4 - j % 4) % 4)) (s (4 * (j / 4) + k))
def part (f s : R) (j : Nat) : Nat → BitVec 8
  | 0 => 0#8
  | k + 1 => part f s j k ^^^ term f s j k
end Aes

namespace Aes
open Go Go.LE

def encl (K : Nat → R) (s : R) : Nat → R
  | 0 => add s (K 0)
  | i + 1 => add (mix (rnd (encl K s i))) (K (i + 1))
def enc (K : Nat → R) (n : Nat) (s : R) : R := add (rnd (encl K s n)) (K (n + 1))
def decl (K : Nat → R) (n : Nat) (s : R) : Nat → R
  | 0 => unrnd (add s (K (n + 1)))
  | i + 1 => unrnd (unmix (add (decl K n s i) (K (n - i))))
def dec (K : Nat → R) (n : Nat) (s : R) : R := add (decl K n s n) (K 0)

/-- a round key within the row of them -/
def kf (l : List (BitVec 8)) (i : Nat) : R := fun j => l.getD (i * 16 + j) 0#8
theorem kcell (l : List (BitVec 8)) (o : Nat) (h : o + 16 ≤ l.length) : cellK o 16 (some (bs l)) = some (aB 16 fun j => l.getD (o + j) 0#8) := by
  rw [bs_cells l o 16 h, bs_aB _ 16 (by rw [List.length_take, List.length_drop]; omega)]
  congr 1
  apply aB_ext
  intro i hi
  simp [List.getD_eq_getElem?_getD, List.getElem?_drop, hi]
theorem kcell' (l : List (BitVec 8)) (i : Nat) (o : Nat) (ho : o = i * 16) (h : o + 16 ≤ l.length) : cellK o 16 (some (bs l)) = some (aB 16 (kf l i)) := by
  subst ho; exact kcell l _ h

/-- the cipher's object, its keys of cap not known -/
def KO (n : Nat) : qat := CF (.sl (0, 1) 0 (n + 2) none 16) TB
theorem KG_0 (H : Heap) (n : Nat) (l : List (BitVec 8)) (h0 : H (0, 0) = some (KO n)) (h1 : H (0, 1) = some (bs l)) : KG H (0, 0) (0, 1) (n + 2) none l := ⟨h0, h1, by decide⟩
theorem agg_r (s : R) : ∀ π, ren D π (.agg (aB 16 s)) = .agg (aB 16 s) := fun π => qbO 16 s π
theorem c_made (k n b : Nat) (hn : n ≤ 20) (l : List (BitVec 8)) (H : Heap) (h0 : H (0, 0) = some (KO n)) (h1 : H (0, 1) = some (bs l)) :
    qbl (envC C (k + 1)) H b 31 [.ptr (0, 0) 0] = some ⟨Bo true, [], [((0, 0), some (KO n)), ((0, 1), some (bs l))]⟩ :=
  callK _ b 31 l31 H _ _ _ none l (KG_0 H n l h0 h1) [] Pl.e _ (fun _ => rfl) (made_F k (n + 2) (by omega) (by omega) none TB l)
theorem c_round (k n b : Nat) (l : List (BitVec 8)) (H : Heap) (h0 : H (0, 0) = some (KO n)) (h1 : H (0, 1) = some (bs l)) (s : R) :
    qbl (envC C (k + 30)) H b 36 [.ptr (0, 0) 0, .agg (aB 16 s)] = some ⟨.agg (aB 16 (rnd s)), [], [((0, 0), some (KO n)), ((0, 1), some (bs l))]⟩ :=
  callK _ b 36 l36 H _ _ _ none l (KG_0 H n l h0 h1) _ (Pl.pa 16 s Pl.e) _ (agg_r _) (round_F k (n + 2) none l s)
theorem c_mix (k n b : Nat) (l : List (BitVec 8)) (H : Heap) (h0 : H (0, 0) = some (KO n)) (h1 : H (0, 1) = some (bs l)) (s : R) :
    qbl (envC C (k + 30)) H b 35 [.ptr (0, 0) 0, .agg (aB 16 s)] = some ⟨.agg (aB 16 (mix s)), [], [((0, 0), some (KO n)), ((0, 1), some (bs l))]⟩ :=
  callK _ b 35 l35 H _ _ _ none l (KG_0 H n l h0 h1) _ (Pl.pa 16 s Pl.e) _ (agg_r _) (mix_F k (n + 2) none l s)
theorem c_unround (k n b : Nat) (l : List (BitVec 8)) (H : Heap) (h0 : H (0, 0) = some (KO n)) (h1 : H (0, 1) = some (bs l)) (s : R) :
    qbl (envC C (k + 30)) H b 40 [.ptr (0, 0) 0, .agg (aB 16 s)] = some ⟨.agg (aB 16 (unrnd s)), [], [((0, 0), some (KO n)), ((0, 1), some (bs l))]⟩ :=
  callK _ b 40 l40 H _ _ _ none l (KG_0 H n l h0 h1) _ (Pl.pa 16 s Pl.e) _ (agg_r _) (unround_F k (n + 2) none l s)
theorem c_unmix (k n b : Nat) (l : List (BitVec 8)) (H : Heap) (h0 : H (0, 0) = some (KO n)) (h1 : H (0, 1) = some (bs l)) (s : R) :
    qbl (envC C (k + 30)) H b 41 [.ptr (0, 0) 0, .agg (aB 16 s)] = some ⟨.agg (aB 16 (unmix s)), [], [((0, 0), some (KO n)), ((0, 1), some (bs l))]⟩ :=
  callK _ b 41 l41 H _ _ _ none l (KG_0 H n l h0 h1) _ (Pl.pa 16 s Pl.e) _ (agg_r _) (unmix_F k (n + 2) none l s)
theorem c_add (k b : Nat) (H : Heap) (s t : R) : qbl (envC C (k + 30)) H b 34 [.agg (aB 16 s), .agg (aB 16 t)] = some ⟨.agg (aB 16 (add s t)), [], []⟩ := by
  rw [callOp_C l34 (by simp only [List.flatMap_cons, List.flatMap_nil, qbn, List.append_nil]) (by simp only [List.map_cons, List.map_nil, qbO]), add_F, aB_calK]
theorem KO_k (n : Nat) : cellK 0 1 (some (KO n)) = some [.sl (0, 1) 0 (n + 2) none 16] := CF_k _ _
theorem KO_nms (n : Nat) : (KO n).flatMap (nms D) = [(0, 1)] := by rw [KO, qaR]; rfl
theorem KO_ren (n : Nat) (names : List Nm) : (KO n).map (ren D (qb5 names)) = KO n := by
  rw [KO, qaV, qaX, qby]; rfl

theorem reach_KO (H : Heap) (n : Nat) (l : List (BitVec 8)) (h0 : H (0, 0) = some (KO n)) (h1 : H (0, 1) = some (bs l)) : qbd H FUEL [] [(0, 0)] = [(0, 0), (0, 1)] := by
  simp only [FUEL, qaD, qaB, qax, List.nil_append, List.cons_append, List.append_nil, List.contains_nil, List.contains_cons, Prod.mk.injEq, beq_iff_eq, Bool.or_eq_true, Bool.false_eq_true, and_false, or_false, if_false, Nat.one_ne_zero, KO_nms, qaw, h0, h1]
theorem same_cells {cs : qat} (h : ∀ x ∈ cs, same1 x x = true) : sameL cs cs = true := by
  induction cs with
  | nil => rfl
  | cons x xs ih => simp only [sameL, h x (by simp), ih fun y hy => h y (by simp [hy]), Bool.and_self]
theorem same_B8 (x : BitVec 8) : same1 (B8 x) (B8 x) = true := by simp [same1, B8]
theorem same_bs (l : List (BitVec 8)) : sameL (bs l) (bs l) = true := same_cells fun x hx => by
  simp only [bs, List.mem_map] at hx
  obtain ⟨y, _, rfl⟩ := hx; exact same_B8 y
theorem same_KO (n : Nat) : sameL (KO n) (KO n) = true := same_cells fun x hx => by
  simp only [KO, CF, List.mem_cons] at hx
  rcases hx with rfl | hx
  · simp [same1]
  · rw [aB_bs] at hx
    simp only [bs, List.mem_map] at hx
    obtain ⟨y, _, rfl⟩ := hx; exact same_B8 y
theorem tr_KO (H : Heap) (v : LV) (n : Nat) (l : List (BitVec 8)) (h0 : H (0, 0) = some (KO n)) (h1 : H (0, 1) = some (bs l)) : trimO true H (some ⟨v, [], [((0, 0), some (KO n)), ((0, 1), some (bs l))]⟩) = some ⟨v, [], []⟩ := by
  refine trimO_same _ _ _ _ fun m hm => ?_
  simp only [List.mem_cons, List.not_mem_nil, or_false] at hm
  rcases hm with rfl | rfl
  · simp only [h0, sameO, same_KO]
  · simp only [h1, sameO, same_bs]
def dJ (n : Nat) (l : List (BitVec 8)) (s : R) (i : Nat) (st : St) : Prop := ∃ (H : Heap), st = ⟨[.ptr (0, 0) 0, .undef, .undef, .ptr (1, 0) 0, .ptr (1, 1) 0, .undef, N (n - i), .undef, .undef, .undef, .undef, .undef, .undef, .undef, .undef, .undef, .undef, .undef, .undef, .undef, .undef, .undef, .undef, .undef, .undef, .undef, .undef, .undef, .undef, .undef, .undef, .undef, .undef, .undef, .undef, .undef, .undef, .undef, .undef, .undef, .undef, .undef, .undef, .undef, .undef, .undef, .undef, .undef, .undef, .undef, .undef, .undef, .undef, .undef, .undef], H, 2, 2⟩ ∧
  H (0, 0) = some (KO n) ∧ H (0, 1) = some (bs l) ∧ H (1, 0) = some (aB 16 (decl (kf l) n s i)) ∧ H (1, 1) = some (aB 16 fun _ => 0#8)

theorem dec_F (k n : Nat) (hn : n ≤ 20) (l : List (BitVec 8)) (hl : l.length = 16 * (n + 2)) (s : R) : F C (k + 60) 19 [.ptr (0, 0) 0, .agg (aB 16 s)] [KO n, bs l] =
    some (.agg (aB 16 (dec (kf l) n s)), [some (KO n), some (bs l)], []) := by
  rw [qbK f19]
  have e1 : n + 2 - 1 = n + 1 := rfl
  have e2 : n + 1 - 1 = n := rfl
  have hmade : ∀ (b : Nat) (H : Heap), H (0, 0) = some (KO n) → H (0, 1) = some (bs l) → qbl (envC C (k + 59)) H b 31 [.ptr (0, 0) 0] = some ⟨Bo true, [], [((0, 0), some (KO n)), ((0, 1), some (bs l))]⟩ := fun b H => c_made (k + 58) n b hn l H
  have hunr : ∀ (b : Nat) (H : Heap) (s : R), H (0, 0) = some (KO n) → H (0, 1) = some (bs l) → qbl (envC C (k + 59)) H b 40 [.ptr (0, 0) 0, .agg (aB 16 s)] = some ⟨.agg (aB 16 (unrnd s)), [], [((0, 0), some (KO n)), ((0, 1), some (bs l))]⟩ := fun b H s h0 h1 => c_unround (k + 29) n b l H h0 h1 s
  have humix : ∀ (b : Nat) (H : Heap) (s : R), H (0, 0) = some (KO n) → H (0, 1) = some (bs l) → qbl (envC C (k + 59)) H b 41 [.ptr (0, 0) 0, .agg (aB 16 s)] = some ⟨.agg (aB 16 (unmix s)), [], [((0, 0), some (KO n)), ((0, 1), some (bs l))]⟩ := fun b H s h0 h1 => c_unmix (k + 29) n b l H h0 h1 s
  have hadd : ∀ (b : Nat) (H : Heap) (s t : R), qbl (envC C (k + 59)) H b 34 [.agg (aB 16 s), .agg (aB 16 t)] = some ⟨.agg (aB 16 (add s t)), [], []⟩ := fun b H s t => c_add (k + 29) b H s t
  simp (disch := first | omega | decide | simp only [qaf, qad, qag, qae, qah, qac, qaa, qab, qai]) only [qba, qav, qap, qao, qam, qal, qaO, qar, qaC, qaH, qaK, qa3, qaY, qaj, List.set_cons_zero, List.set_cons_succ, List.getD_cons_zero, List.getD_cons_succ, List.map_cons, List.map_nil, List.nil_append, List.cons_append, qa4, List.replicate_zero, List.length_cons, List.length_nil, Nat.reduceAdd, Nat.reduceSub, stepK_new, qa9, op_new, op_box, qb2, Nat.zero_add, Nat.add_zero, aB_rep, Nat.add_zero, Nat.zero_add, Nat.reduceAdd, Nat.reduceSub, L19]
  rw [hmade _ _ rfl rfl]
  simp (disch := first | omega | decide | simp only [qaf, qad, qag, qae, qah, qac, qaa, qab, qai]) only [qbv, qav, qap, qao, qam, qal, qar, qaC, qaH, qas, qaK, qaJ, op_un, qa3, qaY, qaj, qaL, qaF, List.set_cons_zero, List.set_cons_succ, List.getD_cons_zero, List.getD_cons_succ, List.map_cons, List.map_nil, List.flatMap_cons, List.flatMap_nil, List.nil_append, List.append_nil, List.length_cons, List.length_nil, Bo_not, Nat.reduceAdd, Nat.reduceSub, qaq, qaQ, qbs, qbU, op_ld1, op_ld, op_fa, faV_ptr, List.all_cons, List.all_nil, Bool.and_true, Prod.mk.injEq, Nat.reduceEqDiff, Nat.reduceLT, and_true, and_false, and_self, if_true, if_false, Nat.zero_add, Nat.add_zero, decide_true, Nat.one_ne_zero, Nat.zero_ne_one, aB_cells, qbn, Nat.add_zero, Nat.zero_add, N_sub, N_nat, Nat.reduceLT, Nat.reduceEqDiff, Nat.reduceAdd, decide_true, Bool.not_false, Bool.not_true, op_chk, qb3, op_len, qbC, lenS_sl, op_iaS, iaSV_sl, qaz, qau, qa2, qbG, qa0, List.getElem?_cons_zero, List.getElem?_cons_succ, qa7, qbr, qbV, touch_ld1, touch_ld, qbY, reach_none, nms_fn, qaI, List.contains_cons, List.contains_nil, beq_self_eq_true, Bool.or_true, Bool.or_false, ordOk, qaZ, List.all_cons, List.all_nil, Nat.testBit, Nat.reduceShiftRight, Nat.reduceAnd, Nat.reduceBEq, Bool.not_true, Bool.not_false, Bool.and_self, Bool.and_true, Bool.and_false, Nat.reduceSub, Nat.reduceLT, bne, qbh, qbN, qbA, qb8, isCall_ld, qbP, Bool.and_false, Bool.and_true, qaM, qan, qaM, qan, KO_k, e1, kcell' l (n + 1) ((n + 1) * 16) rfl, hadd]
  rw [reach_KO _ n l rfl rfl, hunr _ _ _ rfl rfl, tr_KO _ _ n l rfl rfl]
  simp (disch := first | omega | decide | simp only [qaf, qad, qag, qae, qah, qac, qaa, qab, qai]) only [qav, qbg, qap, qao, qam, qal, qar, qbo, qaC, qaH, qas, qaK, qaJ, qaj, List.set_cons_zero, List.set_cons_succ, List.getD_cons_zero, List.getD_cons_succ, List.map_cons, List.map_nil, List.append_nil, List.length_cons, List.length_nil, ev_loop, Nat.reduceAdd, Nat.reduceSub, qaq, qa9, op_st, qbt, List.all_cons, List.all_nil, Bool.and_true, Prod.mk.injEq, Nat.reduceEqDiff, Nat.reduceLT, and_true, and_self, if_true, if_false, Nat.zero_add, Nat.add_zero, decide_true, Nat.zero_ne_one, aB_st_all, qbn, Nat.add_zero, Nat.zero_add, N_sub, Nat.reduceLT, Nat.reduceEqDiff, Nat.reduceAdd, decide_true, nm_beq, Bool.not_false, Bool.not_true, qaz, qau, qa2, qa0, qa7, qbr, qbV, touch_st, qaI, List.contains_cons, List.contains_nil, beq_self_eq_true, Bool.or_true, Bool.or_false, ordOk, qaZ, List.all_cons, List.all_nil, Nat.testBit, Nat.reduceShiftRight, Nat.reduceAnd, Nat.reduceBEq, Bool.not_true, Bool.not_false, Bool.and_self, Bool.and_true, Bool.and_false, Nat.reduceSub, Nat.reduceLT, bne, qbh, qbN, trimO_f, isCall_st, Bool.and_false, Bool.and_true, qaM, qan, qaM, qan, e2]
  generalize hL : loopN L19k0 _ _ _ = r
  refine loop_use hL (dJ n l s) n (by omega) ?_ ?_ ?_ ?_
  · rintro i st hi ⟨H, rfl, h0, h1, h2, h3⟩
    have hgt : 0 < n - i := by omega
    have e3 : n - i - 1 = n - (i + 1) := by omega
    simp (disch := first | omega | decide | simp only [qaf, qad, qag, qae, qah, qac, qaa, qab, qai]) only [qbv, qav, qbg, qap, qao, qam, qal, qar, qaC, qaH, qas, qaK, qaJ, qa3, qaY, qaj, qaL, qbq, List.set_cons_zero, List.set_cons_succ, List.getD_cons_zero, List.getD_cons_succ, List.map_cons, List.map_nil, List.flatMap_cons, List.flatMap_nil, List.nil_append, List.append_nil, List.length_cons, List.length_nil, Nat.reduceAdd, Nat.reduceSub, qaQ, qbs, qbU, op_ld1, op_ld, op_fa, faV_ptr, List.all_cons, List.all_nil, Bool.and_true, Nat.reduceLT, if_true, Nat.zero_add, Nat.add_zero, decide_true, aB_cells, qbn, Nat.add_zero, Nat.zero_add, N_gtr, N_nat, Nat.reduceLT, Nat.reduceAdd, decide_true, Bool.not_false, Bool.not_true, op_chk, qb3, op_iaS, iaSV_sl, qaz, qau, qa7, qbr, qbV, touch_ld1, touch_ld, qbY, reach_none, nms_fn, qaI, List.contains_cons, List.contains_nil, beq_self_eq_true, Bool.or_true, Bool.or_false, ordOk, qaZ, List.all_cons, List.all_nil, Nat.testBit, Nat.reduceShiftRight, Nat.reduceAnd, Nat.reduceBEq, Bool.not_true, Bool.not_false, Bool.and_self, Bool.and_true, Bool.and_false, Nat.reduceSub, Nat.reduceLT, bne, qbh, qbN, qbA, qb8, isCall_ld, qbP, Bool.and_false, Bool.and_true, qaM, qan, qaM, qan, L19b0, h0, h1, h2, hgt, KO_k, kcell' l (n - i) ((n - i) * 16) rfl, hadd]
    rw [reach_KO _ n l h0 h1, humix _ (only [(0, 0), (0, 1)] H) _ h0 h1, tr_KO (only [(0, 0), (0, 1)] H) _ n l h0 h1]
    simp (disch := first | omega | decide | simp only [qaf, qad, qag, qae, qah, qac, qaa, qab, qai]) only [qar, qaC, qaH, qa3, qaY, List.set_cons_zero, List.set_cons_succ, List.getD_cons_zero, List.getD_cons_succ, List.map_cons, List.map_nil, List.flatMap_cons, List.flatMap_nil, List.nil_append, List.append_nil, Nat.reduceAdd, Nat.reduceSub, List.all_cons, List.all_nil, Bool.and_true, Nat.reduceLT, if_true, decide_true, qbn, Nat.reduceLT, Nat.reduceAdd, decide_true, Bool.not_false, Bool.not_true, qaz, qau, qa7, qbr, qbY, nms_fn, qaI, List.contains_cons, List.contains_nil, beq_self_eq_true, Bool.or_true, Bool.or_false, ordOk, qaZ, List.all_cons, List.all_nil, Nat.testBit, Nat.reduceShiftRight, Nat.reduceAnd, Nat.reduceBEq, Bool.not_true, Bool.not_false, Bool.and_self, Bool.and_true, Nat.reduceSub, Nat.reduceLT, bne, qbh, qbN, qbP, Bool.and_true, qaM, qaM]
    rw [reach_KO _ n l h0 h1, hunr _ (only [(0, 0), (0, 1)] H) _ h0 h1, tr_KO (only [(0, 0), (0, 1)] H) _ n l h0 h1]
    apply Exists.intro
    apply And.intro
    · simp (disch := first | omega | decide | simp only [qaf, qad, qag, qae, qah, qac, qaa, qab, qai]) only [qap, qao, qam, qal, qar, qbo, qaC, qaH, qas, qaK, qaJ, qaj, qbc, List.set_cons_zero, List.set_cons_succ, List.getD_cons_zero, List.getD_cons_succ, List.map_cons, List.map_nil, List.append_nil, List.length_cons, List.length_nil, Nat.reduceAdd, Nat.reduceSub, qa9, op_st, qbt, List.all_cons, List.all_nil, Bool.and_true, Nat.reduceLT, if_true, Nat.zero_add, Nat.add_zero, decide_true, aB_st_all, qbn, Nat.add_zero, Nat.zero_add, N_sub, Nat.reduceLT, Nat.reduceAdd, decide_true, nm_beq, Bool.not_false, Bool.not_true, qaz, qau, qa2, qa7, qbr, qbV, touch_st, qaI, List.contains_cons, List.contains_nil, beq_self_eq_true, Bool.or_true, Bool.or_false, ordOk, qaZ, List.all_cons, List.all_nil, Nat.testBit, Nat.reduceShiftRight, Nat.reduceAnd, Nat.reduceBEq, Bool.not_true, Bool.not_false, Bool.and_self, Bool.and_true, Bool.and_false, Nat.reduceSub, Nat.reduceLT, bne, qbh, qbN, trimO_f, isCall_st, Bool.and_false, Bool.and_true, qaM, qan, qaM, qan, h2, e3]
      rfl
    · refine qbm [(1, 0), (1, 1)] rfl (by simp only [qay, FUEL, qaD, qaB, qax, qaI, qa6, List.flatMap_cons, List.flatMap_nil, List.nil_append, List.cons_append, List.append_nil, List.map_nil, List.map_cons, List.contains_nil, List.contains_cons, Prod.mk.injEq, beq_iff_eq, Bool.or_eq_true, Bool.false_eq_true, and_true, and_false, or_false, or_true, if_true, if_false, Nat.one_ne_zero, Nat.zero_ne_one, List.filter_cons, List.filter_nil, bne_iff_ne, ne_eq, not_false_eq_true, not_true_eq_false, qaq, qbb, qa5, qaW, qbQ, nms_N, L19k0, aB_nms, KO_nms, qaw, h0, h1, h2, h3]) rfl ⟨_, rfl, ?_, ?_, ?_, ?_⟩
      · rw [qbF]; simp (disch := first | omega | decide | simp only [qaf, qad, qag, qae, qah, qac, qaa, qab, qai]) only [Option.map_some, qaq, Prod.mk.injEq, and_true, if_false, Nat.zero_ne_one, Option.map_some, h0, KO_ren]
      · rw [qbF]; simp (disch := first | omega | decide | simp only [qaf, qad, qag, qae, qah, qac, qaa, qab, qai]) only [Option.map_some, qaq, Prod.mk.injEq, and_self, if_false, Nat.one_ne_zero, Nat.zero_ne_one, Option.map_some, qaE, h1]
      · exact qaP (1, 0) rfl (by simp (disch := first | omega | decide | simp only [qaf, qad, qag, qae, qah, qac, qaa, qab, qai]) only [qaq, if_true, h2]; rfl) (qbB _ _ _)
      · exact qaP (1, 1) rfl (by simp (disch := first | omega | decide | simp only [qaf, qad, qag, qae, qah, qac, qaa, qab, qai]) only [qaq, Prod.mk.injEq, and_false, if_false, Nat.one_ne_zero, h3]) (qbB _ _ _)
  · refine qbm [(2, 0), (3, 0)] rfl (by simp only [qay, FUEL, qaD, qaB, qax, qaI, qa6, List.flatMap_cons, List.flatMap_nil, List.nil_append, List.cons_append, List.append_nil, List.map_nil, List.map_cons, List.contains_nil, List.contains_cons, Prod.mk.injEq, beq_iff_eq, Bool.or_eq_true, Bool.false_eq_true, Nat.reduceEqDiff, and_true, and_false, or_false, or_true, if_true, if_false, Nat.one_ne_zero, Nat.zero_ne_one, List.filter_cons, List.filter_nil, bne_iff_ne, ne_eq, not_false_eq_true, not_true_eq_false, qaq, qbb, qa5, qaW, qbG, qa0, qbQ, List.getElem?_cons_zero, List.getElem?_cons_succ, nms_N, L19k0, aB_nms, KO_nms, qaw]) rfl ⟨_, rfl, ?_, ?_, ?_, ?_⟩
    · rw [qbF]; simp (disch := first | omega | decide | simp only [qaf, qad, qag, qae, qah, qac, qaa, qab, qai]) only [Option.map_some, qaq, Prod.mk.injEq, Nat.reduceEqDiff, and_true, and_false, if_true, if_false, Nat.zero_ne_one, Option.map_some, qbG, List.getElem?_cons_zero, KO_ren]
    · rw [qbF]; simp (disch := first | omega | decide | simp only [qaf, qad, qag, qae, qah, qac, qaa, qab, qai]) only [Option.map_some, qaq, Prod.mk.injEq, Nat.reduceEqDiff, and_false, and_self, if_true, if_false, Nat.one_ne_zero, Option.map_some, qaE, qbG, List.getElem?_cons_zero, List.getElem?_cons_succ]
    · exact qaP (2, 0) rfl (by simp (disch := first | omega | decide | simp only [qaf, qad, qag, qae, qah, qac, qaa, qab, qai]) only [qaq, Prod.mk.injEq, Nat.reduceEqDiff, and_true, and_self, if_true, if_false, Nat.zero_ne_one, qa0]; rfl) (qbB _ _ _)
    · exact qaP (3, 0) rfl (by simp (disch := first | omega | decide | simp only [qaf, qad, qag, qae, qah, qac, qaa, qab, qai]) only [qaq, Prod.mk.injEq, Nat.reduceEqDiff, and_true, and_self, if_true, if_false, Nat.zero_ne_one, qa0]) (qbB _ _ _)
  · rintro st ⟨H, rfl, h0, h1, h2, h3⟩
    apply qb7
    simp (disch := first | omega | decide | simp only [qaf, qad, qag, qae, qah, qac, qaa, qab, qai]) only [qbx, qav, qap, qao, qam, qal, qaO, qar, qaC, qaH, qas, qaK, qaJ, qaj, qaU, qaL, qaF, List.set_cons_zero, List.set_cons_succ, List.getD_cons_zero, List.getD_cons_succ, List.length_cons, List.length_nil, Nat.reduceAdd, Nat.zero_add, Nat.add_zero, decide_false, Nat.add_zero, Nat.zero_add, N_gtr, Nat.reduceAdd, Nat.lt_irrefl, decide_false, L19b0, Nat.sub_self, Nat.lt_irrefl]
    rfl
  · rintro st ⟨H, rfl, h0, h1, h2, h3⟩ rfl
    simp (disch := first | omega | decide | simp only [qaf, qad, qag, qae, qah, qac, qaa, qab, qai]) only [qbD, qbx, qav, qap, qao, qam, qal, qar, qbo, qaC, qaH, qas, qaK, qaJ, qa3, qaY, qaj, qaU, qbL, qaL, qaF, qbi, List.set_cons_zero, List.set_cons_succ, List.getD_cons_zero, List.getD_cons_succ, List.map_cons, List.map_nil, List.flatMap_cons, List.flatMap_nil, List.append_nil, List.length_cons, List.length_nil, Option.map_some, Nat.reduceAdd, Nat.reduceSub, qaq, qa9, qaQ, qbs, qbU, op_ld1, op_ld, op_st, qbt, op_fa, faV_ptr, List.all_cons, List.all_nil, Bool.and_true, Nat.reduceLT, if_true, Nat.zero_add, Nat.add_zero, decide_true, decide_false, resVal_agg, aggV_some, aB_cells, aB_st_all, qbn, Nat.add_zero, Nat.zero_add, N_gtr, N_nat, Nat.reduceLT, Nat.reduceMul, Nat.reduceAdd, Nat.lt_irrefl, decide_false, decide_true, nm_beq, Bool.not_false, Bool.not_true, op_chk, qb3, op_iaS, iaSV_sl, qaz, qau, qa2, Option.map_some, qa7, qbr, qbV, touch_ld1, touch_ld, touch_st, qbY, reach_none, nms_fn, qaI, List.contains_cons, List.contains_nil, beq_self_eq_true, Bool.or_true, Bool.or_false, ordOk, qaZ, List.all_cons, List.all_nil, Nat.testBit, Nat.reduceShiftRight, Nat.reduceAnd, Nat.reduceBEq, Bool.not_true, Bool.not_false, Bool.and_self, Bool.and_true, Bool.and_false, Nat.reduceSub, Nat.reduceLT, bne, qbh, qbN, trimO_f, qbA, qb8, isCall_ld, isCall_st, qbP, Bool.and_false, Bool.and_true, qaM, qan, qaM, qan, L19b0, Nat.sub_self, Nat.lt_irrefl, h0, h1, h2, h3, KO_k, kcell' l 0 0 rfl, hadd]
    rw [outOf_mem 2 _ _ [] (by simp only [qay, FUEL, qaD, qaB, qax, List.flatMap_cons, List.flatMap_nil, List.nil_append, List.cons_append, List.append_nil, List.map_nil, List.map_cons, List.contains_nil, List.contains_cons, Prod.mk.injEq, beq_iff_eq, Bool.or_eq_true, Bool.false_eq_true, and_true, and_false, or_false, or_true, if_true, if_false, Nat.one_ne_zero, Nat.zero_ne_one, List.filter_cons, List.filter_nil, bne_iff_ne, ne_eq, not_true_eq_false, qaq, qbQ, KO_nms, qaw, qbn, h0, h1])]
    simp (disch := first | omega | decide | simp only [qaf, qad, qag, qae, qah, qac, qaa, qab, qai]) only [List.map_cons, List.map_nil, Option.map_some, qaq, Prod.mk.injEq, false_and, if_false, Nat.zero_ne_one, List.filterMap_nil, Option.map_some, qaE, qbQ, KO_ren, qbO, h0, h1]
    rfl
end Aes

namespace Aes
open Go Go.LE

def eJ (n : Nat) (l : List (BitVec 8)) (s : R) (i : Nat) (st : St) : Prop := ∃ (H : Heap), st = ⟨[.ptr (0, 0) 0, .undef, .undef, .ptr (1, 0) 0, .ptr (1, 1) 0, N (n + 1), .undef, .undef, .undef, .undef, .undef, .undef, .undef, .undef, .undef, .undef, .undef, .undef, .undef, .undef, .undef, .undef, .undef, .undef, .undef, .undef, .undef, .undef, .undef, .undef, .undef, .sl (0, 1) 16 n none 16, N n, N i, .undef, .undef, .undef, .undef, .undef, .undef, .undef, .undef, .undef, .undef, .undef, .undef, .undef, .undef, .undef, .undef, .undef, .undef, .undef, .undef, .undef, .undef], H, 2, 2⟩ ∧
  H (0, 0) = some (KO n) ∧ H (0, 1) = some (bs l) ∧ H (1, 0) = some (aB 16 (encl (kf l) s i)) ∧ H (1, 1) = some (aB 16 fun _ => 0#8)

theorem enc_F (k n : Nat) (hn : n ≤ 20) (l : List (BitVec 8)) (hl : l.length = 16 * (n + 2)) (s : R) : F C (k + 60) 17 [.ptr (0, 0) 0, .agg (aB 16 s)] [KO n, bs l] =
    some (.agg (aB 16 (enc (kf l) n s)), [some (KO n), some (bs l)], []) := by
  rw [qbK f17]
  have e1 : n + 2 - 1 = n + 1 := rfl
  have e2 : n + 1 - 1 = n := rfl
  have hmade : ∀ (b : Nat) (H : Heap), H (0, 0) = some (KO n) → H (0, 1) = some (bs l) → qbl (envC C (k + 59)) H b 31 [.ptr (0, 0) 0] = some ⟨Bo true, [], [((0, 0), some (KO n)), ((0, 1), some (bs l))]⟩ := fun b H => c_made (k + 58) n b hn l H
  have hround : ∀ (b : Nat) (H : Heap) (s : R), H (0, 0) = some (KO n) → H (0, 1) = some (bs l) → qbl (envC C (k + 59)) H b 36 [.ptr (0, 0) 0, .agg (aB 16 s)] = some ⟨.agg (aB 16 (rnd s)), [], [((0, 0), some (KO n)), ((0, 1), some (bs l))]⟩ := fun b H s h0 h1 => c_round (k + 29) n b l H h0 h1 s
  have hmix : ∀ (b : Nat) (H : Heap) (s : R), H (0, 0) = some (KO n) → H (0, 1) = some (bs l) → qbl (envC C (k + 59)) H b 35 [.ptr (0, 0) 0, .agg (aB 16 s)] = some ⟨.agg (aB 16 (mix s)), [], [((0, 0), some (KO n)), ((0, 1), some (bs l))]⟩ := fun b H s h0 h1 => c_mix (k + 29) n b l H h0 h1 s
  have hadd : ∀ (b : Nat) (H : Heap) (s t : R), qbl (envC C (k + 59)) H b 34 [.agg (aB 16 s), .agg (aB 16 t)] = some ⟨.agg (aB 16 (add s t)), [], []⟩ := fun b H s t => c_add (k + 29) b H s t
  simp (disch := first | omega | decide | simp only [qaf, qad, qag, qae, qah, qac, qaa, qab, qai]) only [qba, qav, qap, qao, qam, qal, qaO, qar, qaC, qaH, qaK, qa3, qaY, qaj, List.set_cons_zero, List.set_cons_succ, List.getD_cons_zero, List.getD_cons_succ, List.map_cons, List.map_nil, List.nil_append, List.cons_append, qa4, List.replicate_zero, List.length_cons, List.length_nil, Nat.reduceAdd, Nat.reduceSub, stepK_new, qa9, op_new, op_box, qb2, Nat.zero_add, Nat.add_zero, aB_rep, Nat.add_zero, Nat.zero_add, Nat.reduceAdd, Nat.reduceSub, L17]
  rw [hmade _ _ rfl rfl]
  simp (disch := first | omega | decide | simp only [qaf, qad, qag, qae, qah, qac, qaa, qab, qai]) only [qbv, qav, qbg, qap, qao, qam, qal, qar, qbo, qaC, qaH, qas, qaK, qaJ, op_un, qa3, qaY, qaj, qaL, qaF, List.set_cons_zero, List.set_cons_succ, List.getD_cons_zero, List.getD_cons_succ, List.map_cons, List.map_nil, List.flatMap_cons, List.flatMap_nil, List.append_nil, List.length_cons, List.length_nil, Bo_not, ev_loop, Nat.reduceAdd, Nat.reduceSub, qaq, qa9, qaQ, qbs, qbU, op_ld1, op_ld, op_st, qbt, op_fa, faV_ptr, List.all_cons, List.all_nil, Bool.and_true, Prod.mk.injEq, Nat.reduceEqDiff, Nat.reduceLT, and_true, and_false, and_self, if_true, if_false, Nat.zero_add, Nat.add_zero, decide_true, Nat.one_ne_zero, Nat.zero_ne_one, aB_cells, aB_st_all, qbn, Nat.add_zero, Nat.zero_add, N_sub, N_nat, Nat.reduceLT, Nat.reduceEqDiff, Nat.reduceMul, Nat.reduceAdd, decide_true, nm_beq, Bool.not_false, Bool.not_true, op_chk, qb3, op_len, qbC, lenS_sl, qbZ, op_slcS, slcV_none, getD_some, op_iaS, iaSV_sl, qaz, qau, qa2, qbG, qa0, List.getElem?_cons_zero, List.getElem?_cons_succ, qa7, qbr, qbV, touch_ld1, touch_ld, touch_st, qbY, reach_none, nms_fn, qaI, List.contains_cons, List.contains_nil, beq_self_eq_true, Bool.or_true, Bool.or_false, ordOk, qaZ, List.all_cons, List.all_nil, Nat.testBit, Nat.reduceShiftRight, Nat.reduceAnd, Nat.reduceBEq, Bool.not_true, Bool.not_false, Bool.and_self, Bool.and_true, Bool.and_false, Nat.reduceSub, Nat.reduceLT, bne, qbh, qbN, trimO_f, qbA, qb8, isCall_ld, isCall_st, qbP, Bool.and_false, Bool.and_true, qaM, qan, qaM, qan, KO_k, e1, e2, kcell' l 0 0 rfl, hadd]
  generalize hL : loopN L17k0 _ _ _ = r
  refine loop_use hL (eJ n l s) n (by omega) ?_ ?_ ?_ ?_
  · rintro i st hi ⟨H, rfl, h0, h1, h2, h3⟩
    have hk : 16 + i * 16 = (i + 1) * 16 := by omega
    simp (disch := first | omega | decide | simp only [qaf, qad, qag, qae, qah, qac, qaa, qab, qai]) only [qbv, qav, qbg, qap, qao, qam, qal, qar, qbo, qaC, qaH, qas, qaK, qaJ, qa3, qaY, qaj, qaL, qbq, List.set_cons_zero, List.set_cons_succ, List.getD_cons_zero, List.getD_cons_succ, List.map_cons, List.map_nil, List.flatMap_cons, List.flatMap_nil, List.nil_append, List.append_nil, List.length_cons, List.length_nil, Nat.reduceAdd, Nat.reduceSub, qaq, qa9, qaQ, qbU, op_ld, op_new, op_st, qbt, List.all_cons, List.all_nil, Bool.and_true, Prod.mk.injEq, Nat.reduceEqDiff, Nat.reduceLT, and_true, if_true, if_false, Nat.zero_add, Nat.add_zero, decide_true, aB_rep, aB_cells, aB_st_all, qbn, Nat.add_zero, Nat.zero_add, qbp, N_nat, Nat.reduceLT, Nat.reduceEqDiff, Nat.reduceAdd, decide_true, Bool.not_true, op_iaS, iaSV_sl, qaz, qaS, qau, qa2, qa7, qbr, qbV, touch_ld, qbY, nms_fn, qaI, List.contains_cons, List.contains_nil, beq_self_eq_true, Bool.or_false, ordOk, qaZ, List.all_cons, List.all_nil, Nat.testBit, Nat.reduceShiftRight, Nat.reduceAnd, Bool.not_true, Bool.and_self, Bool.and_true, Bool.and_false, Nat.reduceSub, Nat.reduceLT, bne, qbh, qbN, qbA, isCall_ld, qbP, Bool.and_false, Bool.and_true, qaM, qan, qaM, qan, L17b0, h1, h2, hi, kcell' l (i + 1) (16 + i * 16) hk]
    generalize hG : upd (upd H (5, 0) _) (5, 0) (some (aB 16 (kf l (i + 1)))) = G
    have g0 : G (0, 0) = some (KO n) := by rw [← hG]; exact h0
    have g1 : G (0, 1) = some (bs l) := by rw [← hG]; exact h1
    have g2 : G (1, 0) = some (aB 16 (encl (kf l) s i)) := by rw [← hG]; exact h2
    have g3 : G (1, 1) = some (aB 16 fun _ => 0#8) := by rw [← hG]; exact h3
    have g5 : G (5, 0) = some (aB 16 (kf l (i + 1))) := by rw [← hG]; rfl
    rw [reach_KO _ n l g0 g1, hround _ (only [(0, 0), (0, 1)] G) _ g0 g1, tr_KO (only [(0, 0), (0, 1)] G) _ n l g0 g1]
    simp (disch := first | omega | decide | simp only [qaf, qad, qag, qae, qah, qac, qaa, qab, qai]) only [qar, qaC, qaH, qa3, qaY, List.set_cons_zero, List.set_cons_succ, List.getD_cons_zero, List.getD_cons_succ, List.map_cons, List.map_nil, List.flatMap_cons, List.flatMap_nil, List.nil_append, List.append_nil, Nat.reduceAdd, Nat.reduceSub, List.all_cons, List.all_nil, Bool.and_true, Nat.reduceLT, if_true, decide_true, qbn, Nat.reduceLT, Nat.reduceAdd, decide_true, Bool.not_false, Bool.not_true, qaz, qau, qa7, qbr, qbY, nms_fn, qaI, List.contains_cons, List.contains_nil, beq_self_eq_true, Bool.or_true, Bool.or_false, ordOk, qaZ, List.all_cons, List.all_nil, Nat.testBit, Nat.reduceShiftRight, Nat.reduceAnd, Nat.reduceBEq, Bool.not_true, Bool.not_false, Bool.and_self, Bool.and_true, Nat.reduceSub, Nat.reduceLT, bne, qbh, qbN, qbP, Bool.and_true, qaM, qaM]
    rw [reach_KO _ n l g0 g1, hmix _ (only [(0, 0), (0, 1)] G) _ g0 g1, tr_KO (only [(0, 0), (0, 1)] G) _ n l g0 g1]
    apply Exists.intro
    apply And.intro
    · simp (disch := first | omega | decide | simp only [qaf, qad, qag, qae, qah, qac, qaa, qab, qai]) only [qap, qao, qam, qal, qar, qbo, qaC, qaH, qas, qaK, qaJ, qa3, qaY, qaj, qbc, List.set_cons_zero, List.set_cons_succ, List.getD_cons_zero, List.getD_cons_succ, List.map_cons, List.map_nil, List.flatMap_cons, List.flatMap_nil, List.append_nil, List.length_cons, List.length_nil, Nat.reduceAdd, Nat.reduceSub, qa9, qaQ, qbU, op_ld, op_st, qbt, List.all_cons, List.all_nil, Bool.and_true, Nat.reduceLT, if_true, Nat.zero_add, Nat.add_zero, decide_true, aB_cells, aB_st_all, qbn, Nat.add_zero, Nat.zero_add, N_add, Nat.reduceLT, Nat.reduceAdd, decide_true, nm_beq, Bool.not_false, Bool.not_true, qaz, qau, qa2, qa7, qbr, qbV, touch_ld, touch_st, qbY, reach_none, nms_fn, qaI, List.contains_cons, List.contains_nil, beq_self_eq_true, Bool.or_true, Bool.or_false, ordOk, qaZ, List.all_cons, List.all_nil, Nat.testBit, Nat.reduceShiftRight, Nat.reduceAnd, Nat.reduceBEq, Bool.not_true, Bool.not_false, Bool.and_self, Bool.and_true, Bool.and_false, Nat.reduceSub, Nat.reduceLT, bne, qbh, qbN, trimO_f, qbA, isCall_ld, isCall_st, qbP, Bool.and_false, Bool.and_true, qaM, qan, qaM, qan, g2, g5, hadd]
      rfl
    · refine qbm [(1, 0), (1, 1)] rfl (by simp only [qay, FUEL, qaD, qaB, qax, qaI, qaT, qa6, List.flatMap_cons, List.flatMap_nil, List.nil_append, List.cons_append, List.append_nil, List.map_nil, List.map_cons, List.contains_nil, List.contains_cons, Prod.mk.injEq, beq_iff_eq, Bool.or_eq_true, Bool.false_eq_true, and_true, and_false, or_false, or_true, if_true, if_false, Nat.one_ne_zero, Nat.zero_ne_one, List.filter_cons, List.filter_nil, bne_iff_ne, ne_eq, not_false_eq_true, not_true_eq_false, qaq, qbb, qa5, qaW, qbQ, nms_N, L17k0, aB_nms, KO_nms, qaw, g0, g1, g2, g3]) rfl ⟨_, rfl, ?_, ?_, ?_, ?_⟩
      · rw [qbF]; simp (disch := first | omega | decide | simp only [qaf, qad, qag, qae, qah, qac, qaa, qab, qai]) only [Option.map_some, qaq, Prod.mk.injEq, and_true, if_false, Nat.zero_ne_one, Option.map_some, g0, KO_ren]
      · rw [qbF]; simp (disch := first | omega | decide | simp only [qaf, qad, qag, qae, qah, qac, qaa, qab, qai]) only [Option.map_some, qaq, Prod.mk.injEq, and_self, if_false, Nat.one_ne_zero, Nat.zero_ne_one, Option.map_some, qaE, g1]
      · exact qaP (1, 0) rfl (by simp (disch := first | omega | decide | simp only [qaf, qad, qag, qae, qah, qac, qaa, qab, qai]) only [qaq, if_true, g2]; rfl) (qbB _ _ _)
      · exact qaP (1, 1) rfl (by simp (disch := first | omega | decide | simp only [qaf, qad, qag, qae, qah, qac, qaa, qab, qai]) only [qaq, Prod.mk.injEq, and_false, if_false, Nat.one_ne_zero, g3]) (qbB _ _ _)
  · refine qbm [(2, 0), (3, 0)] rfl (by simp only [qay, FUEL, qaD, qaB, qax, qaI, qaT, qa6, List.flatMap_cons, List.flatMap_nil, List.nil_append, List.cons_append, List.append_nil, List.map_nil, List.map_cons, List.contains_nil, List.contains_cons, Prod.mk.injEq, beq_iff_eq, Bool.or_eq_true, Bool.false_eq_true, Nat.reduceEqDiff, and_true, and_false, or_false, or_true, if_true, if_false, Nat.one_ne_zero, Nat.zero_ne_one, List.filter_cons, List.filter_nil, bne_iff_ne, ne_eq, not_false_eq_true, not_true_eq_false, qaq, qbb, qa5, qaW, qbG, qa0, qbQ, List.getElem?_cons_zero, List.getElem?_cons_succ, nms_N, L17k0, aB_nms, KO_nms, qaw]) rfl ⟨_, rfl, ?_, ?_, ?_, ?_⟩
    · rw [qbF]; simp (disch := first | omega | decide | simp only [qaf, qad, qag, qae, qah, qac, qaa, qab, qai]) only [Option.map_some, qaq, Prod.mk.injEq, Nat.reduceEqDiff, and_true, and_false, if_true, if_false, Nat.zero_ne_one, Option.map_some, qbG, List.getElem?_cons_zero, KO_ren]
    · rw [qbF]; simp (disch := first | omega | decide | simp only [qaf, qad, qag, qae, qah, qac, qaa, qab, qai]) only [Option.map_some, qaq, Prod.mk.injEq, Nat.reduceEqDiff, and_false, and_self, if_true, if_false, Nat.one_ne_zero, Option.map_some, qaE, qbG, List.getElem?_cons_zero, List.getElem?_cons_succ]
    · exact qaP (2, 0) rfl (by simp (disch := first | omega | decide | simp only [qaf, qad, qag, qae, qah, qac, qaa, qab, qai]) only [qaq, Prod.mk.injEq, Nat.reduceEqDiff, and_true, and_self, if_true, if_false, Nat.zero_ne_one, qa0]; rfl) (qbB _ _ _)
    · exact qaP (3, 0) rfl (by simp (disch := first | omega | decide | simp only [qaf, qad, qag, qae, qah, qac, qaa, qab, qai]) only [qaq, Prod.mk.injEq, Nat.reduceEqDiff, and_true, and_self, if_true, if_false, Nat.zero_ne_one, qa0]) (qbB _ _ _)
  · rintro st ⟨H, rfl, h0, h1, h2, h3⟩
    apply qb7
    simp (disch := first | omega | decide | simp only [qaf, qad, qag, qae, qah, qac, qaa, qab, qai]) only [qbx, qav, qap, qao, qam, qal, qaO, qar, qaC, qas, qaJ, qaj, qaU, qaL, qaF, List.set_cons_zero, List.set_cons_succ, List.getD_cons_zero, List.getD_cons_succ, List.length_cons, List.length_nil, Nat.reduceAdd, Nat.zero_add, Nat.add_zero, decide_false, aB_rep, Nat.add_zero, Nat.zero_add, qbp, Nat.reduceAdd, Nat.lt_irrefl, decide_false, L17b0, Nat.lt_irrefl]
    rfl
  · rintro st ⟨H, rfl, h0, h1, h2, h3⟩ rfl
    simp (disch := first | omega | decide | simp only [qaf, qad, qag, qae, qah, qac, qaa, qab, qai]) only [qbx, qav, qap, qao, qam, qal, qar, qaC, qaH, qas, qaK, qaJ, qa3, qaY, qaj, qaU, qbL, qaL, qaF, List.set_cons_zero, List.set_cons_succ, List.getD_cons_zero, List.getD_cons_succ, List.map_cons, List.map_nil, List.flatMap_cons, List.flatMap_nil, List.nil_append, List.append_nil, List.length_cons, List.length_nil, Nat.reduceAdd, Nat.reduceSub, qaQ, qbU, op_ld, List.all_cons, List.all_nil, Bool.and_true, Nat.reduceLT, if_true, Nat.zero_add, Nat.add_zero, decide_true, decide_false, aB_rep, aB_cells, qbn, Nat.add_zero, Nat.zero_add, qbp, Nat.reduceLT, Nat.reduceAdd, Nat.lt_irrefl, decide_false, decide_true, Bool.not_true, qaz, qau, qa7, qbr, qbV, touch_ld, qbY, nms_fn, qaI, List.contains_cons, List.contains_nil, beq_self_eq_true, Bool.or_false, ordOk, qaZ, List.all_cons, List.all_nil, Nat.testBit, Nat.reduceShiftRight, Nat.reduceAnd, Bool.not_true, Bool.and_self, Bool.and_true, Bool.and_false, Nat.reduceSub, Nat.reduceLT, bne, qbh, qbN, qbA, isCall_ld, qbP, Bool.and_false, Bool.and_true, qaM, qan, qaM, qan, L17b0, Nat.lt_irrefl, h2]
    rw [reach_KO _ n l h0 h1, hround _ (only [(0, 0), (0, 1)] H) _ h0 h1, tr_KO (only [(0, 0), (0, 1)] H) _ n l h0 h1]
    simp (disch := first | omega | decide | simp only [qaf, qad, qag, qae, qah, qac, qaa, qab, qai]) only [qbD, qao, qam, qal, qar, qbo, qaC, qaH, qas, qaK, qa3, qaY, qaj, qbi, List.set_cons_zero, List.set_cons_succ, List.getD_cons_zero, List.getD_cons_succ, List.map_cons, List.map_nil, List.flatMap_cons, List.flatMap_nil, List.append_nil, Option.map_some, Nat.reduceAdd, Nat.reduceSub, qaq, qa9, qaQ, qbs, qbU, op_ld1, op_ld, op_st, qbt, op_fa, faV_ptr, List.all_cons, List.all_nil, Bool.and_true, Nat.reduceLT, if_true, Nat.zero_add, Nat.add_zero, decide_true, resVal_agg, aggV_some, aB_cells, aB_st_all, qbn, Nat.add_zero, Nat.zero_add, N_nat, Nat.reduceLT, Nat.reduceAdd, decide_true, nm_beq, Bool.not_false, Bool.not_true, op_chk, qb3, op_iaS, iaSV_sl, qaz, qau, qa2, Option.map_some, qa7, qbr, qbV, touch_ld1, touch_ld, touch_st, qbY, reach_none, nms_fn, qaI, List.contains_cons, List.contains_nil, beq_self_eq_true, Bool.or_true, Bool.or_false, ordOk, qaZ, List.all_cons, List.all_nil, Nat.testBit, Nat.reduceShiftRight, Nat.reduceAnd, Nat.reduceBEq, Bool.not_true, Bool.not_false, Bool.and_self, Bool.and_true, Bool.and_false, Nat.reduceSub, Nat.reduceLT, bne, qbh, qbN, trimO_f, qbA, qb8, isCall_ld, isCall_st, qbP, Bool.and_false, Bool.and_true, qaM, qan, qaM, qan, h0, h1, h3, KO_k, kcell' l (n + 1) ((n + 1) * 16) rfl, hadd]
    rw [outOf_mem 2 _ _ [] (by simp only [qay, FUEL, qaD, qaB, qax, List.flatMap_cons, List.flatMap_nil, List.nil_append, List.cons_append, List.append_nil, List.map_nil, List.map_cons, List.contains_nil, List.contains_cons, Prod.mk.injEq, beq_iff_eq, Bool.or_eq_true, Bool.false_eq_true, and_true, and_false, or_false, or_true, if_true, if_false, Nat.one_ne_zero, Nat.zero_ne_one, List.filter_cons, List.filter_nil, bne_iff_ne, ne_eq, not_true_eq_false, qaq, qbQ, KO_nms, qaw, qbn, h0, h1])]
    simp (disch := first | omega | decide | simp only [qaf, qad, qag, qae, qah, qac, qaa, qab, qai]) only [List.map_cons, List.map_nil, Option.map_some, qaq, Prod.mk.injEq, false_and, if_false, Nat.zero_ne_one, List.filterMap_nil, Option.map_some, qaE, qbQ, KO_ren, qbO, h0, h1]
    rfl
end Aes

namespace Aes
open Go Go.LE

theorem at4_0 (s : R) : E16 (fun i => at4 s i 0) s := fun i hi => by
  simp only [at4, Nat.add_zero]; congr 1; omega
theorem mix_unmix (s : R) : mix (unmix s) = fun i => at4 s i 0 := by
  funext i
  simp only [mix]
  have h : ∀ k, at4 (unmix s) i k = T14 (at4 s i (k % 4)) ^^^ T11 (at4 s i ((k + 1) % 4)) ^^^ T13 (at4 s i ((k + 2) % 4)) ^^^ T9 (at4 s i ((k + 3) % 4)) := by
    intro k
    show unmix s (4 * (i / 4) + (i + k) % 4) = _
    simp only [unmix, at4_move, Nat.add_zero]
  rw [h, h, h, h]
  simp only [Nat.reduceMod, Nat.reduceAdd]
  generalize at4 s i 0 = w; generalize at4 s i 1 = x; generalize at4 s i 2 = y; generalize at4 s i 3 = z
  simp only [T14, T11, T13, T9, T2_lin]
  have e2 : ∀ a, T2 (T2 a) = T4 a := fun a => rfl
  have e3 : ∀ a, T2 (T4 a) = T8 a := fun a => rfl
  simp only [e2, e3]
  generalize T2 (T8 w) = w16; generalize T2 (T8 x) = x16; generalize T2 (T8 y) = y16; generalize T2 (T8 z) = z16
  generalize T8 w = w8; generalize T8 x = x8; generalize T8 y = y8; generalize T8 z = z8
  generalize T4 w = w4; generalize T4 x = x4; generalize T4 y = y4; generalize T4 z = z4
  generalize T2 w = w2; generalize T2 x = x2; generalize T2 y = y2; generalize T2 z = z2
  simp only [BitVec.xor_assoc, BitVec.xor_comm, xc, GF.xor_self_cancel, BitVec.xor_self, BitVec.xor_zero]

theorem decl_enc (K : Nat → R) (n : Nat) (s : R) : ∀ i, i ≤ n → E16 (decl K n (enc K n s) i) (encl K s (n - i)) := by
  intro i
  induction i with
  | zero =>
    intro _
    rw [decl, enc, add_add]
    exact unrnd_rnd _
  | succ i ih =>
    intro hi
    obtain ⟨m, hm⟩ : ∃ m, n - i = m + 1 := ⟨n - i - 1, by omega⟩
    have e : n - (i + 1) = m := by omega
    rw [decl, e, hm]
    have h := ih (by omega)
    rw [hm, encl] at h
    have h2 := add_c h (K (m + 1))
    rw [add_add] at h2
    have h3 := unmix_c h2
    rw [unmix_mix] at h3
    exact (unrnd_c (h3.trans (at4_0 _))).trans (unrnd_rnd _)
theorem dec_enc (K : Nat → R) (n : Nat) (s : R) : E16 (dec K n (enc K n s)) s := by
  have h := decl_enc K n s n (Nat.le_refl _)
  rw [Nat.sub_self, encl] at h
  have h2 := add_c h (K 0)
  rw [add_add] at h2
  exact h2
theorem encl_dec (K : Nat → R) (n : Nat) (s : R) : ∀ i, i ≤ n → E16 (encl K (dec K n s) i) (decl K n s (n - i)) := by
  intro i
  induction i with
  | zero =>
    intro _
    rw [encl, dec, add_add]
    exact E16.refl _
  | succ i ih =>
    intro hi
    obtain ⟨m, hm⟩ : ∃ m, n - i = m + 1 := ⟨n - i - 1, by omega⟩
    have e : n - (i + 1) = m := by omega
    have e2 : n - m = i + 1 := by omega
    rw [encl, e]
    have h := ih (by omega)
    rw [hm, decl, e2] at h
    have h2 := (mix_c ((rnd_c h).trans (rnd_unrnd _)))
    rw [mix_unmix] at h2
    have h3 := add_c (h2.trans (at4_0 _)) (K (i + 1))
    rw [add_add] at h3
    exact h3
theorem enc_dec (K : Nat → R) (n : Nat) (s : R) : E16 (enc K n (dec K n s)) s := by
  have h := encl_dec K n s n (Nat.le_refl _)
  rw [Nat.sub_self, decl] at h
  have h2 := add_c ((rnd_c h).trans (rnd_unrnd _)) (K (n + 1))
  rw [add_add] at h2
  exact h2

theorem enc_c (K : Nat → R) (n : Nat) {s t : R} (h : E16 s t) : E16 (enc K n s) (enc K n t) := by
  have hl : ∀ i, E16 (encl K s i) (encl K t i) := by
    intro i
    induction i with
    | zero => exact add_c h _
    | succ i ih => exact add_c (mix_c (rnd_c ih)) _
  exact add_c (rnd_c (hl n)) _
theorem dec_c (K : Nat → R) (n : Nat) {s t : R} (h : E16 s t) : E16 (dec K n s) (dec K n t) := by
  have hl : ∀ i, E16 (decl K n s i) (decl K n t i) := by
    intro i
    induction i with
    | zero => exact unrnd_c (add_c h _)
    | succ i ih => exact unrnd_c (unmix_c (add_c ih _))
  exact add_c (hl n) _
/-! ### Key, Rounds -/

end Aes
