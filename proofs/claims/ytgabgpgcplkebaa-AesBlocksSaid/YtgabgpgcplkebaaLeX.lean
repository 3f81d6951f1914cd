/- The document's Encrypt and Decrypt, evaluated. -/
/- The document's Decrypt, evaluated. -/
/- boxed, the document's Boxes, evaluated. -/
/- The key schedule in plain Lean; what must come of every program. -/
/- Rows of words and of round keys: made, appended to. -/
import Derived.Test.YtgabgpgcplkebaaLeV
set_option linter.unusedVariables false
set_option linter.unusedSimpArgs false

namespace Aes
open Go Go.LE

def RO (n : Nat) : Cells := .sl (0, 1) 0 (n + 2) none 16 :: aB 512 TB
theorem RO_length (n : Nat) : (RO n).length = 513 := by rw [RO, List.length_cons, aB_length]
theorem RO_k (n : Nat) : cellK 0 1 (some (RO n)) = some [.sl (0, 1) 0 (n + 2) none 16] := by
  rw [cellK_some, if_pos (by rw [RO_length]; decide)]; rfl
theorem RO_at (n o : Nat) (h : o < 512) : cellK (o + 1) 1 (some (RO n)) = some [B8 (TB o)] := by
  have := aB_cell 512 TB o h
  rw [cellK_some, if_pos (by rw [aB_length]; omega)] at this
  rw [cellK_some, if_pos (by rw [RO_length]; omega), RO, List.drop_succ_cons]
  exact this
theorem RO_bx (n : Nat) (x : BitVec 8) : cellK (1 + x.toNat) 1 (some (RO n)) = some [B8 (BX x.toNat)] := by
  have := x.isLt
  rw [Nat.add_comm, RO_at n _ (by omega), TB_bx]
theorem RO_ub (n : Nat) (x : BitVec 8) : cellK (257 + x.toNat) 1 (some (RO n)) = some [B8 (UB x.toNat)] := by
  have := x.isLt
  rw [show 257 + x.toNat = (256 + x.toNat) + 1 by omega, RO_at n _ (by omega), TB_ub]
theorem RO_nms (n : Nat) : (RO n).flatMap (nms D) = [(0, 1)] := by rw [RO, List.flatMap_cons, aB_nms]; rfl
theorem RO_ren (n : Nat) (names : List Nm) : (RO n).map (ren D (canonMap names)) = RO n := by
  rw [RO, List.map_cons, aB_ren, ren_slF, canonMap_0]; rfl

def bxs (s : R) : R := fun j => BX (s j).toNat
def ubs (s : R) : R := fun j => UB (s j).toNat
theorem mixg_M' (s : R) : mixg fM s = mix s := funext (mixg_M s)
theorem mixg_U' (s : R) : mixg fU s = unmix s := funext (mixg_U s)
theorem lit_M : [B8 2#8, B8 3#8, B8 1#8, B8 1#8] = aB 4 fM := rfl
theorem lit_U : [B8 14#8, B8 11#8, B8 13#8, B8 9#8] = aB 4 fU := rfl
theorem r_add (k b : Nat) (H : Heap) (s t : R) : callOp (envC C (k + 30)) H b 37 [.agg (aB 16 s), .agg (aB 16 t)] = some ⟨.agg (aB 16 (add s t)), [], []⟩ := by
  rw [callOp_C l37 (by simp only [List.flatMap_cons, List.flatMap_nil, aB_agg_nms, List.append_nil]) (by simp only [List.map_cons, List.map_nil, aB_agg_ren]), radd_F, aB_calK]
theorem r_shift (k b : Nat) (H : Heap) (s : R) : callOp (envC C (k + 30)) H b 38 [.agg (aB 16 s)] = some ⟨.agg (aB 16 (shf s)), [], []⟩ := by
  rw [callOp_C l38 (by simp only [List.flatMap_cons, List.flatMap_nil, aB_agg_nms, List.append_nil]) (by simp only [List.map_cons, List.map_nil, aB_agg_ren]), shift_F, aB_calK]
theorem r_mix (k b : Nat) (H : Heap) (s f : R) : callOp (envC C (k + 30)) H b 39 [.agg (aB 16 s), .agg (aB 4 f)] = some ⟨.agg (aB 16 (mixg f s)), [], []⟩ := by
  rw [callOp_C l39 (by simp only [List.flatMap_cons, List.flatMap_nil, aB_agg_nms, List.append_nil]) (by simp only [List.map_cons, List.map_nil, aB_agg_ren]), rmix_F, aB_calK]

/-- the state behind so many rounds -/
def reS (K : Nat → R) (n : Nat) (s : R) (i : Nat) : R := if i < n + 1 then encl K s i else enc K n s
def reO (n : Nat) (l : List (BitVec 8)) (s : R) (i : Nat) (st : St) : Prop := ∃ (H : Heap), st = ⟨[.ptr (0, 0) 0, .undef, .undef, .ptr (1, 0) 0, .ptr (1, 1) 0, N (i + 1), .undef, .undef, .undef, .undef, .undef, .undef, .undef, .undef, .undef, .undef, .undef, .undef, .undef, .undef, .undef, .undef, .undef, .undef, .undef, .undef, .undef, .undef, .undef, .undef, .undef, .undef, .undef, .undef, .undef, .undef, .undef, .undef, .undef, .undef, .undef, .undef, .undef, .undef, .undef, .undef, .undef, .undef, .undef, .undef, .undef, .undef, .undef, .undef, .undef, .undef, .undef, .undef, .undef, .undef, .undef], H, 2, 2⟩ ∧
  H (0, 0) = some (RO n) ∧ H (0, 1) = some (bs l) ∧ H (1, 0) = some (aB 16 (reS (kf l) n s i)) ∧ H (1, 1) = some (aB 16 fun _ => 0#8)
def reI (n : Nat) (l : List (BitVec 8)) (s : R) (i j : Nat) (st : St) : Prop := ∃ (H : Heap), st = ⟨[.ptr (0, 0) 0, .undef, .undef, .ptr (1, 0) 0, .ptr (1, 1) 0, N (i + 1), N j, .undef, .undef, .undef, .undef, .undef, .undef, .undef, .undef, .undef, .undef, .undef, .undef, .undef, .undef, .undef, .undef, .undef, .undef, .undef, .undef, .undef, .undef, .undef, .undef, .undef, .undef, .undef, .undef, .undef, .undef, .undef, .undef, .undef, .undef, .undef, .undef, .undef, .undef, .undef, .undef, .undef, .undef, .undef, .undef, .undef, .undef, .undef, .undef, .undef, .undef, .undef, .undef, .undef, .undef], H, 2, 2⟩ ∧
  H (0, 0) = some (RO n) ∧ H (0, 1) = some (bs l) ∧ H (1, 0) = some (aB 16 (upto j (bxs s) s)) ∧ H (1, 1) = some (aB 16 fun _ => 0#8)

theorem renc_F (k n : Nat) (hn : n ≤ 20) (l : List (BitVec 8)) (hl : l.length = 16 * (n + 2)) (s : R) : F C (k + 60) 18 [.ptr (0, 0) 0, .agg (aB 16 s)] [RO n, bs l] =
    some (.agg (aB 16 (enc (kf l) n s)), [some (RO n), some (bs l)], []) := by
  rw [F_succ f18]
  have e1 : n + 2 - 1 = n + 1 := rfl
  have hadd : ∀ (b : Nat) (H : Heap) (s t : R), callOp (envC C (k + 59)) H b 37 [.agg (aB 16 s), .agg (aB 16 t)] = some ⟨.agg (aB 16 (add s t)), [], []⟩ := fun b H s t => r_add (k + 29) b H s t
  have hsh : ∀ (b : Nat) (H : Heap) (s : R), callOp (envC C (k + 59)) H b 38 [.agg (aB 16 s)] = some ⟨.agg (aB 16 (shf s)), [], []⟩ := fun b H s => r_shift (k + 29) b H s
  have hmx : ∀ (b : Nat) (H : Heap) (s f : R), callOp (envC C (k + 59)) H b 39 [.agg (aB 16 s), .agg (aB 4 f)] = some ⟨.agg (aB 16 (mixg f s)), [], []⟩ := fun b H s f => r_mix (k + 29) b H s f
  simp (disch := first | omega | decide | simp only [bs_isCell, bs_length, aW_isCell, aB_isCell, isCell_sl, isCell_isl, isCell_nil, isCell_ptr, isCell_N]) only [funSem_eq, ev_seq, ev_block, ev_region, regK_some, evOpers_nil, evOpers_cons, put_some, put_none, evX_t, evX_c, outR_some, op_mv, op_call, callV_fn, andThen_normal, List.set_cons_zero, List.set_cons_succ, List.getD_cons_zero, List.getD_cons_succ, List.map_cons, List.map_nil, List.flatMap_cons, List.flatMap_nil, List.nil_append, List.cons_append, List.append_nil, repUn_succ, List.replicate_zero, List.length_cons, List.length_nil, ev_loop, Nat.reduceAdd, Nat.reduceSub, upd_at, cellsOf_agg, cellAt_ptr, ld1K_some, ldK_some, op_ld1, op_ld, op_new, op_box, boxK_some, op_st, stV_ptr, op_fa, faV_ptr, List.all_cons, List.all_nil, Bool.and_true, Prod.mk.injEq, Nat.reduceEqDiff, Nat.reduceLT, and_true, and_self, if_true, if_false, Nat.zero_add, Nat.add_zero, decide_true, Nat.one_ne_zero, aB_rep, aB_cells, aB_st_all, aB_agg_nms, Nat.add_zero, Nat.zero_add, N_nat, Nat.reduceLT, Nat.reduceEqDiff, Nat.reduceMul, Nat.reduceAdd, decide_true, nm_beq, Bool.not_false, Bool.not_true, op_chk, chkV_ptr, op_iaS, iaSV_sl, updN_nil, updN_cons, modN_nil, modN_cons, inHeap_at, inHeap_none, List.getElem?_cons_zero, List.getElem?_cons_succ, evOpers_ord, stepO_eq, only_at, touch_ld1, touch_ld, touch_st, touch_call, reach_none, nms_fn, nms_ptr, List.contains_cons, List.contains_nil, beq_self_eq_true, Bool.or_true, Bool.or_false, ordOk, apartFrom, List.all_cons, List.all_nil, Nat.testBit, Nat.reduceShiftRight, Nat.reduceAnd, Nat.reduceBEq, Bool.not_true, Bool.not_false, Bool.and_self, Bool.and_true, Bool.and_false, Nat.reduceSub, Nat.reduceLT, bne, envC_trim, C_trim, trimO_f, trimO_pure, isCall_ld1, isCall_ld, isCall_st, isCall_call, Bool.and_false, Bool.and_true, ordK_gen, stepK_gen, ordK_gen, stepK_gen, L18, RO_k, kcell' l 0 0 rfl, hadd]
  generalize hL : loopN L18k1 _ _ _ = r
  refine loop_use hL (reO n l s) (n + 1) (by omega) ?_ ?_ ?_ ?_
  · rintro i st hi ⟨H, rfl, h0, h1, h2, h3⟩
    have hi2 : i + 1 < n + 2 := by omega
    simp (disch := first | omega | decide | simp only [bs_isCell, bs_length, aW_isCell, aB_isCell, isCell_sl, isCell_isl, isCell_nil, isCell_ptr, isCell_N]) only [ev_skip, ev_seq, ev_block, ev_region, regK_some, evOpers_nil, evOpers_cons, stepK_pure, put_some, evX_t, evX_c, outR_some, op_mv, op_bin, andThen_normal, ev_cond, condK_true, List.set_cons_zero, List.set_cons_succ, List.getD_cons_zero, List.getD_cons_succ, List.length_cons, List.length_nil, ev_loop, Nat.reduceAdd, cellAt_ptr, ld1K_some, op_ld1, op_fa, faV_ptr, Nat.zero_add, Nat.add_zero, decide_true, Nat.add_zero, Nat.zero_add, N_lss, Nat.reduceAdd, decide_true, op_chk, chkV_ptr, op_len, lenV_some, lenS_sl, L18b1, h0, RO_k, hi2]
    generalize hL2 : loopN L18k0 _ _ _ = r2
    refine loop_use hL2 (reI n l (reS (kf l) n s i) i) 16 (by omega) ?_ ?_ ?_ ?_
    · rintro j st hj ⟨H, rfl, h0, h1, h2, h3⟩
      have hs := upto_succ j (bxs (reS (kf l) n s i)) (reS (kf l) n s i) (BX (reS (kf l) n s i j).toNat) rfl
      apply Exists.intro
      apply And.intro
      · simp (disch := first | omega | decide | simp only [bs_isCell, bs_length, aW_isCell, aB_isCell, isCell_sl, isCell_isl, isCell_nil, isCell_ptr, isCell_N]) only [ev_skip, ev_seq, ev_block, ev_region, regK_some, evOpers_nil, evOpers_cons, stepK_pure, put_some, put_none, evX_t, evX_c, outR_some, op_mv, op_bin, andThen_normal, inBlock_normal, ev_cond, condK_true, nms_B8, List.set_cons_zero, List.set_cons_succ, List.getD_cons_zero, List.getD_cons_succ, List.append_nil, List.length_cons, List.length_nil, B8_nat, Nat.reduceAdd, Nat.reduceSub, cellsOf_B8, cellAt_ptr, ld1K_some, op_ld1, op_st, stV_ptr, op_fa, faV_ptr, op_iaA, iaV_lt, List.all_cons, List.all_nil, Bool.and_true, Nat.reduceLT, if_true, Nat.zero_add, Nat.add_zero, decide_true, aB_cell, aB_st, Nat.mul_one, Nat.add_zero, Nat.zero_add, B8_nat, N_add, N_lss, N_nat, Nat.reduceLT, Nat.reduceAdd, decide_true, nm_beq, Bool.not_false, Bool.not_true, op_chk, chkV_ptr, Nat.mul_one, evOpers_ord, stepO_eq, ordK_pure, ordK_mod, only_at, touch_ld1, touch_st, nms_ptr, List.contains_cons, List.contains_nil, beq_self_eq_true, Bool.or_true, Bool.or_false, ordOk, apartFrom, List.all_cons, List.all_nil, Nat.testBit, Nat.reduceShiftRight, Nat.reduceAnd, Nat.reduceBEq, Bool.not_true, Bool.not_false, Bool.and_self, Bool.and_true, Bool.and_false, Nat.reduceSub, Nat.reduceLT, bne, envC_trim, C_trim, trimO_f, trimO_pure, isCall_ld1, isCall_st, Bool.and_false, Bool.and_true, L18b0, h0, h2, hj, upto_at, RO_bx, hs]
        rfl
      · refine canon_inv [(1, 0), (1, 1)] rfl (by simp only [canonNames, FUEL, reach_cons, reachK_some, reach_nil, nms_ptr, nms_undef, List.flatMap_cons, List.flatMap_nil, List.nil_append, List.cons_append, List.append_nil, List.map_nil, List.map_cons, List.contains_nil, List.contains_cons, Prod.mk.injEq, beq_iff_eq, Bool.or_eq_true, Bool.false_eq_true, and_true, and_false, or_false, or_true, if_true, if_false, Nat.one_ne_zero, Nat.zero_ne_one, List.filter_cons, List.filter_nil, bne_iff_ne, ne_eq, not_false_eq_true, not_true_eq_false, upd_at, mask_nil, mask_true, mask_false, range_two, nms_N, L18k0, aB_nms, RO_nms, bs_nms, h0, h1, h2, h3]) rfl ⟨_, rfl, ?_, ?_, ?_, ?_⟩
        · rw [cN_zero]; simp (disch := first | omega | decide | simp only [bs_isCell, bs_length, aW_isCell, aB_isCell, isCell_sl, isCell_isl, isCell_nil, isCell_ptr, isCell_N]) only [Option.map_some, upd_at, Prod.mk.injEq, and_true, if_false, Nat.zero_ne_one, Option.map_some, h0, RO_ren]
        · rw [cN_zero]; simp (disch := first | omega | decide | simp only [bs_isCell, bs_length, aW_isCell, aB_isCell, isCell_sl, isCell_isl, isCell_nil, isCell_ptr, isCell_N]) only [Option.map_some, upd_at, Prod.mk.injEq, and_self, if_false, Nat.one_ne_zero, Nat.zero_ne_one, Option.map_some, bs_ren, h1]
        · exact cN_same (1, 0) rfl (by simp (disch := first | omega | decide | simp only [bs_isCell, bs_length, aW_isCell, aB_isCell, isCell_sl, isCell_isl, isCell_nil, isCell_ptr, isCell_N]) only [upd_at, if_true, h2]) (aB_ren _ _ _)
        · exact cN_same (1, 1) rfl (by simp (disch := first | omega | decide | simp only [bs_isCell, bs_length, aW_isCell, aB_isCell, isCell_sl, isCell_isl, isCell_nil, isCell_ptr, isCell_N]) only [upd_at, Prod.mk.injEq, and_false, if_false, Nat.one_ne_zero, h3]) (aB_ren _ _ _)
    · refine canon_inv [(1, 0), (1, 1)] rfl (by simp only [canonNames, FUEL, reach_cons, reachK_some, reach_nil, nms_ptr, nms_undef, List.flatMap_cons, List.flatMap_nil, List.nil_append, List.cons_append, List.append_nil, List.map_nil, List.map_cons, List.contains_nil, List.contains_cons, Prod.mk.injEq, beq_iff_eq, Bool.or_eq_true, Bool.false_eq_true, and_true, and_false, or_false, or_true, if_true, if_false, Nat.one_ne_zero, Nat.zero_ne_one, List.filter_cons, List.filter_nil, bne_iff_ne, ne_eq, not_false_eq_true, not_true_eq_false, mask_nil, mask_true, mask_false, range_two, nms_N, L18k0, aB_nms, RO_nms, bs_nms, h0, h1, h2, h3]) rfl ⟨_, rfl, ?_, ?_, ?_, ?_⟩
      · rw [cN_zero]; simp (disch := first | omega | decide | simp only [bs_isCell, bs_length, aW_isCell, aB_isCell, isCell_sl, isCell_isl, isCell_nil, isCell_ptr, isCell_N]) only [Option.map_some, Option.map_some, h0, RO_ren]
      · rw [cN_zero]; simp (disch := first | omega | decide | simp only [bs_isCell, bs_length, aW_isCell, aB_isCell, isCell_sl, isCell_isl, isCell_nil, isCell_ptr, isCell_N]) only [Option.map_some, Option.map_some, bs_ren, h1]
      · rw [upto_zero]; exact cN_same (1, 0) rfl (by simp (disch := first | omega | decide | simp only [bs_isCell, bs_length, aW_isCell, aB_isCell, isCell_sl, isCell_isl, isCell_nil, isCell_ptr, isCell_N]) only [h2]) (aB_ren _ _ _)
      · exact cN_same (1, 1) rfl (by simp (disch := first | omega | decide | simp only [bs_isCell, bs_length, aW_isCell, aB_isCell, isCell_sl, isCell_isl, isCell_nil, isCell_ptr, isCell_N]) only [h3]) (aB_ren _ _ _)
    · rintro st ⟨H, rfl, h0, h1, h2, h3⟩
      apply stop_exit
      simp (disch := first | omega | decide | simp only [bs_isCell, bs_length, aW_isCell, aB_isCell, isCell_sl, isCell_isl, isCell_nil, isCell_ptr, isCell_N]) only [ev_exit, ev_seq, ev_region, regK_some, evOpers_nil, evOpers_cons, stepK_pure, put_some, evX_t, evX_c, outR_some, op_mv, op_bin, andThen_normal, andThen_exit, ev_cond, condK_false, List.set_cons_zero, List.set_cons_succ, List.getD_cons_zero, List.getD_cons_succ, List.length_cons, List.length_nil, Nat.reduceAdd, Nat.zero_add, Nat.add_zero, decide_false, Nat.add_zero, Nat.zero_add, N_lss, Nat.reduceAdd, Nat.lt_irrefl, decide_false, L18b0]
      rfl
    · rintro st ⟨H, rfl, h0, h1, h2, h3⟩ rfl
      rw [upto_all] at h2
      by_cases hm : i + 1 < n + 1
      · have hr : reS (kf l) n s (i + 1) = add (mix (shf (bxs (reS (kf l) n s i)))) (kf l (i + 1)) := by
          rw [reS, if_pos hm, reS, if_pos (by omega)]; rfl
        apply Exists.intro
        apply And.intro
        · simp (disch := first | omega | decide | simp only [bs_isCell, bs_length, aW_isCell, aB_isCell, isCell_sl, isCell_isl, isCell_nil, isCell_ptr, isCell_N]) only [ev_exit, ev_seq, ev_region, regK_some, evOpers_nil, evOpers_cons, put_some, put_none, evX_t, evX_c, outR_some, op_mv, op_bin, op_call, callV_fn, andThen_normal, andThen_exit, inBlock_normal, inBlock_exit, ev_cond, condK_true, condK_false, List.set_cons_zero, List.set_cons_succ, List.getD_cons_zero, List.getD_cons_succ, List.map_cons, List.map_nil, List.flatMap_cons, List.flatMap_nil, List.nil_append, List.cons_append, List.append_nil, List.length_cons, List.length_nil, Nat.reduceAdd, Nat.reduceSub, upd_at, cellsOf_agg, cellsOf_B8, cellAt_ptr, ld1K_some, ldK_some, op_ld1, op_ld, op_st, stV_ptr, op_fa, faV_ptr, fill_nil, fill_cons, fillK_some, aggR_some, op_build, splice, List.take_succ_cons, List.take_zero, List.drop_succ_cons, List.drop_zero, List.drop_nil, List.all_cons, List.all_nil, Bool.and_true, Prod.mk.injEq, Nat.reduceLeDiff, Nat.reduceLT, and_true, and_self, if_true, if_false, Nat.zero_add, Nat.add_zero, Nat.le_refl, decide_true, decide_false, Nat.one_ne_zero, Nat.zero_ne_one, aB_cells, aB_st_all, aB_agg_nms, Nat.add_zero, Nat.zero_add, N_add, N_sub, N_lss, N_nat, Nat.reduceLT, Nat.reduceLeDiff, Nat.reduceAdd, Nat.lt_irrefl, decide_false, decide_true, nm_beq, Bool.not_false, Bool.not_true, op_chk, chkV_ptr, op_len, lenV_some, lenS_sl, op_iaS, iaSV_sl, updN_nil, modN_nil, modN_cons, evOpers_ord, stepO_eq, only_at, touch_ld1, touch_ld, touch_st, touch_call, reach_none, nms_fn, nms_ptr, List.contains_cons, List.contains_nil, beq_self_eq_true, Bool.or_true, Bool.or_false, ordOk, apartFrom, List.all_cons, List.all_nil, Nat.testBit, Nat.reduceShiftRight, Nat.reduceAnd, Nat.reduceBEq, Bool.not_true, Bool.not_false, Bool.and_self, Bool.and_true, Bool.and_false, Nat.reduceSub, Nat.reduceLT, bne, envC_trim, C_trim, trimO_f, trimO_pure, isCall_ld1, isCall_ld, isCall_st, isCall_call, Bool.and_false, Bool.and_true, ordK_gen, stepK_gen, ordK_gen, stepK_gen, L18b0, h0, h1, h2, RO_k, e1, hm, kcell' l (i + 1) ((i + 1) * 16) rfl, lit_M, hadd, hsh, hmx, mixg_M', ← hr]
          rfl
        · refine canon_inv [(1, 0), (1, 1)] rfl (by simp only [canonNames, FUEL, reach_cons, reachK_some, reach_nil, nms_ptr, nms_undef, List.flatMap_cons, List.flatMap_nil, List.nil_append, List.cons_append, List.append_nil, List.map_nil, List.map_cons, List.contains_nil, List.contains_cons, Prod.mk.injEq, beq_iff_eq, Bool.or_eq_true, Bool.false_eq_true, and_true, and_false, or_false, or_true, if_true, if_false, Nat.one_ne_zero, Nat.zero_ne_one, List.filter_cons, List.filter_nil, bne_iff_ne, ne_eq, not_false_eq_true, not_true_eq_false, upd_at, mask_nil, mask_true, mask_false, range_two, nms_N, L18k1, aB_nms, RO_nms, bs_nms, h0, h1, h2, h3]) rfl ⟨_, rfl, ?_, ?_, ?_, ?_⟩
          · rw [cN_zero]; simp (disch := first | omega | decide | simp only [bs_isCell, bs_length, aW_isCell, aB_isCell, isCell_sl, isCell_isl, isCell_nil, isCell_ptr, isCell_N]) only [Option.map_some, upd_at, Prod.mk.injEq, and_true, if_false, Nat.zero_ne_one, Option.map_some, h0, RO_ren]
          · rw [cN_zero]; simp (disch := first | omega | decide | simp only [bs_isCell, bs_length, aW_isCell, aB_isCell, isCell_sl, isCell_isl, isCell_nil, isCell_ptr, isCell_N]) only [Option.map_some, upd_at, Prod.mk.injEq, and_self, if_false, Nat.one_ne_zero, Nat.zero_ne_one, Option.map_some, bs_ren, h1]
          · exact cN_same (1, 0) rfl (by simp (disch := first | omega | decide | simp only [bs_isCell, bs_length, aW_isCell, aB_isCell, isCell_sl, isCell_isl, isCell_nil, isCell_ptr, isCell_N]) only [upd_at, if_true, h2]) (aB_ren _ _ _)
          · exact cN_same (1, 1) rfl (by simp (disch := first | omega | decide | simp only [bs_isCell, bs_length, aW_isCell, aB_isCell, isCell_sl, isCell_isl, isCell_nil, isCell_ptr, isCell_N]) only [upd_at, Prod.mk.injEq, and_false, if_false, Nat.one_ne_zero, h3]) (aB_ren _ _ _)
      · have hr : reS (kf l) n s (i + 1) = add (shf (bxs (reS (kf l) n s i))) (kf l (i + 1)) := by
          obtain rfl : i = n := by omega
          rw [reS, if_neg hm, reS, if_pos (by omega)]; rfl
        apply Exists.intro
        apply And.intro
        · simp (disch := first | omega | decide | simp only [bs_isCell, bs_length, aW_isCell, aB_isCell, isCell_sl, isCell_isl, isCell_nil, isCell_ptr, isCell_N]) only [ev_skip, ev_exit, ev_seq, ev_region, regK_some, evOpers_nil, evOpers_cons, put_some, put_none, evX_t, evX_c, outR_some, op_mv, op_bin, op_call, callV_fn, andThen_normal, andThen_exit, inBlock_normal, inBlock_exit, ev_cond, condK_false, List.set_cons_zero, List.set_cons_succ, List.getD_cons_zero, List.getD_cons_succ, List.map_cons, List.map_nil, List.flatMap_cons, List.flatMap_nil, List.append_nil, List.length_cons, List.length_nil, Nat.reduceAdd, Nat.reduceSub, upd_at, cellsOf_agg, cellAt_ptr, ld1K_some, ldK_some, op_ld1, op_ld, op_st, stV_ptr, op_fa, faV_ptr, List.all_cons, List.all_nil, Bool.and_true, Prod.mk.injEq, Nat.reduceLT, and_true, and_self, if_true, if_false, Nat.zero_add, Nat.add_zero, decide_true, decide_false, Nat.one_ne_zero, Nat.zero_ne_one, aB_cells, aB_st_all, aB_agg_nms, Nat.add_zero, Nat.zero_add, N_add, N_sub, N_lss, N_nat, Nat.reduceLT, Nat.reduceAdd, Nat.lt_irrefl, decide_false, decide_true, nm_beq, Bool.not_false, Bool.not_true, op_chk, chkV_ptr, op_len, lenV_some, lenS_sl, op_iaS, iaSV_sl, updN_nil, modN_nil, modN_cons, evOpers_ord, stepO_eq, only_at, touch_ld1, touch_ld, touch_st, touch_call, reach_none, nms_fn, nms_ptr, List.contains_cons, List.contains_nil, beq_self_eq_true, Bool.or_true, Bool.or_false, ordOk, apartFrom, List.all_cons, List.all_nil, Nat.testBit, Nat.reduceShiftRight, Nat.reduceAnd, Nat.reduceBEq, Bool.not_true, Bool.not_false, Bool.and_self, Bool.and_true, Bool.and_false, Nat.reduceSub, Nat.reduceLT, bne, envC_trim, C_trim, trimO_f, trimO_pure, isCall_ld1, isCall_ld, isCall_st, isCall_call, Bool.and_false, Bool.and_true, ordK_gen, stepK_gen, ordK_gen, stepK_gen, L18b0, h0, h1, h2, RO_k, e1, hm, kcell' l (i + 1) ((i + 1) * 16) rfl, hadd, hsh, ← hr]
          rfl
        · refine canon_inv [(1, 0), (1, 1)] rfl (by simp only [canonNames, FUEL, reach_cons, reachK_some, reach_nil, nms_ptr, nms_undef, List.flatMap_cons, List.flatMap_nil, List.nil_append, List.cons_append, List.append_nil, List.map_nil, List.map_cons, List.contains_nil, List.contains_cons, Prod.mk.injEq, beq_iff_eq, Bool.or_eq_true, Bool.false_eq_true, and_true, and_false, or_false, or_true, if_true, if_false, Nat.one_ne_zero, Nat.zero_ne_one, List.filter_cons, List.filter_nil, bne_iff_ne, ne_eq, not_false_eq_true, not_true_eq_false, upd_at, mask_nil, mask_true, mask_false, range_two, nms_N, L18k1, aB_nms, RO_nms, bs_nms, h0, h1, h2, h3]) rfl ⟨_, rfl, ?_, ?_, ?_, ?_⟩
          · rw [cN_zero]; simp (disch := first | omega | decide | simp only [bs_isCell, bs_length, aW_isCell, aB_isCell, isCell_sl, isCell_isl, isCell_nil, isCell_ptr, isCell_N]) only [Option.map_some, upd_at, Prod.mk.injEq, and_true, if_false, Nat.zero_ne_one, Option.map_some, h0, RO_ren]
          · rw [cN_zero]; simp (disch := first | omega | decide | simp only [bs_isCell, bs_length, aW_isCell, aB_isCell, isCell_sl, isCell_isl, isCell_nil, isCell_ptr, isCell_N]) only [Option.map_some, upd_at, Prod.mk.injEq, and_self, if_false, Nat.one_ne_zero, Nat.zero_ne_one, Option.map_some, bs_ren, h1]
          · exact cN_same (1, 0) rfl (by simp (disch := first | omega | decide | simp only [bs_isCell, bs_length, aW_isCell, aB_isCell, isCell_sl, isCell_isl, isCell_nil, isCell_ptr, isCell_N]) only [upd_at, if_true, h2]) (aB_ren _ _ _)
          · exact cN_same (1, 1) rfl (by simp (disch := first | omega | decide | simp only [bs_isCell, bs_length, aW_isCell, aB_isCell, isCell_sl, isCell_isl, isCell_nil, isCell_ptr, isCell_N]) only [upd_at, Prod.mk.injEq, and_false, if_false, Nat.one_ne_zero, h3]) (aB_ren _ _ _)
  · have hr : add s (kf l 0) = reS (kf l) n s 0 := by rw [reS, if_pos (by omega)]; rfl
    refine canon_inv [(2, 0), (3, 0)] rfl (by simp only [canonNames, FUEL, reach_cons, reachK_some, reach_nil, nms_ptr, nms_undef, List.flatMap_cons, List.flatMap_nil, List.nil_append, List.cons_append, List.append_nil, List.map_nil, List.map_cons, List.contains_nil, List.contains_cons, Prod.mk.injEq, beq_iff_eq, Bool.or_eq_true, Bool.false_eq_true, Nat.reduceEqDiff, and_true, and_false, or_false, or_true, if_true, if_false, Nat.one_ne_zero, Nat.zero_ne_one, List.filter_cons, List.filter_nil, bne_iff_ne, ne_eq, not_false_eq_true, not_true_eq_false, upd_at, mask_nil, mask_true, mask_false, inHeap_at, inHeap_none, range_two, List.getElem?_cons_zero, List.getElem?_cons_succ, nms_N, L18k1, aB_nms, RO_nms, bs_nms]) rfl ⟨_, rfl, ?_, ?_, ?_, ?_⟩
    · rw [cN_zero]; simp (disch := first | omega | decide | simp only [bs_isCell, bs_length, aW_isCell, aB_isCell, isCell_sl, isCell_isl, isCell_nil, isCell_ptr, isCell_N]) only [Option.map_some, upd_at, Prod.mk.injEq, Nat.reduceEqDiff, and_true, if_false, Option.map_some, inHeap_at, List.getElem?_cons_zero, RO_ren]
    · rw [cN_zero]; simp (disch := first | omega | decide | simp only [bs_isCell, bs_length, aW_isCell, aB_isCell, isCell_sl, isCell_isl, isCell_nil, isCell_ptr, isCell_N]) only [Option.map_some, upd_at, Prod.mk.injEq, Nat.reduceEqDiff, and_self, if_false, Nat.one_ne_zero, Option.map_some, bs_ren, inHeap_at, List.getElem?_cons_zero, List.getElem?_cons_succ]
    · rw [← hr]; exact cN_same (2, 0) rfl (by simp (disch := first | omega | decide | simp only [bs_isCell, bs_length, aW_isCell, aB_isCell, isCell_sl, isCell_isl, isCell_nil, isCell_ptr, isCell_N]) only [upd_at, Prod.mk.injEq, Nat.reduceEqDiff, and_true, if_true, if_false, inHeap_none]) (aB_ren _ _ _)
    · exact cN_same (3, 0) rfl (by simp (disch := first | omega | decide | simp only [bs_isCell, bs_length, aW_isCell, aB_isCell, isCell_sl, isCell_isl, isCell_nil, isCell_ptr, isCell_N]) only [upd_at, Prod.mk.injEq, Nat.reduceEqDiff, and_true, if_true, if_false, inHeap_none]) (aB_ren _ _ _)
  · rintro st ⟨H, rfl, h0, h1, h2, h3⟩
    apply stop_exit
    simp (disch := first | omega | decide | simp only [bs_isCell, bs_length, aW_isCell, aB_isCell, isCell_sl, isCell_isl, isCell_nil, isCell_ptr, isCell_N]) only [ev_exit, ev_seq, ev_region, regK_some, evOpers_nil, evOpers_cons, stepK_pure, put_some, evX_t, outR_some, op_mv, op_bin, andThen_normal, andThen_exit, ev_cond, condK_false, List.set_cons_zero, List.set_cons_succ, List.getD_cons_zero, List.getD_cons_succ, List.length_cons, List.length_nil, Nat.reduceAdd, cellAt_ptr, ld1K_some, op_ld1, op_fa, faV_ptr, Nat.zero_add, Nat.add_zero, decide_false, Nat.add_zero, Nat.zero_add, N_lss, Nat.reduceAdd, Nat.lt_irrefl, decide_false, op_chk, chkV_ptr, op_len, lenV_some, lenS_sl, L18b1, h0, RO_k]
    rfl
  · rintro st ⟨H, rfl, h0, h1, h2, h3⟩ rfl
    have hr : reS (kf l) n s (n + 1) = enc (kf l) n s := if_neg (by omega)
    rw [hr] at h2
    simp (disch := first | omega | decide | simp only [bs_isCell, bs_length, aW_isCell, aB_isCell, isCell_sl, isCell_isl, isCell_nil, isCell_ptr, isCell_N]) only [ev_ret, ev_exit, ev_seq, ev_region, regK_some, evOpers_nil, evOpers_cons, stepK_pure, put_some, put_none, evX_t, outR_some, op_mv, op_bin, andThen_normal, andThen_exit, inBlock_exit, ev_cond, condK_false, retK_ret, List.set_cons_zero, List.set_cons_succ, List.getD_cons_zero, List.getD_cons_succ, List.length_cons, List.length_nil, Option.map_some, Nat.reduceAdd, upd_at, stepK_mod, cellsOf_agg, cellAt_ptr, ld1K_some, ldK_some, op_ld1, op_ld, op_st, stV_ptr, op_fa, faV_ptr, if_true, Nat.zero_add, Nat.add_zero, decide_false, resVal_agg, aggV_some, aB_cells, aB_st_all, Nat.add_zero, Nat.zero_add, N_lss, Nat.reduceAdd, Nat.lt_irrefl, decide_false, op_chk, chkV_ptr, op_len, lenV_some, lenS_sl, Option.map_some, L18b1, h0, h2, h3, RO_k]
    rw [outOf_mem 2 _ _ [] (by simp only [canonNames, FUEL, reach_cons, reachK_some, reach_nil, List.flatMap_cons, List.flatMap_nil, List.nil_append, List.cons_append, List.append_nil, List.map_nil, List.map_cons, List.contains_nil, List.contains_cons, Prod.mk.injEq, beq_iff_eq, Bool.or_eq_true, Bool.false_eq_true, and_true, and_false, or_false, or_true, if_true, if_false, Nat.one_ne_zero, Nat.zero_ne_one, List.filter_cons, List.filter_nil, bne_iff_ne, ne_eq, not_true_eq_false, upd_at, range_two, RO_nms, bs_nms, aB_agg_nms, h0, h1])]
    simp (disch := first | omega | decide | simp only [bs_isCell, bs_length, aW_isCell, aB_isCell, isCell_sl, isCell_isl, isCell_nil, isCell_ptr, isCell_N]) only [List.map_cons, List.map_nil, Option.map_some, upd_at, Prod.mk.injEq, false_and, if_false, Nat.zero_ne_one, List.filterMap_nil, Option.map_some, bs_ren, range_two, RO_ren, aB_agg_ren, h0, h1]
end Aes

namespace Aes
open Go Go.LE

theorem sh3_ix : ∀ j : Fin 16, (((j.val + 4 * (j.val % 4)) % 16 + 4 * (((j.val + 4 * (j.val % 4)) % 16) % 4)) % 16 + 4 * ((((j.val + 4 * (j.val % 4)) % 16 + 4 * (((j.val + 4 * (j.val % 4)) % 16) % 4)) % 16) % 4)) % 16 = (j.val + 12 * (j.val % 4)) % 16 := by decide
theorem sh3 (x : R) : aB 16 (ubs (shf (shf (shf x)))) = aB 16 (unrnd x) := aB_ext 16 fun j hj => by
  have := sh3_ix ⟨j, hj⟩
  simp only [ubs, shf, unrnd]
  rw [this]

def rdS (K : Nat → R) (n : Nat) (s : R) : Nat → R
  | 0 => s
  | i + 1 => decl K n s i
/-- what stands ahead of the turning -/
def rdM (K : Nat → R) (n : Nat) (s : R) : Nat → R
  | 0 => add s (K (n + 1))
  | i + 1 => unmix (add (decl K n s i) (K (n - i)))
theorem rdS_succ (K : Nat → R) (n : Nat) (s : R) (i : Nat) : rdS K n s (i + 1) = unrnd (rdM K n s i) := by cases i <;> rfl
def rdO (n : Nat) (l : List (BitVec 8)) (s : R) (i : Nat) (st : St) : Prop := ∃ (H : Heap), st = ⟨[.ptr (0, 0) 0, .undef, .undef, .ptr (1, 0) 0, .ptr (1, 1) 0, N (n + 1 - i), .undef, .undef, .undef, .undef, .undef, .undef, .undef, .undef, .undef, .undef, .undef, .undef, .undef, .undef, .undef, .undef, .undef, .undef, .undef, .undef, .undef, .undef, .undef, .undef, .undef, .undef, .undef, .undef, .undef, .undef, .undef, .undef, .undef, .undef, .undef, .undef, .undef, .undef, .undef, .undef, .undef, .undef, .undef, .undef, .undef, .undef, .undef, .undef, .undef, .undef, .undef, .undef, .undef, .undef, .undef, .undef, .undef], H, 2, 2⟩ ∧
  H (0, 0) = some (RO n) ∧ H (0, 1) = some (bs l) ∧ H (1, 0) = some (aB 16 (rdS (kf l) n s i)) ∧ H (1, 1) = some (aB 16 fun _ => 0#8)
def rdI (n m : Nat) (l : List (BitVec 8)) (y : R) (j : Nat) (st : St) : Prop := ∃ (H : Heap), st = ⟨[.ptr (0, 0) 0, .undef, .undef, .ptr (1, 0) 0, .ptr (1, 1) 0, N m, N j, .undef, .undef, .undef, .undef, .undef, .undef, .undef, .undef, .undef, .undef, .undef, .undef, .undef, .undef, .undef, .undef, .undef, .undef, .undef, .undef, .undef, .undef, .undef, .undef, .undef, .undef, .undef, .undef, .undef, .undef, .undef, .undef, .undef, .undef, .undef, .undef, .undef, .undef, .undef, .undef, .undef, .undef, .undef, .undef, .undef, .undef, .undef, .undef, .undef, .undef, .undef, .undef, .undef, .undef, .undef, .undef], H, 2, 2⟩ ∧
  H (0, 0) = some (RO n) ∧ H (0, 1) = some (bs l) ∧ H (1, 0) = some (aB 16 (upto j (ubs y) y)) ∧ H (1, 1) = some (aB 16 fun _ => 0#8)

/-- the round's last part: the boxes taken back -/
theorem rd_tail (k K n i : Nat) (hi : i < n + 1) (l : List (BitVec 8)) (s : R) {st : St} {r2 : Option (Ex × St)} (hK : 16 < K)
    (hL2 : loopN L20k0 (ev (envC C k) K L20b0) K st = r2) (h0 : rdI n (n + 1 - i) l (shf (shf (shf (rdM (kf l) n s i)))) 0 (canon L20k0 st)) {goal : Prop}
    (next : ∀ H : Heap, r2 = ev (envC C k) K L20b0 ⟨[.ptr (0, 0) 0, .undef, .undef, .ptr (1, 0) 0, .ptr (1, 1) 0, N (n + 1 - i), N 16, .undef, .undef, .undef, .undef, .undef, .undef, .undef, .undef, .undef, .undef, .undef, .undef, .undef, .undef, .undef, .undef, .undef, .undef, .undef, .undef, .undef, .undef, .undef, .undef, .undef, .undef, .undef, .undef, .undef, .undef, .undef, .undef, .undef, .undef, .undef, .undef, .undef, .undef, .undef, .undef, .undef, .undef, .undef, .undef, .undef, .undef, .undef, .undef, .undef, .undef, .undef, .undef, .undef, .undef, .undef, .undef], H, 2, 2⟩ → H (0, 0) = some (RO n) → H (0, 1) = some (bs l) → H (1, 0) = some (aB 16 (rdS (kf l) n s (i + 1))) → H (1, 1) = some (aB 16 fun _ => 0#8) → goal) : goal := by
  refine loop_use hL2 (rdI n (n + 1 - i) l (shf (shf (shf (rdM (kf l) n s i))))) 16 hK ?_ h0 ?_ ?_
  · generalize shf (shf (shf (rdM (kf l) n s i))) = y
    rintro j st hj ⟨H, rfl, h0, h1, h2, h3⟩
    have hs := upto_succ j (ubs y) y (UB (y j).toNat) rfl
    apply Exists.intro
    apply And.intro
    · simp (disch := first | omega | decide | simp only [bs_isCell, bs_length, aW_isCell, aB_isCell, isCell_sl, isCell_isl, isCell_nil, isCell_ptr, isCell_N]) only [ev_skip, ev_seq, ev_block, ev_region, regK_some, evOpers_nil, evOpers_cons, stepK_pure, put_some, put_none, evX_t, evX_c, outR_some, op_mv, op_bin, andThen_normal, inBlock_normal, ev_cond, condK_true, nms_B8, List.set_cons_zero, List.set_cons_succ, List.getD_cons_zero, List.getD_cons_succ, List.append_nil, List.length_cons, List.length_nil, B8_nat, Nat.reduceAdd, Nat.reduceSub, cellsOf_B8, cellAt_ptr, ld1K_some, op_ld1, op_st, stV_ptr, op_fa, faV_ptr, op_iaA, iaV_lt, List.all_cons, List.all_nil, Bool.and_true, Nat.reduceLT, if_true, Nat.zero_add, Nat.add_zero, decide_true, aB_cell, aB_st, Nat.mul_one, Nat.add_zero, Nat.zero_add, B8_nat, N_add, N_lss, N_nat, Nat.reduceLT, Nat.reduceAdd, decide_true, nm_beq, Bool.not_false, Bool.not_true, op_chk, chkV_ptr, Nat.mul_one, evOpers_ord, stepO_eq, ordK_pure, ordK_mod, only_at, touch_ld1, touch_st, nms_ptr, List.contains_cons, List.contains_nil, beq_self_eq_true, Bool.or_true, Bool.or_false, ordOk, apartFrom, List.all_cons, List.all_nil, Nat.testBit, Nat.reduceShiftRight, Nat.reduceAnd, Nat.reduceBEq, Bool.not_true, Bool.not_false, Bool.and_self, Bool.and_true, Bool.and_false, Nat.reduceSub, Nat.reduceLT, bne, envC_trim, C_trim, trimO_f, trimO_pure, isCall_ld1, isCall_st, Bool.and_false, Bool.and_true, L20b0, h0, h2, hj, upto_at, RO_ub, hs]
      rfl
    · refine canon_inv [(1, 0), (1, 1)] rfl (by simp only [canonNames, FUEL, reach_cons, reachK_some, reach_nil, nms_ptr, nms_undef, List.flatMap_cons, List.flatMap_nil, List.nil_append, List.cons_append, List.append_nil, List.map_nil, List.map_cons, List.contains_nil, List.contains_cons, Prod.mk.injEq, beq_iff_eq, Bool.or_eq_true, Bool.false_eq_true, and_true, and_false, or_false, or_true, if_true, if_false, Nat.one_ne_zero, Nat.zero_ne_one, List.filter_cons, List.filter_nil, bne_iff_ne, ne_eq, not_false_eq_true, not_true_eq_false, upd_at, mask_nil, mask_true, mask_false, range_two, nms_N, L20k0, aB_nms, RO_nms, bs_nms, h0, h1, h2, h3]) rfl ⟨_, rfl, ?_, ?_, ?_, ?_⟩
      · rw [cN_zero]; simp (disch := first | omega | decide | simp only [bs_isCell, bs_length, aW_isCell, aB_isCell, isCell_sl, isCell_isl, isCell_nil, isCell_ptr, isCell_N]) only [Option.map_some, upd_at, Prod.mk.injEq, and_true, if_false, Nat.zero_ne_one, Option.map_some, h0, RO_ren]
      · rw [cN_zero]; simp (disch := first | omega | decide | simp only [bs_isCell, bs_length, aW_isCell, aB_isCell, isCell_sl, isCell_isl, isCell_nil, isCell_ptr, isCell_N]) only [Option.map_some, upd_at, Prod.mk.injEq, and_self, if_false, Nat.one_ne_zero, Nat.zero_ne_one, Option.map_some, bs_ren, h1]
      · exact cN_same (1, 0) rfl (by simp (disch := first | omega | decide | simp only [bs_isCell, bs_length, aW_isCell, aB_isCell, isCell_sl, isCell_isl, isCell_nil, isCell_ptr, isCell_N]) only [upd_at, if_true, h2]) (aB_ren _ _ _)
      · exact cN_same (1, 1) rfl (by simp (disch := first | omega | decide | simp only [bs_isCell, bs_length, aW_isCell, aB_isCell, isCell_sl, isCell_isl, isCell_nil, isCell_ptr, isCell_N]) only [upd_at, Prod.mk.injEq, and_false, if_false, Nat.one_ne_zero, h3]) (aB_ren _ _ _)
  · rintro st ⟨H, rfl, h0, h1, h2, h3⟩
    apply stop_exit
    simp (disch := first | omega | decide | simp only [bs_isCell, bs_length, aW_isCell, aB_isCell, isCell_sl, isCell_isl, isCell_nil, isCell_ptr, isCell_N]) only [ev_exit, ev_seq, ev_region, regK_some, evOpers_nil, evOpers_cons, stepK_pure, put_some, evX_t, evX_c, outR_some, op_mv, op_bin, andThen_normal, andThen_exit, ev_cond, condK_false, List.set_cons_zero, List.set_cons_succ, List.getD_cons_zero, List.getD_cons_succ, List.length_cons, List.length_nil, Nat.reduceAdd, Nat.zero_add, Nat.add_zero, decide_false, Nat.add_zero, Nat.zero_add, N_lss, Nat.reduceAdd, Nat.lt_irrefl, decide_false, L20b0]
    rfl
  · rintro st ⟨H, rfl, h0, h1, h2, h3⟩ he
    rw [upto_all, sh3, ← rdS_succ] at h2
    exact next H he h0 h1 h2 h3

theorem rdec_F (k n : Nat) (hn : n ≤ 20) (l : List (BitVec 8)) (hl : l.length = 16 * (n + 2)) (s : R) : F C (k + 60) 20 [.ptr (0, 0) 0, .agg (aB 16 s)] [RO n, bs l] =
    some (.agg (aB 16 (dec (kf l) n s)), [some (RO n), some (bs l)], []) := by
  rw [F_succ f20]
  have e1 : n + 2 - 1 = n + 1 := rfl
  have hadd : ∀ (b : Nat) (H : Heap) (s t : R), callOp (envC C (k + 59)) H b 37 [.agg (aB 16 s), .agg (aB 16 t)] = some ⟨.agg (aB 16 (add s t)), [], []⟩ := fun b H s t => r_add (k + 29) b H s t
  have hsh : ∀ (b : Nat) (H : Heap) (s : R), callOp (envC C (k + 59)) H b 38 [.agg (aB 16 s)] = some ⟨.agg (aB 16 (shf s)), [], []⟩ := fun b H s => r_shift (k + 29) b H s
  have hmx : ∀ (b : Nat) (H : Heap) (s f : R), callOp (envC C (k + 59)) H b 39 [.agg (aB 16 s), .agg (aB 4 f)] = some ⟨.agg (aB 16 (mixg f s)), [], []⟩ := fun b H s f => r_mix (k + 29) b H s f
  simp (disch := first | omega | decide | simp only [bs_isCell, bs_length, aW_isCell, aB_isCell, isCell_sl, isCell_isl, isCell_nil, isCell_ptr, isCell_N]) only [funSem_eq, ev_seq, ev_block, ev_region, regK_some, evOpers_nil, evOpers_cons, put_some, evX_t, evX_c, outR_some, op_mv, op_bin, andThen_normal, List.set_cons_zero, List.set_cons_succ, List.getD_cons_zero, List.getD_cons_succ, List.nil_append, List.cons_append, repUn_succ, List.replicate_zero, List.length_cons, List.length_nil, ev_loop, Nat.reduceAdd, Nat.reduceSub, upd_at, cellsOf_agg, cellAt_ptr, ld1K_some, op_ld1, op_new, op_box, boxK_some, op_fa, faV_ptr, Prod.mk.injEq, Nat.reduceEqDiff, and_true, if_false, Nat.zero_add, Nat.add_zero, aB_rep, Nat.add_zero, Nat.zero_add, N_sub, Nat.reduceEqDiff, Nat.reduceAdd, op_chk, chkV_ptr, op_len, lenV_some, lenS_sl, updN_nil, updN_cons, modN_nil, inHeap_at, List.getElem?_cons_zero, Nat.reduceSub, stepK_gen, stepK_gen, L20, RO_k, e1]
  generalize hL : loopN L20k1 _ _ _ = r
  refine loop_use hL (rdO n l s) (n + 1) (by omega) ?_ ?_ ?_ ?_
  · rintro i st hi ⟨H, rfl, h0, h1, h2, h3⟩
    have hge : 1 ≤ n + 1 - i := by omega
    have e3 : n + 1 - i - 1 = n + 1 - (i + 1) := by omega
    cases i with
    | zero =>
      have hx : add (rdS (kf l) n s 0) (kf l (n + 1)) = rdM (kf l) n s 0 := rfl
      simp (disch := first | omega | decide | simp only [bs_isCell, bs_length, aW_isCell, aB_isCell, isCell_sl, isCell_isl, isCell_nil, isCell_ptr, isCell_N]) only [ev_skip, ev_seq, ev_block, ev_region, regK_some, evOpers_nil, evOpers_cons, put_some, put_none, evX_t, evX_c, outR_some, op_mv, op_bin, op_call, callV_fn, andThen_normal, ev_cond, condK_true, condK_false, List.set_cons_zero, List.set_cons_succ, List.getD_cons_zero, List.getD_cons_succ, List.map_cons, List.map_nil, List.flatMap_cons, List.flatMap_nil, List.append_nil, List.length_cons, List.length_nil, ev_loop, Nat.reduceAdd, Nat.reduceSub, upd_at, cellsOf_agg, cellAt_ptr, ld1K_some, ldK_some, op_ld1, op_ld, op_st, stV_ptr, op_fa, faV_ptr, List.all_cons, List.all_nil, Bool.and_true, Prod.mk.injEq, Nat.reduceLeDiff, Nat.reduceLT, and_true, if_true, if_false, Nat.zero_add, Nat.add_zero, decide_true, decide_false, Nat.zero_ne_one, aB_cells, aB_st_all, aB_agg_nms, Nat.add_zero, Nat.zero_add, N_sub, N_lss, N_geq, N_nat, Nat.reduceLT, Nat.reduceLeDiff, Nat.reduceAdd, Nat.lt_irrefl, decide_false, decide_true, nm_beq, Bool.not_false, Bool.not_true, op_chk, chkV_ptr, op_len, lenV_some, lenS_sl, op_iaS, iaSV_sl, updN_nil, modN_nil, modN_cons, Nat.sub_zero, evOpers_ord, stepO_eq, only_at, touch_ld1, touch_ld, touch_st, touch_call, reach_none, nms_fn, nms_ptr, List.contains_cons, List.contains_nil, beq_self_eq_true, Bool.or_true, Bool.or_false, ordOk, apartFrom, List.all_cons, List.all_nil, Nat.testBit, Nat.reduceShiftRight, Nat.reduceAnd, Nat.reduceBEq, Bool.not_true, Bool.not_false, Bool.and_self, Bool.and_true, Bool.and_false, Nat.reduceSub, Nat.reduceLT, bne, envC_trim, C_trim, trimO_f, trimO_pure, isCall_ld1, isCall_ld, isCall_st, isCall_call, Bool.and_false, Bool.and_true, ordK_gen, stepK_gen, ordK_gen, stepK_gen, L20b1, h0, h1, h2, RO_k, e1, Nat.sub_zero, Nat.lt_irrefl, kcell' l (n + 1) ((n + 1) * 16) rfl, hadd, hsh, hx]
      generalize hL2 : loopN L20k0 _ _ _ = r2
      refine rd_tail (k + 59) (k + 59) n 0 (by omega) l s (by omega) hL2 ?_ ?_
      · refine canon_inv [(1, 0), (1, 1)] rfl (by simp only [canonNames, FUEL, reach_cons, reachK_some, reach_nil, nms_ptr, nms_undef, List.flatMap_cons, List.flatMap_nil, List.nil_append, List.cons_append, List.append_nil, List.map_nil, List.map_cons, List.contains_nil, List.contains_cons, Prod.mk.injEq, beq_iff_eq, Bool.or_eq_true, Bool.false_eq_true, and_true, and_false, or_false, or_true, if_true, if_false, Nat.one_ne_zero, Nat.zero_ne_one, List.filter_cons, List.filter_nil, bne_iff_ne, ne_eq, not_false_eq_true, not_true_eq_false, upd_at, mask_nil, mask_true, mask_false, range_two, nms_N, L20k0, aB_nms, RO_nms, bs_nms, h0, h1, h2, h3]) rfl ⟨_, rfl, ?_, ?_, ?_, ?_⟩
        · rw [cN_zero]; simp (disch := first | omega | decide | simp only [bs_isCell, bs_length, aW_isCell, aB_isCell, isCell_sl, isCell_isl, isCell_nil, isCell_ptr, isCell_N]) only [Option.map_some, upd_at, Prod.mk.injEq, and_true, if_false, Nat.zero_ne_one, Option.map_some, h0, RO_ren]
        · rw [cN_zero]; simp (disch := first | omega | decide | simp only [bs_isCell, bs_length, aW_isCell, aB_isCell, isCell_sl, isCell_isl, isCell_nil, isCell_ptr, isCell_N]) only [Option.map_some, upd_at, Prod.mk.injEq, and_self, if_false, Nat.one_ne_zero, Nat.zero_ne_one, Option.map_some, bs_ren, h1]
        · rw [upto_zero]; exact cN_same (1, 0) rfl (by simp (disch := first | omega | decide | simp only [bs_isCell, bs_length, aW_isCell, aB_isCell, isCell_sl, isCell_isl, isCell_nil, isCell_ptr, isCell_N]) only [upd_at, if_true, h2]) (aB_ren _ _ _)
        · exact cN_same (1, 1) rfl (by simp (disch := first | omega | decide | simp only [bs_isCell, bs_length, aW_isCell, aB_isCell, isCell_sl, isCell_isl, isCell_nil, isCell_ptr, isCell_N]) only [upd_at, Prod.mk.injEq, and_false, if_false, Nat.one_ne_zero, h3]) (aB_ren _ _ _)
      · rintro H rfl h0 h1 h2 h3
        apply Exists.intro
        apply And.intro
        · simp (disch := first | omega | decide | simp only [bs_isCell, bs_length, aW_isCell, aB_isCell, isCell_sl, isCell_isl, isCell_nil, isCell_ptr, isCell_N]) only [ev_exit, ev_seq, ev_region, regK_some, evOpers_nil, evOpers_cons, stepK_pure, put_some, evX_t, evX_c, outR_some, op_mv, op_bin, andThen_normal, andThen_exit, inBlock_normal, inBlock_exit, ev_cond, condK_false, List.set_cons_zero, List.set_cons_succ, List.getD_cons_zero, List.getD_cons_succ, List.length_cons, List.length_nil, Nat.reduceAdd, if_true, Nat.zero_add, Nat.add_zero, decide_false, Nat.add_zero, Nat.zero_add, N_sub, N_lss, Nat.reduceAdd, Nat.lt_irrefl, decide_false, Nat.sub_zero, L20b0]
          rfl
        · refine canon_inv [(1, 0), (1, 1)] rfl (by simp only [canonNames, FUEL, reach_cons, reachK_some, reach_nil, nms_ptr, nms_undef, List.flatMap_cons, List.flatMap_nil, List.nil_append, List.cons_append, List.append_nil, List.map_nil, List.map_cons, List.contains_nil, List.contains_cons, Prod.mk.injEq, beq_iff_eq, Bool.or_eq_true, Bool.false_eq_true, and_true, and_false, or_false, or_true, if_true, if_false, Nat.one_ne_zero, Nat.zero_ne_one, List.filter_cons, List.filter_nil, bne_iff_ne, ne_eq, not_false_eq_true, not_true_eq_false, Nat.reduceAdd, mask_nil, mask_true, mask_false, range_two, nms_N, L20k1, aB_nms, RO_nms, bs_nms, h0, h1, h2, h3]) rfl ⟨_, rfl, ?_, ?_, ?_, ?_⟩
          · rw [cN_zero]; simp (disch := first | omega | decide | simp only [bs_isCell, bs_length, aW_isCell, aB_isCell, isCell_sl, isCell_isl, isCell_nil, isCell_ptr, isCell_N]) only [Option.map_some, Option.map_some, h0, RO_ren]
          · rw [cN_zero]; simp (disch := first | omega | decide | simp only [bs_isCell, bs_length, aW_isCell, aB_isCell, isCell_sl, isCell_isl, isCell_nil, isCell_ptr, isCell_N]) only [Option.map_some, Option.map_some, bs_ren, h1]
          · exact cN_same (1, 0) rfl h2 (aB_ren _ _ _)
          · exact cN_same (1, 1) rfl h3 (aB_ren _ _ _)
    | succ i =>
      have hlt : n + 1 - (i + 1) < n + 1 := by omega
      have e5 : n + 1 - (i + 1) = n - i := by omega
      have hx : unmix (add (rdS (kf l) n s (i + 1)) (kf l (n + 1 - (i + 1)))) = rdM (kf l) n s (i + 1) := by rw [e5]; rfl
      simp (disch := first | omega | decide | simp only [bs_isCell, bs_length, aW_isCell, aB_isCell, isCell_sl, isCell_isl, isCell_nil, isCell_ptr, isCell_N]) only [ev_skip, ev_seq, ev_block, ev_region, regK_some, evOpers_nil, evOpers_cons, put_some, put_none, evX_t, evX_c, outR_some, op_mv, op_bin, op_call, callV_fn, andThen_normal, ev_cond, condK_true, List.set_cons_zero, List.set_cons_succ, List.getD_cons_zero, List.getD_cons_succ, List.map_cons, List.map_nil, List.flatMap_cons, List.flatMap_nil, List.nil_append, List.cons_append, List.append_nil, List.length_cons, List.length_nil, ev_loop, Nat.reduceAdd, Nat.reduceSub, upd_at, cellsOf_agg, cellsOf_B8, cellAt_ptr, ld1K_some, ldK_some, op_ld1, op_ld, op_st, stV_ptr, op_fa, faV_ptr, fill_nil, fill_cons, fillK_some, aggR_some, op_build, splice, List.take_succ_cons, List.take_zero, List.drop_succ_cons, List.drop_zero, List.drop_nil, List.all_cons, List.all_nil, Bool.and_true, Prod.mk.injEq, Nat.reduceLeDiff, Nat.reduceLT, and_true, and_self, if_true, if_false, Nat.zero_add, Nat.add_zero, Nat.le_refl, decide_true, Nat.zero_ne_one, aB_cells, aB_st_all, aB_agg_nms, Nat.add_zero, Nat.zero_add, N_sub, N_lss, N_geq, N_nat, Nat.reduceLT, Nat.reduceLeDiff, Nat.reduceAdd, decide_true, nm_beq, Bool.not_false, Bool.not_true, op_chk, chkV_ptr, op_len, lenV_some, lenS_sl, op_iaS, iaSV_sl, updN_nil, modN_nil, modN_cons, evOpers_ord, stepO_eq, only_at, touch_ld1, touch_ld, touch_st, touch_call, reach_none, nms_fn, nms_ptr, List.contains_cons, List.contains_nil, beq_self_eq_true, Bool.or_true, Bool.or_false, ordOk, apartFrom, List.all_cons, List.all_nil, Nat.testBit, Nat.reduceShiftRight, Nat.reduceAnd, Nat.reduceBEq, Bool.not_true, Bool.not_false, Bool.and_self, Bool.and_true, Bool.and_false, Nat.reduceSub, Nat.reduceLT, bne, envC_trim, C_trim, trimO_f, trimO_pure, isCall_ld1, isCall_ld, isCall_st, isCall_call, Bool.and_false, Bool.and_true, ordK_gen, stepK_gen, ordK_gen, stepK_gen, L20b1, h0, h1, h2, hge, hlt, RO_k, e1, kcell' l (n + 1 - (i + 1)) ((n + 1 - (i + 1)) * 16) rfl, lit_U, hadd, hsh, hmx, mixg_U', hx]
      generalize hL2 : loopN L20k0 _ _ _ = r2
      refine rd_tail (k + 59) (k + 59) n (i + 1) (by omega) l s (by omega) hL2 ?_ ?_
      · refine canon_inv [(1, 0), (1, 1)] rfl (by simp only [canonNames, FUEL, reach_cons, reachK_some, reach_nil, nms_ptr, nms_undef, List.flatMap_cons, List.flatMap_nil, List.nil_append, List.cons_append, List.append_nil, List.map_nil, List.map_cons, List.contains_nil, List.contains_cons, Prod.mk.injEq, beq_iff_eq, Bool.or_eq_true, Bool.false_eq_true, and_true, and_false, or_false, or_true, if_true, if_false, Nat.one_ne_zero, Nat.zero_ne_one, List.filter_cons, List.filter_nil, bne_iff_ne, ne_eq, not_false_eq_true, not_true_eq_false, upd_at, mask_nil, mask_true, mask_false, range_two, nms_N, L20k0, aB_nms, RO_nms, bs_nms, h0, h1, h2, h3]) rfl ⟨_, rfl, ?_, ?_, ?_, ?_⟩
        · rw [cN_zero]; simp (disch := first | omega | decide | simp only [bs_isCell, bs_length, aW_isCell, aB_isCell, isCell_sl, isCell_isl, isCell_nil, isCell_ptr, isCell_N]) only [Option.map_some, upd_at, Prod.mk.injEq, and_true, if_false, Nat.zero_ne_one, Option.map_some, h0, RO_ren]
        · rw [cN_zero]; simp (disch := first | omega | decide | simp only [bs_isCell, bs_length, aW_isCell, aB_isCell, isCell_sl, isCell_isl, isCell_nil, isCell_ptr, isCell_N]) only [Option.map_some, upd_at, Prod.mk.injEq, and_self, if_false, Nat.one_ne_zero, Nat.zero_ne_one, Option.map_some, bs_ren, h1]
        · rw [upto_zero]; exact cN_same (1, 0) rfl (by simp (disch := first | omega | decide | simp only [bs_isCell, bs_length, aW_isCell, aB_isCell, isCell_sl, isCell_isl, isCell_nil, isCell_ptr, isCell_N]) only [upd_at, if_true, h2]) (aB_ren _ _ _)
        · exact cN_same (1, 1) rfl (by simp (disch := first | omega | decide | simp only [bs_isCell, bs_length, aW_isCell, aB_isCell, isCell_sl, isCell_isl, isCell_nil, isCell_ptr, isCell_N]) only [upd_at, Prod.mk.injEq, and_false, if_false, Nat.one_ne_zero, h3]) (aB_ren _ _ _)
      · rintro H rfl h0 h1 h2 h3
        apply Exists.intro
        apply And.intro
        · simp (disch := first | omega | decide | simp only [bs_isCell, bs_length, aW_isCell, aB_isCell, isCell_sl, isCell_isl, isCell_nil, isCell_ptr, isCell_N]) only [ev_exit, ev_seq, ev_region, regK_some, evOpers_nil, evOpers_cons, stepK_pure, put_some, evX_t, evX_c, outR_some, op_mv, op_bin, andThen_normal, andThen_exit, inBlock_normal, inBlock_exit, ev_cond, condK_false, List.set_cons_zero, List.set_cons_succ, List.getD_cons_zero, List.getD_cons_succ, List.length_cons, List.length_nil, Nat.reduceAdd, if_true, Nat.zero_add, Nat.add_zero, decide_false, Nat.add_zero, Nat.zero_add, N_sub, N_lss, Nat.reduceAdd, Nat.lt_irrefl, decide_false, L20b0, e3]
          rfl
        · refine canon_inv [(1, 0), (1, 1)] rfl (by simp only [canonNames, FUEL, reach_cons, reachK_some, reach_nil, nms_ptr, nms_undef, List.flatMap_cons, List.flatMap_nil, List.nil_append, List.cons_append, List.append_nil, List.map_nil, List.map_cons, List.contains_nil, List.contains_cons, Prod.mk.injEq, beq_iff_eq, Bool.or_eq_true, Bool.false_eq_true, and_true, and_false, or_false, or_true, if_true, if_false, Nat.one_ne_zero, Nat.zero_ne_one, List.filter_cons, List.filter_nil, bne_iff_ne, ne_eq, not_false_eq_true, not_true_eq_false, mask_nil, mask_true, mask_false, range_two, nms_N, L20k1, aB_nms, RO_nms, bs_nms, h0, h1, h2, h3]) rfl ⟨_, rfl, ?_, ?_, ?_, ?_⟩
          · rw [cN_zero]; simp (disch := first | omega | decide | simp only [bs_isCell, bs_length, aW_isCell, aB_isCell, isCell_sl, isCell_isl, isCell_nil, isCell_ptr, isCell_N]) only [Option.map_some, Option.map_some, h0, RO_ren]
          · rw [cN_zero]; simp (disch := first | omega | decide | simp only [bs_isCell, bs_length, aW_isCell, aB_isCell, isCell_sl, isCell_isl, isCell_nil, isCell_ptr, isCell_N]) only [Option.map_some, Option.map_some, bs_ren, h1]
          · exact cN_same (1, 0) rfl h2 (aB_ren _ _ _)
          · exact cN_same (1, 1) rfl h3 (aB_ren _ _ _)
  · refine canon_inv [(2, 0), (3, 0)] rfl (by simp only [canonNames, FUEL, reach_cons, reachK_some, reach_nil, nms_ptr, nms_undef, List.flatMap_cons, List.flatMap_nil, List.nil_append, List.cons_append, List.append_nil, List.map_nil, List.map_cons, List.contains_nil, List.contains_cons, Prod.mk.injEq, beq_iff_eq, Bool.or_eq_true, Bool.false_eq_true, Nat.reduceEqDiff, and_true, and_false, or_false, or_true, if_true, if_false, Nat.one_ne_zero, Nat.zero_ne_one, List.filter_cons, List.filter_nil, bne_iff_ne, ne_eq, not_false_eq_true, not_true_eq_false, upd_at, mask_nil, mask_true, mask_false, inHeap_at, inHeap_none, range_two, List.getElem?_cons_zero, List.getElem?_cons_succ, nms_N, L20k1, aB_nms, RO_nms, bs_nms]) rfl ⟨_, rfl, ?_, ?_, ?_, ?_⟩
    · rw [cN_zero]; simp (disch := first | omega | decide | simp only [bs_isCell, bs_length, aW_isCell, aB_isCell, isCell_sl, isCell_isl, isCell_nil, isCell_ptr, isCell_N]) only [Option.map_some, upd_at, Prod.mk.injEq, Nat.reduceEqDiff, and_true, if_false, Option.map_some, inHeap_at, List.getElem?_cons_zero, RO_ren]
    · rw [cN_zero]; simp (disch := first | omega | decide | simp only [bs_isCell, bs_length, aW_isCell, aB_isCell, isCell_sl, isCell_isl, isCell_nil, isCell_ptr, isCell_N]) only [Option.map_some, upd_at, Prod.mk.injEq, Nat.reduceEqDiff, and_self, if_false, Nat.one_ne_zero, Option.map_some, bs_ren, inHeap_at, List.getElem?_cons_zero, List.getElem?_cons_succ]
    · exact cN_same (2, 0) rfl (by simp (disch := first | omega | decide | simp only [bs_isCell, bs_length, aW_isCell, aB_isCell, isCell_sl, isCell_isl, isCell_nil, isCell_ptr, isCell_N]) only [upd_at, Prod.mk.injEq, Nat.reduceEqDiff, and_true, if_true, if_false, inHeap_none]; rfl) (aB_ren _ _ _)
    · exact cN_same (3, 0) rfl (by simp (disch := first | omega | decide | simp only [bs_isCell, bs_length, aW_isCell, aB_isCell, isCell_sl, isCell_isl, isCell_nil, isCell_ptr, isCell_N]) only [upd_at, Prod.mk.injEq, Nat.reduceEqDiff, and_true, if_true, if_false, inHeap_none]) (aB_ren _ _ _)
  · rintro st ⟨H, rfl, h0, h1, h2, h3⟩
    apply stop_exit
    simp (disch := first | omega | decide | simp only [bs_isCell, bs_length, aW_isCell, aB_isCell, isCell_sl, isCell_isl, isCell_nil, isCell_ptr, isCell_N]) only [ev_exit, ev_seq, ev_region, regK_some, evOpers_nil, evOpers_cons, stepK_pure, put_some, evX_t, evX_c, outR_some, op_mv, op_bin, andThen_normal, andThen_exit, ev_cond, condK_false, List.set_cons_zero, List.set_cons_succ, List.getD_cons_zero, List.getD_cons_succ, List.length_cons, List.length_nil, Nat.reduceAdd, Nat.reduceLeDiff, Nat.zero_add, Nat.add_zero, decide_false, Nat.add_zero, Nat.zero_add, N_geq, Nat.reduceLeDiff, Nat.reduceAdd, decide_false, L20b1, Nat.sub_self]
    rfl
  · rintro st ⟨H, rfl, h0, h1, h2, h3⟩ rfl
    simp (disch := first | omega | decide | simp only [bs_isCell, bs_length, aW_isCell, aB_isCell, isCell_sl, isCell_isl, isCell_nil, isCell_ptr, isCell_N]) only [ev_ret, ev_exit, ev_seq, ev_region, regK_some, evOpers_nil, evOpers_cons, put_some, put_none, evX_t, evX_c, outR_some, op_mv, op_bin, op_call, callV_fn, andThen_normal, andThen_exit, inBlock_exit, ev_cond, condK_false, retK_ret, List.set_cons_zero, List.set_cons_succ, List.getD_cons_zero, List.getD_cons_succ, List.map_cons, List.map_nil, List.flatMap_cons, List.flatMap_nil, List.append_nil, List.length_cons, List.length_nil, Option.map_some, Nat.reduceAdd, Nat.reduceSub, upd_at, cellsOf_agg, cellAt_ptr, ld1K_some, ldK_some, op_ld1, op_ld, op_st, stV_ptr, op_fa, faV_ptr, List.all_cons, List.all_nil, Bool.and_true, Nat.reduceLeDiff, Nat.reduceLT, if_true, Nat.zero_add, Nat.add_zero, decide_true, decide_false, resVal_agg, aggV_some, aB_cells, aB_st_all, aB_agg_nms, Nat.add_zero, Nat.zero_add, N_geq, N_nat, Nat.reduceLT, Nat.reduceLeDiff, Nat.reduceMul, Nat.reduceAdd, decide_false, decide_true, nm_beq, Bool.not_false, Bool.not_true, op_chk, chkV_ptr, op_iaS, iaSV_sl, updN_nil, modN_nil, modN_cons, Option.map_some, evOpers_ord, stepO_eq, only_at, touch_ld1, touch_ld, touch_st, touch_call, reach_none, nms_fn, nms_ptr, List.contains_cons, List.contains_nil, beq_self_eq_true, Bool.or_true, Bool.or_false, ordOk, apartFrom, List.all_cons, List.all_nil, Nat.testBit, Nat.reduceShiftRight, Nat.reduceAnd, Nat.reduceBEq, Bool.not_true, Bool.not_false, Bool.and_self, Bool.and_true, Bool.and_false, Nat.reduceSub, Nat.reduceLT, bne, envC_trim, C_trim, trimO_f, trimO_pure, isCall_ld1, isCall_ld, isCall_st, isCall_call, Bool.and_false, Bool.and_true, ordK_gen, stepK_gen, ordK_gen, stepK_gen, L20b1, h0, h1, h2, h3, RO_k, Nat.sub_self, kcell' l 0 0 rfl, hadd]
    rw [outOf_mem 2 _ _ [] (by simp only [canonNames, FUEL, reach_cons, reachK_some, reach_nil, List.flatMap_cons, List.flatMap_nil, List.nil_append, List.cons_append, List.append_nil, List.map_nil, List.map_cons, List.contains_nil, List.contains_cons, Prod.mk.injEq, beq_iff_eq, Bool.or_eq_true, Bool.false_eq_true, and_true, and_false, or_false, or_true, if_true, if_false, Nat.one_ne_zero, Nat.zero_ne_one, List.filter_cons, List.filter_nil, bne_iff_ne, ne_eq, not_true_eq_false, upd_at, range_two, RO_nms, bs_nms, aB_agg_nms, h0, h1])]
    simp (disch := first | omega | decide | simp only [bs_isCell, bs_length, aW_isCell, aB_isCell, isCell_sl, isCell_isl, isCell_nil, isCell_ptr, isCell_N]) only [List.map_cons, List.map_nil, Option.map_some, upd_at, Prod.mk.injEq, false_and, if_false, Nat.zero_ne_one, List.filterMap_nil, Option.map_some, bs_ren, range_two, RO_ren, aB_agg_ren, h0, h1]
    rfl
end Aes

namespace Aes
open Go Go.LE

theorem boxed_F (k : Nat) (w : R) : F C (k + 1) 29 [.ptr (0, 0) 0, .agg (aB 4 w)] [CF Nil TB] = some (.agg (aB 4 fun j => BX (w j).toNat), [some (CF Nil TB)], []) := by
  rw [F_succ f29]
  have hb : [B8 (BX (w 0).toNat), B8 (BX (w 1).toNat), B8 (BX (w 2).toNat), B8 (BX (w 3).toNat)] = aB 4 fun j => BX (w j).toNat := rfl
  simp (disch := first | omega | decide | simp only [bs_isCell, bs_length, aW_isCell, aB_isCell, isCell_sl, isCell_isl, isCell_nil, isCell_ptr, isCell_N]) only [funSem_eq, ev_ret, ev_seq, ev_region, regK_some, evOpers_nil, evOpers_cons, stepK_pure, put_some, put_none, evX_t, evX_c, outR_some, op_mv, andThen_normal, retK_ret, List.set_cons_zero, List.set_cons_succ, List.getD_cons_zero, List.getD_cons_succ, List.map_cons, List.map_nil, List.nil_append, List.cons_append, List.append_nil, repUn_succ, List.replicate_zero, List.length_cons, List.length_nil, B8_nat, Option.map_some, Nat.reduceAdd, Nat.reduceSub, upd_at, stepK_new, cellsOf_agg, cellsOf_B8, cellAt_ptr, ld1K_some, op_ld1, op_new, op_box, boxK_some, op_st, stV_ptr, stK_cons, op_fa, faV_ptr, op_iaA, iaV_lt, fill_nil, fill_cons, fillK_some, aggR_some, op_build, splice, List.take_succ_cons, List.take_zero, List.drop_succ_cons, List.drop_zero, List.drop_nil, List.all_cons, List.all_nil, Bool.and_true, Prod.mk.injEq, Nat.reduceEqDiff, Nat.reduceLeDiff, Nat.reduceLT, and_true, and_self, if_true, if_false, Nat.zero_add, Nat.add_zero, Nat.le_refl, decide_true, resVal_agg, aggV_some, aB_length, aB_cell, aB_cells, aB_agg_nms, aB_isCell, Nat.mul_one, Nat.add_zero, Nat.zero_add, B8_nat, N_nat, Nat.reduceLT, Nat.reduceLeDiff, Nat.reduceEqDiff, Nat.reduceAdd, decide_true, nm_beq, Bool.not_false, Bool.not_true, op_chk, chkV_ptr, Option.map_some, Nat.mul_one, inHeap_at, inHeap_none, List.getElem?_cons_zero, evOpers_ord, stepO_eq, ordK_pure, ordK_mod, only_at, touch_ld1, touch_st, nms_ptr, List.contains_cons, List.contains_nil, beq_self_eq_true, Bool.or_true, Bool.or_false, ordOk, apartFrom, List.all_cons, List.all_nil, Nat.testBit, Nat.reduceShiftRight, Nat.reduceAnd, Nat.reduceBEq, Bool.not_true, Bool.not_false, Bool.and_self, Bool.and_true, Bool.and_false, Nat.reduceSub, Nat.reduceLT, bne, envC_trim, C_trim, trimO_f, trimO_pure, isCall_ld1, isCall_st, Bool.and_false, Bool.and_true, L29, CT_bx, hb]
  rw [outOf_mem 1 _ _ [] (by simp only [canonNames, FUEL, reach_cons, reachK_some, reach_nil, List.flatMap_cons, List.flatMap_nil, List.nil_append, List.append_nil, List.map_nil, List.map_cons, List.contains_nil, Prod.mk.injEq, Bool.false_eq_true, Nat.reduceEqDiff, and_true, if_false, List.filter_cons, List.filter_nil, bne_iff_ne, ne_eq, not_true_eq_false, upd_at, inHeap_at, range_one, List.getElem?_cons_zero, nms_nil, CF_nms, nms_nil, aB_agg_nms])]
  simp (disch := first | omega | decide | simp only [bs_isCell, bs_length, aW_isCell, aB_isCell, isCell_sl, isCell_isl, isCell_nil, isCell_ptr, isCell_N]) only [List.map_cons, List.map_nil, Option.map_some, upd_at, Prod.mk.injEq, Nat.reduceEqDiff, false_and, if_false, ren_nil, List.filterMap_nil, Option.map_some, inHeap_at, range_one, List.getElem?_cons_zero, CF_ren, ren_nil, aB_agg_ren]

def boT (i : Nat) : R := fun j => if j < 256 ∧ don i j = true then BX j else 0#8
theorem boT_0 : boT 0 = set1 (fun _ => 0#8) 0 99#8 := by
  funext j
  simp only [boT, don, Nat.not_lt_zero, or_false, decide_eq_true_eq, set1]
  by_cases h0 : j = 0
  · subst h0; decide
  · rw [if_neg h0, if_neg (fun h => h0 h.2)]
theorem boT_succ (i : Nat) (hi : i < 255) : boT (i + 1) = set1 (boT i) (PW i).toNat (BX (PW i).toNat) := by
  have hp : (PW i).toNat < 256 := (PW i).isLt
  funext j
  simp only [boT, set1]
  by_cases h1 : j < 256
  · rw [don_succ i j hi h1]
    by_cases h2 : j = (PW i).toNat
    · rw [if_pos h2, if_pos ⟨h1, by rw [decide_eq_true h2]; rfl⟩, h2]
    · rw [if_neg h2, decide_eq_false h2, Bool.false_or]
  · rw [if_neg (fun h => h1 h.1), if_neg (by omega), if_neg (fun h => h1 h.1)]
theorem boT_all : aB 256 (boT 255) = aB 256 BX := aB_ext 256 fun j hj => by rw [boT, if_pos ⟨hj, don_all j hj⟩]
theorem trn_pw : ∀ i : Fin 255, trn (PW (255 - i.val)) = BX (PW i.val).toNat := by decide +kernel
theorem trn_0 : trn 0#8 = 99#8 := by decide

def oJ1 (i : Nat) (st : St) : Prop := ∃ (H : Heap), st = ⟨[.ptr (1, 0) 0, .ptr (1, 1) 0, N (i + 1), .undef, .undef, .undef, .undef, .undef, .undef, .undef, .undef, .undef, .undef, .undef, .undef, .undef, .undef, .undef, .undef, .undef, .undef, .undef, .undef, .undef, .undef, .undef, .undef, .undef, .undef, .undef, .undef, .undef, .undef], H, 2, 0⟩ ∧ H (1, 0) = some (aB 256 fun _ => 0#8) ∧ H (1, 1) = some (aB 256 (pwT (i + 1)))
def oJ2 (i : Nat) (st : St) : Prop := ∃ (H : Heap), st = ⟨[.ptr (1, 0) 0, .ptr (1, 1) 0, .undef, .ptr (1, 2) 0, N i, .undef, .undef, .undef, .undef, .undef, .undef, .undef, .undef, .undef, .undef, .undef, .undef, .undef, .undef, .undef, .undef, .undef, .undef, .undef, .undef, .undef, .undef, .undef, .undef, .undef, .undef, .undef, .undef], H, 2, 0⟩ ∧ H (1, 0) = some (aB 256 fun _ => 0#8) ∧ H (1, 1) = some (aB 256 (pwT 256)) ∧ H (1, 2) = some (aB 256 (boT i))

theorem Boxes_F (k : Nat) : F C (k + 300) 32 [] [] = some (.agg (aB 256 BX), [], []) := by
  rw [F_succ f32]
  have e0 : set1 (fun _ => 0#8) 0 1#8 = pwT 1 := by
    funext j; simp only [set1, pwT]
    by_cases h : j = 0
    · subst h; rfl
    · rw [if_neg h, if_neg (by omega)]
  have htu : ∀ a, F C (k + 299) 49 [B8 a] [] = some (B8 (trn a), [], []) := fun a => turned_F (k + 279) a
  have hmu : ∀ a b, F C (k + 299) 33 [B8 a, B8 b] [] = some (B8 (mul a b), [], []) := fun a b => rmulF (k + 288) a b
  simp (disch := first | omega | decide | simp only [bs_isCell, bs_length, aW_isCell, aB_isCell, isCell_sl, isCell_isl, isCell_nil, isCell_ptr, isCell_N]) only [funSem_eq, ev_seq, ev_block, ev_region, regK_some, evOpers_nil, evOpers_cons, stepK_pure, put_some, put_none, evX_t, evX_c, outR_some, op_mv, andThen_normal, List.set_cons_zero, List.set_cons_succ, List.getD_cons_zero, List.getD_cons_succ, List.nil_append, repUn_succ, List.replicate_zero, List.length_cons, List.length_nil, ev_loop, Nat.reduceAdd, upd_at, stepK_new, stepK_mod, cellsOf_B8, op_new, op_st, stV_ptr, op_iaA, iaV_lt, Prod.mk.injEq, Nat.reduceEqDiff, and_true, if_true, if_false, Nat.zero_add, Nat.add_zero, aB_rep, aB_st, Nat.mul_one, Nat.add_zero, Nat.zero_add, N_nat, Nat.reduceEqDiff, Nat.reduceAdd, Nat.sub_zero, Nat.mul_one, inHeap_none, L32, e0]
  generalize hL : loopN L32k1 _ _ _ = r
  refine loop_use hL oJ1 255 (by omega) ?_ ?_ ?_ ?_
  · rintro i st hi ⟨H, rfl, h0, h1⟩
    have hlt : i + 1 < 256 := by omega
    have hs := pwT_succ i hi
    have e1 : i + 1 - 1 = i := by omega
    apply Exists.intro
    apply And.intro
    · simp (disch := first | omega | decide | simp only [nms_B8, nms_B32, nms_B64, nms_I, nms_N, nms_Bo, nms_Un, nms_undef, nms_Hf, nms_ptr, nms_sl, aB_agg_nms, aW_agg_nms, aD_agg_nms, aO_agg_nms, List.flatMap_cons, List.flatMap_nil, List.nil_append, List.append_nil, ren_B8, ren_B32, ren_B64, ren_I, ren_N, ren_Bo, ren_Un, ren_undef, ren_Hf, aB_agg_ren, aW_agg_ren, aD_agg_ren, aO_agg_ren, List.map_cons, List.map_nil, ren7_I, ren7_N, ren7_Bo, ren7_B8, ren7_B32, ren7_B64, nms7_I, nms7_N, nms7_Bo, nms7_B8, nms7_B32, nms7_B64, nms_tup, ren_tup, implies_true, l33, l49, bs_isCell, bs_nms, bs_ren, ibs_nms, ibs_ren, bs_length, aW_isCell, aB_isCell, isCell_sl, isCell_isl, isCell_nil, isCell_ptr, isCell_N]) only [ev_skip, ev_seq, ev_block, ev_region, regK_some, evOpers_nil, evOpers_cons, stepK_pure, put_some, put_none, evX_t, evX_c, outR_some, op_mv, op_bin, op_call, callV_fn, andThen_normal, inBlock_normal, ev_cond, condK_true, List.set_cons_zero, List.set_cons_succ, List.getD_cons_zero, List.getD_cons_succ, List.map_cons, List.map_nil, List.length_cons, List.length_nil, callOp_C, calK_B8, Nat.reduceAdd, stepK_mod, cellsOf_B8, cellAt_ptr, ld1K_some, op_ld1, op_st, stV_ptr, op_iaA, iaV_lt, Nat.zero_add, Nat.add_zero, decide_true, aB_cell, aB_st, Nat.mul_one, Nat.add_zero, Nat.zero_add, N_add, N_sub, N_lss, N_nat, Nat.reduceAdd, decide_true, Nat.mul_one, L32b1, h1, hlt, e1, hmu, hs]
      rfl
    · refine canon_inv [(1, 0), (1, 1)] rfl (by simp only [canonNames, FUEL, reach_cons, reachK_some, reach_nil, nms_ptr, nms_undef, List.flatMap_cons, List.flatMap_nil, List.nil_append, List.cons_append, List.append_nil, List.range_zero, List.map_nil, List.contains_nil, List.contains_cons, Prod.mk.injEq, beq_iff_eq, Bool.or_eq_true, Bool.false_eq_true, and_false, or_false, if_true, if_false, Nat.one_ne_zero, Nat.zero_ne_one, List.filter_cons, List.filter_nil, bne_iff_ne, ne_eq, not_false_eq_true, upd_at, mask_nil, mask_true, mask_false, nms_N, L32k1, aB_nms, h0, h1]) rfl ⟨_, rfl, ?_, ?_⟩
      · exact cN_same (1, 0) rfl (by simp (disch := first | omega | decide | simp only [bs_isCell, bs_length, aW_isCell, aB_isCell, isCell_sl, isCell_isl, isCell_nil, isCell_ptr, isCell_N]) only [upd_at, Prod.mk.injEq, and_false, if_false, Nat.zero_ne_one, h0]) (aB_ren _ _ _)
      · exact cN_same (1, 1) rfl (by simp (disch := first | omega | decide | simp only [bs_isCell, bs_length, aW_isCell, aB_isCell, isCell_sl, isCell_isl, isCell_nil, isCell_ptr, isCell_N]) only [upd_at, if_true, h1]) (aB_ren _ _ _)
  · refine canon_inv [(2, 0), (3, 0)] rfl (by simp only [canonNames, FUEL, reach_cons, reachK_some, reach_nil, nms_ptr, nms_undef, List.flatMap_cons, List.flatMap_nil, List.nil_append, List.cons_append, List.append_nil, List.range_zero, List.map_nil, List.contains_nil, List.contains_cons, Prod.mk.injEq, beq_iff_eq, Bool.or_eq_true, Bool.false_eq_true, Nat.reduceEqDiff, and_true, or_false, if_true, if_false, List.filter_cons, List.filter_nil, bne_iff_ne, ne_eq, not_false_eq_true, upd_at, mask_nil, mask_true, mask_false, inHeap_none, nms_N, L32k1, aB_nms]) rfl ⟨_, rfl, ?_, ?_⟩
    · exact cN_same (2, 0) rfl (by simp (disch := first | omega | decide | simp only [bs_isCell, bs_length, aW_isCell, aB_isCell, isCell_sl, isCell_isl, isCell_nil, isCell_ptr, isCell_N]) only [upd_at, Prod.mk.injEq, Nat.reduceEqDiff, and_true, if_true, if_false, inHeap_none]) (aB_ren _ _ _)
    · exact cN_same (3, 0) rfl (by simp (disch := first | omega | decide | simp only [bs_isCell, bs_length, aW_isCell, aB_isCell, isCell_sl, isCell_isl, isCell_nil, isCell_ptr, isCell_N]) only [upd_at, Prod.mk.injEq, Nat.reduceEqDiff, and_true, if_true, if_false, Nat.zero_add, inHeap_none]) (aB_ren _ _ _)
  · rintro st ⟨H, rfl, h0, h1⟩
    apply stop_exit
    simp (disch := first | omega | decide | simp only [bs_isCell, bs_length, aW_isCell, aB_isCell, isCell_sl, isCell_isl, isCell_nil, isCell_ptr, isCell_N]) only [ev_exit, ev_seq, ev_region, regK_some, evOpers_nil, evOpers_cons, stepK_pure, put_some, evX_t, evX_c, outR_some, op_mv, op_bin, andThen_normal, andThen_exit, ev_cond, condK_false, List.set_cons_zero, List.set_cons_succ, List.getD_cons_zero, List.getD_cons_succ, List.length_cons, List.length_nil, Nat.reduceAdd, Nat.zero_add, Nat.add_zero, decide_false, Nat.add_zero, Nat.zero_add, N_lss, Nat.reduceAdd, Nat.lt_irrefl, decide_false, L32b1]
    rfl
  · rintro st ⟨H, rfl, h0, h1⟩ rfl
    simp (disch := first | omega | decide | simp only [nms_B8, nms_B32, nms_B64, nms_I, nms_N, nms_Bo, nms_Un, nms_undef, nms_Hf, nms_ptr, nms_sl, aB_agg_nms, aW_agg_nms, aD_agg_nms, aO_agg_nms, List.flatMap_cons, List.flatMap_nil, List.nil_append, List.append_nil, ren_B8, ren_B32, ren_B64, ren_I, ren_N, ren_Bo, ren_Un, ren_undef, ren_Hf, aB_agg_ren, aW_agg_ren, aD_agg_ren, aO_agg_ren, List.map_cons, List.map_nil, ren7_I, ren7_N, ren7_Bo, ren7_B8, ren7_B32, ren7_B64, nms7_I, nms7_N, nms7_Bo, nms7_B8, nms7_B32, nms7_B64, nms_tup, ren_tup, implies_true, l33, l49, bs_isCell, bs_nms, bs_ren, ibs_nms, ibs_ren, bs_length, aW_isCell, aB_isCell, isCell_sl, isCell_isl, isCell_nil, isCell_ptr, isCell_N]) only [ev_exit, ev_seq, ev_block, ev_region, regK_some, evOpers_nil, evOpers_cons, stepK_pure, put_some, put_none, evX_t, evX_c, outR_some, op_mv, op_bin, op_call, callV_fn, andThen_normal, andThen_exit, inBlock_exit, ev_cond, condK_false, List.set_cons_zero, List.set_cons_succ, List.getD_cons_zero, List.getD_cons_succ, List.map_cons, List.map_nil, List.length_cons, List.length_nil, callOp_C, calK_B8, ev_loop, Nat.reduceAdd, upd_at, stepK_new, stepK_mod, cellsOf_B8, op_new, op_st, stV_ptr, op_iaA, iaV_lt, if_true, Nat.zero_add, Nat.add_zero, decide_false, aB_st, Nat.mul_one, Nat.add_zero, Nat.zero_add, N_lss, N_nat, Nat.reduceAdd, Nat.lt_irrefl, decide_false, Nat.mul_one, L32b1, htu, trn_0, ← boT_0]
    generalize hL : loopN L32k0 _ _ _ = r
    refine loop_use hL oJ2 255 (by omega) ?_ ?_ ?_ ?_
    · rintro i st hi ⟨H, rfl, h0, h1, h2⟩
      have hp : (PW i).toNat < 256 := (PW i).isLt
      have e0 : pwT 256 i = PW i := if_pos (by omega)
      have e2 : pwT 256 (255 - i) = PW (255 - i) := if_pos (by omega)
      have hx := trn_pw ⟨i, hi⟩
      simp only at hx
      have hs := boT_succ i hi
      apply Exists.intro
      apply And.intro
      · simp (disch := first | omega | decide | simp only [nms_B8, nms_B32, nms_B64, nms_I, nms_N, nms_Bo, nms_Un, nms_undef, nms_Hf, nms_ptr, nms_sl, aB_agg_nms, aW_agg_nms, aD_agg_nms, aO_agg_nms, List.flatMap_cons, List.flatMap_nil, List.nil_append, List.append_nil, ren_B8, ren_B32, ren_B64, ren_I, ren_N, ren_Bo, ren_Un, ren_undef, ren_Hf, aB_agg_ren, aW_agg_ren, aD_agg_ren, aO_agg_ren, List.map_cons, List.map_nil, ren7_I, ren7_N, ren7_Bo, ren7_B8, ren7_B32, ren7_B64, nms7_I, nms7_N, nms7_Bo, nms7_B8, nms7_B32, nms7_B64, nms_tup, ren_tup, implies_true, l33, l49, bs_isCell, bs_nms, bs_ren, ibs_nms, ibs_ren, bs_length, aW_isCell, aB_isCell, isCell_sl, isCell_isl, isCell_nil, isCell_ptr, isCell_N]) only [ev_skip, ev_seq, ev_block, ev_region, regK_some, evOpers_nil, evOpers_cons, stepK_pure, put_some, put_none, evX_t, evX_c, outR_some, op_mv, op_bin, op_call, callV_fn, andThen_normal, inBlock_normal, ev_cond, condK_true, nms_B8, List.set_cons_zero, List.set_cons_succ, List.getD_cons_zero, List.getD_cons_succ, List.map_cons, List.map_nil, List.flatMap_cons, List.flatMap_nil, List.append_nil, List.length_cons, List.length_nil, B8_nat, callOp_C, calK_B8, Nat.reduceAdd, Nat.reduceSub, cellsOf_B8, cellAt_ptr, ld1K_some, op_ld1, op_st, stV_ptr, op_iaA, iaV_lt, List.all_cons, List.all_nil, Bool.and_true, Nat.reduceLT, if_true, Nat.zero_add, Nat.add_zero, decide_true, aB_cell, aB_st, Nat.mul_one, Nat.add_zero, Nat.zero_add, B8_nat, N_add, N_sub, N_lss, N_nat, Nat.reduceLT, Nat.reduceAdd, decide_true, nm_beq, Bool.not_false, Bool.not_true, Nat.mul_one, evOpers_ord, stepO_eq, ordK_pure, ordK_mod, only_at, touch_ld1, touch_st, touch_call, reach_none, nms_fn, nms_ptr, List.contains_cons, List.contains_nil, beq_self_eq_true, Bool.or_true, Bool.or_false, ordOk, apartFrom, List.all_cons, List.all_nil, Nat.testBit, Nat.reduceShiftRight, Nat.reduceAnd, Nat.reduceBEq, Bool.not_true, Bool.not_false, Bool.and_self, Bool.and_true, Bool.and_false, Nat.reduceSub, Nat.reduceLT, bne, envC_trim, C_trim, trimO_f, trimO_pure, isCall_ld1, isCall_st, isCall_call, Bool.and_false, Bool.and_true, L32b0, h1, h2, hi, e0, e2, htu, hx, ← hs]
        rfl
      · refine canon_inv [(1, 0), (1, 1), (1, 2)] rfl (by simp only [canonNames, FUEL, reach_cons, reachK_some, reach_nil, nms_ptr, nms_undef, List.flatMap_cons, List.flatMap_nil, List.nil_append, List.cons_append, List.append_nil, List.range_zero, List.map_nil, List.contains_nil, List.contains_cons, Prod.mk.injEq, beq_iff_eq, Bool.or_eq_true, Bool.false_eq_true, Nat.reduceEqDiff, and_false, or_false, if_true, if_false, Nat.one_ne_zero, List.filter_cons, List.filter_nil, bne_iff_ne, ne_eq, not_false_eq_true, upd_at, mask_nil, mask_true, mask_false, nms_N, L32k0, aB_nms, h0, h1, h2]) rfl ⟨_, rfl, ?_, ?_, ?_⟩
        · exact cN_same (1, 0) rfl (by simp (disch := first | omega | decide | simp only [bs_isCell, bs_length, aW_isCell, aB_isCell, isCell_sl, isCell_isl, isCell_nil, isCell_ptr, isCell_N]) only [upd_at, Prod.mk.injEq, Nat.reduceEqDiff, and_false, if_false, h0]) (aB_ren _ _ _)
        · exact cN_same (1, 1) rfl (by simp (disch := first | omega | decide | simp only [bs_isCell, bs_length, aW_isCell, aB_isCell, isCell_sl, isCell_isl, isCell_nil, isCell_ptr, isCell_N]) only [upd_at, Prod.mk.injEq, Nat.reduceEqDiff, and_false, if_false, h1]) (aB_ren _ _ _)
        · exact cN_same (1, 2) rfl (by simp (disch := first | omega | decide | simp only [bs_isCell, bs_length, aW_isCell, aB_isCell, isCell_sl, isCell_isl, isCell_nil, isCell_ptr, isCell_N]) only [upd_at, if_true]) (aB_ren _ _ _)
    · refine canon_inv [(1, 0), (1, 1), (4, 0)] rfl (by simp only [canonNames, FUEL, reach_cons, reachK_some, reach_nil, nms_ptr, nms_undef, List.flatMap_cons, List.flatMap_nil, List.nil_append, List.cons_append, List.append_nil, List.range_zero, List.map_nil, List.contains_nil, List.contains_cons, Prod.mk.injEq, beq_iff_eq, Bool.or_eq_true, Bool.false_eq_true, Nat.reduceEqDiff, and_true, and_false, or_false, if_true, if_false, Nat.one_ne_zero, Nat.zero_ne_one, List.filter_cons, List.filter_nil, bne_iff_ne, ne_eq, not_false_eq_true, upd_at, Nat.reduceAdd, mask_nil, mask_true, mask_false, nms_N, L32k0, aB_nms, h0, h1]) rfl ⟨_, rfl, ?_, ?_, ?_⟩
      · exact cN_same (1, 0) rfl (by simp (disch := first | omega | decide | simp only [bs_isCell, bs_length, aW_isCell, aB_isCell, isCell_sl, isCell_isl, isCell_nil, isCell_ptr, isCell_N]) only [upd_at, Prod.mk.injEq, Nat.reduceEqDiff, and_true, if_false, h0]) (aB_ren _ _ _)
      · exact cN_same (1, 1) rfl (by simp (disch := first | omega | decide | simp only [bs_isCell, bs_length, aW_isCell, aB_isCell, isCell_sl, isCell_isl, isCell_nil, isCell_ptr, isCell_N]) only [Nat.reduceAdd, upd_at, Prod.mk.injEq, Nat.reduceEqDiff, and_self, if_false, Nat.one_ne_zero, h1]) (aB_ren _ _ _)
      · exact cN_same (4, 0) rfl (by simp (disch := first | omega | decide | simp only [bs_isCell, bs_length, aW_isCell, aB_isCell, isCell_sl, isCell_isl, isCell_nil, isCell_ptr, isCell_N]) only [upd_at, if_true]) (aB_ren _ _ _)
    · rintro st ⟨H, rfl, h0, h1, h2⟩
      apply stop_exit
      simp (disch := first | omega | decide | simp only [bs_isCell, bs_length, aW_isCell, aB_isCell, isCell_sl, isCell_isl, isCell_nil, isCell_ptr, isCell_N]) only [ev_exit, ev_seq, ev_region, regK_some, evOpers_nil, evOpers_cons, stepK_pure, put_some, evX_t, evX_c, outR_some, op_mv, op_bin, andThen_normal, andThen_exit, ev_cond, condK_false, List.set_cons_zero, List.set_cons_succ, List.getD_cons_zero, List.getD_cons_succ, List.length_cons, List.length_nil, Nat.reduceAdd, Nat.zero_add, Nat.add_zero, decide_false, Nat.add_zero, Nat.zero_add, N_lss, Nat.reduceAdd, Nat.lt_irrefl, decide_false, L32b0]
      rfl
    · rintro st ⟨H, rfl, h0, h1, h2⟩ rfl
      simp (disch := first | omega | decide | simp only [bs_isCell, bs_length, aW_isCell, aB_isCell, isCell_sl, isCell_isl, isCell_nil, isCell_ptr, isCell_N]) only [ev_ret, ev_exit, ev_seq, ev_region, regK_some, evOpers_nil, evOpers_cons, stepK_pure, put_some, put_none, evX_t, evX_c, outR_some, op_mv, op_bin, andThen_normal, andThen_exit, inBlock_exit, ev_cond, condK_false, retK_ret, List.set_cons_zero, List.set_cons_succ, List.getD_cons_zero, List.getD_cons_succ, List.length_cons, List.length_nil, Option.map_some, Nat.reduceAdd, upd_at, stepK_mod, cellsOf_agg, cellAt_ptr, ldK_some, op_ld, op_st, stV_ptr, if_true, Nat.zero_add, Nat.add_zero, decide_false, resVal_agg, aggV_some, aB_cells, aB_st_all, aB_outOf, Nat.add_zero, Nat.zero_add, N_lss, Nat.reduceAdd, Nat.lt_irrefl, decide_false, Option.map_some, L32b0, h0, h2, boT_all]
end Aes

namespace Aes

def wd (ws : List (BitVec 8)) (i j : Nat) : BitVec 8 := ws.getD (4 * i + j) 0#8
/-- the word ahead, as it goes in -/
def tw (n : Nat) (c : BitVec 8) (i : Nat) (ws : List (BitVec 8)) : R :=
  if i % n = 0 then fun j => BX (wd ws (i - 1) ((j + 1) % 4)).toNat ^^^ (if j = 0 then c else 0#8)
  else if n = 8 ∧ i % 8 = 4 then fun j => BX (wd ws (i - 1) j).toNat else fun j => wd ws (i - 1) j
def nwd (n : Nat) (c : BitVec 8) (i : Nat) (ws : List (BitVec 8)) : R := fun j => tw n c i ws j ^^^ wd ws (i - n) j
def ext4 (ws : List (BitVec 8)) (w : R) : List (BitVec 8) := ws ++ [w 0, w 1, w 2, w 3]
def kstep (n i : Nat) (p : List (BitVec 8) × BitVec 8) : List (BitVec 8) × BitVec 8 := (ext4 p.1 (nwd n p.2 i p.1), if i % n = 0 then T2 p.2 else p.2)
def KS (n : Nat) (key : List (BitVec 8)) : Nat → List (BitVec 8) × BitVec 8
  | 0 => (key, 1#8)
  | m + 1 => kstep n (n + m) (KS n key m)
/-- all round keys, one behind the other -/
def W (n : Nat) (key : List (BitVec 8)) : List (BitVec 8) := (KS n key (3 * n + 28)).1

theorem KS_length (n : Nat) (key : List (BitVec 8)) (hk : key.length = 4 * n) : ∀ m, (KS n key m).1.length = 4 * (n + m) := by
  intro m
  induction m with
  | zero => simpa [KS] using hk
  | succ m ih => simp only [KS, kstep, ext4, List.length_append, List.length_cons, List.length_nil, ih]; omega
theorem W_length (n : Nat) (key : List (BitVec 8)) (hk : key.length = 4 * n) : (W n key).length = 16 * (n + 7) := by
  rw [W, KS_length n key hk]; omega
theorem KS_prefix (n : Nat) (key : List (BitVec 8)) : ∀ m, key <+: (KS n key m).1 := by
  intro m
  induction m with
  | zero => exact List.prefix_refl _
  | succ m ih => exact ih.trans (List.prefix_append _ _)
theorem W_prefix (n : Nat) (key : List (BitVec 8)) : key <+: W n key := KS_prefix n key _

/-! ### what must come of every program -/

def key0 : List (BitVec 8) := [0#8, 1#8, 2#8, 3#8, 4#8, 5#8, 6#8, 7#8, 8#8, 9#8, 10#8, 11#8, 12#8, 13#8, 14#8, 15#8]
def W0 : List (BitVec 8) := [0#8, 1#8, 2#8, 3#8, 4#8, 5#8, 6#8, 7#8, 8#8, 9#8, 10#8, 11#8, 12#8, 13#8, 14#8, 15#8, 214#8, 170#8, 116#8, 253#8, 210#8, 175#8, 114#8, 250#8, 218#8, 166#8, 120#8, 241#8, 214#8, 171#8, 118#8, 254#8, 182#8, 146#8, 207#8, 11#8, 100#8, 61#8, 189#8, 241#8, 190#8, 155#8, 197#8, 0#8, 104#8, 48#8, 179#8, 254#8, 182#8, 255#8, 116#8, 78#8, 210#8, 194#8, 201#8, 191#8, 108#8, 89#8, 12#8, 191#8, 4#8, 105#8, 191#8, 65#8, 71#8, 247#8, 247#8, 188#8, 149#8, 53#8, 62#8, 3#8, 249#8, 108#8, 50#8, 188#8, 253#8, 5#8, 141#8, 253#8, 60#8, 170#8, 163#8, 232#8, 169#8, 159#8, 157#8, 235#8, 80#8, 243#8, 175#8, 87#8, 173#8, 246#8, 34#8, 170#8, 94#8, 57#8, 15#8, 125#8, 247#8, 166#8, 146#8, 150#8, 167#8, 85#8, 61#8, 193#8, 10#8, 163#8, 31#8, 107#8, 20#8, 249#8, 112#8, 26#8, 227#8, 95#8, 226#8, 140#8, 68#8, 10#8, 223#8, 77#8, 78#8, 169#8, 192#8, 38#8, 71#8, 67#8, 135#8, 53#8, 164#8, 28#8, 101#8, 185#8, 224#8, 22#8, 186#8, 244#8, 174#8, 191#8, 122#8, 210#8, 84#8, 153#8, 50#8, 209#8, 240#8, 133#8, 87#8, 104#8, 16#8, 147#8, 237#8, 156#8, 190#8, 44#8, 151#8, 78#8, 19#8, 17#8, 29#8, 127#8, 227#8, 148#8, 74#8, 23#8, 243#8, 7#8, 167#8, 139#8, 77#8, 43#8, 48#8, 197#8]
def cs0 : List (BitVec 8) := [1#8, 2#8, 4#8, 8#8, 16#8, 32#8, 64#8, 128#8, 27#8, 54#8, 108#8]
theorem ks0_step : ∀ m : Fin 40, kstep 4 (4 + m.val) (W0.take (16 + 4 * m.val), cs0.getD ((m.val + 3) / 4) 0#8) = (W0.take (16 + 4 * (m.val + 1)), cs0.getD ((m.val + 4) / 4) 0#8) := by decide +kernel
theorem ks0 : ∀ m, m ≤ 40 → KS 4 key0 m = (W0.take (16 + 4 * m), cs0.getD ((m + 3) / 4) 0#8) := by
  intro m
  induction m with
  | zero => intro _; rfl
  | succ m ih => intro h; rw [KS, ih (by omega)]; exact ks0_step ⟨m, by omega⟩
theorem W_key0 : W 4 key0 = W0 := by
  rw [W, ks0 40 (Nat.le_refl _)]; rfl
def pt0 : List (BitVec 8) := [0#8, 17#8, 34#8, 51#8, 68#8, 85#8, 102#8, 119#8, 136#8, 153#8, 170#8, 187#8, 204#8, 221#8, 238#8, 255#8]
def sts : List (List (BitVec 8)) := [[0#8, 16#8, 32#8, 48#8, 64#8, 80#8, 96#8, 112#8, 128#8, 144#8, 160#8, 176#8, 192#8, 208#8, 224#8, 240#8],
  [137#8, 216#8, 16#8, 232#8, 133#8, 90#8, 206#8, 104#8, 45#8, 24#8, 67#8, 216#8, 203#8, 18#8, 143#8, 228#8],
  [73#8, 21#8, 89#8, 143#8, 85#8, 229#8, 215#8, 160#8, 218#8, 202#8, 148#8, 250#8, 31#8, 10#8, 99#8, 247#8],
  [250#8, 99#8, 106#8, 40#8, 37#8, 179#8, 57#8, 201#8, 64#8, 102#8, 138#8, 49#8, 87#8, 36#8, 77#8, 23#8],
  [36#8, 114#8, 64#8, 35#8, 105#8, 102#8, 179#8, 250#8, 110#8, 210#8, 117#8, 50#8, 136#8, 66#8, 91#8, 108#8],
  [200#8, 22#8, 119#8, 188#8, 155#8, 122#8, 201#8, 59#8, 37#8, 2#8, 121#8, 146#8, 176#8, 38#8, 25#8, 150#8],
  [198#8, 47#8, 225#8, 9#8, 247#8, 94#8, 237#8, 195#8, 204#8, 121#8, 57#8, 93#8, 132#8, 249#8, 207#8, 93#8],
  [209#8, 135#8, 108#8, 15#8, 121#8, 196#8, 48#8, 10#8, 180#8, 85#8, 148#8, 173#8, 214#8, 111#8, 244#8, 31#8],
  [253#8, 227#8, 186#8, 210#8, 5#8, 229#8, 208#8, 215#8, 53#8, 71#8, 150#8, 78#8, 241#8, 254#8, 55#8, 241#8],
  [189#8, 110#8, 124#8, 61#8, 242#8, 181#8, 119#8, 158#8, 11#8, 97#8, 33#8, 110#8, 139#8, 16#8, 182#8, 137#8]]
def ct0 : List (BitVec 8) := [105#8, 196#8, 224#8, 216#8, 106#8, 123#8, 4#8, 48#8, 216#8, 205#8, 183#8, 128#8, 112#8, 180#8, 197#8, 90#8]
def fl (l : List (BitVec 8)) : R := fun j => l.getD j 0#8
theorem st0_step : ∀ r : Fin 9, ∀ i : Fin 16, add (mix (rnd (fl (sts.getD r.val [])))) (kf W0 (r.val + 1)) i.val = fl (sts.getD (r.val + 1) []) i.val := by decide +kernel
theorem st0_zero : ∀ i : Fin 16, add (fl pt0) (kf W0 0) i.val = fl (sts.getD 0 []) i.val := by decide +kernel
theorem st0_last : ∀ i : Fin 16, add (rnd (fl (sts.getD 9 []))) (kf W0 10) i.val = fl ct0 i.val := by decide +kernel
theorem encl0 : ∀ r, r ≤ 9 → E16 (encl (kf W0) (fl pt0) r) (fl (sts.getD r [])) := by
  intro r
  induction r with
  | zero => intro _ i hi; exact st0_zero ⟨i, hi⟩
  | succ r ih =>
    intro h
    exact (add_c (mix_c (rnd_c (ih (by omega)))) _).trans fun i hi => st0_step ⟨r, by omega⟩ ⟨i, hi⟩
theorem enc0 : E16 (enc (kf (W 4 key0)) 9 (fl pt0)) (fl ct0) := by
  rw [W_key0]
  exact (add_c (rnd_c (encl0 9 (Nat.le_refl _))) _).trans fun i hi => st0_last ⟨i, hi⟩
end Aes

namespace Aes
open Go Go.LE

theorem mk4 (b l c : Nat) (h1 : l ≤ c) (h2 : c < 1048576) : mkK b 4 4 [B8 0#8, B8 0#8, B8 0#8, B8 0#8] (some l) (some c) = some ⟨.sl (b, 0) 0 l (some c) 4, [bs (List.replicate (4 * c) 0#8)], []⟩ := by
  rw [mkK, if_pos ⟨h1, by omega, by omega, rfl⟩]
  congr 3
  rw [← bs_rep]
  clear h1 h2
  induction c with
  | zero => rfl
  | succ c ih =>
    rw [List.replicate_succ, List.flatten_cons, ih, show 4 * (c + 1) = 4 * c + 1 + 1 + 1 + 1 by omega, List.replicate_succ, List.replicate_succ, List.replicate_succ, List.replicate_succ]
    rfl
theorem aB4_bs (w : R) : aB 4 w = bs [w 0, w 1, w 2, w 3] := rfl
theorem app4_room (b i c z : Nat) (H : Heap) (m : Nm) (ws : List (BitVec 8)) (w : R) (hm : H m = some (bs (ws ++ List.replicate z 0#8))) (hw : ws.length = 4 * i) (hz : 4 ≤ z) (hc : i + 1 ≤ c) (hi : i < 1048576) :
    appX b 4 4 1 H [] (aB 4 w) (.sl m 0 i (some c) 4) = some ⟨.sl m 0 (i + 1) (some c) 4, [], [(m, some (bs (ext4 ws w ++ List.replicate (z - 4) 0#8)))]⟩ := by
  rw [appX, if_pos ⟨rfl, by omega, rfl⟩, if_pos hc, hm]
  simp only [bs_length, List.length_append, List.length_replicate, hw]
  rw [if_pos (by omega), aB4_bs, bs_splice]
  congr 6
  have e1 : (ws ++ List.replicate z 0#8).take (0 + i * 4) = ws := by
    rw [List.take_append_of_le_length (by omega), List.take_of_length_le (by omega)]
  have e2 : (ws ++ List.replicate z 0#8).drop (0 + i * 4 + [w 0, w 1, w 2, w 3].length) = List.replicate (z - 4) 0#8 := by
    rw [List.drop_append, List.drop_of_length_le (by simp only [List.length_cons, List.length_nil]; omega), List.drop_replicate, List.nil_append]
    congr 1
    simp only [List.length_cons, List.length_nil]; omega
  rw [e1, e2, ext4]
/-- the next sixteen bytes of a row -/
theorem take16 (l : List (BitVec 8)) (i : Nat) (h : 16 * (i + 1) ≤ l.length) : l.take (16 * i) ++ (List.range 16).map (kf l i) = l.take (16 * (i + 1)) := by
  rw [show 16 * (i + 1) = 16 * i + 16 by omega, List.take_add]
  congr 1
  apply List.ext_getElem
  · simp only [List.length_map, List.length_range, List.length_take, List.length_drop]; omega
  · intro j h1 h2
    simp only [List.length_map, List.length_range] at h1
    simp only [List.getElem_map, List.getElem_range, kf, List.getElem_take, List.getElem_drop, List.getD_eq_getElem?_getD]
    rw [List.getElem?_eq_getElem (by omega), Option.getD_some]
    congr 1; omega
end Aes
