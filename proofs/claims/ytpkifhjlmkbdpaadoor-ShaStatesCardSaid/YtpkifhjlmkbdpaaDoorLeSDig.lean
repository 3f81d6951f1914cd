/- The digest of bytes, evaluated. -/
import Derived.Test.YtpkifhjlmkbdpaaDoorLeSSum
set_option linter.unusedVariables false
set_option linter.unusedSimpArgs false
namespace Sha
open Go Go.LE

def pad (b : List (BitVec 8)) : List (BitVec 8) := b ++ fb b.length 8
/-- the digest -/
def dig (b : List (BitVec 8)) : Nat → BitVec 8 := outB (absN (pad b) ini ((pad b).length / 64))

theorem chunk_front (b f : List (BitVec 8)) (i : Nat) (h : 64 * i + 64 ≤ b.length) : chunk (b ++ f) i = chunk b i := by
  funext j
  simp only [chunk]
  split
  · rw [List.getD_eq_getElem?_getD, List.getD_eq_getElem?_getD, List.getElem?_append_left (by omega)]
  · rfl
theorem chunk_drop (m : List (BitVec 8)) (q i : Nat) : chunk (m.drop (64 * q)) i = chunk m (q + i) := by
  funext j
  simp only [chunk]
  split
  · rw [List.getD_eq_getElem?_getD, List.getD_eq_getElem?_getD, List.getElem?_drop]
    congr 2; omega
  · rfl
theorem absN_front (b f : List (BitVec 8)) (s : Nat → BitVec 32) : ∀ i, 64 * i ≤ b.length → absN (b ++ f) s i = absN b s i := by
  intro i
  induction i with
  | zero => intro _; rfl
  | succ i ih => intro h; rw [absN, absN, ih (by omega), chunk_front b f i (by omega)]
theorem absN_add (m : List (BitVec 8)) (s : Nat → BitVec 32) (q : Nat) : ∀ i, absN m s (q + i) = absN (m.drop (64 * q)) (absN m s q) i := by
  intro i
  induction i with
  | zero => rfl
  | succ i ih => rw [← Nat.add_assoc, absN, absN, ih, chunk_drop]
/-- pieces first, then the rest -/
theorem absN_two (b f : List (BitVec 8)) (s : Nat → BitVec 32) (q : Nat) (hq : 64 * q ≤ b.length) :
    absN (b.drop (64 * q) ++ f) (absN b s q) ((b.drop (64 * q) ++ f).length / 64) = absN (b ++ f) s ((b ++ f).length / 64) := by
  have e1 : (b ++ f).drop (64 * q) = b.drop (64 * q) ++ f := List.drop_append_of_le_length hq
  have e2 : (b ++ f).length / 64 = q + (b.drop (64 * q) ++ f).length / 64 := by
    rw [List.length_append, List.length_append, List.length_drop]; omega
  rw [e2, absN_add, e1, absN_front b f s q hq]

theorem new_call (k b : Nat) (H : Heap) : callOp (envC C (k + 2)) H b 21 [] = some ⟨.ptr (b, 0) 0, [HsC ini Nil 0], []⟩ := by
  rw [callOp_C l21 rfl rfl, new_F]
  exact calK_ptr_new b _ 0 (by rw [HsC_ren, ren_nil])

theorem write_call0 (k b : Nat) (H : Heap) (fN : Nm) (s : Nat → BitVec 32) (n : Nat) (hn : n ≤ 4611686018427387904) (B : LV) (h : H fN = some (HsC s Nil n)) (hB : Lent H B [] [fN]) :
    callOp (envC C (k + 3)) H b 23 [.ptr fN 0, B] = some ⟨.tup [], [], [(fN, some (HsC s Nil n))]⟩ := by
  obtain ⟨lent, hs, hl⟩ := hB.snap
  have hr : reach H FUEL [] [fN] = [fN] := by
    simp only [FUEL, reach_cons, List.contains_nil, Bool.false_eq_true, if_false, h, reachK_some, HsC_nms, nms_nil, List.nil_append, reach_nil]
  rw [callOp_L, lend_w (k + 3) H fN B [] lent hs, callL_some]
  have hn' : ([.ptr fN 0, .isl (bs []) ([] : List (BitVec 8)).length] : List LV).flatMap (nms D) = [fN] := by
    simp only [List.flatMap_cons, List.flatMap_nil, nms_ptr, ibs_nms, List.append_nil]
  rw [hn', hr, callN_eq _ _ _ _ _ hl, show ([fN] : List Nm).filterMap H = [HsC s Nil n] by simp [h]]
  have ha : ([.ptr fN 0, .isl (bs []) ([] : List (BitVec 8)).length] : List LV).map (ren D (toCallee [fN])) = [.ptr (0, 0) 0, .isl (bs []) 0] := by
    simp only [List.map_cons, List.map_nil, ren_ptrF, toCallee_eq, idx0, Option.map_some, ptrO_some, ibs_ren, List.length_nil]
  have hp : plainRes (.tup [], [some (HsC s Nil n)], []) = true := by
    have h1 : (HsC s Nil n).all (noImm D) = true := by
      have h1 : (aW 8 s).all (noImm D) = true := by
        rw [List.all_eq_true]; intro x hx
        simp only [aW, arr, List.mem_map, List.mem_range] at hx
        obtain ⟨i, _, rfl⟩ := hx; rfl
      simp only [HsC, List.all_append, List.all_cons, List.all_nil, Bool.and_true, h1]; rfl
    simp [plainRes, h1]; rfl
  rw [ha, List.map_cons, List.map_nil, HsC_ren, ren_nil, envC_cal, write0A k s n hn, resK_any _ _ _ _ hp, backTo_eq]
  simp only [ren_tup0, HsC_ren, ren_nil, List.map_nil, List.zipWith_cons_cons, List.zipWith_nil_left, Option.map_some]

set_option maxRecDepth 10000 in
theorem sum_F (k : Nat) (b : List (BitVec 8)) (hb : b.length ≤ 17592186000000) : F C (k + b.length / 64 + 301) 15 [.isl (bs b) b.length] [] = some (.agg (aB 32 (dig b)), [], []) := by
  rw [F_succ f15]
  have hz := zs_lt b.length
  have hfl := fb_length b.length 8
  obtain ⟨K, hK⟩ : ∃ K, K = k + b.length / 64 + 300 := ⟨_, rfl⟩
  rw [← hK]
  have hnew := fun b H => new_call (K - 2) b H
  rw [show K - 2 + 2 = K by omega] at hnew
  by_cases h0 : b = []
  · subst h0
    have hw := fun bb H h => write_call0 (K - 3) bb H (3, 0) ini 0 (by omega) (.isl (bs []) 0) h (lent_isl H [] [(3, 0)])
    rw [show K - 3 + 3 = K by omega] at hw
    have hz0 := zs_lt 0
    have hf0 := fb_length 0 8
    have hs := sumA (K - (fb 0 8).length / 64 - 101) ini 0 (by omega)
    rw [show K - (fb 0 8).length / 64 - 101 + (fb 0 8).length / 64 + 101 = K by omega] at hs
    have hsum := fun bb H h => ptr_callA K bb 24 l24 H (3, 0) ini 0 h _ _ [] [] hs (aB_agg_ren _ _ _) rfl
    have hw' := hw 7 (upd (upd (inHeap []) (2, 0) (some (aB 32 fun _ => 0#8))) (3, 0) (some (HsC ini Nil 0))) rfl
    have hsum' := hsum 9 (upd (upd (upd (inHeap []) (2, 0) (some (aB 32 fun _ => 0#8))) (3, 0) (some (HsC ini Nil 0))) (3, 0) (some (HsC ini Nil 0))) rfl
    simp (disch := first | omega | decide | simp only [nms_B8, nms_B32, nms_B64, nms_I, nms_N, nms_Bo, nms_Un, nms_undef, nms_Hf, nms_ptr, nms_sl, aB_agg_nms, aW_agg_nms, aD_agg_nms, aO_agg_nms, List.flatMap_cons, List.flatMap_nil, List.nil_append, List.append_nil, ren_B8, ren_B32, ren_B64, ren_I, ren_N, ren_Bo, ren_Un, ren_undef, ren_Hf, aB_agg_ren, aW_agg_ren, aD_agg_ren, aO_agg_ren, List.map_cons, List.map_nil, ren7_I, ren7_N, ren7_Bo, ren7_B8, ren7_B32, ren7_B64, nms7_I, nms7_N, nms7_Bo, nms7_B8, nms7_B32, nms7_B64, nms_tup, ren_tup, implies_true, l17, l18, l19, l20, l36, l37, l38, l39, l43, l21, l22, l24, l25, l33, l35, l40, l42, l14, l27, bs_isCell, bs_nms, bs_ren, ibs_nms, ibs_ren, bs_length, aW_isCell, aB_isCell, isCell_sl, isCell_isl, isCell_nil, isCell_ptr, isCell_N]) only [funSem_eq, ev_skip, ev_ret, ev_exit, ev_seq, ev_block, ev_region, regK_some, evOpers_nil, evOpers_cons, evOpers_cons_g, stepK_pure, guardK_true, guardK_false, guardK_true', guardK_false', guardK_un, put_some, put_none, evX_t, evX_c, outR_some, pickV_true, pickV_false, op_mv, op_pick, op_bin, op_un, op_cvt, op_call, callV_fn, andThen_normal, andThen_ret, andThen_exit, inBlock_normal, inBlock_ret, inBlock_exit, ev_cond, condK_true, condK_false, retK_ret, retK_normal, resVal_tmp, nms_B8, nms_B32, nms_B64, nms_I, nms_Bo, nms_Un, ren_B8, ren_B32, ren_B64, ren_I, ren_Bo, ren_Un, envC_cal, envC_borrow, List.set_cons_zero, List.set_cons_succ, List.getD_cons_zero, List.getD_cons_succ, List.map_cons, List.map_nil, List.flatMap_cons, List.flatMap_nil, List.nil_append, List.cons_append, List.append_nil, repUn_succ, List.replicate_zero, List.length_cons, List.length_nil, B8_add, B8_mul, B8_sub, B8_and, B8_or, B8_xor, B8_andNot, B8_eql, B8_neq, B8_lss, B8_leq, B8_gtr, B8_geq, B8_not, B8_neg, B8_nat, B8_shl8, B8_shr8, B8_shl32, B8_shr32, B8_shl64, B8_shr64, cvt_8_8, cvt_8_32, cvt_8_64, B32_add, B32_mul, B32_sub, B32_and, B32_or, B32_xor, B32_andNot, B32_eql, B32_neq, B32_lss, B32_leq, B32_gtr, B32_geq, B32_not, B32_neg, B32_nat, B32_shl8, B32_shr8, B32_shl32, B32_shr32, B32_shl64, B32_shr64, cvt_32_8, cvt_32_32, cvt_32_64, B64_add, B64_mul, B64_sub, B64_and, B64_or, B64_xor, B64_andNot, B64_eql, B64_neq, B64_lss, B64_leq, B64_gtr, B64_geq, B64_not, B64_neg, B64_nat, B64_shl8, B64_shr8, B64_shl32, B64_shr32, B64_shl64, B64_shr64, cvt_64_8, cvt_64_32, cvt_64_64, cvt_I_8, cvt_I_32, cvt_I_64, cvt_8_I, cvt_32_I, cvt_I64, I_eql, I_neq, I_lss, I_leq, I_gtr, I_geq, Bo_eql, Bo_neq, Bo_not, callOp_C, calK_B8, calK_B32, calK_B64, calK_I, calK_Bo, outOf_B8, outOf_B32, outOf_B64, outOf_I, outOf_Bo, Option.map_some, BitVec.toNat_ofNat, ev_loop, Nat.reduceAdd, Nat.reduceSub, B8_rem, B32_rem, B64_rem, B8_quo, B32_quo, B64_quo, upd_at, stepK_new, stepK_mod, cellsOf_agg, cellsOf_B8, cellsOf_B32, cellsOf_B64, cellsOf_I, cellsOf_Bo, isCell_B8, isCell_B32, isCell_B64, isCell_I, isCell_Bo, cellAt_ptr, cellK_cons, ld1K_some, ldK_some, op_ld1, op_ld, op_new, op_box, boxK_some, op_st, stV_ptr, stK_cons, op_fa, faV_ptr, op_iaA, iaV_lt, fill_nil, fill_cons, fillK_some, aggR_some, op_build, agg_Hf, cellsOf_Hf, nms_Hf, ren_Hf, calK_Hf, outOf_Hf, Hf_eql, splice, List.take_succ_cons, List.take_zero, List.drop_succ_cons, List.drop_zero, List.drop_nil, List.take_nil, List.all_cons, List.all_nil, Bool.and_true, Bool.true_and, Prod.mk.injEq, Nat.reduceEqDiff, Nat.reduceLeDiff, Nat.reduceLT, and_true, true_and, and_false, false_and, and_self, if_true, if_false, reduceIte, Nat.zero_add, Nat.add_zero, Nat.le_refl, decide_true, decide_false, Nat.one_ne_zero, Nat.zero_ne_one, resVal_agg, resVal_one, aggV_some, oneV_some, resVal_tt, Nat.reducePow, Nat.reduceMod, op_ix1, ix1V_cons, ix1V_Hf, aB_rep, aB_length, aB_cell, aB_cells, aB_st, aB_st_all, aB_nms, aB_ren, aB_agg_nms, aB_agg_ren, aB_calK, aB_outOf, aB_ix1, aB_isCell, aB_eql, aW_rep, aW_length, aW_cell, aW_cells, aW_st, aW_st_all, aW_nms, aW_ren, aW_agg_nms, aW_agg_ren, aW_calK, aW_outOf, aW_ix1, aW_isCell, aW_eql, aD_rep, aD_length, aD_cell, aD_cells, aD_st, aD_st_all, aD_nms, aD_ren, aD_agg_nms, aD_agg_ren, aD_calK, aD_outOf, aD_ix1, aD_isCell, aD_eql, aO_rep, aO_length, aO_cell, aO_cells, aO_st, aO_st_all, aO_nms, aO_ren, aO_agg_nms, aO_agg_ren, aO_calK, aO_outOf, aO_ix1, aO_isCell, aO_eql, aI_rep, aI_length, aI_cell, aI_cells, aI_st, aI_st_all, aI_nms, aI_ren, aI_agg_nms, aI_agg_ren, aI_calK, aI_outOf, aI_ix1, aI_isCell, aI_eql, Nat.mul_one, Nat.add_zero, Nat.zero_add, B8_nat, B32_nat, B64_nat, N_add, N_sub, N_mul, N_quo, N_rem, N_shl, N_shr, N_eql, N_neq, N_lss, N_leq, N_gtr, N_geq, N_nat, cvt_N_8, cvt_N_32, cvt_N_64, cvt_8_N, cvt_32_N, cvt_64_N, cvt_N_N, B8_shlN, B8_shrN, B32_shlN, B32_shrN, B64_shlN, B64_shrN, nms_N, ren_N, cellsOf_N, isCell_N, calK_N, outOf_N, decide_not, Nat.reduceLT, Nat.reduceLeDiff, Nat.reduceEqDiff, Nat.reduceMul, Nat.reduceAdd, Nat.reduceDiv, Nat.reduceMod, Nat.lt_irrefl, decide_false, decide_true, nm_beq, Bool.not_false, Bool.not_true, op_chk, chkV_ptr, eqp_ptr, eqp_nil, nep_ptr, nep_nil, eqs_sl, eqs_nil, isCell_isl, op_len, lenV_some, lenS_sl, lenS_isl, lenS_nil, lenOf_sl, lenOf_isl, lenOf_nil, lenOf_str, nms_nil, ren_nil, cellsOf_nil, isCell_nil, cellsOf_sl, isCell_sl, cellsOf_ptr, isCell_ptr, nms_nilP, ren_nilP, cellsOf_nilP, front_sl0, front_nil, op_append, appK_some, appF_some, appX_none, appX_nil, appX_nil0, appN_bytes, op_copy, optNat_none, optNat_some, op_slcS, slcV_none, slcV_cap, slcV_isl, slcV_nil, getD_some, op_arrp, arrpV_sl, arrpV_isl, op_iaS, iaSV_sl, iaSV_isl, op_slcAV, slcAV_ptr, slcAV_ipt, op_mkslice, op_mkrow, rowK_some, op_cvs, cvsV_sl, cvsK_some, callL_some, resK_sc, lend_nil, lend_cons, lendC_some, snap_zero, snap_isl, snap_v, snap_nil, toCallee_eq, idx_cons, toCaller_0, toCaller_1, canonMap_0, canonMap_ne, updN_nil, updN_cons, modN_nil, modN_cons, List.isEmpty_nil, List.isEmpty_cons, List.filterMap_nil, List.any_nil, List.any_cons, List.zipWith_cons_cons, List.zipWith_nil_left, Option.map_some, Option.map_none, bs_length, bs_isCell, bs_nms, bs_ren, ibs_nms, ibs_ren, Nat.sub_zero, Nat.mul_one, inHeap_at, inHeap_none, range_one, range_two, range_three, List.getElem?_cons_zero, List.getElem?_cons_succ, List.filterMap_cons, List.range_zero, ren_ptrF, ren_slF, ptrO_some, slO_some, resVal_none, nms_tup0, ren_tup0, stepK_nm, reachK_gone, stepK_nm2, stepK_n2m2, stepK_m2, L15, hnew, hw', hsum']
    rfl
  · obtain ⟨l', hw, ht1, ht2⟩ := writeA (k + 200) ini 0 b b rfl h0 (by omega) (by omega)
    rw [show k + 200 + b.length / 64 + 100 = K by omega] at hw
    simp only [Nat.zero_add] at hw
    obtain ⟨left, hleft⟩ : ∃ left, left = b.length - 64 * (b.length / 64) := ⟨_, rfl⟩
    rw [← hleft] at hw ht1 ht2
    have hw' := write_callA K 7 (upd (upd (inHeap []) (2, 0) (some (aB 32 fun _ => 0#8))) (3, 0) (some (HsC ini Nil 0))) (3, 0) ini _ 0 _ left (.isl (bs b) b.length) b l' rfl (lent_isl _ b _) hw
    have h2 := absN_two b (fb b.length 8) ini (b.length / 64) (by omega)
    have hdl : (b.drop (64 * (b.length / 64))).length = left := by rw [List.length_drop]; omega
    have hs : F C K 24 [.ptr (0, 0) 0] [HsC (absN b ini (b.length / 64)) (.sl (0, 1) 0 left none 1) b.length, bs l'] =
        some (.agg (aB 32 (dig b)), [some (HsC (absN b ini (b.length / 64)) (.sl (0, 1) 0 left none 1) b.length), some (bs l')], []) := by
      have hd : dig b = outB (absN (b.drop (64 * (b.length / 64)) ++ fb b.length 8) (absN b ini (b.length / 64)) ((b.drop (64 * (b.length / 64)) ++ fb b.length 8).length / 64)) := by
        rw [h2]; rfl
      have hlen : (b.drop (64 * (b.length / 64)) ++ fb b.length 8).length = left + (zs b.length + 1 + 8) := by rw [List.length_append, hdl, hfl]
      rw [hd]
      by_cases hz0 : left = 0
      · have he : b.drop (64 * (b.length / 64)) = [] := List.eq_nil_of_length_eq_zero (by omega)
        rw [he, List.nil_append] at hlen ⊢
        have := sumZ (K - (fb b.length 8).length / 64 - 101) (absN b ini (b.length / 64)) b.length l' (by omega)
        rw [show K - (fb b.length 8).length / 64 - 101 + (fb b.length 8).length / 64 + 101 = K by omega] at this
        rw [hz0]
        exact this
      · rw [← ht1] at hlen ⊢
        have := sumB (K - (l'.take left ++ fb b.length 8).length / 64 - 101) (absN b ini (b.length / 64)) b.length left l' (by omega) ht2 (by omega) (by omega)
        rw [show K - (l'.take left ++ fb b.length 8).length / 64 - 101 + (l'.take left ++ fb b.length 8).length / 64 + 101 = K by omega] at this
        exact this
    have hsum := fun bb H h h2 => ptr_callG K bb 24 l24 H (3, 0) (7, 0) (absN b ini (b.length / 64)) b.length left none l' h h2 (by decide) _ _ [] [] hs (aB_agg_ren _ _ _) rfl
    have hsum' := hsum 9 (upd (upd (upd (upd (inHeap []) (2, 0) (some (aB 32 fun _ => 0#8))) (3, 0) (some (HsC ini Nil 0))) (3, 0) (some (HsC (absN b ini (b.length / 64)) (.sl (7, 0) 0 left none 1) b.length))) (7, 0) (some (bs l'))) rfl rfl
    simp (disch := first | omega | decide | simp only [nms_B8, nms_B32, nms_B64, nms_I, nms_N, nms_Bo, nms_Un, nms_undef, nms_Hf, nms_ptr, nms_sl, aB_agg_nms, aW_agg_nms, aD_agg_nms, aO_agg_nms, List.flatMap_cons, List.flatMap_nil, List.nil_append, List.append_nil, ren_B8, ren_B32, ren_B64, ren_I, ren_N, ren_Bo, ren_Un, ren_undef, ren_Hf, aB_agg_ren, aW_agg_ren, aD_agg_ren, aO_agg_ren, List.map_cons, List.map_nil, ren7_I, ren7_N, ren7_Bo, ren7_B8, ren7_B32, ren7_B64, nms7_I, nms7_N, nms7_Bo, nms7_B8, nms7_B32, nms7_B64, nms_tup, ren_tup, implies_true, l17, l18, l19, l20, l36, l37, l38, l39, l43, l21, l22, l24, l25, l33, l35, l40, l42, l14, l27, bs_isCell, bs_nms, bs_ren, ibs_nms, ibs_ren, bs_length, aW_isCell, aB_isCell, isCell_sl, isCell_isl, isCell_nil, isCell_ptr, isCell_N]) only [funSem_eq, ev_skip, ev_ret, ev_exit, ev_seq, ev_block, ev_region, regK_some, evOpers_nil, evOpers_cons, evOpers_cons_g, stepK_pure, guardK_true, guardK_false, guardK_true', guardK_false', guardK_un, put_some, put_none, evX_t, evX_c, outR_some, pickV_true, pickV_false, op_mv, op_pick, op_bin, op_un, op_cvt, op_call, callV_fn, andThen_normal, andThen_ret, andThen_exit, inBlock_normal, inBlock_ret, inBlock_exit, ev_cond, condK_true, condK_false, retK_ret, retK_normal, resVal_tmp, nms_B8, nms_B32, nms_B64, nms_I, nms_Bo, nms_Un, ren_B8, ren_B32, ren_B64, ren_I, ren_Bo, ren_Un, envC_cal, envC_borrow, List.set_cons_zero, List.set_cons_succ, List.getD_cons_zero, List.getD_cons_succ, List.map_cons, List.map_nil, List.flatMap_cons, List.flatMap_nil, List.nil_append, List.cons_append, List.append_nil, repUn_succ, List.replicate_zero, List.length_cons, List.length_nil, B8_add, B8_mul, B8_sub, B8_and, B8_or, B8_xor, B8_andNot, B8_eql, B8_neq, B8_lss, B8_leq, B8_gtr, B8_geq, B8_not, B8_neg, B8_nat, B8_shl8, B8_shr8, B8_shl32, B8_shr32, B8_shl64, B8_shr64, cvt_8_8, cvt_8_32, cvt_8_64, B32_add, B32_mul, B32_sub, B32_and, B32_or, B32_xor, B32_andNot, B32_eql, B32_neq, B32_lss, B32_leq, B32_gtr, B32_geq, B32_not, B32_neg, B32_nat, B32_shl8, B32_shr8, B32_shl32, B32_shr32, B32_shl64, B32_shr64, cvt_32_8, cvt_32_32, cvt_32_64, B64_add, B64_mul, B64_sub, B64_and, B64_or, B64_xor, B64_andNot, B64_eql, B64_neq, B64_lss, B64_leq, B64_gtr, B64_geq, B64_not, B64_neg, B64_nat, B64_shl8, B64_shr8, B64_shl32, B64_shr32, B64_shl64, B64_shr64, cvt_64_8, cvt_64_32, cvt_64_64, cvt_I_8, cvt_I_32, cvt_I_64, cvt_8_I, cvt_32_I, cvt_I64, I_eql, I_neq, I_lss, I_leq, I_gtr, I_geq, Bo_eql, Bo_neq, Bo_not, callOp_C, calK_B8, calK_B32, calK_B64, calK_I, calK_Bo, outOf_B8, outOf_B32, outOf_B64, outOf_I, outOf_Bo, Option.map_some, BitVec.toNat_ofNat, ev_loop, Nat.reduceAdd, Nat.reduceSub, B8_rem, B32_rem, B64_rem, B8_quo, B32_quo, B64_quo, upd_at, stepK_new, stepK_mod, cellsOf_agg, cellsOf_B8, cellsOf_B32, cellsOf_B64, cellsOf_I, cellsOf_Bo, isCell_B8, isCell_B32, isCell_B64, isCell_I, isCell_Bo, cellAt_ptr, cellK_cons, ld1K_some, ldK_some, op_ld1, op_ld, op_new, op_box, boxK_some, op_st, stV_ptr, stK_cons, op_fa, faV_ptr, op_iaA, iaV_lt, fill_nil, fill_cons, fillK_some, aggR_some, op_build, agg_Hf, cellsOf_Hf, nms_Hf, ren_Hf, calK_Hf, outOf_Hf, Hf_eql, splice, List.take_succ_cons, List.take_zero, List.drop_succ_cons, List.drop_zero, List.drop_nil, List.take_nil, List.all_cons, List.all_nil, Bool.and_true, Bool.true_and, Prod.mk.injEq, Nat.reduceEqDiff, Nat.reduceLeDiff, Nat.reduceLT, and_true, true_and, and_false, false_and, and_self, if_true, if_false, reduceIte, Nat.zero_add, Nat.add_zero, Nat.le_refl, decide_true, decide_false, Nat.one_ne_zero, Nat.zero_ne_one, resVal_agg, resVal_one, aggV_some, oneV_some, resVal_tt, Nat.reducePow, Nat.reduceMod, op_ix1, ix1V_cons, ix1V_Hf, aB_rep, aB_length, aB_cell, aB_cells, aB_st, aB_st_all, aB_nms, aB_ren, aB_agg_nms, aB_agg_ren, aB_calK, aB_outOf, aB_ix1, aB_isCell, aB_eql, aW_rep, aW_length, aW_cell, aW_cells, aW_st, aW_st_all, aW_nms, aW_ren, aW_agg_nms, aW_agg_ren, aW_calK, aW_outOf, aW_ix1, aW_isCell, aW_eql, aD_rep, aD_length, aD_cell, aD_cells, aD_st, aD_st_all, aD_nms, aD_ren, aD_agg_nms, aD_agg_ren, aD_calK, aD_outOf, aD_ix1, aD_isCell, aD_eql, aO_rep, aO_length, aO_cell, aO_cells, aO_st, aO_st_all, aO_nms, aO_ren, aO_agg_nms, aO_agg_ren, aO_calK, aO_outOf, aO_ix1, aO_isCell, aO_eql, aI_rep, aI_length, aI_cell, aI_cells, aI_st, aI_st_all, aI_nms, aI_ren, aI_agg_nms, aI_agg_ren, aI_calK, aI_outOf, aI_ix1, aI_isCell, aI_eql, Nat.mul_one, Nat.add_zero, Nat.zero_add, B8_nat, B32_nat, B64_nat, N_add, N_sub, N_mul, N_quo, N_rem, N_shl, N_shr, N_eql, N_neq, N_lss, N_leq, N_gtr, N_geq, N_nat, cvt_N_8, cvt_N_32, cvt_N_64, cvt_8_N, cvt_32_N, cvt_64_N, cvt_N_N, B8_shlN, B8_shrN, B32_shlN, B32_shrN, B64_shlN, B64_shrN, nms_N, ren_N, cellsOf_N, isCell_N, calK_N, outOf_N, decide_not, Nat.reduceLT, Nat.reduceLeDiff, Nat.reduceEqDiff, Nat.reduceMul, Nat.reduceAdd, Nat.reduceDiv, Nat.reduceMod, Nat.lt_irrefl, decide_false, decide_true, nm_beq, Bool.not_false, Bool.not_true, op_chk, chkV_ptr, eqp_ptr, eqp_nil, nep_ptr, nep_nil, eqs_sl, eqs_nil, isCell_isl, op_len, lenV_some, lenS_sl, lenS_isl, lenS_nil, lenOf_sl, lenOf_isl, lenOf_nil, lenOf_str, nms_nil, ren_nil, cellsOf_nil, isCell_nil, cellsOf_sl, isCell_sl, cellsOf_ptr, isCell_ptr, nms_nilP, ren_nilP, cellsOf_nilP, front_sl0, front_nil, op_append, appK_some, appF_some, appX_none, appX_nil, appX_nil0, appN_bytes, op_copy, optNat_none, optNat_some, op_slcS, slcV_none, slcV_cap, slcV_isl, slcV_nil, getD_some, op_arrp, arrpV_sl, arrpV_isl, op_iaS, iaSV_sl, iaSV_isl, op_slcAV, slcAV_ptr, slcAV_ipt, op_mkslice, op_mkrow, rowK_some, op_cvs, cvsV_sl, cvsK_some, callL_some, resK_sc, lend_nil, lend_cons, lendC_some, snap_zero, snap_isl, snap_v, snap_nil, toCallee_eq, idx_cons, toCaller_0, toCaller_1, canonMap_0, canonMap_ne, updN_nil, updN_cons, modN_nil, modN_cons, List.isEmpty_nil, List.isEmpty_cons, List.filterMap_nil, List.any_nil, List.any_cons, List.zipWith_cons_cons, List.zipWith_nil_left, Option.map_some, Option.map_none, bs_length, bs_isCell, bs_nms, bs_ren, ibs_nms, ibs_ren, Nat.sub_zero, Nat.mul_one, inHeap_at, inHeap_none, range_one, range_two, range_three, List.getElem?_cons_zero, List.getElem?_cons_succ, List.filterMap_cons, List.range_zero, ren_ptrF, ren_slF, ptrO_some, slO_some, resVal_none, nms_tup0, ren_tup0, stepK_nm, reachK_gone, stepK_nm2, stepK_n2m2, stepK_m2, L15, hnew, hw', hsum']

end Sha
