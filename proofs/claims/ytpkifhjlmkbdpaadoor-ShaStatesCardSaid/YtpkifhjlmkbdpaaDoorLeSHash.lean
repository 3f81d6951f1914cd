/- A digest on its way, as the reckoner has it; New, Len, Clone, Fork, evaluated. -/
import Derived.Test.YtpkifhjlmkbdpaaDoorLeSRBlock
set_option linter.unusedVariables false
set_option linter.unusedSimpArgs false
namespace Sha
open Go Go.LE

def HsC (s : Nat → BitVec 32) (r : LV) (n : Nat) : Cells := aW 8 s ++ [r, N n]
theorem HsC_length (s : Nat → BitVec 32) (r : LV) (n : Nat) : (HsC s r n).length = 10 := by simp [HsC, aW_length]
theorem Hs_state (s : Nat → BitVec 32) (r : LV) (n : Nat) : cellK 0 8 (some (HsC s r n)) = some (aW 8 s) := by
  rw [cellK_some, if_pos (by rw [HsC_length]; decide), List.drop_zero, HsC, List.take_append_of_le_length (by rw [aW_length]; exact Nat.le_refl _), List.take_of_length_le (by rw [aW_length]; exact Nat.le_refl _)]
theorem Hs_rest (s : Nat → BitVec 32) (r : LV) (n : Nat) : cellK 8 1 (some (HsC s r n)) = some [r] := by
  rw [cellK_some, if_pos (by rw [HsC_length]; decide), HsC, List.drop_append_of_le_length (by rw [aW_length]; exact Nat.le_refl _), List.drop_of_length_le (by rw [aW_length]; exact Nat.le_refl _)]; rfl
theorem Hs_n (s : Nat → BitVec 32) (r : LV) (n : Nat) : cellK 9 1 (some (HsC s r n)) = some [N n] := by
  rw [cellK_some, if_pos (by rw [HsC_length]; decide), HsC, List.drop_append, List.drop_of_length_le (by rw [aW_length]; decide), aW_length]; rfl
theorem Hs_st0 (m : Nm) (s s' : Nat → BitVec 32) (r : LV) (n : Nat) : stK 8 0 m (some (aW 8 s')) (some (HsC s r n)) = some ⟨Un, [], [(m, some (HsC s' r n))]⟩ := by
  rw [stK_some, if_pos ⟨aW_length _ _, by rw [HsC_length]; decide, aW_isCell _ _⟩]
  simp only [splice, List.take_zero, List.nil_append, aW_length, Nat.zero_add, HsC]
  rw [List.drop_append_of_le_length (by rw [aW_length]; exact Nat.le_refl _), List.drop_of_length_le (by rw [aW_length]; exact Nat.le_refl _)]; rfl
theorem Hs_st8 (m : Nm) (s : Nat → BitVec 32) (r r' : LV) (n : Nat) (h : isCell r' = true) : stK 1 8 m (some [r']) (some (HsC s r n)) = some ⟨Un, [], [(m, some (HsC s r' n))]⟩ := by
  rw [stK_some, if_pos ⟨rfl, by rw [HsC_length]; decide, by simp [h]⟩]
  simp only [splice, HsC]
  rw [List.take_append_of_le_length (by rw [aW_length]; exact Nat.le_refl _), List.take_of_length_le (by rw [aW_length]; exact Nat.le_refl _), List.drop_append, List.drop_of_length_le (by rw [aW_length]; simp), aW_length]
  simp
theorem Hs_st9 (m : Nm) (s : Nat → BitVec 32) (r : LV) (n n' : Nat) : stK 1 9 m (some [N n']) (some (HsC s r n)) = some ⟨Un, [], [(m, some (HsC s r n'))]⟩ := by
  rw [stK_some, if_pos ⟨rfl, by rw [HsC_length]; decide, rfl⟩]
  simp only [splice, HsC]
  rw [List.take_append, List.take_of_length_le (by rw [aW_length]; decide), aW_length, List.drop_append, List.drop_of_length_le (by rw [aW_length]; simp), aW_length]
  simp
theorem HsC_nms (s : Nat → BitVec 32) (r : LV) (n : Nat) : (HsC s r n).flatMap (nms D) = nms D r := by
  simp only [HsC, List.flatMap_append, aW_nms, List.flatMap_cons, List.flatMap_nil, nms_N, List.nil_append, List.append_nil]
theorem HsC_ren (π : Nm → Option Nm) (s : Nat → BitVec 32) (r : LV) (n : Nat) : (HsC s r n).map (ren D π) = HsC s (ren D π r) n := by
  simp only [HsC, List.map_append, aW_ren, List.map_cons, List.map_nil, ren_N]
theorem HsC_isCell (s : Nat → BitVec 32) (r : LV) (n : Nat) (h : isCell r = true) : (HsC s r n).all isCell = true := by
  simp only [HsC, List.all_append, aW_isCell, List.all_cons, List.all_nil, h, isCell_N, Bool.and_self]

theorem zero10 : [B32 0#32, B32 0#32, B32 0#32, B32 0#32, B32 0#32, B32 0#32, B32 0#32, B32 0#32, Nil, N 0] = HsC (fun _ => 0#32) Nil 0 := rfl
theorem splice_s (s s' : Nat → BitVec 32) (r : LV) (n : Nat) : splice (HsC s r n) 0 (aW 8 s') = HsC s' r n := by
  simp only [splice, List.take_zero, List.nil_append, aW_length, Nat.zero_add, HsC]
  rw [List.drop_append_of_le_length (by rw [aW_length]; exact Nat.le_refl _), List.drop_of_length_le (by rw [aW_length]; exact Nat.le_refl _)]; rfl
theorem fill_new (s : Nat → BitVec 32) : fill (HsC (fun _ => 0#32) Nil 0) [(0, 8, .agg (aW 8 s))] = some (HsC s Nil 0) := by
  simp only [fill, cellsOf_agg, aW_length, HsC_length, splice_s]
  rw [if_pos (by decide)]
theorem fill_fork (s : Nat → BitVec 32) (r : LV) (n : Nat) (h : cellsOf r = some [r]) : fill (HsC (fun _ => 0#32) Nil 0) [(0, 8, .agg (aW 8 s)), (8, 1, r), (9, 1, N n)] = some (HsC s r n) := by
  have e1 : splice (HsC s Nil 0) 8 [r] = HsC s r 0 := by
    simp only [splice, HsC]
    rw [List.take_append_of_le_length (by rw [aW_length]; exact Nat.le_refl _), List.take_of_length_le (by rw [aW_length]; exact Nat.le_refl _), List.drop_append, List.drop_of_length_le (by rw [aW_length]; simp), aW_length]
    simp
  have e2 : splice (HsC s r 0) 9 [N n] = HsC s r n := by
    simp only [splice, HsC]
    rw [List.take_append, List.take_of_length_le (by rw [aW_length]; decide), aW_length, List.drop_append, List.drop_of_length_le (by rw [aW_length]; simp), aW_length]
    simp
  simp only [fill, cellsOf_agg, aW_length, HsC_length, splice_s, h, cellsOf_N, List.length_cons, List.length_nil, e1, e2]
  rw [if_pos (by decide), if_pos (by decide), if_pos (by decide)]

/-! ### the first state -/

def ini : Nat → BitVec 32 := vec8 0x6a09e667#32 0xbb67ae85#32 0x3c6ef372#32 0xa54ff53a#32 0x510e527f#32 0x9b05688c#32 0x1f83d9ab#32 0x5be0cd19#32
theorem firstA (k : Nat) : F C (k + 1) 19 [] [] = some (.agg (aW 8 ini), [], []) := by kernel_rfl
theorem firstB (k : Nat) : F C (k + 1) 20 [] [] = some (.agg (aW 8 ini), [], []) := by kernel_rfl

theorem new_F (k : Nat) : F C (k + 2) 21 [] [] = some (.ptr (1, 0) 0, [], [HsC ini Nil 0]) := by
  rw [F_succ f21]
  simp (disch := first | omega | decide | simp only [nms_B8, nms_B32, nms_B64, nms_I, nms_N, nms_Bo, nms_Un, nms_undef, nms_Hf, nms_ptr, nms_sl, aB_agg_nms, aW_agg_nms, aD_agg_nms, aO_agg_nms, List.flatMap_cons, List.flatMap_nil, List.nil_append, List.append_nil, ren_B8, ren_B32, ren_B64, ren_I, ren_N, ren_Bo, ren_Un, ren_undef, ren_Hf, aB_agg_ren, aW_agg_ren, aD_agg_ren, aO_agg_ren, List.map_cons, List.map_nil, ren7_I, ren7_N, ren7_Bo, ren7_B8, ren7_B32, ren7_B64, nms7_I, nms7_N, nms7_Bo, nms7_B8, nms7_B32, nms7_B64, nms_tup, ren_tup, implies_true, l17, l18, l19, l20, l36, l37, l38, l39, l43, l21, l22, l24, l25, l33, l35, l40, l42, l14, l27, bs_isCell, bs_nms, bs_ren, ibs_nms, ibs_ren, bs_length, aW_isCell, aB_isCell]) only [funSem_eq, ev_ret, ev_seq, ev_region, regK_some, evOpers_nil, evOpers_cons, stepK_pure, put_some, evX_t, evX_c, op_mv, op_call, callV_fn, andThen_normal, retK_ret, resVal_tmp, List.set_cons_zero, List.set_cons_succ, List.getD_cons_zero, List.getD_cons_succ, List.map_cons, List.map_nil, List.nil_append, repUn_succ, List.replicate_zero, List.length_cons, List.length_nil, callOp_C, Option.map_some, Nat.reduceAdd, stepK_new, cellsOf_agg, op_box, boxK_some, aggR_some, op_build, Nat.zero_add, Nat.add_zero, aW_calK, Nat.add_zero, Nat.zero_add, Nat.reduceAdd, Option.map_some, Nat.sub_zero, L21, firstA, zero10, fill_new]
  rw [outOf_mem 0 _ _ [(5, 0)] (by simp only [canonNames, FUEL, reach_cons, reachK_some, reach_nil, nms_ptr, List.flatMap_cons, List.flatMap_nil, List.nil_append, List.append_nil, List.range_zero, List.map_nil, List.contains_nil, Bool.false_eq_true, Nat.reduceEqDiff, if_true, if_false, List.filter_cons, List.filter_nil, bne_iff_ne, ne_eq, not_false_eq_true, upd_at, inHeap_none, nms_nil, HsC_nms, nms_nil])]
  simp only [upd_at, Prod.mk.injEq, Nat.reduceEqDiff, false_and, if_true, if_false, ren_nil, List.filterMap_nil, inHeap_at, List.filterMap_cons, List.range_zero, ren_ptrF, List.filterMap_cons, List.range_zero, List.map_nil, List.map_cons, HsC_ren]
  rfl

theorem len_F (k : Nat) (s : Nat → BitVec 32) (n : Nat) : F C (k + 1) 25 [.ptr (0, 0) 0] [HsC s Nil n] = some (N n, [some (HsC s Nil n)], []) := by
  rw [F_succ f25]
  simp (disch := first | omega | decide | simp only [nms_B8, nms_B32, nms_B64, nms_I, nms_N, nms_Bo, nms_Un, nms_undef, nms_Hf, nms_ptr, nms_sl, aB_agg_nms, aW_agg_nms, aD_agg_nms, aO_agg_nms, List.flatMap_cons, List.flatMap_nil, List.nil_append, List.append_nil, ren_B8, ren_B32, ren_B64, ren_I, ren_N, ren_Bo, ren_Un, ren_undef, ren_Hf, aB_agg_ren, aW_agg_ren, aD_agg_ren, aO_agg_ren, List.map_cons, List.map_nil, ren7_I, ren7_N, ren7_Bo, ren7_B8, ren7_B32, ren7_B64, nms7_I, nms7_N, nms7_Bo, nms7_B8, nms7_B32, nms7_B64, nms_tup, ren_tup, implies_true, l17, l18, l19, l20, l36, l37, l38, l39, l43, l21, l22, l24, l25, l33, l35, l40, l42, l14, l27, bs_isCell, bs_nms, bs_ren, ibs_nms, ibs_ren, bs_length, aW_isCell, aB_isCell]) only [funSem_eq, ev_skip, ev_ret, ev_seq, ev_region, regK_some, evOpers_nil, evOpers_cons, stepK_pure, put_some, evX_t, evX_c, outR_some, op_mv, op_bin, andThen_normal, ev_cond, condK_false, retK_ret, resVal_tmp, List.set_cons_zero, List.set_cons_succ, List.getD_cons_zero, List.getD_cons_succ, List.nil_append, List.cons_append, repUn_succ, List.replicate_zero, List.length_cons, List.length_nil, Option.map_some, Nat.reduceAdd, Nat.reduceSub, cellAt_ptr, ld1K_some, op_ld1, op_fa, faV_ptr, Nat.zero_add, Nat.add_zero, Nat.add_zero, Nat.zero_add, Nat.reduceAdd, op_chk, chkV_ptr, eqp_ptr, Option.map_some, inHeap_at, List.getElem?_cons_zero, L25, Hs_n]
  rw [outOf_mem 1 _ _ [] (by simp only [canonNames, FUEL, reach_cons, reachK_some, reach_nil, List.flatMap_cons, List.flatMap_nil, List.nil_append, List.append_nil, List.map_nil, List.map_cons, List.contains_nil, Bool.false_eq_true, if_false, List.filter_cons, List.filter_nil, bne_iff_ne, ne_eq, not_true_eq_false, inHeap_at, range_one, List.getElem?_cons_zero, nms_N, nms_nil, HsC_nms, nms_nil])]
  simp only [List.map_cons, List.map_nil, Option.map_some, ren_nil, List.filterMap_nil, Option.map_some, inHeap_at, range_one, List.getElem?_cons_zero, HsC_ren, ren_N]
theorem len_F' (k : Nat) (s : Nat → BitVec 32) (n len : Nat) (l : List (BitVec 8)) : F C (k + 1) 25 [.ptr (0, 0) 0] [HsC s (.sl (0, 1) 0 len none 1) n, bs l] = some (N n, [some (HsC s (.sl (0, 1) 0 len none 1) n), some (bs l)], []) := by
  rw [F_succ f25]
  simp (disch := first | omega | decide | simp only [nms_B8, nms_B32, nms_B64, nms_I, nms_N, nms_Bo, nms_Un, nms_undef, nms_Hf, nms_ptr, nms_sl, aB_agg_nms, aW_agg_nms, aD_agg_nms, aO_agg_nms, List.flatMap_cons, List.flatMap_nil, List.nil_append, List.append_nil, ren_B8, ren_B32, ren_B64, ren_I, ren_N, ren_Bo, ren_Un, ren_undef, ren_Hf, aB_agg_ren, aW_agg_ren, aD_agg_ren, aO_agg_ren, List.map_cons, List.map_nil, ren7_I, ren7_N, ren7_Bo, ren7_B8, ren7_B32, ren7_B64, nms7_I, nms7_N, nms7_Bo, nms7_B8, nms7_B32, nms7_B64, nms_tup, ren_tup, implies_true, l17, l18, l19, l20, l36, l37, l38, l39, l43, l21, l22, l24, l25, l33, l35, l40, l42, l14, l27, bs_isCell, bs_nms, bs_ren, ibs_nms, ibs_ren, bs_length, aW_isCell, aB_isCell]) only [funSem_eq, ev_skip, ev_ret, ev_seq, ev_region, regK_some, evOpers_nil, evOpers_cons, stepK_pure, put_some, evX_t, evX_c, outR_some, op_mv, op_bin, andThen_normal, ev_cond, condK_false, retK_ret, resVal_tmp, List.set_cons_zero, List.set_cons_succ, List.getD_cons_zero, List.getD_cons_succ, List.nil_append, List.cons_append, repUn_succ, List.replicate_zero, List.length_cons, List.length_nil, Option.map_some, Nat.reduceAdd, Nat.reduceSub, cellAt_ptr, ld1K_some, op_ld1, op_fa, faV_ptr, Nat.zero_add, Nat.add_zero, Nat.add_zero, Nat.zero_add, Nat.reduceAdd, op_chk, chkV_ptr, eqp_ptr, Option.map_some, inHeap_at, List.getElem?_cons_zero, L25, Hs_n]
  rw [outOf_mem 2 _ _ [] (by simp only [canonNames, FUEL, reach_cons, reachK_some, reach_nil, nms_sl, List.flatMap_cons, List.flatMap_nil, List.nil_append, List.cons_append, List.append_nil, List.map_nil, List.map_cons, List.contains_nil, List.contains_cons, Prod.mk.injEq, beq_iff_eq, Bool.or_eq_true, Bool.false_eq_true, and_false, or_false, or_true, if_true, if_false, Nat.one_ne_zero, List.filter_cons, List.filter_nil, bne_iff_ne, ne_eq, not_true_eq_false, inHeap_at, range_two, List.getElem?_cons_zero, List.getElem?_cons_succ, nms_N, HsC_nms, bs_nms])]
  simp only [List.map_cons, List.map_nil, Option.map_some, canonMap_0, List.filterMap_nil, Option.map_some, bs_ren, inHeap_at, range_two, List.getElem?_cons_zero, List.getElem?_cons_succ, ren_slF, slO_some, HsC_ren, ren_N]

/-- a copy of what lies behind the last piece -/
theorem clone_nil (k : Nat) : F C (k + 1) 40 [Nil] [] = some (Nil, [], []) := by
  rw [F_succ f40]
  simp (disch := first | omega | decide | simp only [nms_B8, nms_B32, nms_B64, nms_I, nms_N, nms_Bo, nms_Un, nms_undef, nms_Hf, nms_ptr, nms_sl, aB_agg_nms, aW_agg_nms, aD_agg_nms, aO_agg_nms, List.flatMap_cons, List.flatMap_nil, List.nil_append, List.append_nil, ren_B8, ren_B32, ren_B64, ren_I, ren_N, ren_Bo, ren_Un, ren_undef, ren_Hf, aB_agg_ren, aW_agg_ren, aD_agg_ren, aO_agg_ren, List.map_cons, List.map_nil, ren7_I, ren7_N, ren7_Bo, ren7_B8, ren7_B32, ren7_B64, nms7_I, nms7_N, nms7_Bo, nms7_B8, nms7_B32, nms7_B64, nms_tup, ren_tup, implies_true, l17, l18, l19, l20, l36, l37, l38, l39, l43, l21, l22, l24, l25, l33, l35, l40, l42, l14, l27, bs_isCell, bs_nms, bs_ren, ibs_nms, ibs_ren, bs_length, aW_isCell, aB_isCell]) only [funSem_eq, ev_ret, ev_seq, ev_region, regK_some, evOpers_nil, evOpers_cons, stepK_pure, put_some, evX_t, evX_c, outR_some, op_mv, op_bin, andThen_normal, andThen_ret, ev_cond, condK_true, retK_ret, resVal_tmp, List.set_cons_zero, List.set_cons_succ, List.getD_cons_zero, List.getD_cons_succ, List.nil_append, List.cons_append, repUn_succ, List.replicate_zero, List.length_cons, List.length_nil, Option.map_some, Nat.reduceAdd, Nat.reduceSub, Nat.zero_add, Nat.add_zero, Nat.add_zero, Nat.zero_add, Nat.reduceAdd, eqs_nil, Option.map_some, L40]
  rw [outOf_mem 0 _ _ [] (by simp only [canonNames, FUEL, reach_nil, List.flatMap_cons, List.flatMap_nil, List.append_nil, List.range_zero, List.map_nil, List.filter_nil, nms_nil, nms_nil])]
  simp only [List.map_nil, ren_nil, List.filterMap_nil, inHeap_at, List.range_zero]
theorem clone_0 (k : Nat) (l : List (BitVec 8)) : F C (k + 1) 40 [.sl (0, 0) 0 0 none 1] [bs l] = some (.sl (1, 0) 0 0 (some 0) 1, [some (bs l)], [bs []]) := by
  rw [F_succ f40]
  have ha : ∀ H : Heap, H (5, 0) = some [] → appX 7 1 1 0 H [] [] (.sl (5, 0) 0 0 (some 0) 1) = some ⟨.sl (5, 0) 0 0 (some 0) 1, [], [((5, 0), some [])]⟩ := by
    intro H h
    simp only [appX, h, splice]
    rfl
  have hb := ha (upd (inHeap [bs l]) (5, 0) (some [])) rfl
  simp (disch := first | omega | decide | simp only [nms_B8, nms_B32, nms_B64, nms_I, nms_N, nms_Bo, nms_Un, nms_undef, nms_Hf, nms_ptr, nms_sl, aB_agg_nms, aW_agg_nms, aD_agg_nms, aO_agg_nms, List.flatMap_cons, List.flatMap_nil, List.nil_append, List.append_nil, ren_B8, ren_B32, ren_B64, ren_I, ren_N, ren_Bo, ren_Un, ren_undef, ren_Hf, aB_agg_ren, aW_agg_ren, aD_agg_ren, aO_agg_ren, List.map_cons, List.map_nil, ren7_I, ren7_N, ren7_Bo, ren7_B8, ren7_B32, ren7_B64, nms7_I, nms7_N, nms7_Bo, nms7_B8, nms7_B32, nms7_B64, nms_tup, ren_tup, implies_true, l17, l18, l19, l20, l36, l37, l38, l39, l43, l21, l22, l24, l25, l33, l35, l40, l42, l14, l27, bs_isCell, bs_nms, bs_ren, ibs_nms, ibs_ren, bs_length, aW_isCell, aB_isCell]) only [funSem_eq, ev_skip, ev_ret, ev_seq, ev_region, regK_some, evOpers_nil, evOpers_cons, stepK_pure, put_some, evX_t, evX_c, outR_some, op_mv, op_bin, andThen_normal, ev_cond, condK_false, retK_ret, resVal_tmp, List.set_cons_zero, List.set_cons_succ, List.getD_cons_zero, List.getD_cons_succ, List.map_nil, List.nil_append, List.cons_append, repUn_succ, List.replicate_zero, List.length_cons, List.length_nil, Option.map_some, Nat.reduceAdd, Nat.reduceSub, stepK_new, stepK_mod, fill_nil, Nat.zero_add, Nat.add_zero, Nat.add_zero, Nat.zero_add, Nat.reduceAdd, eqs_sl, lenOf_sl, front_sl0, op_append, appK_some, appF_some, op_mkrow, rowK_some, Option.map_some, L40, hb]
  rw [outOf_mem 1 _ _ [(5, 0)] (by simp only [canonNames, FUEL, reach_cons, reachK_some, reach_nil, nms_sl, List.flatMap_cons, List.flatMap_nil, List.nil_append, List.cons_append, List.append_nil, List.map_nil, List.map_cons, List.contains_nil, List.contains_cons, Prod.mk.injEq, beq_iff_eq, Bool.or_eq_true, Bool.false_eq_true, Nat.reduceEqDiff, and_true, or_false, if_true, if_false, List.filter_cons, List.filter_nil, bne_iff_ne, ne_eq, not_false_eq_true, not_true_eq_false, upd_at, inHeap_at, inHeap_none, range_one, List.getElem?_cons_zero, bs_nms])]
  simp only [List.map_cons, List.map_nil, Option.map_some, upd_at, Prod.mk.injEq, Nat.reduceEqDiff, false_and, if_true, if_false, List.filterMap_nil, Option.map_some, bs_ren, inHeap_at, range_one, List.getElem?_cons_zero, List.filterMap_cons, ren_slF]
  rfl
theorem clone_F (k : Nat) (len : Nat) (l : List (BitVec 8)) (hl : len ≤ l.length) (h0 : 0 < len) (hb : len ≤ 17592186044416) :
    F C (k + 1) 40 [.sl (0, 0) 0 len none 1] [bs l] = some (.sl (1, 0) 0 len none 1, [some (bs l)], [bs (l.take len)]) := by
  rw [F_succ f40]
  have hf : front (upd (inHeap [bs l]) (5, 0) (some [])) 1 len (.sl (0, 0) 0 len none 1) = some (bs (l.take len)) := by
    rw [front_bytes (0, 0) 0 len none l (by simp only [upd_at, Prod.mk.injEq, Nat.reduceEqDiff, and_true, if_false, inHeap_at, List.getElem?_cons_zero]) (by omega), List.drop_zero]
  have ha := appX_full (b := 7) (H := upd (inHeap [bs l]) (5, 0) (some [])) len (5, 0) 0 0 0 [] (l.take len) (by simp only [upd_at, if_true]; rfl) (by simp) (by omega) (by omega)
  simp only [List.drop_nil, List.take_nil, List.nil_append, Nat.zero_add] at ha
  simp (disch := first | omega | decide | simp only [nms_B8, nms_B32, nms_B64, nms_I, nms_N, nms_Bo, nms_Un, nms_undef, nms_Hf, nms_ptr, nms_sl, aB_agg_nms, aW_agg_nms, aD_agg_nms, aO_agg_nms, List.flatMap_cons, List.flatMap_nil, List.nil_append, List.append_nil, ren_B8, ren_B32, ren_B64, ren_I, ren_N, ren_Bo, ren_Un, ren_undef, ren_Hf, aB_agg_ren, aW_agg_ren, aD_agg_ren, aO_agg_ren, List.map_cons, List.map_nil, ren7_I, ren7_N, ren7_Bo, ren7_B8, ren7_B32, ren7_B64, nms7_I, nms7_N, nms7_Bo, nms7_B8, nms7_B32, nms7_B64, nms_tup, ren_tup, implies_true, l17, l18, l19, l20, l36, l37, l38, l39, l43, l21, l22, l24, l25, l33, l35, l40, l42, l14, l27, bs_isCell, bs_nms, bs_ren, ibs_nms, ibs_ren, bs_length, aW_isCell, aB_isCell]) only [funSem_eq, ev_skip, ev_ret, ev_seq, ev_region, regK_some, evOpers_nil, evOpers_cons, stepK_pure, put_some, evX_t, evX_c, outR_some, op_mv, op_bin, andThen_normal, ev_cond, condK_false, retK_ret, resVal_tmp, List.set_cons_zero, List.set_cons_succ, List.getD_cons_zero, List.getD_cons_succ, List.map_nil, List.nil_append, List.cons_append, repUn_succ, List.replicate_zero, List.length_cons, List.length_nil, Option.map_some, Nat.reduceAdd, Nat.reduceSub, stepK_new, fill_nil, Nat.zero_add, Nat.add_zero, Nat.add_zero, Nat.zero_add, Nat.reduceAdd, eqs_sl, lenOf_sl, op_append, appK_some, appF_some, op_mkrow, rowK_some, Option.map_some, L40, hf, ha]
  rw [outOf_mem 1 _ _ [(7, 0)] (by simp only [canonNames, FUEL, reach_cons, reachK_some, reach_nil, nms_sl, List.flatMap_cons, List.flatMap_nil, List.nil_append, List.cons_append, List.append_nil, List.map_nil, List.map_cons, List.contains_nil, List.contains_cons, Prod.mk.injEq, beq_iff_eq, Bool.or_eq_true, Bool.false_eq_true, Nat.reduceEqDiff, and_true, or_false, if_true, if_false, List.filter_cons, List.filter_nil, bne_iff_ne, ne_eq, not_false_eq_true, not_true_eq_false, upd_at, inHeap_at, inHeap_none, range_one, List.getElem?_cons_zero, bs_nms])]
  simp only [List.map_cons, List.map_nil, Option.map_some, upd_at, Prod.mk.injEq, Nat.reduceEqDiff, and_true, false_and, if_true, if_false, List.filterMap_nil, Option.map_some, bs_ren, inHeap_at, range_one, List.getElem?_cons_zero, List.filterMap_cons, ren_slF]
  rfl

end Sha
