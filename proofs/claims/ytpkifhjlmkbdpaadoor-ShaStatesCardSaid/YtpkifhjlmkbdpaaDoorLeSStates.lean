/- ShaStates, evaluated. -/
import Derived.Test.YtpkifhjlmkbdpaaDoorLeSLaws
set_option linter.unusedVariables false
set_option linter.unusedSimpArgs false
namespace Sha
open Go Go.LE

def y4 (b : List (BitVec 8)) (i : Nat) (st : St) : Prop := ∃ (H : Heap), st = ⟨[.isl (bs b) b.length, .undef, .undef, .sl (1, 0) 0 (b.length + 1 + i) none 1, .undef, .undef, .undef, .undef, .undef, .undef, .undef, .undef, .undef, .undef, .undef, .undef, .undef, .undef, .undef, .undef, .undef, .undef, .undef, .undef, .undef, .undef, .undef, .undef, .undef, .undef, .undef, .undef, .undef, .undef, .undef, .undef, .undef, .undef, .undef, .undef, .undef, .undef, .undef, .undef, .undef, .undef, .undef, .undef, .undef, .undef, .undef, .undef, .undef, .undef, .undef, .undef, .undef, .undef, .undef, .undef, .undef, .undef, .undef, .undef, .undef, .undef, .undef, .undef, .undef, .undef, .undef, .undef, .undef, .undef, .undef, .undef, .undef, .undef, .undef, .undef, .undef, .undef, .undef, .undef, .undef], H, 2, 0⟩ ∧
  H (1, 0) = some (bs (zb b i))

set_option maxRecDepth 10000 in
theorem y4_round (K k0 : Nat) (b : List (BitVec 8)) (hb : b.length ≤ 17592186000000) (i : Nat) (hi : i < zs b.length) (st : St) (hI : y4 b i st) :
    ∃ st1, ev (envC C k0) K L8b4 st = some (.normal, st1) ∧ y4 b (i + 1) (canon L8k4 st1) := by
  obtain ⟨H, rfl, h1⟩ := hI
  have e1 : (b.length + 1 + i) % 64 ≠ 56 := by unfold zs at hi; omega
  have hz := zs_lt b.length
  have hl := zb_length b i
  have hfr : front (upd H (7, 0) (some (bs [0#8]))) 1 1 (.sl (7, 0) 0 1 (some 1) 1) = some (bs [0#8]) := front_bytes (7, 0) 0 1 (some 1) [0#8] (by simp only [upd_at, if_true]) (by simp)
  have ha := app_one 8 (upd H (7, 0) (some (bs [0#8]))) (1, 0) 0#8 (zb b i) (b.length + 1 + i) (by omega) (by simp only [upd_at, Prod.mk.injEq, Nat.reduceEqDiff, and_true, if_false, h1]) (by omega)
  rw [← zb_succ] at ha
  apply Exists.intro
  apply And.intro
  · simp (disch := first | omega | decide | simp only [nms_B8, nms_B32, nms_B64, nms_I, nms_N, nms_Bo, nms_Un, nms_undef, nms_Hf, nms_ptr, nms_sl, aB_agg_nms, aW_agg_nms, aD_agg_nms, aO_agg_nms, List.flatMap_cons, List.flatMap_nil, List.nil_append, List.append_nil, ren_B8, ren_B32, ren_B64, ren_I, ren_N, ren_Bo, ren_Un, ren_undef, ren_Hf, aB_agg_ren, aW_agg_ren, aD_agg_ren, aO_agg_ren, List.map_cons, List.map_nil, ren7_I, ren7_N, ren7_Bo, ren7_B8, ren7_B32, ren7_B64, nms7_I, nms7_N, nms7_Bo, nms7_B8, nms7_B32, nms7_B64, nms_tup, ren_tup, implies_true, l17, l18, l19, l20, l36, l37, l38, l39, l43, l21, l22, l24, l25, l33, l35, l40, l42, l14, l27, bs_isCell, bs_nms, bs_ren, ibs_nms, ibs_ren, bs_length, aW_isCell, aB_isCell, isCell_sl, isCell_isl, isCell_nil, isCell_ptr, isCell_N]) only [ev_skip, ev_seq, ev_block, ev_region, regK_some, evOpers_nil, evOpers_cons, stepK_pure, put_some, evX_t, evX_c, outR_some, op_mv, op_bin, andThen_normal, inBlock_normal, ev_cond, condK_true, List.set_cons_zero, List.set_cons_succ, List.getD_cons_zero, List.getD_cons_succ, List.map_cons, List.map_nil, List.length_cons, List.length_nil, Nat.reduceAdd, stepK_new, Nat.zero_add, Nat.add_zero, decide_false, Nat.add_zero, Nat.zero_add, N_rem, N_neq, decide_not, Nat.reduceAdd, decide_false, Bool.not_false, op_len, lenV_some, lenS_sl, lenOf_sl, op_append, appK_some, appF_some, op_mkrow, rowK_some, stepK_nm, L8b4, e1, fill1, hfr, ha]
    rfl
  · refine canon_inv [(8, 0)] rfl (by simp only [canonNames, FUEL, reach_cons, reachK_some, reach_nil, nms_sl, nms_undef, List.flatMap_cons, List.flatMap_nil, List.nil_append, List.append_nil, List.range_zero, List.map_nil, List.contains_nil, Prod.mk.injEq, Bool.false_eq_true, Nat.reduceEqDiff, and_true, if_true, if_false, List.filter_cons, List.filter_nil, bne_iff_ne, ne_eq, not_false_eq_true, upd_at, mask_nil, mask_true, mask_false, L8k4, ibs_nms, bs_nms]) ?_ ⟨_, rfl, ?_⟩
    · simp only [L8k4, List.map_cons, List.map_nil, ibs_ren, ren_slF, mask_true, mask_false, mask_nil, ren_undef]
      rfl
    · exact cN_same (8, 0) rfl (by simp only [upd_at, Prod.mk.injEq, Nat.reduceEqDiff, and_true, if_true, if_false]) (bs_ren _ _)

def y3 (b : List (BitVec 8)) (i : Nat) (st : St) : Prop := ∃ (H : Heap), st = ⟨[.isl (bs b) b.length, .undef, .undef, .sl (1, 0) 0 (b.length + (zs b.length + 1 + i)) none 1, I (7 - (i : Int)), .undef, .undef, .undef, .undef, .undef, .undef, .undef, .undef, .undef, .undef, .undef, .undef, .undef, .undef, .undef, .undef, .undef, .undef, .undef, .undef, .undef, .undef, .undef, .undef, .undef, .undef, .undef, .undef, .undef, .undef, .undef, .undef, .undef, .undef, .undef, .undef, .undef, .undef, .undef, .undef, .undef, .undef, .undef, .undef, .undef, .undef, .undef, .undef, .undef, .undef, .undef, .undef, .undef, .undef, .undef, .undef, .undef, .undef, .undef, .undef, .undef, .undef, .undef, .undef, .undef, .undef, .undef, .undef, .undef, .undef, .undef, .undef, .undef, .undef, .undef, .undef, .undef, .undef, .undef, .undef], H, 2, 0⟩ ∧
  H (1, 0) = some (bs (lb b i))

set_option maxRecDepth 10000 in
theorem y3_round (K k0 : Nat) (b : List (BitVec 8)) (hb : b.length ≤ 17592186000000) (i : Nat) (hi : i < 8) (st : St) (hI : y3 b i st) :
    ∃ st1, ev (envC C k0) K L8b3 st = some (.normal, st1) ∧ y3 b (i + 1) (canon L8k3 st1) := by
  obtain ⟨H, rfl, h1⟩ := hI
  have hz := zs_lt b.length
  have hl := lb_length b i
  have e7 : I (7 - (i : Int)) = N (7 - i) := by rw [N]; congr 1; omega
  have e8 : binV .sub .none (N (7 - i)) (N 1) = some (I (7 - ((i + 1 : Nat) : Int))) := by
    rw [N, N, I_sub _ _ _ (by omega)]; congr 2; omega
  have e9 : 8 * (7 - i) = 56 - 8 * i := by omega
  have e10 : 8 * (7 - i) < 9223372036854775808 := by omega
  have hlen : ((BitVec.ofNat 64 b.length * 8#64) >>> (56 - 8 * i)).setWidth 8 = lenb b.length i := rfl
  have hfr : front (upd H (13, 0) (some (bs [lenb b.length i]))) 1 1 (.sl (13, 0) 0 1 (some 1) 1) = some (bs [lenb b.length i]) := front_bytes (13, 0) 0 1 (some 1) [lenb b.length i] (by simp only [upd_at, if_true]) (by simp)
  have ha := app_one 14 (upd H (13, 0) (some (bs [lenb b.length i]))) (1, 0) (lenb b.length i) (lb b i) (b.length + (zs b.length + 1 + i)) (by omega) (by simp only [upd_at, Prod.mk.injEq, Nat.reduceEqDiff, and_true, if_false, h1]) (by omega)
  rw [← lb_succ] at ha
  rw [e7]
  apply Exists.intro
  apply And.intro
  · simp (disch := first | omega | decide | simp only [nms_B8, nms_B32, nms_B64, nms_I, nms_N, nms_Bo, nms_Un, nms_undef, nms_Hf, nms_ptr, nms_sl, aB_agg_nms, aW_agg_nms, aD_agg_nms, aO_agg_nms, List.flatMap_cons, List.flatMap_nil, List.nil_append, List.append_nil, ren_B8, ren_B32, ren_B64, ren_I, ren_N, ren_Bo, ren_Un, ren_undef, ren_Hf, aB_agg_ren, aW_agg_ren, aD_agg_ren, aO_agg_ren, List.map_cons, List.map_nil, ren7_I, ren7_N, ren7_Bo, ren7_B8, ren7_B32, ren7_B64, nms7_I, nms7_N, nms7_Bo, nms7_B8, nms7_B32, nms7_B64, nms_tup, ren_tup, implies_true, l17, l18, l19, l20, l36, l37, l38, l39, l43, l21, l22, l24, l25, l33, l35, l40, l42, l14, l27, bs_isCell, bs_nms, bs_ren, ibs_nms, ibs_ren, bs_length, aW_isCell, aB_isCell, isCell_sl, isCell_isl, isCell_nil, isCell_ptr, isCell_N]) only [ev_skip, ev_seq, ev_block, ev_region, regK_some, evOpers_nil, evOpers_cons, stepK_pure, put_some, evX_t, evX_c, outR_some, op_mv, op_bin, op_cvt, andThen_normal, inBlock_normal, ev_cond, condK_true, List.set_cons_zero, List.set_cons_succ, List.getD_cons_zero, List.getD_cons_succ, List.map_cons, List.map_nil, List.length_cons, List.length_nil, B64_mul, cvt_64_8, Nat.reduceAdd, stepK_new, Nat.zero_add, Nat.add_zero, decide_true, Nat.add_zero, Nat.zero_add, N_mul, N_geq, cvt_N_64, B64_shrN, Nat.reduceAdd, decide_true, op_len, lenV_some, lenS_isl, lenOf_sl, op_append, appK_some, appF_some, op_mkrow, rowK_some, stepK_nm, L8b3, e8, e9, hlen, fill1, hfr, ha, Nat.zero_le]
    rfl
  · refine canon_inv [(14, 0)] rfl (by simp only [canonNames, FUEL, reach_cons, reachK_some, reach_nil, nms_sl, nms_I, nms_undef, List.flatMap_cons, List.flatMap_nil, List.nil_append, List.append_nil, List.range_zero, List.map_nil, List.contains_nil, Prod.mk.injEq, Bool.false_eq_true, Nat.reduceEqDiff, and_true, if_true, if_false, List.filter_cons, List.filter_nil, bne_iff_ne, ne_eq, not_false_eq_true, upd_at, mask_nil, mask_true, mask_false, L8k3, ibs_nms, bs_nms]) ?_ ⟨_, rfl, ?_⟩
    · simp only [L8k3, ren_I, List.map_cons, List.map_nil, ibs_ren, ren_slF, mask_true, mask_false, mask_nil, ren_undef]
      rfl
    · exact cN_same (14, 0) rfl (by simp only [upd_at, Prod.mk.injEq, Nat.reduceEqDiff, and_true, if_true, if_false]) (bs_ren _ _)

def y1 (b M : List (BitVec 8)) (s : Nat → BitVec 32) (i j : Nat) (st : St) : Prop := ∃ (H : Heap), st = ⟨[.isl (bs b) b.length, .undef, .undef, .sl (1, 0) 0 M.length none 1, .undef, .ptr (1, 1) 0, N (64 * i), .ptr (1, 2) 0, N j, .undef, .undef, .undef, .undef, .undef, .undef, .undef, .undef, .undef, .undef, .undef, .undef, .undef, .undef, .undef, .undef, .undef, .undef, .undef, .undef, .undef, .undef, .undef, .undef, .undef, .undef, .undef, .undef, .undef, .undef, .undef, .undef, .undef, .undef, .undef, .undef, .undef, .undef, .undef, .undef, .undef, .undef, .undef, .undef, .undef, .undef, .undef, .undef, .undef, .undef, .undef, .undef, .undef, .undef, .undef, .undef, .undef, .undef, .undef, .undef, .undef, .undef, .undef, .undef, .undef, .undef, .undef, .undef, .undef, .undef, .undef, .undef, .undef, .undef, .undef, .undef], H, 2, 0⟩ ∧
  H (1, 0) = some (bs M) ∧ H (1, 1) = some (aW 8 s) ∧ H (1, 2) = some (aB 64 (cutP (chunk M i) j))

set_option maxRecDepth 10000 in
theorem y1_round (K k0 : Nat) (b M : List (BitVec 8)) (hM : M.length ≤ 17592186044416) (s : Nat → BitVec 32) (i : Nat) (hi : 64 * i + 64 ≤ M.length) (j : Nat) (hj : j < 64) (st : St) (hI : y1 b M s i j st) :
    ∃ st1, ev (envC C k0) K L8b1 st = some (.normal, st1) ∧ y1 b M s i (j + 1) (canon L8k1 st1) := by
  obtain ⟨H, rfl, h1, h2, h3⟩ := hI
  have hc : cellK (64 * i + j) 1 (some (bs M)) = some [B8 (chunk M i j)] := by
    rw [bs_cell _ _ (by omega)]; simp only [chunk, if_pos hj]
  have e1 : 64 * i + j < M.length := by omega
  apply Exists.intro
  apply And.intro
  · simp (disch := first | omega | decide | simp only [nms_B8, nms_B32, nms_B64, nms_I, nms_N, nms_Bo, nms_Un, nms_undef, nms_Hf, nms_ptr, nms_sl, aB_agg_nms, aW_agg_nms, aD_agg_nms, aO_agg_nms, List.flatMap_cons, List.flatMap_nil, List.nil_append, List.append_nil, ren_B8, ren_B32, ren_B64, ren_I, ren_N, ren_Bo, ren_Un, ren_undef, ren_Hf, aB_agg_ren, aW_agg_ren, aD_agg_ren, aO_agg_ren, List.map_cons, List.map_nil, ren7_I, ren7_N, ren7_Bo, ren7_B8, ren7_B32, ren7_B64, nms7_I, nms7_N, nms7_Bo, nms7_B8, nms7_B32, nms7_B64, nms_tup, ren_tup, implies_true, l17, l18, l19, l20, l36, l37, l38, l39, l43, l21, l22, l24, l25, l33, l35, l40, l42, l14, l27, bs_isCell, bs_nms, bs_ren, ibs_nms, ibs_ren, bs_length, aW_isCell, aB_isCell, isCell_sl, isCell_isl, isCell_nil, isCell_ptr, isCell_N]) only [ev_skip, ev_seq, ev_block, ev_region, regK_some, evOpers_nil, evOpers_cons, stepK_pure, put_some, put_none, evX_t, evX_c, outR_some, op_mv, op_bin, andThen_normal, inBlock_normal, ev_cond, condK_true, List.set_cons_zero, List.set_cons_succ, List.getD_cons_zero, List.getD_cons_succ, List.length_cons, List.length_nil, Nat.reduceAdd, stepK_mod, cellsOf_B8, cellAt_ptr, ld1K_some, op_ld1, op_st, stV_ptr, op_iaA, iaV_lt, Nat.zero_add, Nat.add_zero, decide_true, aB_st, Nat.mul_one, Nat.add_zero, Nat.zero_add, N_add, N_lss, N_nat, Nat.reduceAdd, decide_true, op_iaS, iaSV_sl, Nat.mul_one, L8b1, hj, h1, h3, hc]
    rfl
  · refine canon_inv [(1, 0), (1, 1), (1, 2)] rfl (by simp only [canonNames, FUEL, reach_cons, reachK_some, reach_nil, nms_ptr, nms_sl, nms_undef, List.flatMap_cons, List.flatMap_nil, List.nil_append, List.cons_append, List.append_nil, List.range_zero, List.map_nil, List.contains_nil, List.contains_cons, Prod.mk.injEq, beq_iff_eq, Bool.or_eq_true, Bool.false_eq_true, Nat.reduceEqDiff, and_false, or_false, if_true, if_false, Nat.one_ne_zero, List.filter_cons, List.filter_nil, bne_iff_ne, ne_eq, not_false_eq_true, upd_at, mask_nil, mask_true, mask_false, nms_N, L8k1, h1, h2, h3, ibs_nms, aB_nms, aW_nms, bs_nms]) ?_ ⟨_, rfl, ?_, ?_, ?_⟩
    · simp only [L8k1, List.map_cons, List.map_nil, ibs_ren, ren_ptrF, ren_slF, mask_true, mask_false, mask_nil, ren_undef]
      rfl
    · exact cN_same (1, 0) rfl (by simp only [upd_at, Prod.mk.injEq, Nat.reduceEqDiff, and_false, if_false, h1]) (bs_ren _ _)
    · exact cN_same (1, 1) rfl (by simp only [upd_at, Prod.mk.injEq, Nat.reduceEqDiff, and_false, if_false, h2]) (aW_ren _ _ _)
    · rw [cutP_succ]; exact cN_same (1, 2) rfl (by simp only [upd_at, if_true]) (aB_ren _ _ _)

def y2 (b M : List (BitVec 8)) (i : Nat) (st : St) : Prop := ∃ (H : Heap), st = ⟨[.isl (bs b) b.length, .undef, .undef, .sl (1, 0) 0 M.length none 1, .undef, .ptr (1, 1) 0, N (64 * i), .undef, .undef, .undef, .undef, .undef, .undef, .undef, .undef, .undef, .undef, .undef, .undef, .undef, .undef, .undef, .undef, .undef, .undef, .undef, .undef, .undef, .undef, .undef, .undef, .undef, .undef, .undef, .undef, .undef, .undef, .undef, .undef, .undef, .undef, .undef, .undef, .undef, .undef, .undef, .undef, .undef, .undef, .undef, .undef, .undef, .undef, .undef, .undef, .undef, .undef, .undef, .undef, .undef, .undef, .undef, .undef, .undef, .undef, .undef, .undef, .undef, .undef, .undef, .undef, .undef, .undef, .undef, .undef, .undef, .undef, .undef, .undef, .undef, .undef, .undef, .undef, .undef, .undef], H, 2, 0⟩ ∧
  H (1, 0) = some (bs M) ∧ H (1, 1) = some (aW 8 (absN M ini i))

set_option maxRecDepth 10000 in
theorem y2_round (K k0 : Nat) (hK : 64 < K) (hblk : ∀ s p, F C k0 17 [.agg (aW 8 s), .agg (aB 64 p)] [] = some (.agg (aW 8 (blk s p)), [], [])) (b M : List (BitVec 8)) (hM : M.length ≤ 17592186044416) (i : Nat) (hi : 64 * i + 64 ≤ M.length) (st : St) (hI : y2 b M i st) :
    ∃ st1, ev (envC C k0) K L8b2 st = some (.normal, st1) ∧ y2 b M (i + 1) (canon L8k2 st1) := by
  obtain ⟨H, rfl, h1, h2⟩ := hI
  have e1 : 64 * i < M.length := by omega
  obtain ⟨s, hs⟩ : ∃ s, s = absN M ini i := ⟨_, rfl⟩
  rw [← hs] at h2
  simp (disch := first | omega | decide | simp only [nms_B8, nms_B32, nms_B64, nms_I, nms_N, nms_Bo, nms_Un, nms_undef, nms_Hf, nms_ptr, nms_sl, aB_agg_nms, aW_agg_nms, aD_agg_nms, aO_agg_nms, List.flatMap_cons, List.flatMap_nil, List.nil_append, List.append_nil, ren_B8, ren_B32, ren_B64, ren_I, ren_N, ren_Bo, ren_Un, ren_undef, ren_Hf, aB_agg_ren, aW_agg_ren, aD_agg_ren, aO_agg_ren, List.map_cons, List.map_nil, ren7_I, ren7_N, ren7_Bo, ren7_B8, ren7_B32, ren7_B64, nms7_I, nms7_N, nms7_Bo, nms7_B8, nms7_B32, nms7_B64, nms_tup, ren_tup, implies_true, l17, l18, l19, l20, l36, l37, l38, l39, l43, l21, l22, l24, l25, l33, l35, l40, l42, l14, l27, bs_isCell, bs_nms, bs_ren, ibs_nms, ibs_ren, bs_length, aW_isCell, aB_isCell, isCell_sl, isCell_isl, isCell_nil, isCell_ptr, isCell_N]) only [ev_skip, ev_seq, ev_block, ev_region, regK_some, evOpers_nil, evOpers_cons, stepK_pure, put_some, evX_t, evX_c, outR_some, op_mv, op_bin, andThen_normal, ev_cond, condK_true, List.set_cons_zero, List.set_cons_succ, List.getD_cons_zero, List.getD_cons_succ, List.length_cons, List.length_nil, ev_loop, Nat.reduceAdd, stepK_new, op_new, Nat.zero_add, Nat.add_zero, decide_true, aB_rep, Nat.add_zero, Nat.zero_add, N_lss, Nat.reduceAdd, decide_true, op_len, lenV_some, lenS_sl, L8b2, e1]
  generalize hL : loopN L8k1 _ _ _ = r
  refine loop_use hL (y1 b M s i) 64 hK (fun j st hj hI => y1_round _ _ b M hM s i hi j hj st hI) ?_ ?_ ?_
  · refine canon_inv [(1, 0), (1, 1), (6, 0)] rfl (by simp only [canonNames, FUEL, reach_cons, reachK_some, reach_nil, nms_ptr, nms_sl, nms_undef, List.flatMap_cons, List.flatMap_nil, List.nil_append, List.cons_append, List.append_nil, List.range_zero, List.map_nil, List.contains_nil, List.contains_cons, Prod.mk.injEq, beq_iff_eq, Bool.or_eq_true, Bool.false_eq_true, Nat.reduceEqDiff, and_true, and_false, or_false, if_true, if_false, Nat.one_ne_zero, Nat.zero_ne_one, List.filter_cons, List.filter_nil, bne_iff_ne, ne_eq, not_false_eq_true, upd_at, mask_nil, mask_true, mask_false, nms_N, L8k1, h1, h2, ibs_nms, aB_nms, aW_nms, bs_nms]) ?_ ⟨_, rfl, ?_, ?_, ?_⟩
    · simp only [L8k1, List.map_cons, List.map_nil, ibs_ren, ren_ptrF, ren_slF, mask_true, mask_false, mask_nil, ren_undef]
      rfl
    · exact cN_same (1, 0) rfl (by simp only [upd_at, Prod.mk.injEq, Nat.reduceEqDiff, and_true, if_false, h1]) (bs_ren _ _)
    · exact cN_same (1, 1) rfl (by simp only [upd_at, Prod.mk.injEq, Nat.reduceEqDiff, and_self, if_false, Nat.one_ne_zero, h2]) (aW_ren _ _ _)
    · rw [show cutP (chunk M i) 0 = fun _ => 0#8 by funext x; simp [cutP]]
      exact cN_same (6, 0) rfl (by simp only [upd_at, if_true]) (aB_ren _ _ _)
  · rintro st ⟨H, rfl, h1, h2, h3⟩
    apply stop_exit
    simp (disch := first | omega | decide | simp only [nms_B8, nms_B32, nms_B64, nms_I, nms_N, nms_Bo, nms_Un, nms_undef, nms_Hf, nms_ptr, nms_sl, aB_agg_nms, aW_agg_nms, aD_agg_nms, aO_agg_nms, List.flatMap_cons, List.flatMap_nil, List.nil_append, List.append_nil, ren_B8, ren_B32, ren_B64, ren_I, ren_N, ren_Bo, ren_Un, ren_undef, ren_Hf, aB_agg_ren, aW_agg_ren, aD_agg_ren, aO_agg_ren, List.map_cons, List.map_nil, ren7_I, ren7_N, ren7_Bo, ren7_B8, ren7_B32, ren7_B64, nms7_I, nms7_N, nms7_Bo, nms7_B8, nms7_B32, nms7_B64, nms_tup, ren_tup, implies_true, l17, l18, l19, l20, l36, l37, l38, l39, l43, l21, l22, l24, l25, l33, l35, l40, l42, l14, l27, bs_isCell, bs_nms, bs_ren, ibs_nms, ibs_ren, bs_length, aW_isCell, aB_isCell, isCell_sl, isCell_isl, isCell_nil, isCell_ptr, isCell_N]) only [ev_exit, ev_seq, ev_region, regK_some, evOpers_nil, evOpers_cons, stepK_pure, put_some, evX_t, evX_c, outR_some, op_mv, op_bin, andThen_normal, andThen_exit, ev_cond, condK_false, List.set_cons_zero, List.set_cons_succ, List.getD_cons_zero, List.getD_cons_succ, List.length_cons, List.length_nil, Nat.reduceAdd, Nat.zero_add, Nat.add_zero, decide_false, N_lss, Nat.reduceAdd, Nat.lt_irrefl, decide_false, L8b1]
    rfl
  · clear h1 h2 hL
    rintro st ⟨H, rfl, h1, h2, h3⟩ rfl
    have e : aB 64 (cutP (chunk M i) 64) = aB 64 (chunk M i) := aB_ext 64 fun j hj => by simp only [cutP, if_pos hj]
    rw [e] at h3
    apply Exists.intro
    apply And.intro
    · simp (disch := first | omega | decide | simp only [nms_B8, nms_B32, nms_B64, nms_I, nms_N, nms_Bo, nms_Un, nms_undef, nms_Hf, nms_ptr, nms_sl, aB_agg_nms, aW_agg_nms, aD_agg_nms, aO_agg_nms, List.flatMap_cons, List.flatMap_nil, List.nil_append, List.append_nil, ren_B8, ren_B32, ren_B64, ren_I, ren_N, ren_Bo, ren_Un, ren_undef, ren_Hf, aB_agg_ren, aW_agg_ren, aD_agg_ren, aO_agg_ren, List.map_cons, List.map_nil, ren7_I, ren7_N, ren7_Bo, ren7_B8, ren7_B32, ren7_B64, nms7_I, nms7_N, nms7_Bo, nms7_B8, nms7_B32, nms7_B64, nms_tup, ren_tup, implies_true, l17, l18, l19, l20, l36, l37, l38, l39, l43, l21, l22, l24, l25, l33, l35, l40, l42, l14, l27, bs_isCell, bs_nms, bs_ren, ibs_nms, ibs_ren, bs_length, aW_isCell, aB_isCell, isCell_sl, isCell_isl, isCell_nil, isCell_ptr, isCell_N]) only [ev_exit, ev_seq, ev_region, regK_some, evOpers_nil, evOpers_cons, stepK_pure, put_some, put_none, evX_t, evX_c, outR_some, op_mv, op_bin, op_call, callV_fn, andThen_normal, andThen_exit, inBlock_normal, inBlock_exit, ev_cond, condK_false, List.set_cons_zero, List.set_cons_succ, List.getD_cons_zero, List.getD_cons_succ, List.map_cons, List.map_nil, List.length_cons, List.length_nil, callOp_C, Nat.reduceAdd, stepK_mod, cellsOf_agg, cellAt_ptr, ldK_some, op_ld, op_st, stV_ptr, if_true, Nat.zero_add, Nat.add_zero, decide_false, aB_cells, aW_cells, aW_st_all, aW_calK, Nat.add_zero, Nat.zero_add, N_add, N_lss, Nat.reduceAdd, Nat.lt_irrefl, decide_false, L8b1, h2, h3, hblk, aW_st_all]
      rfl
    · refine canon_inv [(1, 0), (1, 1)] rfl (by simp only [canonNames, FUEL, reach_cons, reachK_some, reach_nil, nms_ptr, nms_sl, nms_undef, List.flatMap_cons, List.flatMap_nil, List.nil_append, List.cons_append, List.append_nil, List.range_zero, List.map_nil, List.contains_nil, List.contains_cons, Prod.mk.injEq, beq_iff_eq, Bool.or_eq_true, Bool.false_eq_true, and_false, or_false, if_true, if_false, Nat.one_ne_zero, Nat.zero_ne_one, List.filter_cons, List.filter_nil, bne_iff_ne, ne_eq, not_false_eq_true, upd_at, mask_nil, mask_true, mask_false, nms_N, L8k2, h1, h2, ibs_nms, aW_nms, bs_nms]) ?_ ⟨_, rfl, ?_, ?_⟩
      · simp only [L8k2, List.map_cons, List.map_nil, ibs_ren, ren_ptrF, ren_slF, mask_true, mask_false, mask_nil, ren_undef]
        rfl
      · exact cN_same (1, 0) rfl (by simp only [upd_at, Prod.mk.injEq, and_false, if_false, Nat.zero_ne_one, h1]) (bs_ren _ _)
      · rw [absN, ← hs]; exact cN_same (1, 1) rfl (by simp only [upd_at, if_true]) (aW_ren _ _ _)

def y0 (s : Nat → BitVec 32) (i : Nat) (st : St) : Prop := ∃ (H : Heap), st = ⟨[.undef, .undef, .undef, .undef, .undef, .ptr (1, 0) 0, .undef, .undef, .undef, .ptr (1, 1) 0, N i, .undef, .undef, .undef, .undef, .undef, .undef, .undef, .undef, .undef, .undef, .undef, .undef, .undef, .undef, .undef, .undef, .undef, .undef, .undef, .undef, .undef, .undef, .undef, .undef, .undef, .undef, .undef, .undef, .undef, .undef, .undef, .undef, .undef, .undef, .undef, .undef, .undef, .undef, .undef, .undef, .undef, .undef, .undef, .undef, .undef, .undef, .undef, .undef, .undef, .undef, .undef, .undef, .undef, .undef, .undef, .undef, .undef, .undef, .undef, .undef, .undef, .undef, .undef, .undef, .undef, .undef, .undef, .undef, .undef, .undef, .undef, .undef, .undef, .undef], H, 2, 0⟩ ∧
  H (1, 0) = some (aW 8 s) ∧ H (1, 1) = some (aB 32 (outB s))

set_option maxRecDepth 10000 in
theorem y0_round (K k0 : Nat) (s : Nat → BitVec 32) (i : Nat) (hi : i < 32) (st : St) (hI : y0 s i st) :
    ∃ st1, ev (envC C k0) K L8b0 st = some (.normal, st1) ∧ y0 s (i + 1) (canon L8k0 st1) := by
  obtain ⟨H, rfl, h1, h2⟩ := hI
  have ho : (s (i / 4) >>> (24 - 8 * (i % 4))).setWidth 8 = outB s i := rfl
  apply Exists.intro
  apply And.intro
  · simp (disch := first | omega | decide | simp only [nms_B8, nms_B32, nms_B64, nms_I, nms_N, nms_Bo, nms_Un, nms_undef, nms_Hf, nms_ptr, nms_sl, aB_agg_nms, aW_agg_nms, aD_agg_nms, aO_agg_nms, List.flatMap_cons, List.flatMap_nil, List.nil_append, List.append_nil, ren_B8, ren_B32, ren_B64, ren_I, ren_N, ren_Bo, ren_Un, ren_undef, ren_Hf, aB_agg_ren, aW_agg_ren, aD_agg_ren, aO_agg_ren, List.map_cons, List.map_nil, ren7_I, ren7_N, ren7_Bo, ren7_B8, ren7_B32, ren7_B64, nms7_I, nms7_N, nms7_Bo, nms7_B8, nms7_B32, nms7_B64, nms_tup, ren_tup, implies_true, l17, l18, l19, l20, l36, l37, l38, l39, l43, l21, l22, l24, l25, l33, l35, l40, l42, l14, l27, bs_isCell, bs_nms, bs_ren, ibs_nms, ibs_ren, bs_length, aW_isCell, aB_isCell, isCell_sl, isCell_isl, isCell_nil, isCell_ptr, isCell_N]) only [ev_skip, ev_seq, ev_block, ev_region, regK_some, evOpers_nil, evOpers_cons, stepK_pure, put_some, evX_t, evX_c, outR_some, op_mv, op_bin, op_cvt, andThen_normal, inBlock_normal, ev_cond, condK_true, condK_false, List.set_cons_zero, List.set_cons_succ, List.getD_cons_zero, List.getD_cons_succ, List.length_cons, List.length_nil, B8_neq, cvt_32_8, Nat.reduceAdd, Nat.reduceSub, cellAt_ptr, ld1K_some, op_ld1, op_iaA, iaV_lt, List.all_cons, List.all_nil, Bool.and_true, Nat.reduceLT, if_true, Nat.zero_add, Nat.add_zero, decide_true, aB_cell, aW_cell, Nat.mul_one, Nat.add_zero, Nat.zero_add, N_add, N_sub, N_mul, N_quo, N_rem, N_lss, N_nat, B32_shrN, Nat.reduceLT, Nat.reduceAdd, decide_true, Bool.not_false, Bool.not_true, evOpers_ord, stepO_eq, ordK_pure, only_at, touch_ld1, nms_ptr, List.contains_cons, List.contains_nil, beq_self_eq_true, Bool.or_true, Bool.or_false, ordOk, apartFrom, List.all_cons, List.all_nil, Nat.testBit, Nat.reduceShiftRight, Nat.reduceAnd, Nat.reduceBEq, Bool.not_true, Bool.not_false, Bool.and_self, Bool.and_true, Nat.reduceSub, Nat.reduceLT, bne, Nat.mul_one, L8b0, hi, h1, h2, ho]
    rfl
  · refine canon_inv [(1, 0), (1, 1)] rfl (by simp only [canonNames, FUEL, reach_cons, reachK_some, reach_nil, nms_ptr, nms_undef, List.flatMap_cons, List.flatMap_nil, List.nil_append, List.cons_append, List.append_nil, List.range_zero, List.map_nil, List.contains_nil, List.contains_cons, Prod.mk.injEq, beq_iff_eq, Bool.or_eq_true, Bool.false_eq_true, and_false, or_false, if_true, if_false, Nat.one_ne_zero, List.filter_cons, List.filter_nil, bne_iff_ne, ne_eq, not_false_eq_true, mask_nil, mask_true, mask_false, nms_N, L8k0, h1, h2, aB_nms, aW_nms]) rfl ⟨_, rfl, ?_, ?_⟩
    · exact cN_same (1, 0) rfl (by simp only [h1]) (aW_ren _ _ _)
    · exact cN_same (1, 1) rfl (by simp only [h2]) (aB_ren _ _ _)

theorem y3_end : binV .geq .none (I (7 - ((8 : Nat) : Int))) (N 0) = some (Bo false) := by rw [N, I_geq]; rfl

set_option maxRecDepth 10000 in
theorem shaStates_F (K : Nat) (b : List (BitVec 8)) (hb : b.length ≤ 1048576) (hK : b.length / 64 + 600 ≤ K) : F C (K + 1) 8 [.isl (bs b) b.length] [] = some (Bo true, [], []) := by
  rw [F_succ f8]
  have hz := zs_lt b.length
  have hlv : F C K 14 [] [] = some (Bo true, [], []) := by
    have := lives_F (K - 500)
    rw [show K - 500 + 500 = K by omega] at this
    exact this
  have hblk : ∀ s p, F C K 17 [.agg (aW 8 s), .agg (aB 64 p)] [] = some (.agg (aW 8 (blk s p)), [], []) := fun s p => by
    have := block_F (K - 80) s p
    rw [show K - 80 + 80 = K by omega] at this
    exact this
  have hfirst : F C K 19 [] [] = some (.agg (aW 8 ini), [], []) := by
    have := firstA (K - 1)
    rw [show K - 1 + 1 = K by omega] at this
    exact this
  have hs := fun bn (H : Heap) => sum_call K bn H (.isl (bs b) b.length) b (by omega) (lent_isl H b []) (by omega)
  have hfr : ∀ H : Heap, front H 1 b.length (.isl (bs b) b.length) = some (bs b) := fun H => front_ibytes b b.length rfl
  have hgt : ¬ 1048576 < b.length := by omega
  have e1 : (b.length + 1 + zs b.length) % 64 = 56 := by unfold zs; omega
  have hz64 : (b.length + (zs b.length + 1 + 8)) % 64 = 0 := by unfold zs; omega
  have hzb : zb b 0 = b ++ [128#8] := rfl
  have key : ∃ (n1 : Nm) (c : Option Nat) (news : List Cells) (ms ms2 : List (Nm × Option Cells)), (n1 = (6, 0) ∧ c = some 0 ∧ news = [] ∧ ms = [((6, 0), some (bs b))] ∧ ms2 = [] ∨ n1 = (8, 0) ∧ c = none ∧ news = [bs b] ∧ ms = [] ∧ ms2 = [((8, 0), none)]) ∧
      (∀ H : Heap, H (6, 0) = some [] → appX 8 1 1 b.length H [] (bs b) (.sl (6, 0) 0 0 (some 0) 1) = some ⟨.sl n1 0 b.length c 1, news, ms⟩) ∧
      (∀ H : Heap, H n1 = some (bs b) → appX 10 1 1 1 H [] (bs [128#8]) (.sl n1 0 b.length c 1) = some ⟨.sl (10, 0) 0 (b.length + 1) none 1, [bs (zb b 0)], ms2⟩) := by
    by_cases h0 : b = []
    · refine ⟨(6, 0), some 0, _, _, _, .inl ⟨rfl, rfl, rfl, rfl, rfl⟩, ?_, ?_⟩
      · intro H h; subst h0; simp only [appX, h, splice]; rfl
      · intro H h; subst h0
        rw [appX_full 1 (6, 0) 0 _ 0 [] [128#8] h (by simp) (by simp) (by simp)]; rfl
    · have hl : 0 < b.length := List.length_pos_iff.2 h0
      refine ⟨(8, 0), none, _, _, _, .inr ⟨rfl, rfl, rfl, rfl, rfl⟩, ?_, ?_⟩
      · intro H h
        rw [appX_full b.length (6, 0) 0 0 0 [] b h (by simp) (by omega) (by omega)]
        simp only [List.drop_nil, List.take_nil, List.nil_append, Nat.zero_add]
      · intro H h
        rw [app_one 10 H (8, 0) 128#8 b b.length rfl h (by omega), hzb]
  obtain ⟨n1, c, news, ms, ms2, hcase, ha1, ha2⟩ := key
  have ha1' := ha1 (upd (inHeap []) (6, 0) (some [])) rfl
  rcases hcase with ⟨rfl, rfl, rfl, rfl, rfl⟩ | ⟨rfl, rfl, rfl, rfl, rfl⟩
  all_goals
    first
    | (have ha2' := ha2 (upd (upd (upd (inHeap []) (6, 0) (some [])) (6, 0) (some (bs b))) (9, 0) (some (bs [128#8]))) rfl
       have hfr2 := front_bytes (H := upd (upd (upd (inHeap []) (6, 0) (some [])) (6, 0) (some (bs b))) (9, 0) (some (bs [128#8]))) (9, 0) 0 1 (some 1) [128#8] rfl (by simp))
    | (have ha2' := ha2 (upd (upd (upd (inHeap []) (6, 0) (some [])) (8, 0) (some (bs b))) (9, 0) (some (bs [128#8]))) rfl
       have hfr2 := front_bytes (H := upd (upd (upd (inHeap []) (6, 0) (some [])) (8, 0) (some (bs b))) (9, 0) (some (bs [128#8]))) (9, 0) 0 1 (some 1) [128#8] rfl (by simp))
    simp only [List.drop_zero, List.take_succ_cons, List.take_zero] at hfr2
    simp (disch := first | omega | decide | simp only [nms_B8, nms_B32, nms_B64, nms_I, nms_N, nms_Bo, nms_Un, nms_undef, nms_Hf, nms_ptr, nms_sl, aB_agg_nms, aW_agg_nms, aD_agg_nms, aO_agg_nms, List.flatMap_cons, List.flatMap_nil, List.nil_append, List.append_nil, ren_B8, ren_B32, ren_B64, ren_I, ren_N, ren_Bo, ren_Un, ren_undef, ren_Hf, aB_agg_ren, aW_agg_ren, aD_agg_ren, aO_agg_ren, List.map_cons, List.map_nil, ren7_I, ren7_N, ren7_Bo, ren7_B8, ren7_B32, ren7_B64, nms7_I, nms7_N, nms7_Bo, nms7_B8, nms7_B32, nms7_B64, nms_tup, ren_tup, implies_true, l17, l18, l19, l20, l36, l37, l38, l39, l43, l21, l22, l24, l25, l33, l35, l40, l42, l14, l27, bs_isCell, bs_nms, bs_ren, ibs_nms, ibs_ren, bs_length, aW_isCell, aB_isCell, isCell_sl, isCell_isl, isCell_nil, isCell_ptr, isCell_N]) only [funSem_eq, ev_skip, ev_seq, ev_block, ev_region, regK_some, evOpers_nil, evOpers_cons, stepK_pure, put_some, evX_t, evX_c, outR_some, op_mv, op_bin, andThen_normal, ev_cond, condK_false, List.set_cons_zero, List.set_cons_succ, List.getD_cons_zero, List.getD_cons_succ, List.map_cons, List.map_nil, List.nil_append, List.cons_append, repUn_succ, List.replicate_zero, List.length_cons, List.length_nil, ev_loop, Nat.reduceAdd, Nat.reduceSub, stepK_new, stepK_mod, fill_nil, Nat.zero_add, Nat.add_zero, decide_false, aB_rep, aW_rep, Nat.add_zero, Nat.zero_add, N_gtr, Nat.reduceAdd, decide_false, op_len, lenV_some, lenS_isl, lenOf_sl, lenOf_isl, op_append, appK_some, appF_some, op_mkrow, rowK_some, stepK_nm, L8, hgt, fill1, hfr, ha1', hfr2, ha2']
    generalize hL : loopN L8k4 _ _ _ = r
    refine loop_use hL (y4 b) (zs b.length) (by omega) (fun i st hi hI => y4_round _ _ b (by omega) i hi st hI) ?_ ?_ ?_
    · refine canon_inv [(10, 0)] rfl (by simp only [canonNames, FUEL, reach_cons, reachK_some, reach_nil, nms_sl, nms_undef, List.flatMap_cons, List.flatMap_nil, List.nil_append, List.append_nil, List.range_zero, List.map_nil, List.contains_nil, Prod.mk.injEq, Bool.false_eq_true, Nat.reduceEqDiff, and_true, if_true, if_false, List.filter_cons, List.filter_nil, bne_iff_ne, ne_eq, not_false_eq_true, upd_at, mask_nil, mask_true, mask_false, inHeap_none, L8k4, ibs_nms, bs_nms]) ?_ ⟨_, rfl, ?_⟩
      · simp only [L8k4, List.map_cons, List.map_nil, Nat.add_zero, ibs_ren, ren_slF, mask_true, mask_false, mask_nil, ren_undef]
        rfl
      · exact cN_same (10, 0) rfl (by simp only [upd_at, Prod.mk.injEq, Nat.reduceEqDiff, and_true, if_true, if_false]) (bs_ren _ _)
    · rintro st ⟨H, rfl, h1⟩
      apply stop_exit
      simp (disch := first | omega | decide | simp only [nms_B8, nms_B32, nms_B64, nms_I, nms_N, nms_Bo, nms_Un, nms_undef, nms_Hf, nms_ptr, nms_sl, aB_agg_nms, aW_agg_nms, aD_agg_nms, aO_agg_nms, List.flatMap_cons, List.flatMap_nil, List.nil_append, List.append_nil, ren_B8, ren_B32, ren_B64, ren_I, ren_N, ren_Bo, ren_Un, ren_undef, ren_Hf, aB_agg_ren, aW_agg_ren, aD_agg_ren, aO_agg_ren, List.map_cons, List.map_nil, ren7_I, ren7_N, ren7_Bo, ren7_B8, ren7_B32, ren7_B64, nms7_I, nms7_N, nms7_Bo, nms7_B8, nms7_B32, nms7_B64, nms_tup, ren_tup, implies_true, l17, l18, l19, l20, l36, l37, l38, l39, l43, l21, l22, l24, l25, l33, l35, l40, l42, l14, l27, bs_isCell, bs_nms, bs_ren, ibs_nms, ibs_ren, bs_length, aW_isCell, aB_isCell, isCell_sl, isCell_isl, isCell_nil, isCell_ptr, isCell_N]) only [ev_exit, ev_seq, ev_region, regK_some, evOpers_nil, evOpers_cons, stepK_pure, put_some, evX_t, evX_c, outR_some, op_mv, op_bin, andThen_normal, andThen_exit, ev_cond, condK_false, List.set_cons_zero, List.set_cons_succ, List.getD_cons_zero, List.getD_cons_succ, List.length_cons, List.length_nil, Nat.reduceAdd, Nat.zero_add, Nat.add_zero, decide_true, N_rem, N_neq, decide_not, Nat.reduceAdd, decide_true, Bool.not_true, op_len, lenV_some, lenS_sl, L8b4, e1]
      rfl
    · clear hL
      rintro st ⟨H, rfl, h1⟩ rfl
      rw [← lb_zero] at h1
      simp (disch := first | omega | decide | simp only [nms_B8, nms_B32, nms_B64, nms_I, nms_N, nms_Bo, nms_Un, nms_undef, nms_Hf, nms_ptr, nms_sl, aB_agg_nms, aW_agg_nms, aD_agg_nms, aO_agg_nms, List.flatMap_cons, List.flatMap_nil, List.nil_append, List.append_nil, ren_B8, ren_B32, ren_B64, ren_I, ren_N, ren_Bo, ren_Un, ren_undef, ren_Hf, aB_agg_ren, aW_agg_ren, aD_agg_ren, aO_agg_ren, List.map_cons, List.map_nil, ren7_I, ren7_N, ren7_Bo, ren7_B8, ren7_B32, ren7_B64, nms7_I, nms7_N, nms7_Bo, nms7_B8, nms7_B32, nms7_B64, nms_tup, ren_tup, implies_true, l17, l18, l19, l20, l36, l37, l38, l39, l43, l21, l22, l24, l25, l33, l35, l40, l42, l14, l27, bs_isCell, bs_nms, bs_ren, ibs_nms, ibs_ren, bs_length, aW_isCell, aB_isCell, isCell_sl, isCell_isl, isCell_nil, isCell_ptr, isCell_N]) only [ev_exit, ev_seq, ev_block, ev_region, regK_some, evOpers_nil, evOpers_cons, stepK_pure, put_some, evX_t, evX_c, outR_some, op_mv, op_bin, andThen_normal, andThen_exit, inBlock_exit, ev_cond, condK_false, List.set_cons_zero, List.set_cons_succ, List.getD_cons_zero, List.getD_cons_succ, List.length_cons, List.length_nil, ev_loop, Nat.reduceAdd, if_true, Nat.zero_add, Nat.add_zero, decide_true, Nat.add_zero, Nat.zero_add, N_rem, N_neq, decide_not, Nat.reduceAdd, decide_true, Bool.not_true, op_len, lenV_some, lenS_sl, L8b4, e1]
      generalize hL : loopN L8k3 _ _ _ = r
      refine loop_use hL (y3 b) 8 (by omega) (fun i st hi hI => y3_round _ _ b (by omega) i hi st hI) ?_ ?_ ?_
      · refine canon_inv [(1, 0)] rfl (by simp only [canonNames, FUEL, reach_cons, reachK_some, reach_nil, nms_sl, nms_undef, List.flatMap_cons, List.flatMap_nil, List.nil_append, List.append_nil, List.range_zero, List.map_nil, List.contains_nil, Bool.false_eq_true, if_true, if_false, Nat.one_ne_zero, List.filter_cons, List.filter_nil, bne_iff_ne, ne_eq, not_false_eq_true, mask_nil, mask_true, mask_false, nms_N, L8k3, h1, ibs_nms, bs_nms]) ?_ ⟨_, rfl, ?_⟩
        · simp only [L8k3, List.map_cons, List.map_nil, Nat.add_zero, ibs_ren, ren_slF, mask_true, mask_false, mask_nil, ren_undef]
          rw [show b.length + 1 + zs b.length = b.length + (zs b.length + 1 + 0) by omega]
          rfl
        · exact cN_same (1, 0) rfl (by simp only [h1]) (bs_ren _ _)
      · rintro st ⟨H, rfl, h1⟩
        apply stop_exit
        simp (disch := first | omega | decide | simp only [nms_B8, nms_B32, nms_B64, nms_I, nms_N, nms_Bo, nms_Un, nms_undef, nms_Hf, nms_ptr, nms_sl, aB_agg_nms, aW_agg_nms, aD_agg_nms, aO_agg_nms, List.flatMap_cons, List.flatMap_nil, List.nil_append, List.append_nil, ren_B8, ren_B32, ren_B64, ren_I, ren_N, ren_Bo, ren_Un, ren_undef, ren_Hf, aB_agg_ren, aW_agg_ren, aD_agg_ren, aO_agg_ren, List.map_cons, List.map_nil, ren7_I, ren7_N, ren7_Bo, ren7_B8, ren7_B32, ren7_B64, nms7_I, nms7_N, nms7_Bo, nms7_B8, nms7_B32, nms7_B64, nms_tup, ren_tup, implies_true, l17, l18, l19, l20, l36, l37, l38, l39, l43, l21, l22, l24, l25, l33, l35, l40, l42, l14, l27, bs_isCell, bs_nms, bs_ren, ibs_nms, ibs_ren, bs_length, aW_isCell, aB_isCell, isCell_sl, isCell_isl, isCell_nil, isCell_ptr, isCell_N]) only [ev_exit, ev_seq, ev_region, regK_some, evOpers_nil, evOpers_cons, stepK_pure, put_some, evX_t, evX_c, outR_some, op_mv, op_bin, andThen_normal, andThen_exit, ev_cond, condK_false, List.set_cons_zero, List.set_cons_succ, List.getD_cons_zero, List.getD_cons_succ, List.length_cons, List.length_nil, Nat.reduceAdd, Nat.zero_add, Nat.add_zero, Nat.reduceAdd, L8b3, y3_end]
        rfl
      · clear hL h1
        rintro st ⟨H, rfl, h1⟩ rfl
        have hl8 := lb_length b 8
        obtain ⟨M, hM⟩ : ∃ M, M = lb b 8 := ⟨_, rfl⟩
        rw [← hM] at h1 hl8
        have hMd : dig b = outB (absN M ini (M.length / 64)) := by rw [hM]; rfl
        rw [← hl8]
        simp (disch := first | omega | decide | simp only [nms_B8, nms_B32, nms_B64, nms_I, nms_N, nms_Bo, nms_Un, nms_undef, nms_Hf, nms_ptr, nms_sl, aB_agg_nms, aW_agg_nms, aD_agg_nms, aO_agg_nms, List.flatMap_cons, List.flatMap_nil, List.nil_append, List.append_nil, ren_B8, ren_B32, ren_B64, ren_I, ren_N, ren_Bo, ren_Un, ren_undef, ren_Hf, aB_agg_ren, aW_agg_ren, aD_agg_ren, aO_agg_ren, List.map_cons, List.map_nil, ren7_I, ren7_N, ren7_Bo, ren7_B8, ren7_B32, ren7_B64, nms7_I, nms7_N, nms7_Bo, nms7_B8, nms7_B32, nms7_B64, nms_tup, ren_tup, implies_true, l17, l18, l19, l20, l36, l37, l38, l39, l43, l21, l22, l24, l25, l33, l35, l40, l42, l14, l27, bs_isCell, bs_nms, bs_ren, ibs_nms, ibs_ren, bs_length, aW_isCell, aB_isCell, isCell_sl, isCell_isl, isCell_nil, isCell_ptr, isCell_N]) only [ev_exit, ev_seq, ev_block, ev_region, regK_some, evOpers_nil, evOpers_cons, stepK_pure, put_some, put_none, evX_t, evX_c, outR_some, op_mv, op_bin, op_call, callV_fn, andThen_normal, andThen_exit, inBlock_exit, ev_cond, condK_false, List.set_cons_zero, List.set_cons_succ, List.getD_cons_zero, List.getD_cons_succ, List.map_nil, List.length_cons, List.length_nil, callOp_C, ev_loop, Nat.reduceAdd, upd_at, stepK_new, stepK_mod, cellsOf_agg, op_new, op_st, stV_ptr, if_true, Nat.zero_add, Nat.add_zero, aW_st_all, aW_calK, Nat.add_zero, Nat.zero_add, Nat.reduceAdd, L8b3, y3_end, hfirst, aW_st_all]
        generalize hL : loopN L8k2 _ _ _ = r
        refine loop_use hL (y2 b M) (M.length / 64) (by omega) (fun i st hi hI => y2_round _ _ (by omega) hblk b M (by omega) i (by omega) st hI) ?_ ?_ ?_
        · refine canon_inv [(1, 0), (5, 0)] rfl (by simp only [canonNames, FUEL, reach_cons, reachK_some, reach_nil, nms_ptr, nms_sl, nms_undef, List.flatMap_cons, List.flatMap_nil, List.nil_append, List.cons_append, List.append_nil, List.range_zero, List.map_nil, List.contains_nil, List.contains_cons, Prod.mk.injEq, beq_iff_eq, Bool.or_eq_true, Bool.false_eq_true, Nat.reduceEqDiff, and_true, or_false, if_true, if_false, Nat.one_ne_zero, List.filter_cons, List.filter_nil, bne_iff_ne, ne_eq, not_false_eq_true, upd_at, mask_nil, mask_true, mask_false, nms_N, L8k2, h1, ibs_nms, aW_nms, bs_nms]) ?_ ⟨_, rfl, ?_, ?_⟩
          · simp only [L8k2, List.map_cons, List.map_nil, ibs_ren, ren_ptrF, ren_slF, mask_true, mask_false, mask_nil, ren_undef]
            rfl
          · exact cN_same (1, 0) rfl (by simp only [upd_at, Prod.mk.injEq, Nat.reduceEqDiff, and_true, if_false, h1]) (bs_ren _ _)
          · exact cN_same (5, 0) rfl (by simp only [upd_at, if_true, absN]) (aW_ren _ _ _)
        · rintro st ⟨H, rfl, h1, h2⟩
          have e2 : ¬ 64 * (M.length / 64) < M.length := by omega
          apply stop_exit
          simp (disch := first | omega | decide | simp only [nms_B8, nms_B32, nms_B64, nms_I, nms_N, nms_Bo, nms_Un, nms_undef, nms_Hf, nms_ptr, nms_sl, aB_agg_nms, aW_agg_nms, aD_agg_nms, aO_agg_nms, List.flatMap_cons, List.flatMap_nil, List.nil_append, List.append_nil, ren_B8, ren_B32, ren_B64, ren_I, ren_N, ren_Bo, ren_Un, ren_undef, ren_Hf, aB_agg_ren, aW_agg_ren, aD_agg_ren, aO_agg_ren, List.map_cons, List.map_nil, ren7_I, ren7_N, ren7_Bo, ren7_B8, ren7_B32, ren7_B64, nms7_I, nms7_N, nms7_Bo, nms7_B8, nms7_B32, nms7_B64, nms_tup, ren_tup, implies_true, l17, l18, l19, l20, l36, l37, l38, l39, l43, l21, l22, l24, l25, l33, l35, l40, l42, l14, l27, bs_isCell, bs_nms, bs_ren, ibs_nms, ibs_ren, bs_length, aW_isCell, aB_isCell, isCell_sl, isCell_isl, isCell_nil, isCell_ptr, isCell_N]) only [ev_exit, ev_seq, ev_region, regK_some, evOpers_nil, evOpers_cons, stepK_pure, put_some, evX_t, outR_some, op_mv, op_bin, andThen_normal, andThen_exit, ev_cond, condK_false, List.set_cons_zero, List.set_cons_succ, List.getD_cons_zero, List.getD_cons_succ, List.length_cons, List.length_nil, Nat.reduceAdd, Nat.zero_add, Nat.add_zero, decide_false, N_lss, Nat.reduceAdd, decide_false, op_len, lenV_some, lenS_sl, L8b2, e2]
          rfl
        · clear hL h1
          rintro st ⟨H, rfl, h1, h2⟩ rfl
          have e2 : ¬ 64 * (M.length / 64) < M.length := by omega
          rw [hMd] at hs
          generalize absN M ini (M.length / 64) = s at *
          simp (disch := first | omega | decide | simp only [nms_B8, nms_B32, nms_B64, nms_I, nms_N, nms_Bo, nms_Un, nms_undef, nms_Hf, nms_ptr, nms_sl, aB_agg_nms, aW_agg_nms, aD_agg_nms, aO_agg_nms, List.flatMap_cons, List.flatMap_nil, List.nil_append, List.append_nil, ren_B8, ren_B32, ren_B64, ren_I, ren_N, ren_Bo, ren_Un, ren_undef, ren_Hf, aB_agg_ren, aW_agg_ren, aD_agg_ren, aO_agg_ren, List.map_cons, List.map_nil, ren7_I, ren7_N, ren7_Bo, ren7_B8, ren7_B32, ren7_B64, nms7_I, nms7_N, nms7_Bo, nms7_B8, nms7_B32, nms7_B64, nms_tup, ren_tup, implies_true, l17, l18, l19, l20, l36, l37, l38, l39, l43, l21, l22, l24, l25, l33, l35, l40, l42, l14, l27, bs_isCell, bs_nms, bs_ren, ibs_nms, ibs_ren, bs_length, aW_isCell, aB_isCell, isCell_sl, isCell_isl, isCell_nil, isCell_ptr, isCell_N]) only [ev_exit, ev_seq, ev_block, ev_region, regK_some, evOpers_nil, evOpers_cons, stepK_pure, put_some, put_none, evX_t, evX_c, outR_some, op_mv, op_bin, op_call, callV_fn, andThen_normal, andThen_exit, inBlock_exit, ev_cond, condK_false, List.set_cons_zero, List.set_cons_succ, List.getD_cons_zero, List.getD_cons_succ, List.map_cons, List.map_nil, List.length_cons, List.length_nil, ev_loop, Nat.reduceAdd, upd_at, stepK_new, stepK_mod, cellsOf_agg, op_new, op_st, stV_ptr, if_true, Nat.zero_add, Nat.add_zero, decide_false, aB_rep, aB_st_all, Nat.add_zero, Nat.zero_add, N_lss, Nat.reduceAdd, decide_false, op_len, lenV_some, lenS_sl, L8b2, e2, hs]
          generalize hL : loopN L8k0 _ _ _ = r
          refine loop_use hL (y0 s) 32 (by omega) (fun i st hi hI => y0_round _ _ s i hi st hI) ?_ ?_ ?_
          · refine canon_inv [(1, 1), (8, 0)] rfl (by simp only [canonNames, FUEL, reach_cons, reachK_some, reach_nil, nms_ptr, nms_undef, List.flatMap_cons, List.flatMap_nil, List.nil_append, List.cons_append, List.append_nil, List.range_zero, List.map_nil, List.contains_nil, List.contains_cons, Prod.mk.injEq, beq_iff_eq, Bool.or_eq_true, Bool.false_eq_true, Nat.reduceEqDiff, and_false, or_false, if_true, if_false, Nat.one_ne_zero, Nat.zero_ne_one, List.filter_cons, List.filter_nil, bne_iff_ne, ne_eq, not_false_eq_true, upd_at, mask_nil, mask_true, mask_false, nms_N, L8k0, h2, aB_nms, aW_nms]) ?_ ⟨_, rfl, ?_, ?_⟩
            · simp only [L8k0, List.map_cons, List.map_nil, ren_ptrF, mask_true, mask_false, mask_nil, ren_undef]
              rfl
            · exact cN_same (1, 1) rfl (by simp only [upd_at, Prod.mk.injEq, Nat.reduceEqDiff, and_self, if_false, Nat.one_ne_zero, h2]) (aW_ren _ _ _)
            · exact cN_same (8, 0) rfl (by simp only [upd_at, if_true]) (aB_ren _ _ _)
          · rintro st ⟨H, rfl, h1, h2⟩
            apply stop_exit
            simp (disch := first | omega | decide | simp only [nms_B8, nms_B32, nms_B64, nms_I, nms_N, nms_Bo, nms_Un, nms_undef, nms_Hf, nms_ptr, nms_sl, aB_agg_nms, aW_agg_nms, aD_agg_nms, aO_agg_nms, List.flatMap_cons, List.flatMap_nil, List.nil_append, List.append_nil, ren_B8, ren_B32, ren_B64, ren_I, ren_N, ren_Bo, ren_Un, ren_undef, ren_Hf, aB_agg_ren, aW_agg_ren, aD_agg_ren, aO_agg_ren, List.map_cons, List.map_nil, ren7_I, ren7_N, ren7_Bo, ren7_B8, ren7_B32, ren7_B64, nms7_I, nms7_N, nms7_Bo, nms7_B8, nms7_B32, nms7_B64, nms_tup, ren_tup, implies_true, l17, l18, l19, l20, l36, l37, l38, l39, l43, l21, l22, l24, l25, l33, l35, l40, l42, l14, l27, bs_isCell, bs_nms, bs_ren, ibs_nms, ibs_ren, bs_length, aW_isCell, aB_isCell, isCell_sl, isCell_isl, isCell_nil, isCell_ptr, isCell_N]) only [ev_exit, ev_seq, ev_region, regK_some, evOpers_nil, evOpers_cons, stepK_pure, put_some, evX_t, evX_c, outR_some, op_mv, op_bin, andThen_normal, andThen_exit, ev_cond, condK_false, List.set_cons_zero, List.set_cons_succ, List.getD_cons_zero, List.getD_cons_succ, List.length_cons, List.length_nil, Nat.reduceAdd, Nat.zero_add, Nat.add_zero, decide_false, N_lss, Nat.reduceAdd, Nat.lt_irrefl, decide_false, L8b0]
            rfl
          · rintro st ⟨H, rfl, h1, h2⟩ rfl
            simp (disch := first | omega | decide | simp only [nms_B8, nms_B32, nms_B64, nms_I, nms_N, nms_Bo, nms_Un, nms_undef, nms_Hf, nms_ptr, nms_sl, aB_agg_nms, aW_agg_nms, aD_agg_nms, aO_agg_nms, List.flatMap_cons, List.flatMap_nil, List.nil_append, List.append_nil, ren_B8, ren_B32, ren_B64, ren_I, ren_N, ren_Bo, ren_Un, ren_undef, ren_Hf, aB_agg_ren, aW_agg_ren, aD_agg_ren, aO_agg_ren, List.map_cons, List.map_nil, ren7_I, ren7_N, ren7_Bo, ren7_B8, ren7_B32, ren7_B64, nms7_I, nms7_N, nms7_Bo, nms7_B8, nms7_B32, nms7_B64, nms_tup, ren_tup, implies_true, l17, l18, l19, l20, l36, l37, l38, l39, l43, l21, l22, l24, l25, l33, l35, l40, l42, l14, l27, bs_isCell, bs_nms, bs_ren, ibs_nms, ibs_ren, bs_length, aW_isCell, aB_isCell, isCell_sl, isCell_isl, isCell_nil, isCell_ptr, isCell_N]) only [ev_ret, ev_exit, ev_seq, ev_region, regK_some, evOpers_nil, evOpers_cons, stepK_pure, put_some, evX_t, evX_c, outR_some, op_mv, op_bin, op_call, callV_fn, andThen_normal, andThen_exit, inBlock_exit, ev_cond, condK_false, retK_ret, resVal_tmp, List.set_cons_zero, List.set_cons_succ, List.getD_cons_zero, List.getD_cons_succ, List.map_nil, List.length_cons, List.length_nil, callOp_C, calK_Bo, outOf_Bo, Option.map_some, Nat.reduceAdd, if_true, Nat.zero_add, Nat.add_zero, decide_false, Nat.add_zero, Nat.zero_add, N_lss, Nat.reduceAdd, Nat.lt_irrefl, decide_false, Option.map_some, L8b0, hlv]

theorem shaStates_big (K : Nat) (b : List (BitVec 8)) (hb : 1048576 < b.length) (hK : 500 ≤ K) : F C (K + 1) 8 [.isl (bs b) b.length] [] = some (Bo true, [], []) := by
  rw [F_succ f8]
  have hlv : F C K 14 [] [] = some (Bo true, [], []) := by
    have := lives_F (K - 500)
    rw [show K - 500 + 500 = K by omega] at this
    exact this
  simp (disch := first | omega | decide | simp only [nms_B8, nms_B32, nms_B64, nms_I, nms_N, nms_Bo, nms_Un, nms_undef, nms_Hf, nms_ptr, nms_sl, aB_agg_nms, aW_agg_nms, aD_agg_nms, aO_agg_nms, List.flatMap_cons, List.flatMap_nil, List.nil_append, List.append_nil, ren_B8, ren_B32, ren_B64, ren_I, ren_N, ren_Bo, ren_Un, ren_undef, ren_Hf, aB_agg_ren, aW_agg_ren, aD_agg_ren, aO_agg_ren, List.map_cons, List.map_nil, ren7_I, ren7_N, ren7_Bo, ren7_B8, ren7_B32, ren7_B64, nms7_I, nms7_N, nms7_Bo, nms7_B8, nms7_B32, nms7_B64, nms_tup, ren_tup, implies_true, l17, l18, l19, l20, l36, l37, l38, l39, l43, l21, l22, l24, l25, l33, l35, l40, l42, l14, l27, bs_isCell, bs_nms, bs_ren, ibs_nms, ibs_ren, bs_length, aW_isCell, aB_isCell, isCell_sl, isCell_isl, isCell_nil, isCell_ptr, isCell_N]) only [funSem_eq, ev_ret, ev_seq, ev_region, regK_some, evOpers_nil, evOpers_cons, stepK_pure, put_some, evX_t, evX_c, outR_some, op_mv, op_bin, op_call, callV_fn, andThen_normal, andThen_ret, ev_cond, condK_true, retK_ret, resVal_tmp, List.set_cons_zero, List.set_cons_succ, List.getD_cons_zero, List.getD_cons_succ, List.map_nil, List.nil_append, List.cons_append, repUn_succ, List.replicate_zero, List.length_cons, List.length_nil, callOp_C, calK_Bo, outOf_Bo, Option.map_some, Nat.reduceAdd, Nat.reduceSub, Nat.zero_add, Nat.add_zero, decide_true, aB_rep, aW_rep, Nat.add_zero, Nat.zero_add, N_gtr, Nat.reduceAdd, decide_true, op_len, lenV_some, lenS_isl, Option.map_some, L8, hb, hlv]
theorem shaStates_all (b : List (BitVec 8)) : F C 20001 8 [.isl (bs b) b.length] [] = some (Bo true, [], []) := by
  by_cases h : 1048576 < b.length
  · exact shaStates_big 20000 b h (by omega)
  · exact shaStates_F 20000 b (by omega) (by omega)

end Sha
