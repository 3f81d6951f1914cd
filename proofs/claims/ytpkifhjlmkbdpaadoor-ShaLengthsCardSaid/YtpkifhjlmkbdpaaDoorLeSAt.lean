/- Digests on their way, as they lie in a caller's memory: what calls of Write, Sum, Fork and Len do to them. -/
import Derived.Test.YtpkifhjlmkbdpaaDoorLeU
set_option linter.unusedVariables false
set_option linter.unusedSimpArgs false

namespace Sha
open Go Go.LE

/-! ### two forms that were lacking -/

def w0C (s : Nat → BitVec 32) (n : Nat) (i : Nat) (st : St) : Prop := ∃ (H : Heap), st = ⟨[.ptr (0, 0) 0, .undef, .undef, .undef, N 0, .undef, .undef, .undef, .undef, .undef, .undef, .undef, .undef, .undef, .undef, .undef, .undef, .undef, .undef, .undef, .undef, .undef, .undef, .undef, .undef, .undef, .undef, .undef, .undef, .undef, .undef, .undef, .undef, .undef, .undef, .undef, .undef, .undef, .undef, .undef, .undef, .undef, .undef, .undef, .undef, .undef, .undef, .undef, .undef, .undef, .undef, .undef, .undef, .undef, .undef, .undef, .undef, .undef, .undef, .undef, .undef, .undef, .undef, .undef, .undef, .undef, .undef, .undef, .undef, .undef, .undef, .undef, .undef, .undef], H, 2, 2⟩ ∧ H (0, 0) = some (HsC s (.sl (0, 1) 0 0 (some 0) 1) n) ∧ H (0, 1) = some (bs [])
theorem write0C (k : Nat) (s : Nat → BitVec 32) (n : Nat) (hn : n ≤ 4611686018427387904) : F C (k + 3) 23 [.ptr (0, 0) 0, .isl (bs []) 0] [HsC s (.sl (0, 1) 0 0 (some 0) 1) n, bs []] = some (.tup [], [some (HsC s (.sl (0, 1) 0 0 (some 0) 1) n), some (bs [])], []) := by
  rw [F_succ f23]
  have hfr : ∀ H : Heap, front H 1 0 (.isl (bs []) 0) = some (bs []) := fun H => front_ibytes [] 0 rfl
  have ha : ∀ (bn : Nat) (H : Heap), H (0, 1) = some (bs []) → appX bn 1 1 0 H [] (bs []) (.sl (0, 1) 0 0 (some 0) 1) = some ⟨.sl (0, 1) 0 0 (some 0) 1, [], [((0, 1), some (bs []))]⟩ := by
    intro bn H h
    simp only [appX, h, splice]
    rfl
  have ha' := fun (bn : Nat) (x : Cells) => ha bn (upd (inHeap [HsC s (.sl (0, 1) 0 0 (some 0) 1) n, bs []]) (0, 0) (some x)) rfl
  simp (disch := first | omega | decide | simp only [nms_B8, nms_B32, nms_B64, nms_I, nms_N, nms_Bo, nms_Un, nms_undef, nms_Hf, nms_ptr, nms_sl, aB_agg_nms, aW_agg_nms, aD_agg_nms, aO_agg_nms, List.flatMap_cons, List.flatMap_nil, List.nil_append, List.append_nil, ren_B8, ren_B32, ren_B64, ren_I, ren_N, ren_Bo, ren_Un, ren_undef, ren_Hf, aB_agg_ren, aW_agg_ren, aD_agg_ren, aO_agg_ren, List.map_cons, List.map_nil, ren7_I, ren7_N, ren7_Bo, ren7_B8, ren7_B32, ren7_B64, nms7_I, nms7_N, nms7_Bo, nms7_B8, nms7_B32, nms7_B64, nms_tup, ren_tup, implies_true, l17, l18, l19, l20, l36, l37, l38, l39, l43, l21, l22, l24, l25, l33, l35, l40, l42, l14, l27, bs_isCell, bs_nms, bs_ren, ibs_nms, ibs_ren, bs_length, aW_isCell, aB_isCell, isCell_sl, isCell_isl, isCell_nil, isCell_ptr, isCell_N]) only [funSem_eq, ev_skip, ev_seq, ev_block, ev_region, regK_some, evOpers_nil, evOpers_cons, stepK_pure, put_some, put_none, evX_t, evX_c, outR_some, op_mv, op_bin, andThen_normal, ev_cond, condK_false, List.set_cons_zero, List.set_cons_succ, List.getD_cons_zero, List.getD_cons_succ, List.nil_append, List.cons_append, repUn_succ, List.replicate_zero, List.length_cons, List.length_nil, ev_loop, Nat.reduceAdd, Nat.reduceSub, upd_at, stepK_mod, cellAt_ptr, ld1K_some, op_ld1, op_st, stV_ptr, op_fa, faV_ptr, Prod.mk.injEq, and_false, if_true, if_false, Nat.zero_add, Nat.add_zero, Nat.zero_ne_one, Nat.add_zero, Nat.zero_add, N_add, cellsOf_N, Nat.reduceAdd, op_chk, chkV_ptr, eqp_ptr, op_len, lenV_some, lenS_isl, lenOf_isl, cellsOf_sl, op_append, appK_some, appF_some, inHeap_at, List.getElem?_cons_zero, L23, Hs_n, Hs_rest, Hs_st9, Hs_st8, hfr, ha']
  generalize hL : loopN L23k0 _ _ _ = r
  refine loop_use hL (w0C s n) 0 (by omega) (fun i st hi hI => by omega) ?_ ?_ ?_
  · refine canon_inv [] rfl (by simp only [canonNames, FUEL, reach_cons, reachK_some, reach_nil, nms_ptr, nms_sl, nms_undef, List.flatMap_cons, List.flatMap_nil, List.nil_append, List.cons_append, List.append_nil, List.map_nil, List.map_cons, List.contains_nil, List.contains_cons, Prod.mk.injEq, beq_iff_eq, Bool.or_eq_true, Bool.false_eq_true, and_false, or_false, or_true, if_true, if_false, Nat.one_ne_zero, Nat.zero_ne_one, List.filter_cons, List.filter_nil, bne_iff_ne, ne_eq, not_true_eq_false, upd_at, mask_nil, mask_true, mask_false, inHeap_at, range_two, List.getElem?_cons_zero, List.getElem?_cons_succ, nms_N, L23k0, HsC_nms, bs_nms]) rfl ⟨_, rfl, ?_, ?_⟩
    · rw [cN_zero]
      simp (disch := first | omega | decide | simp only [nms_B8, nms_B32, nms_B64, nms_I, nms_N, nms_Bo, nms_Un, nms_undef, nms_Hf, nms_ptr, nms_sl, aB_agg_nms, aW_agg_nms, aD_agg_nms, aO_agg_nms, List.flatMap_cons, List.flatMap_nil, List.nil_append, List.append_nil, ren_B8, ren_B32, ren_B64, ren_I, ren_N, ren_Bo, ren_Un, ren_undef, ren_Hf, aB_agg_ren, aW_agg_ren, aD_agg_ren, aO_agg_ren, List.map_cons, List.map_nil, ren7_I, ren7_N, ren7_Bo, ren7_B8, ren7_B32, ren7_B64, nms7_I, nms7_N, nms7_Bo, nms7_B8, nms7_B32, nms7_B64, nms_tup, ren_tup, implies_true, l17, l18, l19, l20, l36, l37, l38, l39, l43, l21, l22, l24, l25, l33, l35, l40, l42, l14, l27, bs_isCell, bs_nms, bs_ren, ibs_nms, ibs_ren, bs_length, aW_isCell, aB_isCell, isCell_sl, isCell_isl, isCell_nil, isCell_ptr, isCell_N]) only [Option.map_some, upd_at, Prod.mk.injEq, and_false, if_true, if_false, Nat.zero_ne_one, canonMap_0, Option.map_some, inHeap_at, List.getElem?_cons_zero, ren_slF, slO_some, HsC_ren]
    · rw [cN_zero]
      simp (disch := first | omega | decide | simp only [nms_B8, nms_B32, nms_B64, nms_I, nms_N, nms_Bo, nms_Un, nms_undef, nms_Hf, nms_ptr, nms_sl, aB_agg_nms, aW_agg_nms, aD_agg_nms, aO_agg_nms, List.flatMap_cons, List.flatMap_nil, List.nil_append, List.append_nil, ren_B8, ren_B32, ren_B64, ren_I, ren_N, ren_Bo, ren_Un, ren_undef, ren_Hf, aB_agg_ren, aW_agg_ren, aD_agg_ren, aO_agg_ren, List.map_cons, List.map_nil, ren7_I, ren7_N, ren7_Bo, ren7_B8, ren7_B32, ren7_B64, nms7_I, nms7_N, nms7_Bo, nms7_B8, nms7_B32, nms7_B64, nms_tup, ren_tup, implies_true, l17, l18, l19, l20, l36, l37, l38, l39, l43, l21, l22, l24, l25, l33, l35, l40, l42, l14, l27, bs_isCell, bs_nms, bs_ren, ibs_nms, ibs_ren, bs_length, aW_isCell, aB_isCell, isCell_sl, isCell_isl, isCell_nil, isCell_ptr, isCell_N]) only [Option.map_some, upd_at, Prod.mk.injEq, and_false, if_true, if_false, Nat.one_ne_zero, Option.map_some, bs_ren, inHeap_at, List.getElem?_cons_zero, List.getElem?_cons_succ]
  · rintro st ⟨H, rfl, h0, h1⟩
    apply stop_exit
    simp (disch := first | omega | decide | simp only [nms_B8, nms_B32, nms_B64, nms_I, nms_N, nms_Bo, nms_Un, nms_undef, nms_Hf, nms_ptr, nms_sl, aB_agg_nms, aW_agg_nms, aD_agg_nms, aO_agg_nms, List.flatMap_cons, List.flatMap_nil, List.nil_append, List.append_nil, ren_B8, ren_B32, ren_B64, ren_I, ren_N, ren_Bo, ren_Un, ren_undef, ren_Hf, aB_agg_ren, aW_agg_ren, aD_agg_ren, aO_agg_ren, List.map_cons, List.map_nil, ren7_I, ren7_N, ren7_Bo, ren7_B8, ren7_B32, ren7_B64, nms7_I, nms7_N, nms7_Bo, nms7_B8, nms7_B32, nms7_B64, nms_tup, ren_tup, implies_true, l17, l18, l19, l20, l36, l37, l38, l39, l43, l21, l22, l24, l25, l33, l35, l40, l42, l14, l27, bs_isCell, bs_nms, bs_ren, ibs_nms, ibs_ren, bs_length, aW_isCell, aB_isCell, isCell_sl, isCell_isl, isCell_nil, isCell_ptr, isCell_N]) only [ev_exit, ev_seq, ev_region, regK_some, evOpers_nil, evOpers_cons, stepK_pure, put_some, evX_t, evX_c, outR_some, op_mv, op_bin, andThen_normal, andThen_exit, ev_cond, condK_false, List.set_cons_zero, List.set_cons_succ, List.getD_cons_zero, List.getD_cons_succ, List.length_cons, List.length_nil, Nat.reduceAdd, cellAt_ptr, ld1K_some, op_ld1, op_fa, faV_ptr, Nat.reduceLeDiff, Nat.zero_add, Nat.add_zero, decide_false, N_sub, N_geq, Nat.reduceLeDiff, Nat.reduceAdd, decide_false, op_chk, chkV_ptr, op_len, lenV_some, lenS_sl, Nat.sub_zero, L23b0, h0, Hs_rest]
    rfl
  · rintro st ⟨H, rfl, h0, h1⟩ rfl
    have hcp : ∀ H : Heap, cpK 1 H (.sl (0, 1) 0 0 (some 0) 1) (.sl (0, 1) 0 0 (some 0) 1) (some 0) = some ⟨N 0, [], []⟩ := fun H => rfl
    simp (disch := first | omega | decide | simp only [nms_B8, nms_B32, nms_B64, nms_I, nms_N, nms_Bo, nms_Un, nms_undef, nms_Hf, nms_ptr, nms_sl, aB_agg_nms, aW_agg_nms, aD_agg_nms, aO_agg_nms, List.flatMap_cons, List.flatMap_nil, List.nil_append, List.append_nil, ren_B8, ren_B32, ren_B64, ren_I, ren_N, ren_Bo, ren_Un, ren_undef, ren_Hf, aB_agg_ren, aW_agg_ren, aD_agg_ren, aO_agg_ren, List.map_cons, List.map_nil, ren7_I, ren7_N, ren7_Bo, ren7_B8, ren7_B32, ren7_B64, nms7_I, nms7_N, nms7_Bo, nms7_B8, nms7_B32, nms7_B64, nms_tup, ren_tup, implies_true, l17, l18, l19, l20, l36, l37, l38, l39, l43, l21, l22, l24, l25, l33, l35, l40, l42, l14, l27, bs_isCell, bs_nms, bs_ren, ibs_nms, ibs_ren, bs_length, aW_isCell, aB_isCell, isCell_sl, isCell_isl, isCell_nil, isCell_ptr, isCell_N]) only [ev_exit, ev_seq, ev_region, regK_some, evOpers_nil, evOpers_cons, stepK_pure, put_some, put_none, evX_t, evX_c, outR_some, op_mv, op_bin, andThen_normal, andThen_exit, inBlock_exit, ev_cond, condK_false, retK_normal, List.set_cons_zero, List.set_cons_succ, List.getD_cons_zero, List.getD_cons_succ, List.nil_append, List.cons_append, List.length_cons, List.length_nil, Option.map_some, Nat.reduceAdd, Nat.reduceSub, stepK_mod, cellAt_ptr, ld1K_some, op_ld1, op_st, stV_ptr, op_fa, faV_ptr, List.all_cons, List.all_nil, Bool.and_true, Nat.reduceLeDiff, Nat.reduceLT, if_true, Nat.zero_add, Nat.add_zero, decide_true, decide_false, Nat.mul_one, Nat.add_zero, Nat.zero_add, N_sub, N_geq, N_nat, Nat.reduceLT, Nat.reduceLeDiff, Nat.reduceAdd, decide_false, decide_true, Bool.not_false, Bool.not_true, op_chk, chkV_ptr, op_len, lenV_some, lenS_sl, lenOf_sl, cellsOf_sl, op_copy, optNat_none, optNat_some, op_slcS, slcV_cap, getD_some, Option.map_some, Nat.sub_zero, Nat.mul_one, resVal_none, evOpers_ord, stepO_eq, ordK_pure, only_at, touch_ld1, touch_copy, nms_ptr, List.contains_cons, List.contains_nil, beq_self_eq_true, Bool.or_true, Bool.or_false, ordOk, apartFrom, List.all_cons, List.all_nil, Nat.testBit, Nat.reduceShiftRight, Nat.reduceAnd, Nat.reduceBEq, Bool.not_true, Bool.not_false, Bool.and_self, Bool.and_true, Nat.reduceSub, Nat.reduceLT, bne, L23b0, h0, Hs_rest, Hs_st8, hcp, nms_sl]
    rw [outOf_mem 2 _ _ [] (by simp only [canonNames, FUEL, reach_cons, reachK_some, reach_nil, nms_sl, List.flatMap_cons, List.flatMap_nil, List.nil_append, List.cons_append, List.append_nil, List.map_nil, List.map_cons, List.contains_nil, List.contains_cons, Prod.mk.injEq, beq_iff_eq, Bool.or_eq_true, Bool.false_eq_true, and_false, or_false, or_true, if_true, if_false, Nat.one_ne_zero, List.filter_cons, List.filter_nil, bne_iff_ne, ne_eq, not_true_eq_false, upd_at, range_two, HsC_nms, bs_nms, nms_tup0, h0, h1])]
    simp (disch := first | omega | decide | simp only [nms_B8, nms_B32, nms_B64, nms_I, nms_N, nms_Bo, nms_Un, nms_undef, nms_Hf, nms_ptr, nms_sl, aB_agg_nms, aW_agg_nms, aD_agg_nms, aO_agg_nms, List.flatMap_cons, List.flatMap_nil, List.nil_append, List.append_nil, ren_B8, ren_B32, ren_B64, ren_I, ren_N, ren_Bo, ren_Un, ren_undef, ren_Hf, aB_agg_ren, aW_agg_ren, aD_agg_ren, aO_agg_ren, List.map_cons, List.map_nil, ren7_I, ren7_N, ren7_Bo, ren7_B8, ren7_B32, ren7_B64, nms7_I, nms7_N, nms7_Bo, nms7_B8, nms7_B32, nms7_B64, nms_tup, ren_tup, implies_true, l17, l18, l19, l20, l36, l37, l38, l39, l43, l21, l22, l24, l25, l33, l35, l40, l42, l14, l27, bs_isCell, bs_nms, bs_ren, ibs_nms, ibs_ren, bs_length, aW_isCell, aB_isCell, isCell_sl, isCell_isl, isCell_nil, isCell_ptr, isCell_N]) only [List.map_cons, List.map_nil, Option.map_some, upd_at, Prod.mk.injEq, true_and, if_true, if_false, Nat.one_ne_zero, canonMap_0, List.filterMap_nil, Option.map_some, bs_ren, range_two, ren_slF, slO_some, ren_tup0, HsC_ren, h1]
theorem len_G (k : Nat) (s : Nat → BitVec 32) (n len : Nat) (c : Option Nat) (l : List (BitVec 8)) : F C (k + 1) 25 [.ptr (0, 0) 0] [HsC s (.sl (0, 1) 0 len c 1) n, bs l] = some (N n, [some (HsC s (.sl (0, 1) 0 len c 1) n), some (bs l)], []) := by
  rw [F_succ f25]
  simp (disch := first | omega | decide | simp only [nms_B8, nms_B32, nms_B64, nms_I, nms_N, nms_Bo, nms_Un, nms_undef, nms_Hf, nms_ptr, nms_sl, aB_agg_nms, aW_agg_nms, aD_agg_nms, aO_agg_nms, List.flatMap_cons, List.flatMap_nil, List.nil_append, List.append_nil, ren_B8, ren_B32, ren_B64, ren_I, ren_N, ren_Bo, ren_Un, ren_undef, ren_Hf, aB_agg_ren, aW_agg_ren, aD_agg_ren, aO_agg_ren, List.map_cons, List.map_nil, ren7_I, ren7_N, ren7_Bo, ren7_B8, ren7_B32, ren7_B64, nms7_I, nms7_N, nms7_Bo, nms7_B8, nms7_B32, nms7_B64, nms_tup, ren_tup, implies_true, l17, l18, l19, l20, l36, l37, l38, l39, l43, l21, l22, l24, l25, l33, l35, l40, l42, l14, l27, bs_isCell, bs_nms, bs_ren, ibs_nms, ibs_ren, bs_length, aW_isCell, aB_isCell, isCell_sl, isCell_isl, isCell_nil, isCell_ptr, isCell_N]) only [funSem_eq, ev_skip, ev_ret, ev_seq, ev_region, regK_some, evOpers_nil, evOpers_cons, stepK_pure, put_some, evX_t, evX_c, outR_some, op_mv, op_bin, andThen_normal, ev_cond, condK_false, retK_ret, resVal_tmp, List.set_cons_zero, List.set_cons_succ, List.getD_cons_zero, List.getD_cons_succ, List.nil_append, List.cons_append, repUn_succ, List.replicate_zero, List.length_cons, List.length_nil, Option.map_some, Nat.reduceAdd, Nat.reduceSub, cellAt_ptr, ld1K_some, op_ld1, op_fa, faV_ptr, Nat.zero_add, Nat.add_zero, Nat.add_zero, Nat.zero_add, Nat.reduceAdd, op_chk, chkV_ptr, eqp_ptr, Option.map_some, inHeap_at, List.getElem?_cons_zero, L25, Hs_n]
  rw [outOf_mem 2 _ _ [] (by simp only [canonNames, FUEL, reach_cons, reachK_some, reach_nil, nms_sl, List.flatMap_cons, List.flatMap_nil, List.nil_append, List.cons_append, List.append_nil, List.map_nil, List.map_cons, List.contains_nil, List.contains_cons, Prod.mk.injEq, beq_iff_eq, Bool.or_eq_true, Bool.false_eq_true, and_false, or_false, or_true, if_true, if_false, Nat.one_ne_zero, List.filter_cons, List.filter_nil, bne_iff_ne, ne_eq, not_true_eq_false, inHeap_at, range_two, List.getElem?_cons_zero, List.getElem?_cons_succ, nms_N, HsC_nms, bs_nms])]
  simp only [List.map_cons, List.map_nil, Option.map_some, canonMap_0, List.filterMap_nil, Option.map_some, bs_ren, inHeap_at, range_two, List.getElem?_cons_zero, List.getElem?_cons_succ, ren_slF, slO_some, HsC_ren, ren_N]

/-! ### a digest on its way -/

/-- what lies behind the last piece, in a row of the digest's own -/
structure RF (len : Nat) (c : Option Nat) (l rest : List (BitVec 8)) : Prop where
  le : len ≤ l.length
  tk : l.take len = rest
  cap : c = none ∨ (c = some 0 ∧ l = [])

def stN (b : List (BitVec 8)) : Nat → BitVec 32 := absN b ini (b.length / 64)
def rsN (b : List (BitVec 8)) : List (BitVec 8) := b.drop (64 * (b.length / 64))
theorem rsN_length (b : List (BitVec 8)) : (rsN b).length = b.length - 64 * (b.length / 64) := List.length_drop
theorem stN_append (b f : List (BitVec 8)) : absN (rsN b ++ f) (stN b) ((rsN b ++ f).length / 64) = stN (b ++ f) := absN_two b f ini (b.length / 64) (by omega)
theorem rsN_append (b f : List (BitVec 8)) : (rsN b ++ f).drop (64 * ((rsN b ++ f).length / 64)) = rsN (b ++ f) := by
  have e1 : (b ++ f).drop (64 * (b.length / 64)) = rsN b ++ f := List.drop_append_of_le_length (by omega)
  have e2 : (b ++ f).length / 64 = b.length / 64 + (rsN b ++ f).length / 64 := by
    rw [List.length_append, List.length_append, rsN_length]; omega
  show _ = (b ++ f).drop (64 * ((b ++ f).length / 64))
  rw [e2, Nat.mul_add, ← List.drop_drop, e1]
theorem dig_rs (b : List (BitVec 8)) : dig b = outB (absN (rsN b ++ fb b.length 8) (stN b) ((rsN b ++ fb b.length 8).length / 64)) := by
  rw [stN_append]; rfl

/-- it has taken the bytes b; its object, and that of its rest -/
structure HG (H : Heap) (fN rN : Nm) (b : List (BitVec 8)) : Prop where
  ne : fN ≠ rN
  ex : ∃ c l, RF (rsN b).length c l (rsN b) ∧ H fN = some (HsC (stN b) (.sl rN 0 (rsN b).length c 1) b.length) ∧ H rN = some (bs l)

theorem HG.congr {H H' : Heap} {fN rN : Nm} {b : List (BitVec 8)} (h : HG H fN rN b) (h1 : H' fN = H fN) (h2 : H' rN = H rN) : HG H' fN rN b := by
  obtain ⟨hne, c, l, hr, e1, e2⟩ := h
  exact ⟨hne, c, l, hr, h1.trans e1, h2.trans e2⟩
theorem HG.upd {H : Heap} {fN rN n : Nm} {b : List (BitVec 8)} {x : Option Cells} (h : HG H fN rN b) (h1 : fN ≠ n) (h2 : rN ≠ n) : HG (upd H n x) fN rN b :=
  h.congr (by rw [upd_at, if_neg h1]) (by rw [upd_at, if_neg h2])

/-- one that has taken nothing yet -/
def H0 (H : Heap) (fN : Nm) : Prop := H fN = some (HsC ini Nil 0)
theorem stN_nil : stN [] = ini := rfl
theorem rsN_nil : rsN [] = [] := rfl

def Out1 (b : Nat) (H : Heap) (news : List Cells) (ms : List (Nm × Option Cells)) (H2 : Heap) : Prop := updN b 0 news (modN ms H) = H2

theorem upd_id {H : Heap} {n : Nm} {x : Option Cells} (h : H n = x) : upd H n x = H := by
  funext m
  rw [upd_at]
  split
  · rename_i e; subst e; exact h.symm
  · rfl

theorem write_G {K b : Nat} {H : Heap} {fN rN : Nm} {B : LV} {bb all : List (BitVec 8)} {r : Option Out} (hc : callOp (envC C K) H b 23 [.ptr fN 0, B] = r) (h : HG H fN rN all) (hB : Lent H B bb [fN, rN])
    (hlen : all.length + bb.length ≤ 211106232000000) (hK : (all.length + bb.length) / 64 + 200 ≤ K) (hf : fN.1 ≠ b) (hr : rN.1 ≠ b) :
    ∃ rN' news ms H2, r = some ⟨.tup [], news, ms⟩ ∧ updN b 0 news (modN ms H) = H2 ∧ HG H2 fN rN' (all ++ bb) ∧ (rN' = (b, 0) ∨ (rN' = rN ∧ bb = [])) ∧ ∀ m, m ≠ fN → m ≠ rN → m.1 ≠ b → H2 m = H m := by
  subst hc
  obtain ⟨hne, c, l, ⟨hle, htk, hcap⟩, h1, h2⟩ := h
  have hrl := rsN_length all
  have hal : (rsN all ++ bb).length = (rsN all).length + bb.length := List.length_append
  have fin : ∀ (z : Option (List (BitVec 8))) (l' : List (BitVec 8)), l'.take ((rsN all ++ bb).length - 64 * ((rsN all ++ bb).length / 64)) = (rsN all ++ bb).drop (64 * ((rsN all ++ bb).length / 64)) → (rsN all ++ bb).length - 64 * ((rsN all ++ bb).length / 64) ≤ l'.length →
      F C K 23 [.ptr (0, 0) 0, .isl (bs bb) bb.length] [HsC (stN all) (.sl (0, 1) 0 (rsN all).length c 1) all.length, bs l] =
        some (.tup [], [some (HsC (absN (rsN all ++ bb) (stN all) ((rsN all ++ bb).length / 64)) (.sl (1, 0) 0 ((rsN all ++ bb).length - 64 * ((rsN all ++ bb).length / 64)) none 1) (all.length + bb.length)), z.map bs], [bs l']) →
      ∃ rN' news ms H2, callOp (envC C K) H b 23 [.ptr fN 0, B] = some ⟨.tup [], news, ms⟩ ∧ updN b 0 news (modN ms H) = H2 ∧ HG H2 fN rN' (all ++ bb) ∧ (rN' = (b, 0) ∨ (rN' = rN ∧ bb = [])) ∧ ∀ m, m ≠ fN → m ≠ rN → m.1 ≠ b → H2 m = H m := by
    intro z l' ht hl hw
    have hcall := write_callG K b H fN rN _ _ _ _ _ _ c B bb l l' z h1 h2 hne hB hw
    refine ⟨(b, 0), _, _, _, hcall, rfl, ⟨?_, none, l', ?_, ?_, ?_⟩, .inl rfl, ?_⟩
    · intro e; exact hf (by rw [e])
    · rw [← rsN_append, List.length_drop]; exact ⟨hl, ht, .inl rfl⟩
    · simp only [updN_cons, updN_nil, modN_cons, modN_nil, upd_at, if_neg (show fN ≠ (b, 0) by intro e; exact hf (by rw [e])), if_true]
      rw [← stN_append, ← rsN_append, List.length_drop]
      simp only [List.length_append]
    · simp only [updN_cons, updN_nil, upd_at, if_true]
    · intro m a1 a2 a3
      simp only [updN_cons, updN_nil, modN_cons, modN_nil, upd_at, if_neg a1, if_neg a2, if_neg (show m ≠ (b, 0) by intro e; exact a3 (by rw [e]))]
  rcases hcap with rfl | ⟨rfl, rfl⟩
  · obtain ⟨l', hw, ht, hl⟩ := writeB (K - (rsN all ++ bb).length / 64 - 100) (stN all) all.length (rsN all).length l hle bb (rsN all ++ bb) (by rw [htk]) (by omega) (by omega)
    rw [show K - (rsN all ++ bb).length / 64 - 100 + (rsN all ++ bb).length / 64 + 100 = K by omega] at hw
    exact fin none l' ht hl hw
  · have hr0 : rsN all = [] := by rw [← htk]; simp
    have hl0 : (rsN all).length = 0 := by rw [hr0]; rfl
    by_cases hb0 : bb = []
    · subst hb0
      have hw := write0C (K - 3) (stN all) all.length (by omega)
      rw [show K - 3 + 3 = K by omega] at hw
      obtain ⟨lent, hs, hln⟩ := hB.snap
      have hcc : ([fN] : List Nm).contains rN = false := by simp; exact fun e => hne e.symm
      rw [hl0] at h1
      have hre : reach H FUEL [] [fN] = [fN, rN] := by
        simp only [FUEL, reach_cons, List.contains_nil, Bool.false_eq_true, if_false, h1, reachK_some, HsC_nms, nms_sl, List.nil_append, List.cons_append, hcc, h2, bs_nms, reach_nil]
      have hcall : callOp (envC C K) H b 23 [.ptr fN 0, B] = some ⟨.tup [], [], [(fN, some (HsC (stN all) (.sl rN 0 0 (some 0) 1) all.length)), (rN, some (bs []))]⟩ := by
        rw [callOp_L, lend_w K H fN B [] lent hs, callL_some]
        have hn : ([.ptr fN 0, .isl (bs []) ([] : List (BitVec 8)).length] : List LV).flatMap (nms D) = [fN] := by
          simp only [List.flatMap_cons, List.flatMap_nil, nms_ptr, ibs_nms, List.append_nil]
        rw [hn, hre, callN_eq _ _ _ _ _ hln, show ([fN, rN] : List Nm).filterMap H = [HsC (stN all) (.sl rN 0 0 (some 0) 1) all.length, bs []] by simp [h1, h2]]
        have ha : ([.ptr fN 0, .isl (bs []) ([] : List (BitVec 8)).length] : List LV).map (ren D (toCallee [fN, rN])) = [.ptr (0, 0) 0, .isl (bs []) 0] := by
          simp only [List.map_cons, List.map_nil, ren_ptrF, toCallee_eq, idx0, Option.map_some, ptrO_some, ibs_ren, List.length_nil]
        have hp : plainRes (.tup [], [some (HsC (stN all) (.sl (0, 1) 0 0 (some 0) 1) all.length), some (bs [])], []) = true := by
          simp [plainRes, noImm_HsC, noImm_bs]; rfl
        rw [ha, List.map_cons, List.map_cons, List.map_nil, HsC_ren, ren_slF, toCallee_eq, idx1 _ _ _ hne, Option.map_some, slO_some, bs_ren, envC_cal, hw, resK_any _ _ _ _ hp, backTo_eq]
        simp only [ren_tup0, HsC_ren, ren_slF, toCaller_0, List.getElem?_cons_succ, List.getElem?_cons_zero, slO_some, List.map_nil, bs_ren, List.zipWith_cons_cons, List.zipWith_nil_left, Option.map_some]
      refine ⟨rN, _, _, H, hcall, ?_, ⟨hne, some 0, [], ?_, ?_, ?_⟩, .inr ⟨rfl, rfl⟩, fun _ _ _ _ => rfl⟩
      · simp only [updN_nil, modN_cons, modN_nil]
        rw [upd_id h2, upd_id h1]
      · rw [List.append_nil, hr0]; exact ⟨Nat.le_refl _, rfl, .inr ⟨rfl, rfl⟩⟩
      · rw [List.append_nil, hl0]; exact h1
      · exact h2
    · obtain ⟨l', hw, ht, hl⟩ := writeC (K - (rsN all ++ bb).length / 64 - 100) (stN all) all.length bb (rsN all ++ bb) (by rw [hr0, List.nil_append]) hb0 (by omega) (by omega)
      rw [show K - (rsN all ++ bb).length / 64 - 100 + (rsN all ++ bb).length / 64 + 100 = K by omega] at hw
      refine fin (some []) l' ht hl ?_
      rw [hl0]
      exact hw

theorem write_0 {K b : Nat} {H : Heap} {fN : Nm} {B : LV} {r : Option Out} (hc : callOp (envC C K) H b 23 [.ptr fN 0, B] = r) (h : H0 H fN) (hB : Lent H B [] [fN]) (hK : 200 ≤ K) :
    ∃ ms, r = some ⟨.tup [], [], ms⟩ ∧ modN ms H = H := by
  subst hc
  have hw := write_call0 (K - 3) b H fN ini 0 (by omega) B h hB
  rw [show K - 3 + 3 = K by omega] at hw
  exact ⟨_, hw, by simp only [modN_cons, modN_nil]; exact upd_id h⟩
theorem write_1 {K b : Nat} {H : Heap} {fN : Nm} {B : LV} {bb : List (BitVec 8)} {r : Option Out} (hc : callOp (envC C K) H b 23 [.ptr fN 0, B] = r) (h : H0 H fN) (hB : Lent H B bb [fN]) (hb : bb ≠ [])
    (hlen : bb.length ≤ 211106232000000) (hK : bb.length / 64 + 200 ≤ K) (hf : fN.1 ≠ b) :
    ∃ news ms H2, r = some ⟨.tup [], news, ms⟩ ∧ updN b 0 news (modN ms H) = H2 ∧ HG H2 fN (b, 0) bb ∧ ∀ m, m ≠ fN → m.1 ≠ b → H2 m = H m := by
  subst hc
  obtain ⟨l', hw, ht, hl⟩ := writeA (K - bb.length / 64 - 100) ini 0 bb bb rfl hb (by omega) (by omega)
  rw [show K - bb.length / 64 - 100 + bb.length / 64 + 100 = K by omega] at hw
  simp only [Nat.zero_add] at hw
  have hcall := write_callA K b H fN _ _ _ _ _ B bb l' h hB hw
  have hne : fN ≠ (b, 0) := by intro e; exact hf (by rw [e])
  refine ⟨_, _, _, hcall, rfl, ⟨hne, none, l', ?_, ?_, ?_⟩, ?_⟩
  · rw [rsN_length]; exact ⟨hl, ht, .inl rfl⟩
  · simp only [updN_cons, updN_nil, modN_cons, modN_nil, upd_at, if_neg hne, if_true]
    rw [rsN_length]; rfl
  · simp only [updN_cons, updN_nil, upd_at, if_true]
  · intro m a1 a3
    simp only [updN_cons, updN_nil, modN_cons, modN_nil, upd_at, if_neg a1, if_neg (show m ≠ (b, 0) by intro e; exact a3 (by rw [e]))]

/-- the digest of what came; nothing is changed -/
theorem sum_G {K b : Nat} {H : Heap} {fN rN : Nm} {all : List (BitVec 8)} {r : Option Out} (hc : callOp (envC C K) H b 24 [.ptr fN 0] = r) (h : HG H fN rN all) (hlen : all.length ≤ 211106232000000) (hK : 300 ≤ K) :
    ∃ x y, r = some ⟨.agg (aB 32 (dig all)), [], [(fN, x), (rN, y)]⟩ ∧ H fN = x ∧ H rN = y := by
  subst hc
  obtain ⟨hne, c, l, ⟨hle, htk, hcap⟩, h1, h2⟩ := h
  have hrl := rsN_length all
  have hz := zs_lt all.length
  have hfl := fb_length all.length 8
  have hal : (rsN all ++ fb all.length 8).length = (rsN all).length + (zs all.length + 1 + 8) := by rw [List.length_append, hfl]
  have hs : F C K 24 [.ptr (0, 0) 0] [HsC (stN all) (.sl (0, 1) 0 (rsN all).length c 1) all.length, bs l] = some (.agg (aB 32 (dig all)), [some (HsC (stN all) (.sl (0, 1) 0 (rsN all).length c 1) all.length), some (bs l)], []) := by
    rw [dig_rs]
    by_cases h0 : rsN all = []
    · rw [h0, List.nil_append, List.length_nil]
      have e : K - (fb all.length 8).length / 64 - 101 + (fb all.length 8).length / 64 + 101 = K := by omega
      rcases hcap with rfl | ⟨rfl, rfl⟩
      · have := sumZ (K - (fb all.length 8).length / 64 - 101) (stN all) all.length l (by omega)
        rw [e] at this; exact this
      · have := sumC (K - (fb all.length 8).length / 64 - 101) (stN all) all.length [] (by omega) rfl
        rw [e] at this; exact this
    · rcases hcap with rfl | ⟨rfl, rfl⟩
      · have hp : 0 < (rsN all).length := List.length_pos_iff.2 h0
        have := sumB (K - (rsN all ++ fb all.length 8).length / 64 - 101) (stN all) all.length (rsN all).length l (by omega) hle hp (by omega)
        rw [htk, show K - (rsN all ++ fb all.length 8).length / 64 - 101 + (rsN all ++ fb all.length 8).length / 64 + 101 = K by omega] at this
        exact this
      · exact absurd (by rw [← htk]; simp) h0
  exact ⟨_, _, ptr_callG K b 24 l24 H fN rN _ _ _ _ l h1 h2 hne _ _ [] [] hs (aB_agg_ren _ _ _) rfl, h1, h2⟩
theorem sum_0 {K b : Nat} {H : Heap} {fN : Nm} {r : Option Out} (hc : callOp (envC C K) H b 24 [.ptr fN 0] = r) (h : H0 H fN) (hK : 300 ≤ K) :
    ∃ x, r = some ⟨.agg (aB 32 (dig [])), [], [(fN, x)]⟩ ∧ H fN = x := by
  subst hc
  have hf0 := fb_length 0 8
  have hz0 := zs_lt 0
  have hs := sumA (K - (fb 0 8).length / 64 - 101) ini 0 (by omega)
  rw [show K - (fb 0 8).length / 64 - 101 + (fb 0 8).length / 64 + 101 = K by omega] at hs
  exact ⟨_, ptr_callA K b 24 l24 H fN ini 0 h _ _ [] [] hs (aB_agg_ren _ _ _) rfl, h⟩
theorem len_1 {K b : Nat} {H : Heap} {fN rN : Nm} {all : List (BitVec 8)} {r : Option Out} (hc : callOp (envC C K) H b 25 [.ptr fN 0] = r) (h : HG H fN rN all) (hK : 1 ≤ K) :
    ∃ x y, r = some ⟨N all.length, [], [(fN, x), (rN, y)]⟩ ∧ H fN = x ∧ H rN = y := by
  subst hc
  obtain ⟨hne, c, l, hr, h1, h2⟩ := h
  have hs := len_G (K - 1) (stN all) all.length (rsN all).length c l
  rw [show K - 1 + 1 = K by omega] at hs
  exact ⟨_, _, ptr_callG K b 25 l25 H fN rN _ _ _ _ l h1 h2 hne _ _ [] [] hs (ren_N _ _) rfl, h1, h2⟩
theorem len_0 {K b : Nat} {H : Heap} {fN : Nm} {r : Option Out} (hc : callOp (envC C K) H b 25 [.ptr fN 0] = r) (h : H0 H fN) (hK : 1 ≤ K) :
    ∃ x, r = some ⟨N 0, [], [(fN, x)]⟩ ∧ H fN = x := by
  subst hc
  have hs := len_F (K - 1) ini 0
  rw [show K - 1 + 1 = K by omega] at hs
  exact ⟨_, ptr_callA K b 25 l25 H fN ini 0 h _ _ [] [] hs (ren_N _ _) rfl, h⟩

/-- a copy -/
theorem fork_G {K b : Nat} {H : Heap} {fN rN : Nm} {all : List (BitVec 8)} {r : Option Out} (hc : callOp (envC C K) H b 22 [.ptr fN 0] = r) (h : HG H fN rN all) (hlen : all.length ≤ 211106232000000) (hK : 2 ≤ K) (hf : fN.1 ≠ b) (hr : rN.1 ≠ b) :
    ∃ c1 c2 x y H2, r = some ⟨.ptr (b, 0) 0, [c1, c2], [(fN, x), (rN, y)]⟩ ∧ H fN = x ∧ H rN = y ∧ upd (upd H (b, 0) (some c1)) (b, 1) (some c2) = H2 ∧ HG H2 (b, 0) (b, 1) all ∧ HG H2 fN rN all ∧ ∀ m, m.1 ≠ b → H2 m = H m := by
  subst hc
  have hG := h
  obtain ⟨hne, c, l, ⟨hle, htk, hcap⟩, h1, h2⟩ := h
  have hrl := rsN_length all
  have hcl : ∃ c' l', RF (rsN all).length c' l' (rsN all) ∧ F C (K - 2 + 1) 40 [.sl (0, 0) 0 (rsN all).length c 1] [bs l] = some (.sl (1, 0) 0 (rsN all).length c' 1, [some (bs l)], [bs l']) := by
    by_cases h0 : rsN all = []
    · rw [h0, List.length_nil]
      rcases hcap with rfl | ⟨rfl, rfl⟩
      · exact ⟨some 0, [], ⟨Nat.le_refl _, rfl, .inr ⟨rfl, rfl⟩⟩, clone_0 _ l⟩
      · exact ⟨some 0, [], ⟨Nat.le_refl _, rfl, .inr ⟨rfl, rfl⟩⟩, clone_C _⟩
    · rcases hcap with rfl | ⟨rfl, rfl⟩
      · have hp : 0 < (rsN all).length := List.length_pos_iff.2 h0
        exact ⟨none, _, ⟨by rw [List.length_take]; omega, by rw [htk, List.take_of_length_le (Nat.le_refl _)], .inl rfl⟩, clone_F _ _ l hle hp (by omega)⟩
      · exact absurd (by rw [← htk]; simp) h0
  obtain ⟨c', l', hrf, hcl⟩ := hcl
  have hs := forkG (K - 2) (stN all) all.length _ _ c c' l l' hcl
  rw [show K - 2 + 2 = K by omega] at hs
  have hcall := ptr_callG K b 22 l22 H fN rN _ _ _ _ l h1 h2 hne (.ptr (1, 0) 0) (.ptr (b, 0) 0) _ [HsC (stN all) (.sl (b, 1) 0 (rsN all).length c' 1) all.length, bs l'] hs
    (by simp only [ren_ptrF, toCaller_1, List.length_cons, List.length_nil, Nat.zero_add, Nat.reduceAdd, Nat.reduceLT, ptrO_some]) (by simp only [List.map_cons, List.map_nil, HsC_ren, bs_ren, ren_slF, toCaller_1, List.length_cons, List.length_nil, Nat.zero_add, Nat.reduceAdd, Nat.reduceLT, slO_some])
  have e0 : ∀ m : Nm, m.1 ≠ b → m ≠ (b, 0) := fun m hm e => hm (by rw [e])
  have e1 : ∀ m : Nm, m.1 ≠ b → m ≠ (b, 1) := fun m hm e => hm (by rw [e])
  refine ⟨_, _, _, _, _, hcall, h1, h2, rfl, ⟨by simp, c', l', hrf, ?_, ?_⟩, hG.congr ?_ ?_, ?_⟩
  · simp [upd_at]
  · simp [upd_at]
  · simp only [upd_at, if_neg (e0 fN hf), if_neg (e1 fN hf)]
  · simp only [upd_at, if_neg (e0 rN hr), if_neg (e1 rN hr)]
  · intro m hm
    simp only [upd_at, if_neg (e0 m hm), if_neg (e1 m hm)]
theorem fork_0 {K b : Nat} {H : Heap} {fN : Nm} {r : Option Out} (hc : callOp (envC C K) H b 22 [.ptr fN 0] = r) (h : H0 H fN) (hK : 2 ≤ K) (hf : fN.1 ≠ b) :
    ∃ x, r = some ⟨.ptr (b, 0) 0, [HsC ini Nil 0], [(fN, x)]⟩ ∧ H fN = x := by
  subst hc
  have hs := forkA (K - 2) ini 0
  rw [show K - 2 + 2 = K by omega] at hs
  exact ⟨_, ptr_callA K b 22 l22 H fN ini 0 h (.ptr (1, 0) 0) (.ptr (b, 0) 0) _ [HsC ini Nil 0] hs (by simp only [ren_ptrF, toCaller_1, List.length_cons, List.length_nil, Nat.zero_add, Nat.lt_one_iff, ptrO_some]) (by simp only [List.map_cons, List.map_nil, HsC_ren, ren_nil]), h⟩

end Sha
