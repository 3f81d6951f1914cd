/- FieldOrders' loops, evaluated. -/
import Derived.Test.YtmaiodokoaffbaaLePowerF
import Derived.Test.YtmaiodokoaffbaaLeRBox
set_option linter.unusedVariables false
set_option linter.unusedSimpArgs false
namespace Field
open Go Go.LE

/-! ### the first: powers of a byte -/

def bpow (a : BitVec 8) : Nat → BitVec 8 → BitVec 8
  | 0, p => p
  | n + 1, p => bpow a n (GF.mul 27#8 p a)

def o1 (a p : BitVec 8) (i : Int) (H : Heap) : St := ⟨[B8 a, .undef, .undef, .ptr (1, 0) 0, .undef, B8 p, I i, .undef, .undef, .undef, .undef, .undef, .undef, .undef, .undef, .undef, .undef, .undef, .undef, .undef, .undef, .undef, .undef, .undef, .undef, Un, Un, Un, Un, Un, Un, Un, Un, Un, Un, .undef, .undef, Un, Un, Un, Un, Un, .undef, .undef, Un, Un, Un, Un, Un, .undef], H, 2, 0⟩

theorem o1_round (k K : Nat) (a p : BitVec 8) (i : Nat) (h255 : i < 255) (H : Heap) (t : BitVec 128) (hT : H (1, 0) = some [B64 (lo t), B64 (hi t)]) :
    ∃ st1, ev (envC C (k + 10)) K L7b1 (o1 a p (i : Int) H) = some (.normal, st1) ∧
      ∃ H1, canon L7k1 st1 = o1 a (GF.mul 27#8 p a) ((i + 1 : Nat) : Int) H1 ∧ H1 (1, 0) = some [B64 (lo t), B64 (Field.hi t)] := by
  have h : (i : Int) < 255 := by omega
  apply Exists.intro
  apply And.intro
  · simp only [funSem_eq, ev_skip, ev_ret, ev_exit, ev_seq, ev_block, ev_region, regK_some, evOpers_nil, evOpers_cons, evOpers_cons_g, stepK_pure, guardK_true, guardK_false, guardK_true', guardK_false', guardK_un, put_some, put_none, evX_t, evX_c, outR_some, pickV_true, pickV_false, op_mv, op_pick, op_bin, op_un, op_cvt, op_call, callV_fn, andThen_normal, andThen_ret, andThen_exit, inBlock_normal, inBlock_ret, inBlock_exit, ev_cond, condK_true, condK_false, retK_ret, retK_normal, resVal_tmp, nms_B8, nms_B32, nms_B64, nms_I, nms_Bo, nms_Un, ren_B8, ren_B32, ren_B64, ren_I, ren_Bo, ren_Un, envC_cal, envC_borrow, List.set_cons_zero, List.set_cons_succ, List.getD_cons_zero, List.getD_cons_succ, List.map_cons, List.map_nil, List.flatMap_cons, List.flatMap_nil, List.nil_append, List.cons_append, List.append_nil, repUn_succ, List.replicate_zero, List.length_cons, List.length_nil, B8_add, B8_mul, B8_sub, B8_and, B8_or, B8_xor, B8_andNot, B8_eql, B8_neq, B8_lss, B8_leq, B8_gtr, B8_geq, B8_not, B8_neg, B8_nat, B8_shl8, B8_shr8, B8_shl32, B8_shr32, B8_shl64, B8_shr64, cvt_8_8, cvt_8_32, cvt_8_64, B32_add, B32_mul, B32_sub, B32_and, B32_or, B32_xor, B32_andNot, B32_eql, B32_neq, B32_lss, B32_leq, B32_gtr, B32_geq, B32_not, B32_neg, B32_nat, B32_shl8, B32_shr8, B32_shl32, B32_shr32, B32_shl64, B32_shr64, cvt_32_8, cvt_32_32, cvt_32_64, B64_add, B64_mul, B64_sub, B64_and, B64_or, B64_xor, B64_andNot, B64_eql, B64_neq, B64_lss, B64_leq, B64_gtr, B64_geq, B64_not, B64_neg, B64_nat, B64_shl8, B64_shr8, B64_shl32, B64_shr32, B64_shl64, B64_shr64, cvt_64_8, cvt_64_32, cvt_64_64, cvt_I_8, cvt_I_32, cvt_I_64, cvt_8_I, cvt_32_I, cvt_I64, I_eql, I_neq, I_lss, I_leq, I_gtr, I_geq, Bo_eql, Bo_neq, Bo_not, callOp_C, calK_B8, calK_B32, calK_B64, calK_I, calK_Bo, outOf_B8, outOf_B32, outOf_B64, outOf_I, outOf_Bo, Option.map_some, BitVec.toNat_ofNat, ev_loop, Nat.reduceAdd, Nat.reduceSub, B8_rem, B32_rem, B64_rem, B8_quo, B32_quo, B64_quo, upd_at, stepK_new, stepK_mod, cellsOf_agg, cellsOf_B8, cellsOf_B32, cellsOf_B64, cellsOf_I, cellsOf_Bo, isCell_B8, isCell_B32, isCell_B64, isCell_I, isCell_Bo, cellAt_ptr, cellK_some, ld1K_some, ldK_some, op_ld1, op_ld, op_new, op_box, boxK_some, op_st, stV_ptr, stK_some, op_fa, faV_ptr, op_iaA, iaV_ptr, fill_nil, fill_cons, fillK_some, aggR_some, op_build, agg_Hf, cellsOf_Hf, nms_Hf, ren_Hf, calK_Hf, outOf_Hf, Hf_eql, splice, List.take_succ_cons, List.take_zero, List.drop_succ_cons, List.drop_zero, List.drop_nil, List.take_nil, List.all_cons, List.all_nil, Bool.and_true, Bool.true_and, Prod.mk.injEq, Nat.reduceEqDiff, Nat.reduceLeDiff, Nat.reduceLT, and_true, true_and, and_false, false_and, and_self, if_true, if_false, reduceIte, Nat.zero_add, Nat.add_zero, Nat.le_refl, decide_true, decide_false, Nat.one_ne_zero, Nat.zero_ne_one, resVal_agg, resVal_one, aggV_some, oneV_some, resVal_tt, Nat.reducePow, Nat.reduceMod, op_ix1, ix1V_agg, ix1V_Hf, L7b1, o1, h, mul_F, I_succ _ i (by omega)]
    rfl
  · exact canon_goal [(1, 0)] rfl (fun _ => rfl) (by simp only [canonNames, FUEL, reach_cons, reachK_some, reach_nil, nms_ptr, nms_sl, nms_B8, nms_B32, nms_B64, nms_I, nms_Bo, nms_Un, nms_undef, nms_Hf, List.flatMap_cons, List.flatMap_nil, List.nil_append, List.cons_append, List.append_nil, List.range_zero, List.map_nil, List.map_cons, List.contains_nil, List.contains_cons, Prod.mk.injEq, beq_iff_eq, Bool.or_eq_true, Bool.false_eq_true, Nat.reduceEqDiff, Nat.reduceBEq, and_true, true_and, and_false, false_and, or_false, or_true, false_or, if_true, if_false, reduceIte, Nat.one_ne_zero, Nat.zero_ne_one, List.filter_cons, List.filter_nil, bne_iff_ne, ne_eq, not_false_eq_true, not_true_eq_false, upd_at, Nat.reduceAdd, mask_nil, mask_true, mask_false, L7k1, hT]) rfl (cN_same (1, 0) rfl hT rfl)

theorem o1_loop (k K : Nat) (a : BitVec 8) (t : BitVec 128) : ∀ (n m i : Nat) (st : St) (p : BitVec 8) (H : Heap), canon L7k1 st = o1 a p (i : Int) H → H (1, 0) = some [B64 (lo t), B64 (hi t)] → i + n = 255 →
    ∃ H', loopN L7k1 (ev (envC C (k + 10)) K L7b1) (m + n + 1) st =
      some (.exit 0, ⟨[B8 a, .undef, .undef, .ptr (1, 0) 0, .undef, B8 (bpow a n p), I 255, .undef, .undef, I 255, Bo false, .undef, .undef, .undef, .undef, .undef, .undef, .undef, .undef, .undef, .undef, .undef, .undef, .undef, .undef, Un, Un, Un, Un, Un, Un, Un, Un, Un, Un, .undef, .undef, Un, Un, Un, Un, Un, .undef, .undef, Un, Un, Un, Un, Un, .undef], H', 4, 0⟩) ∧ H' (1, 0) = some [B64 (lo t), B64 (hi t)] := by
  intro n
  induction n with
  | zero =>
    intro m i st p H hc hT hi
    have hi : i = 255 := by omega
    subst hi
    refine ⟨H, loopN_stop hc ?_, hT⟩
    simp only [funSem_eq, ev_skip, ev_ret, ev_exit, ev_seq, ev_block, ev_region, regK_some, evOpers_nil, evOpers_cons, evOpers_cons_g, stepK_pure, guardK_true, guardK_false, guardK_true', guardK_false', guardK_un, put_some, put_none, evX_t, evX_c, outR_some, pickV_true, pickV_false, op_mv, op_pick, op_bin, op_un, op_cvt, op_call, callV_fn, andThen_normal, andThen_ret, andThen_exit, inBlock_normal, inBlock_ret, inBlock_exit, ev_cond, condK_true, condK_false, retK_ret, retK_normal, resVal_tmp, nms_B8, nms_B32, nms_B64, nms_I, nms_Bo, nms_Un, ren_B8, ren_B32, ren_B64, ren_I, ren_Bo, ren_Un, envC_cal, envC_borrow, List.set_cons_zero, List.set_cons_succ, List.getD_cons_zero, List.getD_cons_succ, List.map_cons, List.map_nil, List.flatMap_cons, List.flatMap_nil, List.nil_append, List.cons_append, List.append_nil, repUn_succ, List.replicate_zero, List.length_cons, List.length_nil, B8_add, B8_mul, B8_sub, B8_and, B8_or, B8_xor, B8_andNot, B8_eql, B8_neq, B8_lss, B8_leq, B8_gtr, B8_geq, B8_not, B8_neg, B8_nat, B8_shl8, B8_shr8, B8_shl32, B8_shr32, B8_shl64, B8_shr64, cvt_8_8, cvt_8_32, cvt_8_64, B32_add, B32_mul, B32_sub, B32_and, B32_or, B32_xor, B32_andNot, B32_eql, B32_neq, B32_lss, B32_leq, B32_gtr, B32_geq, B32_not, B32_neg, B32_nat, B32_shl8, B32_shr8, B32_shl32, B32_shr32, B32_shl64, B32_shr64, cvt_32_8, cvt_32_32, cvt_32_64, B64_add, B64_mul, B64_sub, B64_and, B64_or, B64_xor, B64_andNot, B64_eql, B64_neq, B64_lss, B64_leq, B64_gtr, B64_geq, B64_not, B64_neg, B64_nat, B64_shl8, B64_shr8, B64_shl32, B64_shr32, B64_shl64, B64_shr64, cvt_64_8, cvt_64_32, cvt_64_64, cvt_I_8, cvt_I_32, cvt_I_64, cvt_8_I, cvt_32_I, cvt_I64, I_eql, I_neq, I_lss, I_leq, I_gtr, I_geq, Bo_eql, Bo_neq, Bo_not, callOp_C, calK_B8, calK_B32, calK_B64, calK_I, calK_Bo, outOf_B8, outOf_B32, outOf_B64, outOf_I, outOf_Bo, Option.map_some, BitVec.toNat_ofNat, ev_loop, Nat.reduceAdd, Nat.reduceSub, B8_rem, B32_rem, B64_rem, B8_quo, B32_quo, B64_quo, upd_at, stepK_new, stepK_mod, cellsOf_agg, cellsOf_B8, cellsOf_B32, cellsOf_B64, cellsOf_I, cellsOf_Bo, isCell_B8, isCell_B32, isCell_B64, isCell_I, isCell_Bo, cellAt_ptr, cellK_some, ld1K_some, ldK_some, op_ld1, op_ld, op_new, op_box, boxK_some, op_st, stV_ptr, stK_some, op_fa, faV_ptr, op_iaA, iaV_ptr, fill_nil, fill_cons, fillK_some, aggR_some, op_build, agg_Hf, cellsOf_Hf, nms_Hf, ren_Hf, calK_Hf, outOf_Hf, Hf_eql, splice, List.take_succ_cons, List.take_zero, List.drop_succ_cons, List.drop_zero, List.drop_nil, List.take_nil, List.all_cons, List.all_nil, Bool.and_true, Bool.true_and, Prod.mk.injEq, Nat.reduceEqDiff, Nat.reduceLeDiff, Nat.reduceLT, and_true, true_and, and_false, false_and, and_self, if_true, if_false, reduceIte, Nat.zero_add, Nat.add_zero, Nat.le_refl, decide_true, decide_false, Nat.one_ne_zero, Nat.zero_ne_one, resVal_agg, resVal_one, aggV_some, oneV_some, resVal_tt, Nat.reducePow, Nat.reduceMod, op_ix1, ix1V_agg, ix1V_Hf, L7b1, o1, show ¬ (((255 : Nat) : Int) < 255) by decide]
    rfl
  | succ n ih =>
    intro m i st p H hc hT hi
    obtain ⟨st1, hr, H1, hc1, hT1⟩ := o1_round k K a p i (by omega) H t hT
    obtain ⟨H', e, hT'⟩ := ih (m := m) (i + 1) st1 _ _ hc1 hT1 (by omega)
    refine ⟨H', ?_, hT'⟩
    rw [bpow, ← e]
    exact loopN_next hc hr

/-! ### the second: doublings -/

def o2 (a p : BitVec 8) (i : Int) (H : Heap) : St := ⟨[B8 a, .undef, .undef, .ptr (1, 0) 0, .undef, B8 p, .undef, .ptr (1, 1) 0, I i, .undef, .undef, .undef, .undef, .undef, .undef, .undef, .undef, .undef, .undef, .undef, .undef, .undef, .undef, .undef, .undef, Un, Un, Un, Un, Un, Un, Un, Un, Un, Un, .undef, .undef, Un, Un, Un, Un, Un, .undef, .undef, Un, Un, Un, Un, Un, .undef], H, 2, 0⟩

structure OF (H : Heap) (t b : BitVec 128) : Prop where
  t : H (1, 0) = some [B64 (lo t), B64 (hi t)]
  b : H (1, 1) = some [B64 (lo b), B64 (hi b)]

theorem o2_round (k K : Nat) (a p : BitVec 8) (i : Nat) (h8 : i < 8) (H : Heap) (t b : BitVec 128) (hT : OF H t b) :
    ∃ st1, ev (envC C (k + 1)) K L7b0 (o2 a p (i : Int) H) = some (.normal, st1) ∧
      ∃ H1, canon L7k0 st1 = o2 a p ((i + 1 : Nat) : Int) H1 ∧ OF H1 t (GF.dbl 135#128 b) := by
  have h : (i : Int) < 8 := by omega
  have h1 := hT.t
  have h2 := hT.b
  apply Exists.intro
  apply And.intro
  · simp only [funSem_eq, ev_skip, ev_ret, ev_exit, ev_seq, ev_block, ev_region, regK_some, evOpers_nil, evOpers_cons, evOpers_cons_g, stepK_pure, guardK_true, guardK_false, guardK_true', guardK_false', guardK_un, put_some, put_none, evX_t, evX_c, outR_some, pickV_true, pickV_false, op_mv, op_pick, op_bin, op_un, op_cvt, op_call, callV_fn, andThen_normal, andThen_ret, andThen_exit, inBlock_normal, inBlock_ret, inBlock_exit, ev_cond, condK_true, condK_false, retK_ret, retK_normal, resVal_tmp, nms_B8, nms_B32, nms_B64, nms_I, nms_Bo, nms_Un, ren_B8, ren_B32, ren_B64, ren_I, ren_Bo, ren_Un, envC_cal, envC_borrow, List.set_cons_zero, List.set_cons_succ, List.getD_cons_zero, List.getD_cons_succ, List.map_cons, List.map_nil, List.flatMap_cons, List.flatMap_nil, List.nil_append, List.cons_append, List.append_nil, repUn_succ, List.replicate_zero, List.length_cons, List.length_nil, B8_add, B8_mul, B8_sub, B8_and, B8_or, B8_xor, B8_andNot, B8_eql, B8_neq, B8_lss, B8_leq, B8_gtr, B8_geq, B8_not, B8_neg, B8_nat, B8_shl8, B8_shr8, B8_shl32, B8_shr32, B8_shl64, B8_shr64, cvt_8_8, cvt_8_32, cvt_8_64, B32_add, B32_mul, B32_sub, B32_and, B32_or, B32_xor, B32_andNot, B32_eql, B32_neq, B32_lss, B32_leq, B32_gtr, B32_geq, B32_not, B32_neg, B32_nat, B32_shl8, B32_shr8, B32_shl32, B32_shr32, B32_shl64, B32_shr64, cvt_32_8, cvt_32_32, cvt_32_64, B64_add, B64_mul, B64_sub, B64_and, B64_or, B64_xor, B64_andNot, B64_eql, B64_neq, B64_lss, B64_leq, B64_gtr, B64_geq, B64_not, B64_neg, B64_nat, B64_shl8, B64_shr8, B64_shl32, B64_shr32, B64_shl64, B64_shr64, cvt_64_8, cvt_64_32, cvt_64_64, cvt_I_8, cvt_I_32, cvt_I_64, cvt_8_I, cvt_32_I, cvt_I64, I_eql, I_neq, I_lss, I_leq, I_gtr, I_geq, Bo_eql, Bo_neq, Bo_not, callOp_C, calK_B8, calK_B32, calK_B64, calK_I, calK_Bo, outOf_B8, outOf_B32, outOf_B64, outOf_I, outOf_Bo, Option.map_some, BitVec.toNat_ofNat, ev_loop, Nat.reduceAdd, Nat.reduceSub, B8_rem, B32_rem, B64_rem, B8_quo, B32_quo, B64_quo, upd_at, stepK_new, stepK_mod, cellsOf_agg, cellsOf_B8, cellsOf_B32, cellsOf_B64, cellsOf_I, cellsOf_Bo, isCell_B8, isCell_B32, isCell_B64, isCell_I, isCell_Bo, cellAt_ptr, cellK_some, ld1K_some, ldK_some, op_ld1, op_ld, op_new, op_box, boxK_some, op_st, stV_ptr, stK_some, op_fa, faV_ptr, op_iaA, iaV_ptr, fill_nil, fill_cons, fillK_some, aggR_some, op_build, agg_Hf, cellsOf_Hf, nms_Hf, ren_Hf, calK_Hf, outOf_Hf, Hf_eql, splice, List.take_succ_cons, List.take_zero, List.drop_succ_cons, List.drop_zero, List.drop_nil, List.take_nil, List.all_cons, List.all_nil, Bool.and_true, Bool.true_and, Prod.mk.injEq, Nat.reduceEqDiff, Nat.reduceLeDiff, Nat.reduceLT, and_true, true_and, and_false, false_and, and_self, if_true, if_false, reduceIte, Nat.zero_add, Nat.add_zero, Nat.le_refl, decide_true, decide_false, Nat.one_ne_zero, Nat.zero_ne_one, resVal_agg, resVal_one, aggV_some, oneV_some, resVal_tt, Nat.reducePow, Nat.reduceMod, op_ix1, ix1V_agg, ix1V_Hf, L7b0, o2, h, h1, h2, dbl_F, I_succ _ i (by omega)]
    rfl
  · exact canon_goal [(1, 0), (1, 1)] rfl (fun _ => rfl) (by simp only [canonNames, FUEL, reach_cons, reachK_some, reach_nil, nms_ptr, nms_sl, nms_B8, nms_B32, nms_B64, nms_I, nms_Bo, nms_Un, nms_undef, nms_Hf, List.flatMap_cons, List.flatMap_nil, List.nil_append, List.cons_append, List.append_nil, List.range_zero, List.map_nil, List.map_cons, List.contains_nil, List.contains_cons, Prod.mk.injEq, beq_iff_eq, Bool.or_eq_true, Bool.false_eq_true, Nat.reduceEqDiff, Nat.reduceBEq, and_true, true_and, and_false, false_and, or_false, or_true, false_or, if_true, if_false, reduceIte, Nat.one_ne_zero, Nat.zero_ne_one, List.filter_cons, List.filter_nil, bne_iff_ne, ne_eq, not_false_eq_true, not_true_eq_false, upd_at, Nat.reduceAdd, mask_nil, mask_true, mask_false, L7k0, h1, h2]) rfl
      ⟨cN_same (1, 0) rfl (by simp only [upd_at, stepK_new, stepK_mod, cellsOf_agg, cellsOf_B8, cellsOf_B32, cellsOf_B64, cellsOf_I, cellsOf_Bo, isCell_B8, isCell_B32, isCell_B64, isCell_I, isCell_Bo, cellAt_ptr, cellK_some, ld1K_some, ldK_some, op_ld1, op_ld, op_new, op_box, boxK_some, op_st, stV_ptr, stK_some, op_fa, faV_ptr, op_iaA, iaV_ptr, fill_nil, fill_cons, fillK_some, aggR_some, op_build, agg_Hf, cellsOf_Hf, nms_Hf, ren_Hf, calK_Hf, outOf_Hf, Hf_eql, splice, List.take_succ_cons, List.take_zero, List.drop_succ_cons, List.drop_zero, List.drop_nil, List.take_nil, List.all_cons, List.all_nil, Bool.and_true, Bool.true_and, Prod.mk.injEq, Nat.reduceEqDiff, Nat.reduceLeDiff, Nat.reduceLT, and_true, true_and, and_false, false_and, and_self, if_true, if_false, reduceIte, Nat.zero_add, Nat.add_zero, Nat.le_refl, decide_true, decide_false, Nat.one_ne_zero, Nat.zero_ne_one, resVal_agg, resVal_one, aggV_some, oneV_some, resVal_tt, Nat.reducePow, Nat.reduceMod, op_ix1, ix1V_agg, ix1V_Hf, h1]) rfl, cN_same (1, 1) rfl (by simp only [upd_at, stepK_new, stepK_mod, cellsOf_agg, cellsOf_B8, cellsOf_B32, cellsOf_B64, cellsOf_I, cellsOf_Bo, isCell_B8, isCell_B32, isCell_B64, isCell_I, isCell_Bo, cellAt_ptr, cellK_some, ld1K_some, ldK_some, op_ld1, op_ld, op_new, op_box, boxK_some, op_st, stV_ptr, stK_some, op_fa, faV_ptr, op_iaA, iaV_ptr, fill_nil, fill_cons, fillK_some, aggR_some, op_build, agg_Hf, cellsOf_Hf, nms_Hf, ren_Hf, calK_Hf, outOf_Hf, Hf_eql, splice, List.take_succ_cons, List.take_zero, List.drop_succ_cons, List.drop_zero, List.drop_nil, List.take_nil, List.all_cons, List.all_nil, Bool.and_true, Bool.true_and, Prod.mk.injEq, Nat.reduceEqDiff, Nat.reduceLeDiff, Nat.reduceLT, and_true, true_and, and_false, false_and, and_self, if_true, if_false, reduceIte, Nat.zero_add, Nat.add_zero, Nat.le_refl, decide_true, decide_false, Nat.one_ne_zero, Nat.zero_ne_one, resVal_agg, resVal_one, aggV_some, oneV_some, resVal_tt, Nat.reducePow, Nat.reduceMod, op_ix1, ix1V_agg, ix1V_Hf]) rfl⟩

theorem o2_loop (k K : Nat) (a p : BitVec 8) (t : BitVec 128) : ∀ (n m i : Nat) (st : St) (b : BitVec 128) (H : Heap), canon L7k0 st = o2 a p (i : Int) H → OF H t b → i + n = 8 →
    ∃ H', loopN L7k0 (ev (envC C (k + 1)) K L7b0) (m + n + 1) st =
      some (.exit 2, ⟨[B8 a, .undef, .undef, .ptr (1, 0) 0, .undef, B8 p, .undef, .ptr (1, 1) 0, I 8, .undef, .undef, .undef, .undef, .undef, .undef, .undef, .undef, I 8, Bo false, .undef, .undef, .undef, .undef, .undef, .undef, Un, Un, Un, Un, Un, Un, Un, Un, Un, Un, .undef, .undef, Un, Un, Un, Un, Un, .undef, .undef, Un, Un, Un, Un, Un, .undef], H', 4, 0⟩) ∧ OF H' t (GF.dblN 135#128 n b) := by
  intro n
  induction n with
  | zero =>
    intro m i st b H hc hT hi
    have hi : i = 8 := by omega
    subst hi
    refine ⟨H, loopN_stop hc ?_, hT⟩
    simp only [funSem_eq, ev_skip, ev_ret, ev_exit, ev_seq, ev_block, ev_region, regK_some, evOpers_nil, evOpers_cons, evOpers_cons_g, stepK_pure, guardK_true, guardK_false, guardK_true', guardK_false', guardK_un, put_some, put_none, evX_t, evX_c, outR_some, pickV_true, pickV_false, op_mv, op_pick, op_bin, op_un, op_cvt, op_call, callV_fn, andThen_normal, andThen_ret, andThen_exit, inBlock_normal, inBlock_ret, inBlock_exit, ev_cond, condK_true, condK_false, retK_ret, retK_normal, resVal_tmp, nms_B8, nms_B32, nms_B64, nms_I, nms_Bo, nms_Un, ren_B8, ren_B32, ren_B64, ren_I, ren_Bo, ren_Un, envC_cal, envC_borrow, List.set_cons_zero, List.set_cons_succ, List.getD_cons_zero, List.getD_cons_succ, List.map_cons, List.map_nil, List.flatMap_cons, List.flatMap_nil, List.nil_append, List.cons_append, List.append_nil, repUn_succ, List.replicate_zero, List.length_cons, List.length_nil, B8_add, B8_mul, B8_sub, B8_and, B8_or, B8_xor, B8_andNot, B8_eql, B8_neq, B8_lss, B8_leq, B8_gtr, B8_geq, B8_not, B8_neg, B8_nat, B8_shl8, B8_shr8, B8_shl32, B8_shr32, B8_shl64, B8_shr64, cvt_8_8, cvt_8_32, cvt_8_64, B32_add, B32_mul, B32_sub, B32_and, B32_or, B32_xor, B32_andNot, B32_eql, B32_neq, B32_lss, B32_leq, B32_gtr, B32_geq, B32_not, B32_neg, B32_nat, B32_shl8, B32_shr8, B32_shl32, B32_shr32, B32_shl64, B32_shr64, cvt_32_8, cvt_32_32, cvt_32_64, B64_add, B64_mul, B64_sub, B64_and, B64_or, B64_xor, B64_andNot, B64_eql, B64_neq, B64_lss, B64_leq, B64_gtr, B64_geq, B64_not, B64_neg, B64_nat, B64_shl8, B64_shr8, B64_shl32, B64_shr32, B64_shl64, B64_shr64, cvt_64_8, cvt_64_32, cvt_64_64, cvt_I_8, cvt_I_32, cvt_I_64, cvt_8_I, cvt_32_I, cvt_I64, I_eql, I_neq, I_lss, I_leq, I_gtr, I_geq, Bo_eql, Bo_neq, Bo_not, callOp_C, calK_B8, calK_B32, calK_B64, calK_I, calK_Bo, outOf_B8, outOf_B32, outOf_B64, outOf_I, outOf_Bo, Option.map_some, BitVec.toNat_ofNat, ev_loop, Nat.reduceAdd, Nat.reduceSub, B8_rem, B32_rem, B64_rem, B8_quo, B32_quo, B64_quo, upd_at, stepK_new, stepK_mod, cellsOf_agg, cellsOf_B8, cellsOf_B32, cellsOf_B64, cellsOf_I, cellsOf_Bo, isCell_B8, isCell_B32, isCell_B64, isCell_I, isCell_Bo, cellAt_ptr, cellK_some, ld1K_some, ldK_some, op_ld1, op_ld, op_new, op_box, boxK_some, op_st, stV_ptr, stK_some, op_fa, faV_ptr, op_iaA, iaV_ptr, fill_nil, fill_cons, fillK_some, aggR_some, op_build, agg_Hf, cellsOf_Hf, nms_Hf, ren_Hf, calK_Hf, outOf_Hf, Hf_eql, splice, List.take_succ_cons, List.take_zero, List.drop_succ_cons, List.drop_zero, List.drop_nil, List.take_nil, List.all_cons, List.all_nil, Bool.and_true, Bool.true_and, Prod.mk.injEq, Nat.reduceEqDiff, Nat.reduceLeDiff, Nat.reduceLT, and_true, true_and, and_false, false_and, and_self, if_true, if_false, reduceIte, Nat.zero_add, Nat.add_zero, Nat.le_refl, decide_true, decide_false, Nat.one_ne_zero, Nat.zero_ne_one, resVal_agg, resVal_one, aggV_some, oneV_some, resVal_tt, Nat.reducePow, Nat.reduceMod, op_ix1, ix1V_agg, ix1V_Hf, L7b0, o2, show ¬ (((8 : Nat) : Int) < 8) by decide]
    rfl
  | succ n ih =>
    intro m i st b H hc hT hi
    obtain ⟨st1, hr, H1, hc1, hT1⟩ := o2_round k K a p i (by omega) H t b hT
    obtain ⟨H', e, hT'⟩ := ih (m := m) (i + 1) st1 _ _ hc1 hT1 (by omega)
    refine ⟨H', ?_, hT'⟩
    rw [← e]
    exact loopN_next hc hr

/-! ### plain -/

def bp (a : BitVec 8) : Nat → BitVec 8
  | 0 => 1#8
  | n + 1 => GF.mul 27#8 a (bp a n)

theorem bp_add (a : BitVec 8) (m n : Nat) : bp a (m + n) = GF.mul 27#8 (bp a m) (bp a n) := by
  induction m with
  | zero => rw [Nat.zero_add]; exact (GF.one_mul _ _ (by decide)).symm
  | succ m ih => rw [Nat.succ_add]; simp only [bp]; rw [ih, GF.mul_assoc _ _ _ _ (by decide)]

theorem bpow_eq (a : BitVec 8) : ∀ (n j : Nat), bpow a n (bp a j) = bp a (j + n) := by
  intro n
  induction n with
  | zero => intro j; rfl
  | succ n ih =>
    intro j
    rw [bpow, GF.mul_comm _ _ _ (by decide), show GF.mul 27#8 a (bp a j) = bp a (j + 1) from rfl, ih]
    congr 1; omega

theorem invL_eq (a : BitVec 8) : ∀ (n i j : Nat), invL n (bp a i) (bp a j) = bp a (j + (2 ^ (n + 1) - 2) * i) := by
  intro n
  induction n with
  | zero => intro i j; simp [invL]
  | succ n ih =>
    intro i j
    rw [invL, ← bp_add, ← bp_add, ih]
    congr 1
    have h2 : 2 ≤ 2 ^ (n + 1) := by rw [Nat.pow_succ]; have := Nat.one_le_two_pow (n := n); omega
    obtain ⟨d, hd⟩ : ∃ d, 2 ^ (n + 1) = d + 2 := ⟨2 ^ (n + 1) - 2, by omega⟩
    rw [Nat.pow_succ 2 (n + 1), hd, show (d + 2) * 2 - 2 = 2 * d + 2 by omega, show d + 2 - 2 = d by omega, Nat.add_mul, Nat.mul_assoc, show d * (i + i) = 2 * (d * i) by rw [Nat.mul_add]; omega]
    omega

theorem bpow_255 (a : BitVec 8) : bpow a 255 1#8 = if a = 0#8 then 0#8 else 1#8 := by
  have h1 : bpow a 255 1#8 = bp a 255 := by
    have := bpow_eq a 255 0
    rw [Nat.zero_add] at this
    exact this
  have ha : bp a 1 = a := GF.mul_one _ _ (by decide)
  have h2 : inv a = bp a 254 := by
    have := invL_eq a 7 1 0
    rw [ha] at this
    exact this
  rw [h1, show bp a 255 = GF.mul 27#8 a (bp a 254) from rfl, ← h2, mul_inv]

end Field
