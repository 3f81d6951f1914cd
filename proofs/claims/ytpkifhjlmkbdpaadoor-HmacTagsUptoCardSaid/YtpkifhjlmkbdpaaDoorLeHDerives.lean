/- HmacDerives, evaluated. -/
import Derived.Test.YtpkifhjlmkbdpaaDoorLeHReady
set_option linter.unusedVariables false
set_option linter.unusedSimpArgs false

namespace Sha
open Go Go.LE

theorem dO_take (key lbl : List (BitVec 8)) (i : Nat) : ∀ j, i ≤ j → (dO key lbl j).take (32 * i) = dO key lbl i := by
  intro j
  induction j with
  | zero =>
    intro h
    have : i = 0 := by omega
    subst this
    rfl
  | succ j ih =>
    intro h
    by_cases he : i = j + 1
    · subst he; exact List.take_of_length_le (by rw [dO_length]; omega)
    · rw [dO, List.take_append_of_le_length (by rw [dO_length]; omega), ih (by omega)]
/-- a call with bytes, a text and a number -/
theorem dcall (k b g : Nat) (h0 : lentF g 0 = true) (h1 : ¬ lentF g 1 = true) (h2 : ¬ lentF g 2 = true) (H : Heap) (key lbl : List (BitVec 8)) (z : Int) (res : CallRes) (hp : plainRes res = true) (hw : F C k g [.isl (bs key) key.length, txt lbl, I z] [] = some res) :
    callOp (envC C k) H b g [.isl (bs key) key.length, txt lbl, I z] = some (backTo [] b res) := by
  have hlend : lend H ((envC C k).borrow g) 0 [.isl (bs key) key.length, txt lbl, I z] = some ([.isl (bs key) key.length, txt lbl, I z], []) := by
    rw [lend_cons, lend_cons, lend_cons, lend_nil, envC_borrow, C_bor, if_pos h0, if_neg h1, if_neg h2, snap_isl, lendC_some, lendC_some, lendC_some]
    rfl
  have hn : ([.isl (bs key) key.length, txt lbl, I z] : List LV).flatMap (nms D) = [] := by
    simp only [List.flatMap_cons, List.flatMap_nil, ibs_nms, nms_txt, nms_I, List.append_nil]
  have ha : ([.isl (bs key) key.length, txt lbl, I z] : List LV).map (ren D (toCallee [])) = [.isl (bs key) key.length, txt lbl, I z] := by
    simp only [List.map_cons, List.map_nil, ibs_ren, ren_txt, ren_I]
  rw [callOp_L, hlend, callL_some, hn, show reach H FUEL [] [] = [] from rfl, callN_eq _ _ _ _ _ rfl, ha, List.filterMap_nil, List.map_nil, envC_cal, hw, resK_any _ _ _ _ hp]

theorem derive_eq (k : Nat) (key lbl : List (BitVec 8)) (n : Nat) (h1 : 1 ≤ n) (hn : n ≤ 8160) (hk : key.length ≤ 211106232000000) (hl : lbl.length ≤ 211106230000000) (hK : key.length / 64 + lbl.length / 64 + 2001 ≤ k) (b : Nat) (H : Heap) :
    callOp (envC C k) H b 29 [.isl (bs key) key.length, txt lbl, I (n : Int)] = some ⟨.sl (b, 0) 0 n (some n) 1, [bs (dO key lbl ((n + 31) / 32))], []⟩ := by
  have hw := derive_F (k - 1) key lbl n h1 hn hk hl (by omega)
  rw [show k - 1 + 1 = k by omega] at hw
  rw [dcall k b 29 (by decide) (by decide) (by decide) H key lbl n _ (by simp [plainRes, noImm_bs]; rfl) hw, backTo_eq]
  simp only [ren_slF, toCaller_1, List.length_cons, List.length_nil, Nat.zero_add, Nat.lt_one_iff, slO_some, List.map_cons, List.map_nil, bs_ren, List.zipWith_nil_left]
theorem derive_eq0 (k : Nat) (key lbl : List (BitVec 8)) (z : Int) (hz : z < 1 ∨ 8160 < z) (hK : 1 ≤ k) (b : Nat) (H : Heap) :
    callOp (envC C k) H b 29 [.isl (bs key) key.length, txt lbl, I z] = some ⟨Nil, [], []⟩ := by
  have hw := derive_no (k - 1) key lbl z hz
  rw [show k - 1 + 1 = k by omega] at hw
  rw [dcall k b 29 (by decide) (by decide) (by decide) H key lbl z _ rfl hw, backTo_eq]
  simp only [ren_nil, List.map_nil, List.zipWith_nil_left]
theorem rderive_eq (k : Nat) (key lbl : List (BitVec 8)) (n : Nat) (h1 : 1 ≤ n) (hn : n ≤ 8160) (hk : key.length ≤ 211106232000000) (hl : lbl.length ≤ 211106230000000) (hK : key.length / 64 + lbl.length / 64 + 2001 ≤ k) (b : Nat) (H : Heap) :
    callOp (envC C k) H b 30 [.isl (bs key) key.length, txt lbl, I (n : Int)] = some ⟨.sl (b, 0) 0 n none 1, [bs (dO key lbl ((n + 31) / 32))], []⟩ := by
  have hw := rderive_F (k - 1) key lbl n h1 hn hk hl (by omega)
  rw [show k - 1 + 1 = k by omega] at hw
  rw [dcall k b 30 (by decide) (by decide) (by decide) H key lbl n _ (by simp [plainRes, noImm_bs]; rfl) hw, backTo_eq]
  simp only [ren_slF, toCaller_1, List.length_cons, List.length_nil, Nat.zero_add, Nat.lt_one_iff, slO_some, List.map_cons, List.map_nil, bs_ren, List.zipWith_nil_left]
theorem rderive_eq0 (k : Nat) (key lbl : List (BitVec 8)) (z : Int) (hz : z < 1 ∨ 8160 < z) (hK : 1 ≤ k) (b : Nat) (H : Heap) :
    callOp (envC C k) H b 30 [.isl (bs key) key.length, txt lbl, I z] = some ⟨Nil, [], []⟩ := by
  have hw := rderive_no (k - 1) key lbl z hz
  rw [show k - 1 + 1 = k by omega] at hw
  rw [dcall k b 30 (by decide) (by decide) (by decide) H key lbl z _ rfl hw, backTo_eq]
  simp only [ren_nil, List.map_nil, List.zipWith_nil_left]

theorem frontK_take (n : Nat) (l : List (BitVec 8)) (h : n ≤ l.length) : frontK 0 1 n (some (bs l)) = some (bs (l.take n)) := by
  rw [frontK_bs 0 n l (by omega), List.drop_zero]
theorem b2sV_nil (H : Heap) : b2sV H Nil (some 0) = some ⟨txt [], [], []⟩ := nf rfl
theorem b2sK_nil : b2sK (some []) = some ⟨txt [], [], []⟩ := nf rfl
theorem txt_neq (e : EqT) (a b : List (BitVec 8)) : binV .neq e (txt a) (txt b) = some (Bo !(decide (a = b))) := by
  have h := txt_eql e a b
  simp only [binV, txt, strOp, Option.map_some, Option.some.injEq, Bo, LV.v.injEq, Value.bool.injEq] at h ⊢
  rw [h]

set_option maxRecDepth 10000 in
theorem hmacDerives_F (K : Nat) (key lbl : List (BitVec 8)) (n f : Int) (hk : key.length ≤ 140737488351232) (hl : lbl.length ≤ 140737488351232) (hK : key.length / 64 + lbl.length / 64 + 8000 ≤ K) :
    F C (K + 1) 10 [.isl (bs key) key.length, txt lbl, I n, I f] [] = some (Bo true, [], []) := by
  rw [F_succ f10]
  have hlv := fun b H => hlives_call K b H (by omega)
  by_cases hn : n < 1 ∨ 8160 < n
  · have d1 := derive_eq0 K key lbl n hn (by omega)
    have d3 := rderive_eq0 K key lbl n hn (by omega)
    by_cases hf : f < 1 ∨ 8160 < f
    · have d2 := derive_eq0 K key lbl f hf (by omega)
      have d4 := rderive_eq0 K key lbl f hf (by omega)
      simp (disch := first | omega | decide | simp only [nms_B8, nms_B32, nms_B64, nms_I, nms_N, nms_Bo, nms_Un, nms_undef, nms_Hf, nms_ptr, nms_sl, aB_agg_nms, aW_agg_nms, aD_agg_nms, aO_agg_nms, List.flatMap_cons, List.flatMap_nil, List.nil_append, List.append_nil, ren_B8, ren_B32, ren_B64, ren_I, ren_N, ren_Bo, ren_Un, ren_undef, ren_Hf, aB_agg_ren, aW_agg_ren, aD_agg_ren, aO_agg_ren, List.map_cons, List.map_nil, ren7_I, ren7_N, ren7_Bo, ren7_B8, ren7_B32, ren7_B64, nms7_I, nms7_N, nms7_Bo, nms7_B8, nms7_B32, nms7_B64, nms_tup, ren_tup, implies_true, l17, l18, l19, l20, l36, l37, l38, l39, l43, l21, l22, l24, l25, l33, l35, l40, l42, l14, l27, bs_isCell, bs_nms, bs_ren, ibs_nms, ibs_ren, bs_length, aW_isCell, aB_isCell, isCell_sl, isCell_isl, isCell_nil, isCell_ptr, isCell_N]) only [funSem_eq, ev_skip, ev_ret, ev_seq, ev_region, regK_some, evOpers_nil, evOpers_cons, evOpers_cons_g, guardK_true', put_some, evX_t, evX_c, outR_some, pickV_false, op_mv, op_pick, op_bin, op_un, op_call, callV_fn, andThen_normal, ev_cond, condK_false, retK_ret, resVal_tmp, nms_I, List.set_cons_zero, List.set_cons_succ, List.getD_cons_zero, List.getD_cons_succ, List.map_cons, List.map_nil, List.flatMap_cons, List.flatMap_nil, List.nil_append, List.cons_append, List.append_nil, repUn_succ, List.replicate_zero, List.length_cons, List.length_nil, Bo_not, outOf_Bo, Option.map_some, Nat.reduceAdd, Nat.reduceSub, List.all_cons, List.all_nil, Bool.and_true, if_true, Nat.zero_add, Nat.add_zero, decide_true, decide_false, Nat.add_zero, Nat.zero_add, N_gtr, N_nat, Nat.reduceAdd, Nat.lt_irrefl, decide_false, decide_true, Bool.not_false, Bool.not_true, op_len, lenV_some, lenS_nil, lenOf_nil, nms_nil, optNat_none, optNat_some, op_slcS, slcV_nil, getD_some, updN_nil, modN_nil, Option.map_some, ibs_nms, evOpers_ord, evOpers_ord_g, guardO_true', stepO_eq, touch_call, touch_b2s, nms_fn, List.contains_nil, beq_self_eq_true, Bool.or_true, ordOk, apartFrom, List.all_cons, List.all_nil, Nat.testBit, Nat.reduceShiftRight, Nat.reduceAnd, Nat.reduceBEq, Bool.not_true, Bool.not_false, Bool.and_self, Bool.and_true, Nat.reduceSub, bne, FUEL, reach_nil, nms_I, List.flatMap_cons, List.flatMap_nil, List.nil_append, List.cons_append, List.append_nil, List.map_nil, List.map_cons, List.contains_nil, Nat.reduceBEq, if_true, Nat.reduceAdd, nms_nil, ordK_gen, stepK_gen, nms_txt, L10, hlv, d1, d2, d3, d4, op_b2s, b2sV_nil, txt_eql, txt_neq]
    · obtain ⟨m, rfl⟩ : ∃ m : Nat, f = (m : Int) := ⟨f.toNat, by omega⟩
      have d2 := derive_eq K key lbl m (by omega) (by omega) (by omega) (by omega) (by omega)
      have d4 := rderive_eq K key lbl m (by omega) (by omega) (by omega) (by omega) (by omega)
      have hlm := dO_length key lbl ((m + 31) / 32)
      have h0m : 0 < m := by omega
      simp (disch := first | omega | decide | simp only [nms_B8, nms_B32, nms_B64, nms_I, nms_N, nms_Bo, nms_Un, nms_undef, nms_Hf, nms_ptr, nms_sl, aB_agg_nms, aW_agg_nms, aD_agg_nms, aO_agg_nms, List.flatMap_cons, List.flatMap_nil, List.nil_append, List.append_nil, ren_B8, ren_B32, ren_B64, ren_I, ren_N, ren_Bo, ren_Un, ren_undef, ren_Hf, aB_agg_ren, aW_agg_ren, aD_agg_ren, aO_agg_ren, List.map_cons, List.map_nil, ren7_I, ren7_N, ren7_Bo, ren7_B8, ren7_B32, ren7_B64, nms7_I, nms7_N, nms7_Bo, nms7_B8, nms7_B32, nms7_B64, nms_tup, ren_tup, implies_true, l17, l18, l19, l20, l36, l37, l38, l39, l43, l21, l22, l24, l25, l33, l35, l40, l42, l14, l27, bs_isCell, bs_nms, bs_ren, ibs_nms, ibs_ren, bs_length, aW_isCell, aB_isCell, isCell_sl, isCell_isl, isCell_nil, isCell_ptr, isCell_N]) only [funSem_eq, ev_skip, ev_ret, ev_seq, ev_region, regK_some, evOpers_nil, evOpers_cons, evOpers_cons_g, guardK_true', guardK_false', put_some, evX_t, evX_c, outR_some, pickV_true, pickV_false, op_mv, op_pick, op_bin, op_un, op_call, callV_fn, andThen_normal, ev_cond, condK_false, retK_ret, resVal_tmp, nms_I, List.set_cons_zero, List.set_cons_succ, List.getD_cons_zero, List.getD_cons_succ, List.map_cons, List.map_nil, List.flatMap_cons, List.flatMap_nil, List.nil_append, List.cons_append, List.append_nil, repUn_succ, List.replicate_zero, List.length_cons, List.length_nil, Bo_not, outOf_Bo, Option.map_some, Nat.reduceAdd, Nat.reduceSub, upd_at, List.all_cons, List.all_nil, Bool.and_true, Prod.mk.injEq, Nat.reduceEqDiff, Nat.reduceLT, and_true, if_true, if_false, Nat.zero_add, Nat.add_zero, decide_true, decide_false, Nat.add_zero, Nat.zero_add, N_gtr, Nat.reduceLT, Nat.reduceEqDiff, Nat.reduceAdd, decide_false, decide_true, Bool.not_false, Bool.not_true, op_len, lenV_some, lenS_sl, lenS_nil, lenOf_sl, lenOf_nil, nms_nil, updN_nil, updN_cons, modN_nil, Option.map_some, ibs_nms, inHeap_none, evOpers_ord, evOpers_ord_g, guardO_true', guardO_false', stepO_eq, only_at, touch_call, touch_b2s, nms_fn, List.contains_cons, List.contains_nil, beq_self_eq_true, Bool.or_true, Bool.or_false, ordOk, apartFrom, List.all_cons, List.all_nil, Nat.testBit, Nat.reduceShiftRight, Nat.reduceAnd, Nat.reduceBEq, Bool.not_true, Bool.not_false, Bool.and_self, Bool.and_true, Nat.reduceSub, Nat.reduceLT, bne, FUEL, reach_nil, nms_sl, nms_I, List.flatMap_cons, List.flatMap_nil, List.nil_append, List.cons_append, List.append_nil, List.map_nil, List.map_cons, List.contains_nil, List.contains_cons, Prod.mk.injEq, Nat.reduceEqDiff, Nat.reduceBEq, and_true, if_true, if_false, upd_at, Nat.reduceAdd, inHeap_none, nms_nil, front_sl, ordK_gen, stepK_gen, nms_txt, L10, hlv, d1, d2, d3, d4, op_b2s, b2sV_nil, b2sV_sl, b2sK_bs, frontK_take, txt_neq, h0m]
  · obtain ⟨m, rfl⟩ : ∃ m : Nat, n = (m : Int) := ⟨n.toNat, by omega⟩
    have d1 := derive_eq K key lbl m (by omega) (by omega) (by omega) (by omega) (by omega)
    have d3 := rderive_eq K key lbl m (by omega) (by omega) (by omega) (by omega) (by omega)
    have hlm := dO_length key lbl ((m + 31) / 32)
    have h0m : ¬ m < 0 := by omega
    by_cases hf : f < 1 ∨ 8160 < f
    · have d2 := derive_eq0 K key lbl f hf (by omega)
      have d4 := rderive_eq0 K key lbl f hf (by omega)
      simp (disch := first | omega | decide | simp only [nms_B8, nms_B32, nms_B64, nms_I, nms_N, nms_Bo, nms_Un, nms_undef, nms_Hf, nms_ptr, nms_sl, aB_agg_nms, aW_agg_nms, aD_agg_nms, aO_agg_nms, List.flatMap_cons, List.flatMap_nil, List.nil_append, List.append_nil, ren_B8, ren_B32, ren_B64, ren_I, ren_N, ren_Bo, ren_Un, ren_undef, ren_Hf, aB_agg_ren, aW_agg_ren, aD_agg_ren, aO_agg_ren, List.map_cons, List.map_nil, ren7_I, ren7_N, ren7_Bo, ren7_B8, ren7_B32, ren7_B64, nms7_I, nms7_N, nms7_Bo, nms7_B8, nms7_B32, nms7_B64, nms_tup, ren_tup, implies_true, l17, l18, l19, l20, l36, l37, l38, l39, l43, l21, l22, l24, l25, l33, l35, l40, l42, l14, l27, bs_isCell, bs_nms, bs_ren, ibs_nms, ibs_ren, bs_length, aW_isCell, aB_isCell, isCell_sl, isCell_isl, isCell_nil, isCell_ptr, isCell_N]) only [funSem_eq, ev_skip, ev_ret, ev_seq, ev_region, regK_some, evOpers_nil, evOpers_cons, evOpers_cons_g, guardK_true', put_some, evX_t, evX_c, outR_some, pickV_false, op_mv, op_pick, op_bin, op_un, op_call, callV_fn, andThen_normal, ev_cond, condK_false, retK_ret, resVal_tmp, nms_I, List.set_cons_zero, List.set_cons_succ, List.getD_cons_zero, List.getD_cons_succ, List.map_cons, List.map_nil, List.flatMap_cons, List.flatMap_nil, List.nil_append, List.cons_append, List.append_nil, repUn_succ, List.replicate_zero, List.length_cons, List.length_nil, Bo_not, outOf_Bo, Option.map_some, Nat.reduceAdd, Nat.reduceSub, upd_at, List.all_cons, List.all_nil, Bool.and_true, Prod.mk.injEq, Nat.reduceEqDiff, Nat.reduceLT, and_true, if_true, if_false, Nat.zero_add, Nat.add_zero, decide_true, decide_false, Nat.mul_one, Nat.add_zero, Nat.zero_add, N_gtr, N_nat, Nat.reduceLT, Nat.reduceEqDiff, Nat.reduceAdd, decide_false, decide_true, Bool.not_false, Bool.not_true, op_len, lenV_some, lenS_sl, lenS_nil, lenOf_sl, lenOf_nil, nms_nil, front_sl0, optNat_none, optNat_some, op_slcS, slcV_cap, getD_some, updN_nil, updN_cons, modN_nil, Option.map_some, ibs_nms, Nat.sub_zero, Nat.mul_one, inHeap_none, evOpers_ord, evOpers_ord_g, guardO_true', stepO_eq, only_at, touch_call, touch_b2s, nms_fn, List.contains_cons, List.contains_nil, beq_self_eq_true, Bool.or_true, Bool.or_false, ordOk, apartFrom, List.all_cons, List.all_nil, Nat.testBit, Nat.reduceShiftRight, Nat.reduceAnd, Nat.reduceBEq, Bool.not_true, Bool.not_false, Bool.and_self, Bool.and_true, Nat.reduceSub, Nat.reduceLT, bne, FUEL, reach_nil, nms_sl, nms_I, List.flatMap_cons, List.flatMap_nil, List.nil_append, List.cons_append, List.append_nil, List.map_nil, List.map_cons, List.contains_nil, List.contains_cons, Prod.mk.injEq, Nat.reduceEqDiff, Nat.reduceBEq, and_true, if_true, if_false, upd_at, Nat.reduceAdd, inHeap_none, nms_nil, front_sl, ordK_gen, stepK_gen, nms_txt, L10, hlv, d1, d2, d3, d4, op_b2s, b2sV_nil, b2sV_sl, b2sK_bs, frontK_take, txt_eql, txt_neq, h0m, front_sl0, Nat.sub_zero, b2sK_nil]
    · obtain ⟨p, rfl⟩ : ∃ p : Nat, f = (p : Int) := ⟨f.toNat, by omega⟩
      have d2 := derive_eq K key lbl p (by omega) (by omega) (by omega) (by omega) (by omega)
      have d4 := rderive_eq K key lbl p (by omega) (by omega) (by omega) (by omega) (by omega)
      have hlp := dO_length key lbl ((p + 31) / 32)
      by_cases hmp : m < p
      · simp (disch := first | omega | decide | simp only [nms_B8, nms_B32, nms_B64, nms_I, nms_N, nms_Bo, nms_Un, nms_undef, nms_Hf, nms_ptr, nms_sl, aB_agg_nms, aW_agg_nms, aD_agg_nms, aO_agg_nms, List.flatMap_cons, List.flatMap_nil, List.nil_append, List.append_nil, ren_B8, ren_B32, ren_B64, ren_I, ren_N, ren_Bo, ren_Un, ren_undef, ren_Hf, aB_agg_ren, aW_agg_ren, aD_agg_ren, aO_agg_ren, List.map_cons, List.map_nil, ren7_I, ren7_N, ren7_Bo, ren7_B8, ren7_B32, ren7_B64, nms7_I, nms7_N, nms7_Bo, nms7_B8, nms7_B32, nms7_B64, nms_tup, ren_tup, implies_true, l17, l18, l19, l20, l36, l37, l38, l39, l43, l21, l22, l24, l25, l33, l35, l40, l42, l14, l27, bs_isCell, bs_nms, bs_ren, ibs_nms, ibs_ren, bs_length, aW_isCell, aB_isCell, isCell_sl, isCell_isl, isCell_nil, isCell_ptr, isCell_N]) only [funSem_eq, ev_skip, ev_ret, ev_seq, ev_region, regK_some, evOpers_nil, evOpers_cons, evOpers_cons_g, guardK_true', guardK_false', put_some, evX_t, evX_c, outR_some, pickV_true, pickV_false, op_mv, op_pick, op_bin, op_un, op_call, callV_fn, andThen_normal, ev_cond, condK_false, retK_ret, resVal_tmp, nms_I, List.set_cons_zero, List.set_cons_succ, List.getD_cons_zero, List.getD_cons_succ, List.map_cons, List.map_nil, List.flatMap_cons, List.flatMap_nil, List.nil_append, List.cons_append, List.append_nil, repUn_succ, List.replicate_zero, List.length_cons, List.length_nil, Bo_not, outOf_Bo, Option.map_some, Nat.reduceAdd, Nat.reduceSub, upd_at, List.all_cons, List.all_nil, Bool.and_true, Prod.mk.injEq, Nat.reduceEqDiff, Nat.reduceLT, and_true, if_true, if_false, Nat.zero_add, Nat.add_zero, decide_true, decide_false, Nat.add_zero, Nat.zero_add, N_gtr, Nat.reduceLT, Nat.reduceEqDiff, Nat.reduceAdd, decide_false, decide_true, Bool.not_false, Bool.not_true, op_len, lenV_some, lenS_sl, lenOf_sl, updN_nil, updN_cons, modN_nil, Option.map_some, ibs_nms, inHeap_none, evOpers_ord, evOpers_ord_g, guardO_true', guardO_false', stepO_eq, only_at, touch_call, touch_b2s, nms_fn, List.contains_cons, List.contains_nil, beq_self_eq_true, Bool.or_true, Bool.or_false, ordOk, apartFrom, List.all_cons, List.all_nil, Nat.testBit, Nat.reduceShiftRight, Nat.reduceAnd, Nat.reduceBEq, Bool.not_true, Bool.not_false, Bool.and_self, Bool.and_true, Nat.reduceSub, Nat.reduceLT, bne, FUEL, reach_nil, nms_sl, nms_I, List.flatMap_cons, List.flatMap_nil, List.nil_append, List.cons_append, List.append_nil, List.map_nil, List.map_cons, List.contains_nil, List.contains_cons, Prod.mk.injEq, Nat.reduceEqDiff, Nat.reduceBEq, and_true, if_true, if_false, upd_at, Nat.reduceAdd, inHeap_none, front_sl, ordK_gen, stepK_gen, nms_txt, L10, hlv, d1, d2, d3, d4, op_b2s, b2sV_sl, b2sK_bs, frontK_take, txt_neq, hmp]
      · have hx : (dO key lbl ((m + 31) / 32)).take p = (dO key lbl ((p + 31) / 32)).take p := by
          rw [← dO_take key lbl ((p + 31) / 32) ((m + 31) / 32) (by omega), List.take_take, Nat.min_eq_left (by omega)]
        simp (disch := first | omega | decide | simp only [nms_B8, nms_B32, nms_B64, nms_I, nms_N, nms_Bo, nms_Un, nms_undef, nms_Hf, nms_ptr, nms_sl, aB_agg_nms, aW_agg_nms, aD_agg_nms, aO_agg_nms, List.flatMap_cons, List.flatMap_nil, List.nil_append, List.append_nil, ren_B8, ren_B32, ren_B64, ren_I, ren_N, ren_Bo, ren_Un, ren_undef, ren_Hf, aB_agg_ren, aW_agg_ren, aD_agg_ren, aO_agg_ren, List.map_cons, List.map_nil, ren7_I, ren7_N, ren7_Bo, ren7_B8, ren7_B32, ren7_B64, nms7_I, nms7_N, nms7_Bo, nms7_B8, nms7_B32, nms7_B64, nms_tup, ren_tup, implies_true, l17, l18, l19, l20, l36, l37, l38, l39, l43, l21, l22, l24, l25, l33, l35, l40, l42, l14, l27, bs_isCell, bs_nms, bs_ren, ibs_nms, ibs_ren, bs_length, aW_isCell, aB_isCell, isCell_sl, isCell_isl, isCell_nil, isCell_ptr, isCell_N]) only [funSem_eq, ev_skip, ev_ret, ev_seq, ev_region, regK_some, evOpers_nil, evOpers_cons, evOpers_cons_g, guardK_true', put_some, evX_t, evX_c, outR_some, pickV_false, op_mv, op_pick, op_bin, op_un, op_call, callV_fn, andThen_normal, ev_cond, condK_false, retK_ret, resVal_tmp, nms_I, List.set_cons_zero, List.set_cons_succ, List.getD_cons_zero, List.getD_cons_succ, List.map_cons, List.map_nil, List.flatMap_cons, List.flatMap_nil, List.nil_append, List.cons_append, List.append_nil, repUn_succ, List.replicate_zero, List.length_cons, List.length_nil, Bo_not, outOf_Bo, Option.map_some, Nat.reduceAdd, Nat.reduceSub, upd_at, List.all_cons, List.all_nil, Bool.and_true, Prod.mk.injEq, Nat.reduceEqDiff, Nat.reduceLT, and_true, if_true, if_false, Nat.zero_add, Nat.add_zero, decide_true, decide_false, Nat.mul_one, Nat.add_zero, Nat.zero_add, N_gtr, N_nat, Nat.reduceLT, Nat.reduceEqDiff, Nat.reduceAdd, decide_false, decide_true, Bool.not_false, Bool.not_true, op_len, lenV_some, lenS_sl, lenOf_sl, optNat_none, optNat_some, op_slcS, slcV_cap, getD_some, updN_nil, updN_cons, modN_nil, Option.map_some, ibs_nms, Nat.sub_zero, Nat.mul_one, inHeap_none, evOpers_ord, evOpers_ord_g, guardO_true', stepO_eq, only_at, touch_call, touch_b2s, nms_fn, List.contains_cons, List.contains_nil, beq_self_eq_true, Bool.or_true, Bool.or_false, ordOk, apartFrom, List.all_cons, List.all_nil, Nat.testBit, Nat.reduceShiftRight, Nat.reduceAnd, Nat.reduceBEq, Bool.not_true, Bool.not_false, Bool.and_self, Bool.and_true, Nat.reduceSub, Nat.reduceLT, bne, FUEL, reach_nil, nms_sl, nms_I, List.flatMap_cons, List.flatMap_nil, List.nil_append, List.cons_append, List.append_nil, List.map_nil, List.map_cons, List.contains_nil, List.contains_cons, Prod.mk.injEq, Nat.reduceEqDiff, Nat.reduceBEq, and_true, if_true, if_false, upd_at, Nat.reduceAdd, inHeap_none, front_sl, ordK_gen, stepK_gen, nms_txt, L10, hlv, d1, d2, d3, d4, op_b2s, b2sV_sl, b2sK_bs, frontK_take, txt_eql, txt_neq, hmp, hx]

end Sha
