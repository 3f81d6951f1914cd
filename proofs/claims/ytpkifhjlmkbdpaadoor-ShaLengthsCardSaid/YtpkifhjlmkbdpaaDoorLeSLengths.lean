/- ShaLengths, evaluated. -/
import Derived.Test.YtpkifhjlmkbdpaaDoorLeSAt
import Derived.Test.YtpkifhjlmkbdpaaDoorLeU
set_option linter.unusedVariables false
set_option linter.unusedSimpArgs false

namespace Sha
open Go Go.LE

def rp (i k : Nat) (x : BitVec 8) : List (BitVec 8) := List.replicate i x ++ List.replicate (k - i) 0#8
theorem rp_length (i k : Nat) (x : BitVec 8) (h : i ≤ k) : (rp i k x).length = k := by simp [rp]; omega
theorem rp_set (i k : Nat) (x : BitVec 8) (h : i < k) : (rp i k x).set i x = rp (i + 1) k x := by
  rw [rp, List.set_append_right _ _ (by simp), List.length_replicate, Nat.sub_self, show k - i = (k - (i + 1)) + 1 by omega, List.replicate_succ, List.set_cons_zero, rp,
    List.replicate_succ', List.append_assoc]
  rfl
theorem rp_full (k : Nat) (x : BitVec 8) : rp k k x = List.replicate k x := by simp [rp]

def nJ1 (k : Nat) (x : BitVec 8) (i : Nat) (st : St) : Prop := ∃ (H : Heap), st = ⟨[.undef, B8 x, .undef, .undef, .undef, N k, .sl (1, 0) 0 k (some k) 1, N i, .undef, .undef, .undef, .undef, .undef, .undef, .undef, .undef, .undef, .undef, .undef, .undef, .undef, .undef, .undef, .undef, .undef, .undef, .undef, .undef, .undef, .undef, .undef, Un, Un, .undef, .undef, .undef, .undef, .undef, .undef, .undef, .undef, .undef, .undef, .undef, .undef, .undef, .undef, .undef, .undef, .undef, .undef, .undef, Un, Un, Un, Un, Un, .undef], H, 2, 0⟩ ∧ H (1, 0) = some (bs (rp i k x))

set_option maxRecDepth 10000 in
theorem n1_round (K k0 : Nat) (k : Nat) (hk : k < 300) (x : BitVec 8) (i : Nat) (hi : i < k) (st : St) (hI : nJ1 k x i st) :
    ∃ st1, ev (envC C k0) K L6b1 st = some (.normal, st1) ∧ nJ1 k x (i + 1) (canon L6k1 st1) := by
  obtain ⟨H, rfl, h1⟩ := hI
  have hl := rp_length i k x (by omega)
  have hst := bs_st (rp i k x) i x (1, 0) (by omega)
  rw [rp_set i k x hi] at hst
  apply Exists.intro
  apply And.intro
  · simp (disch := first | omega | decide | simp only [nms_B8, nms_B32, nms_B64, nms_I, nms_N, nms_Bo, nms_Un, nms_undef, nms_Hf, nms_ptr, nms_sl, aB_agg_nms, aW_agg_nms, aD_agg_nms, aO_agg_nms, List.flatMap_cons, List.flatMap_nil, List.nil_append, List.append_nil, ren_B8, ren_B32, ren_B64, ren_I, ren_N, ren_Bo, ren_Un, ren_undef, ren_Hf, aB_agg_ren, aW_agg_ren, aD_agg_ren, aO_agg_ren, List.map_cons, List.map_nil, ren7_I, ren7_N, ren7_Bo, ren7_B8, ren7_B32, ren7_B64, nms7_I, nms7_N, nms7_Bo, nms7_B8, nms7_B32, nms7_B64, nms_tup, ren_tup, implies_true, l17, l18, l19, l20, l36, l37, l38, l39, l43, l21, l22, l24, l25, l33, l35, l40, l42, l14, l27, bs_isCell, bs_nms, bs_ren, ibs_nms, ibs_ren, bs_length, aW_isCell, aB_isCell, isCell_sl, isCell_isl, isCell_nil, isCell_ptr, isCell_N]) only [ev_skip, ev_seq, ev_block, ev_region, regK_some, evOpers_nil, evOpers_cons, stepK_pure, put_some, put_none, evX_t, evX_c, outR_some, op_mv, op_bin, andThen_normal, inBlock_normal, ev_cond, condK_true, List.set_cons_zero, List.set_cons_succ, List.getD_cons_zero, List.getD_cons_succ, List.length_cons, List.length_nil, Nat.reduceAdd, stepK_mod, cellsOf_B8, op_st, stV_ptr, Nat.zero_add, Nat.add_zero, decide_true, Nat.mul_one, Nat.add_zero, Nat.zero_add, N_add, N_lss, N_nat, Nat.reduceAdd, decide_true, op_iaS, iaSV_sl, Nat.mul_one, L6b1, hi, h1, hst]
    rfl
  · refine canon_inv [(1, 0)] rfl (by simp only [canonNames, FUEL, reach_cons, reachK_some, reach_nil, nms_sl, nms_B8, nms_Un, nms_undef, List.flatMap_cons, List.flatMap_nil, List.nil_append, List.append_nil, List.range_zero, List.map_nil, List.contains_nil, Bool.false_eq_true, if_true, if_false, Nat.one_ne_zero, List.filter_cons, List.filter_nil, bne_iff_ne, ne_eq, not_false_eq_true, upd_at, mask_nil, mask_true, mask_false, nms_N, L6k1, h1, bs_nms]) rfl ⟨_, rfl, ?_⟩
    exact cN_same (1, 0) rfl (by simp only [upd_at, if_true]) (bs_ren _ _)

def nJ0 (k : Nat) (x : BitVec 8) (i : Nat) (st : St) : Prop := ∃ (H : Heap), st = ⟨[.undef, .undef, .undef, .undef, .undef, N k, .sl (1, 0) 0 k (some k) 1, .undef, .ptr (1, 1) 0, N i, .undef, .undef, .undef, .undef, .undef, .undef, .undef, .undef, .undef, .undef, .undef, .undef, .undef, .undef, .undef, .undef, .undef, .undef, .undef, .undef, .undef, .undef, .undef, .undef, .undef, .undef, .undef, .undef, .undef, .undef, .undef, .undef, .undef, .undef, .undef, .undef, .undef, .undef, .undef, .undef, .undef, .undef, Un, Un, Un, Un, Un, .undef], H, 2, 0⟩ ∧ H (1, 0) = some (bs (List.replicate k x)) ∧
  ((i = 0 ∧ H0 H (1, 1)) ∨ (0 < i ∧ HG H (1, 1) (1, 2) (List.replicate i x)))

theorem rep_one (k i : Nat) (x : BitVec 8) (h : i < k) : ((List.replicate k x).drop i).take 1 = [x] := by
  rw [List.drop_replicate, List.take_replicate, show min 1 (k - i) = 1 by omega]; rfl

set_option maxRecDepth 10000 in
theorem n0_round (K k0 : Nat) (hK : 500 ≤ k0) (k : Nat) (hk : k < 300) (x : BitVec 8) (i : Nat) (hi : i < k) (st : St) (hI : nJ0 k x i st) :
    ∃ st1, ev (envC C k0) K L6b0 st = some (.normal, st1) ∧ nJ0 k x (i + 1) (canon L6k0 st1) := by
  obtain ⟨H, rfl, h1, h2⟩ := hI
  have hl : (List.replicate k x).length = k := List.length_replicate
  rcases h2 with ⟨rfl, h2⟩ | ⟨h0, h2⟩
  · simp (disch := first | omega | decide | simp only [nms_B8, nms_B32, nms_B64, nms_I, nms_N, nms_Bo, nms_Un, nms_undef, nms_Hf, nms_ptr, nms_sl, aB_agg_nms, aW_agg_nms, aD_agg_nms, aO_agg_nms, List.flatMap_cons, List.flatMap_nil, List.nil_append, List.append_nil, ren_B8, ren_B32, ren_B64, ren_I, ren_N, ren_Bo, ren_Un, ren_undef, ren_Hf, aB_agg_ren, aW_agg_ren, aD_agg_ren, aO_agg_ren, List.map_cons, List.map_nil, ren7_I, ren7_N, ren7_Bo, ren7_B8, ren7_B32, ren7_B64, nms7_I, nms7_N, nms7_Bo, nms7_B8, nms7_B32, nms7_B64, nms_tup, ren_tup, implies_true, l17, l18, l19, l20, l36, l37, l38, l39, l43, l21, l22, l24, l25, l33, l35, l40, l42, l14, l27, bs_isCell, bs_nms, bs_ren, ibs_nms, ibs_ren, bs_length, aW_isCell, aB_isCell, isCell_sl, isCell_isl, isCell_nil, isCell_ptr, isCell_N]) only [ev_skip, ev_seq, ev_block, ev_region, regK_some, evOpers_nil, evOpers_cons, stepK_pure, put_some, evX_t, evX_c, outR_some, op_mv, op_bin, op_call, callV_fn, andThen_normal, ev_cond, condK_true, List.set_cons_zero, List.set_cons_succ, List.getD_cons_zero, List.getD_cons_succ, List.map_cons, List.map_nil, List.length_cons, List.length_nil, Nat.reduceAdd, Nat.zero_add, Nat.add_zero, decide_true, Nat.mul_one, Nat.add_zero, Nat.zero_add, N_add, N_lss, N_nat, Nat.reduceAdd, decide_true, lenS_sl, optNat_some, op_slcS, slcV_cap, getD_some, Nat.sub_zero, Nat.mul_one, L6b0, hi]
    generalize hc : callOp _ _ _ _ _ = r
    have hB := lent_sl H (1, 0) 0 1 (some k) _ [(1, 1)] h1 (by omega) (by decide)
    rw [rep_one k 0 x hi] at hB
    obtain ⟨news, ms, H2, rfl, hH2, hg, hfr⟩ := write_1 hc h2 hB (by simp) (by simp) (by simp; omega) (by decide)
    have h1' : H2 (1, 0) = some (bs (List.replicate k x)) := by rw [hfr (1, 0) (by decide) (by decide)]; exact h1
    obtain ⟨hne, c, l, hrf, e1, e2⟩ := hg
    apply Exists.intro
    apply And.intro
    · simp (disch := first | omega | decide | simp only [nms_B8, nms_B32, nms_B64, nms_I, nms_N, nms_Bo, nms_Un, nms_undef, nms_Hf, nms_ptr, nms_sl, aB_agg_nms, aW_agg_nms, aD_agg_nms, aO_agg_nms, List.flatMap_cons, List.flatMap_nil, List.nil_append, List.append_nil, ren_B8, ren_B32, ren_B64, ren_I, ren_N, ren_Bo, ren_Un, ren_undef, ren_Hf, aB_agg_ren, aW_agg_ren, aD_agg_ren, aO_agg_ren, List.map_cons, List.map_nil, ren7_I, ren7_N, ren7_Bo, ren7_B8, ren7_B32, ren7_B64, nms7_I, nms7_N, nms7_Bo, nms7_B8, nms7_B32, nms7_B64, nms_tup, ren_tup, implies_true, l17, l18, l19, l20, l36, l37, l38, l39, l43, l21, l22, l24, l25, l33, l35, l40, l42, l14, l27, bs_isCell, bs_nms, bs_ren, ibs_nms, ibs_ren, bs_length, aW_isCell, aB_isCell, isCell_sl, isCell_isl, isCell_nil, isCell_ptr, isCell_N]) only [ev_region, regK_some, evOpers_nil, evOpers_cons, put_some, evX_t, evX_c, outR_some, op_mv, op_bin, andThen_normal, inBlock_normal, List.set_cons_zero, List.set_cons_succ, List.getD_cons_zero, List.getD_cons_succ, List.length_cons, List.length_nil, Nat.reduceAdd, Nat.zero_add, Nat.add_zero, Nat.add_zero, Nat.zero_add, N_add, Nat.reduceAdd, updN_nil, modN_nil, stepK_gen, hH2]
      rfl
    · refine canon_inv [(1, 0), (1, 1), _] rfl (by simp only [canonNames, FUEL, reach_cons, reachK_some, reach_nil, nms_ptr, nms_sl, nms_Un, nms_undef, List.flatMap_cons, List.flatMap_nil, List.nil_append, List.cons_append, List.append_nil, List.range_zero, List.map_nil, List.contains_nil, List.contains_cons, Prod.mk.injEq, beq_iff_eq, Bool.or_eq_true, Bool.false_eq_true, Nat.reduceEqDiff, and_true, and_false, or_false, if_true, if_false, Nat.one_ne_zero, Nat.zero_ne_one, List.filter_cons, List.filter_nil, bne_iff_ne, ne_eq, not_false_eq_true, mask_nil, mask_true, mask_false, nms_N, L6k0, h1', e1, e2, HsC_nms, bs_nms]; rfl) rfl ⟨_, rfl, ?_, .inr ⟨by omega, by decide, c, l, hrf, ?_, ?_⟩⟩
      · exact cN_same (1, 0) rfl h1' (bs_ren _ _)
      · rw [cN_one _ _ 1 (1, 1) _ rfl e1, HsC_ren]; rfl
      · exact cN_same _ rfl e2 (bs_ren _ _)
  · simp (disch := first | omega | decide | simp only [nms_B8, nms_B32, nms_B64, nms_I, nms_N, nms_Bo, nms_Un, nms_undef, nms_Hf, nms_ptr, nms_sl, aB_agg_nms, aW_agg_nms, aD_agg_nms, aO_agg_nms, List.flatMap_cons, List.flatMap_nil, List.nil_append, List.append_nil, ren_B8, ren_B32, ren_B64, ren_I, ren_N, ren_Bo, ren_Un, ren_undef, ren_Hf, aB_agg_ren, aW_agg_ren, aD_agg_ren, aO_agg_ren, List.map_cons, List.map_nil, ren7_I, ren7_N, ren7_Bo, ren7_B8, ren7_B32, ren7_B64, nms7_I, nms7_N, nms7_Bo, nms7_B8, nms7_B32, nms7_B64, nms_tup, ren_tup, implies_true, l17, l18, l19, l20, l36, l37, l38, l39, l43, l21, l22, l24, l25, l33, l35, l40, l42, l14, l27, bs_isCell, bs_nms, bs_ren, ibs_nms, ibs_ren, bs_length, aW_isCell, aB_isCell, isCell_sl, isCell_isl, isCell_nil, isCell_ptr, isCell_N]) only [ev_skip, ev_seq, ev_block, ev_region, regK_some, evOpers_nil, evOpers_cons, stepK_pure, put_some, evX_t, evX_c, outR_some, op_mv, op_bin, op_call, callV_fn, andThen_normal, ev_cond, condK_true, List.set_cons_zero, List.set_cons_succ, List.getD_cons_zero, List.getD_cons_succ, List.map_cons, List.map_nil, List.length_cons, List.length_nil, Nat.reduceAdd, Nat.zero_add, Nat.add_zero, decide_true, Nat.mul_one, Nat.add_zero, Nat.zero_add, N_add, N_lss, N_nat, Nat.reduceAdd, decide_true, lenS_sl, optNat_some, op_slcS, slcV_cap, getD_some, Nat.mul_one, L6b0, hi]
    generalize hc : callOp _ _ _ _ _ = r
    have hB := lent_sl H (1, 0) i 1 (some (k - i)) _ [(1, 1), (1, 2)] h1 (by omega) (by decide)
    rw [rep_one k i x hi] at hB
    have e0 : 0 + i = i := Nat.zero_add i
    have e1 : i + 1 - i = 1 := by omega
    simp only [e1] at hc
    obtain ⟨rN', news, ms, H2, rfl, hH2, hg, hr, hfr⟩ := write_G hc h2 hB (by simp; omega) (by simp; omega) (by decide) (by decide)
    have h1' : H2 (1, 0) = some (bs (List.replicate k x)) := by rw [hfr (1, 0) (by decide) (by decide) (by decide)]; exact h1
    rw [← List.replicate_succ'] at hg
    obtain ⟨hne, c, l, hrf, e1, e2⟩ := hg
    have hr : rN' = _ := hr.resolve_right (fun h => by cases h.2)
    subst hr
    apply Exists.intro
    apply And.intro
    · simp (disch := first | omega | decide | simp only [nms_B8, nms_B32, nms_B64, nms_I, nms_N, nms_Bo, nms_Un, nms_undef, nms_Hf, nms_ptr, nms_sl, aB_agg_nms, aW_agg_nms, aD_agg_nms, aO_agg_nms, List.flatMap_cons, List.flatMap_nil, List.nil_append, List.append_nil, ren_B8, ren_B32, ren_B64, ren_I, ren_N, ren_Bo, ren_Un, ren_undef, ren_Hf, aB_agg_ren, aW_agg_ren, aD_agg_ren, aO_agg_ren, List.map_cons, List.map_nil, ren7_I, ren7_N, ren7_Bo, ren7_B8, ren7_B32, ren7_B64, nms7_I, nms7_N, nms7_Bo, nms7_B8, nms7_B32, nms7_B64, nms_tup, ren_tup, implies_true, l17, l18, l19, l20, l36, l37, l38, l39, l43, l21, l22, l24, l25, l33, l35, l40, l42, l14, l27, bs_isCell, bs_nms, bs_ren, ibs_nms, ibs_ren, bs_length, aW_isCell, aB_isCell, isCell_sl, isCell_isl, isCell_nil, isCell_ptr, isCell_N]) only [ev_region, regK_some, evOpers_nil, evOpers_cons, put_some, evX_t, evX_c, outR_some, op_mv, op_bin, andThen_normal, inBlock_normal, List.set_cons_zero, List.set_cons_succ, List.getD_cons_zero, List.getD_cons_succ, List.length_cons, List.length_nil, Nat.reduceAdd, Nat.zero_add, Nat.add_zero, Nat.add_zero, Nat.zero_add, N_add, Nat.reduceAdd, updN_nil, modN_nil, stepK_gen, hH2]
      rfl
    · refine canon_inv [(1, 0), (1, 1), _] rfl (by simp only [canonNames, FUEL, reach_cons, reachK_some, reach_nil, nms_ptr, nms_sl, nms_Un, nms_undef, List.flatMap_cons, List.flatMap_nil, List.nil_append, List.cons_append, List.append_nil, List.range_zero, List.map_nil, List.contains_nil, List.contains_cons, Prod.mk.injEq, beq_iff_eq, Bool.or_eq_true, Bool.false_eq_true, Nat.reduceEqDiff, and_true, and_false, or_false, if_true, if_false, Nat.one_ne_zero, Nat.zero_ne_one, List.filter_cons, List.filter_nil, bne_iff_ne, ne_eq, not_false_eq_true, mask_nil, mask_true, mask_false, nms_N, L6k0, h1', e1, e2, HsC_nms, bs_nms]; rfl) rfl ⟨_, rfl, ?_, .inr ⟨by omega, by decide, c, l, hrf, ?_, ?_⟩⟩
      · exact cN_same (1, 0) rfl h1' (bs_ren _ _)
      · rw [cN_one _ _ 1 (1, 1) _ rfl e1, HsC_ren]; rfl
      · exact cN_same _ rfl e2 (bs_ren _ _)

set_option maxRecDepth 10000 in
theorem shaLengths_F (K : Nat) (hK : 1000 ≤ K) (z : Int) (x : BitVec 8) : F C (K + 1) 6 [I z, B8 x] [] = some (Bo true, [], []) := by
  rw [F_succ f6]
  have hlv : F C K 14 [] [] = some (Bo true, [], []) := by
    have := lives_F (K - 500)
    rw [show K - 500 + 500 = K by omega] at this
    exact this
  have hnew := fun b H => new_call (K - 2) b H
  rw [show K - 2 + 2 = K by omega] at hnew
  obtain ⟨t, ht⟩ : ∃ t, t = z.tmod 300 := ⟨_, rfl⟩
  have hb1 : t < 300 := by rw [ht]; exact Int.tmod_lt_of_pos z (by decide)
  have hb2 : -300 < t := by rw [ht]; exact Int.lt_tmod_of_pos z (by decide)
  obtain ⟨k, hk⟩ : ∃ k, k = t.natAbs := ⟨_, rfl⟩
  have hk3 : k < 300 := by omega
  have hrem : binV .rem .none (I z) (N 300) = some (I t) := by
    rw [show N 300 = I 300 from rfl, I_rem _ _ _ (by decide), ht]
  have hlss : binV .lss .none (I t) (N 0) = some (Bo (decide (t < 0))) := by rw [show N 0 = I 0 from rfl, I_lss]
  clear ht
  have hneg : t < 0 → unV .neg (I t) = some (N k) := by
    intro h
    have e : t = -(k : Int) := by omega
    rw [e]
    simp only [unV, I, w64 (0 - -(k : Int)) (by omega)]
    rw [N, I]; congr 3; omega
  have hpos : ¬ t < 0 → I t = N k := by intro h; rw [N]; congr 1; omega
  have hl : (List.replicate k x).length = k := List.length_replicate
  have htk : ((List.replicate k x).drop 0).take k = List.replicate k x := by simp
  by_cases h : t < 0
  all_goals
    first
    | (have hn := hneg h
       simp (disch := first | omega | decide | simp only [nms_B8, nms_B32, nms_B64, nms_I, nms_N, nms_Bo, nms_Un, nms_undef, nms_Hf, nms_ptr, nms_sl, aB_agg_nms, aW_agg_nms, aD_agg_nms, aO_agg_nms, List.flatMap_cons, List.flatMap_nil, List.nil_append, List.append_nil, ren_B8, ren_B32, ren_B64, ren_I, ren_N, ren_Bo, ren_Un, ren_undef, ren_Hf, aB_agg_ren, aW_agg_ren, aD_agg_ren, aO_agg_ren, List.map_cons, List.map_nil, ren7_I, ren7_N, ren7_Bo, ren7_B8, ren7_B32, ren7_B64, nms7_I, nms7_N, nms7_Bo, nms7_B8, nms7_B32, nms7_B64, nms_tup, ren_tup, implies_true, l17, l18, l19, l20, l36, l37, l38, l39, l43, l21, l22, l24, l25, l33, l35, l40, l42, l14, l27, bs_isCell, bs_nms, bs_ren, ibs_nms, ibs_ren, bs_length, aW_isCell, aB_isCell, isCell_sl, isCell_isl, isCell_nil, isCell_ptr, isCell_N]) only [funSem_eq, ev_seq, ev_block, ev_region, regK_some, evOpers_nil, evOpers_cons, stepK_pure, put_some, evX_t, evX_c, outR_some, op_mv, op_bin, op_un, andThen_normal, ev_cond, condK_true, List.set_cons_zero, List.set_cons_succ, List.getD_cons_zero, List.getD_cons_succ, List.nil_append, List.cons_append, repUn_succ, List.replicate_zero, List.length_cons, List.length_nil, ev_loop, Nat.reduceAdd, Nat.reduceSub, stepK_new, Nat.zero_add, Nat.add_zero, decide_true, Nat.add_zero, Nat.zero_add, N_nat, Nat.reduceAdd, decide_true, op_mkslice, L6, hrem, hlss, h, hn, mk_bytes])
    | (have hn := hpos h
       simp (disch := first | omega | decide | simp only [nms_B8, nms_B32, nms_B64, nms_I, nms_N, nms_Bo, nms_Un, nms_undef, nms_Hf, nms_ptr, nms_sl, aB_agg_nms, aW_agg_nms, aD_agg_nms, aO_agg_nms, List.flatMap_cons, List.flatMap_nil, List.nil_append, List.append_nil, ren_B8, ren_B32, ren_B64, ren_I, ren_N, ren_Bo, ren_Un, ren_undef, ren_Hf, aB_agg_ren, aW_agg_ren, aD_agg_ren, aO_agg_ren, List.map_cons, List.map_nil, ren7_I, ren7_N, ren7_Bo, ren7_B8, ren7_B32, ren7_B64, nms7_I, nms7_N, nms7_Bo, nms7_B8, nms7_B32, nms7_B64, nms_tup, ren_tup, implies_true, l17, l18, l19, l20, l36, l37, l38, l39, l43, l21, l22, l24, l25, l33, l35, l40, l42, l14, l27, bs_isCell, bs_nms, bs_ren, ibs_nms, ibs_ren, bs_length, aW_isCell, aB_isCell, isCell_sl, isCell_isl, isCell_nil, isCell_ptr, isCell_N]) only [funSem_eq, ev_skip, ev_seq, ev_block, ev_region, regK_some, evOpers_nil, evOpers_cons, stepK_pure, put_some, evX_t, evX_c, outR_some, op_mv, op_bin, andThen_normal, ev_cond, condK_false, List.set_cons_zero, List.set_cons_succ, List.getD_cons_zero, List.getD_cons_succ, List.nil_append, List.cons_append, repUn_succ, List.replicate_zero, List.length_cons, List.length_nil, ev_loop, Nat.reduceAdd, Nat.reduceSub, stepK_new, Nat.zero_add, Nat.add_zero, decide_false, Nat.add_zero, Nat.zero_add, N_lss, N_nat, Nat.reduceAdd, decide_false, op_mkslice, L6, hrem, hn, mk_bytes, Nat.not_lt_zero])
    generalize hL : loopN L6k1 _ _ _ = r
    refine loop_use hL (nJ1 k x) k (by omega) (fun i st hi hI => n1_round _ _ k hk3 x i hi st hI) ?_ ?_ ?_
    · refine canon_inv [_] rfl (by simp only [canonNames, FUEL, reach_cons, reachK_some, reach_nil, nms_sl, nms_B8, nms_Un, nms_undef, List.flatMap_cons, List.flatMap_nil, List.nil_append, List.append_nil, List.range_zero, List.map_nil, List.contains_nil, Bool.false_eq_true, Nat.reduceEqDiff, if_true, if_false, List.filter_cons, List.filter_nil, bne_iff_ne, ne_eq, not_false_eq_true, upd_at, mask_nil, mask_true, mask_false, inHeap_none, nms_N, L6k1, bs_nms]; rfl) rfl ⟨_, rfl, ?_⟩
      exact cN_same _ rfl (by simp only [upd_at, if_true]; rfl) (bs_ren _ _)
    · rintro st ⟨H, rfl, h1⟩
      apply stop_exit
      simp (disch := first | omega | decide | simp only [nms_B8, nms_B32, nms_B64, nms_I, nms_N, nms_Bo, nms_Un, nms_undef, nms_Hf, nms_ptr, nms_sl, aB_agg_nms, aW_agg_nms, aD_agg_nms, aO_agg_nms, List.flatMap_cons, List.flatMap_nil, List.nil_append, List.append_nil, ren_B8, ren_B32, ren_B64, ren_I, ren_N, ren_Bo, ren_Un, ren_undef, ren_Hf, aB_agg_ren, aW_agg_ren, aD_agg_ren, aO_agg_ren, List.map_cons, List.map_nil, ren7_I, ren7_N, ren7_Bo, ren7_B8, ren7_B32, ren7_B64, nms7_I, nms7_N, nms7_Bo, nms7_B8, nms7_B32, nms7_B64, nms_tup, ren_tup, implies_true, l17, l18, l19, l20, l36, l37, l38, l39, l43, l21, l22, l24, l25, l33, l35, l40, l42, l14, l27, bs_isCell, bs_nms, bs_ren, ibs_nms, ibs_ren, bs_length, aW_isCell, aB_isCell, isCell_sl, isCell_isl, isCell_nil, isCell_ptr, isCell_N]) only [ev_exit, ev_seq, ev_region, regK_some, evOpers_nil, evOpers_cons, stepK_pure, put_some, evX_t, outR_some, op_mv, op_bin, andThen_normal, andThen_exit, ev_cond, condK_false, List.set_cons_zero, List.set_cons_succ, List.getD_cons_zero, List.getD_cons_succ, List.length_cons, List.length_nil, Nat.reduceAdd, Nat.zero_add, Nat.add_zero, decide_false, N_lss, Nat.reduceAdd, Nat.lt_irrefl, decide_false, L6b1]
      rfl
    · clear hL
      rintro st ⟨H, rfl, h1⟩ rfl
      rw [rp_full] at h1
      simp (disch := first | omega | decide | simp only [nms_B8, nms_B32, nms_B64, nms_I, nms_N, nms_Bo, nms_Un, nms_undef, nms_Hf, nms_ptr, nms_sl, aB_agg_nms, aW_agg_nms, aD_agg_nms, aO_agg_nms, List.flatMap_cons, List.flatMap_nil, List.nil_append, List.append_nil, ren_B8, ren_B32, ren_B64, ren_I, ren_N, ren_Bo, ren_Un, ren_undef, ren_Hf, aB_agg_ren, aW_agg_ren, aD_agg_ren, aO_agg_ren, List.map_cons, List.map_nil, ren7_I, ren7_N, ren7_Bo, ren7_B8, ren7_B32, ren7_B64, nms7_I, nms7_N, nms7_Bo, nms7_B8, nms7_B32, nms7_B64, nms_tup, ren_tup, implies_true, l17, l18, l19, l20, l36, l37, l38, l39, l43, l21, l22, l24, l25, l33, l35, l40, l42, l14, l27, bs_isCell, bs_nms, bs_ren, ibs_nms, ibs_ren, bs_length, aW_isCell, aB_isCell, isCell_sl, isCell_isl, isCell_nil, isCell_ptr, isCell_N]) only [ev_skip, ev_exit, ev_seq, ev_block, ev_region, regK_some, evOpers_nil, evOpers_cons, evOpers_cons_g, stepK_pure, guardK_true', put_some, evX_t, evX_c, outR_some, pickV_false, op_mv, op_pick, op_bin, op_un, op_call, callV_fn, andThen_normal, andThen_exit, inBlock_exit, ev_cond, condK_false, List.set_cons_zero, List.set_cons_succ, List.getD_cons_zero, List.getD_cons_succ, List.map_nil, List.length_cons, List.length_nil, Bo_not, callOp_C, calK_Bo, ev_loop, Nat.reduceAdd, stepK_new, if_true, Nat.zero_add, Nat.add_zero, decide_false, Nat.add_zero, Nat.zero_add, N_lss, Nat.reduceAdd, Nat.lt_irrefl, decide_false, Bool.not_true, eqp_ptr, L6b1, hnew, hlv]
      generalize hL : loopN L6k0 _ _ _ = r
      refine loop_use hL (nJ0 k x) k (by omega) (fun i st hi hI => n0_round _ _ (by omega) k hk3 x i hi st hI) ?_ ?_ ?_
      · refine canon_inv [(1, 0), (5, 0)] rfl (by simp only [canonNames, FUEL, reach_cons, reachK_some, reach_nil, nms_ptr, nms_sl, nms_Un, nms_undef, List.flatMap_cons, List.flatMap_nil, List.nil_append, List.cons_append, List.append_nil, List.range_zero, List.map_nil, List.contains_nil, List.contains_cons, Prod.mk.injEq, beq_iff_eq, Bool.or_eq_true, Bool.false_eq_true, Nat.reduceEqDiff, and_true, or_false, if_true, if_false, Nat.one_ne_zero, List.filter_cons, List.filter_nil, bne_iff_ne, ne_eq, not_false_eq_true, upd_at, mask_nil, mask_true, mask_false, nms_N, nms_nil, L6k0, h1, HsC_nms, bs_nms]) rfl ⟨_, rfl, ?_, .inl ⟨rfl, ?_⟩⟩
        · exact cN_same (1, 0) rfl (by simp only [upd_at, Prod.mk.injEq, Nat.reduceEqDiff, and_true, if_false, h1]) (bs_ren _ _)
        · exact cN_same (5, 0) rfl (by simp only [upd_at, if_true]) (by rw [HsC_ren, ren_nil])
      · rintro st ⟨H, rfl, h1, h2⟩
        apply stop_exit
        simp (disch := first | omega | decide | simp only [nms_B8, nms_B32, nms_B64, nms_I, nms_N, nms_Bo, nms_Un, nms_undef, nms_Hf, nms_ptr, nms_sl, aB_agg_nms, aW_agg_nms, aD_agg_nms, aO_agg_nms, List.flatMap_cons, List.flatMap_nil, List.nil_append, List.append_nil, ren_B8, ren_B32, ren_B64, ren_I, ren_N, ren_Bo, ren_Un, ren_undef, ren_Hf, aB_agg_ren, aW_agg_ren, aD_agg_ren, aO_agg_ren, List.map_cons, List.map_nil, ren7_I, ren7_N, ren7_Bo, ren7_B8, ren7_B32, ren7_B64, nms7_I, nms7_N, nms7_Bo, nms7_B8, nms7_B32, nms7_B64, nms_tup, ren_tup, implies_true, l17, l18, l19, l20, l36, l37, l38, l39, l43, l21, l22, l24, l25, l33, l35, l40, l42, l14, l27, bs_isCell, bs_nms, bs_ren, ibs_nms, ibs_ren, bs_length, aW_isCell, aB_isCell, isCell_sl, isCell_isl, isCell_nil, isCell_ptr, isCell_N]) only [ev_exit, ev_seq, ev_region, regK_some, evOpers_nil, evOpers_cons, stepK_pure, put_some, evX_t, outR_some, op_mv, op_bin, andThen_normal, andThen_exit, ev_cond, condK_false, List.set_cons_zero, List.set_cons_succ, List.getD_cons_zero, List.getD_cons_succ, List.length_cons, List.length_nil, Nat.reduceAdd, Nat.zero_add, Nat.add_zero, decide_false, N_lss, Nat.reduceAdd, Nat.lt_irrefl, decide_false, L6b0]
        rfl
      · clear hL h1
        rintro st ⟨H, rfl, h1, h2⟩ rfl
        have hB := lent_sl H (1, 0) 0 k (some k) _ [] h1 (by omega) rfl
        rw [htk] at hB
        have hs := fun bn => sum_call K bn H _ _ (by omega) hB (by omega)
        have hrs := fun bn => rsum_call K bn H _ _ (by omega) hB (by omega)
        simp (disch := first | omega | decide | simp only [nms_B8, nms_B32, nms_B64, nms_I, nms_N, nms_Bo, nms_Un, nms_undef, nms_Hf, nms_ptr, nms_sl, aB_agg_nms, aW_agg_nms, aD_agg_nms, aO_agg_nms, List.flatMap_cons, List.flatMap_nil, List.nil_append, List.append_nil, ren_B8, ren_B32, ren_B64, ren_I, ren_N, ren_Bo, ren_Un, ren_undef, ren_Hf, aB_agg_ren, aW_agg_ren, aD_agg_ren, aO_agg_ren, List.map_cons, List.map_nil, ren7_I, ren7_N, ren7_Bo, ren7_B8, ren7_B32, ren7_B64, nms7_I, nms7_N, nms7_Bo, nms7_B8, nms7_B32, nms7_B64, nms_tup, ren_tup, implies_true, l17, l18, l19, l20, l36, l37, l38, l39, l43, l21, l22, l24, l25, l33, l35, l40, l42, l14, l27, bs_isCell, bs_nms, bs_ren, ibs_nms, ibs_ren, bs_length, aW_isCell, aB_isCell, isCell_sl, isCell_isl, isCell_nil, isCell_ptr, isCell_N]) only [ev_exit, ev_seq, ev_region, regK_some, evOpers_nil, evOpers_cons, evOpers_cons_g, stepK_pure, guardK_true, put_some, evX_t, evX_c, outR_some, op_mv, op_bin, op_call, callV_fn, andThen_normal, andThen_exit, inBlock_exit, ev_cond, condK_false, List.set_cons_zero, List.set_cons_succ, List.getD_cons_zero, List.getD_cons_succ, List.map_cons, List.map_nil, List.length_cons, List.length_nil, Nat.reduceAdd, if_true, Nat.zero_add, Nat.add_zero, decide_false, aB_eql, Nat.add_zero, Nat.zero_add, N_lss, Nat.reduceAdd, Nat.lt_irrefl, decide_false, L6b0, hs, hrs, aB_self]
        generalize hc : callOp _ _ _ _ _ = r
        rcases h2 with ⟨h0, h2⟩ | ⟨h0, h2⟩
        · subst h0
          obtain ⟨y, rfl, hy⟩ := sum_0 hc h2 (by omega)
          have e : dig (List.replicate 0 x) = dig [] := rfl
          simp (disch := first | omega | decide | simp only [nms_B8, nms_B32, nms_B64, nms_I, nms_N, nms_Bo, nms_Un, nms_undef, nms_Hf, nms_ptr, nms_sl, aB_agg_nms, aW_agg_nms, aD_agg_nms, aO_agg_nms, List.flatMap_cons, List.flatMap_nil, List.nil_append, List.append_nil, ren_B8, ren_B32, ren_B64, ren_I, ren_N, ren_Bo, ren_Un, ren_undef, ren_Hf, aB_agg_ren, aW_agg_ren, aD_agg_ren, aO_agg_ren, List.map_cons, List.map_nil, ren7_I, ren7_N, ren7_Bo, ren7_B8, ren7_B32, ren7_B64, nms7_I, nms7_N, nms7_Bo, nms7_B8, nms7_B32, nms7_B64, nms_tup, ren_tup, implies_true, l17, l18, l19, l20, l36, l37, l38, l39, l43, l21, l22, l24, l25, l33, l35, l40, l42, l14, l27, bs_isCell, bs_nms, bs_ren, ibs_nms, ibs_ren, bs_length, aW_isCell, aB_isCell, isCell_sl, isCell_isl, isCell_nil, isCell_ptr, isCell_N]) only [ev_ret, regK_some, evOpers_nil, evOpers_cons, evOpers_cons_g, stepK_pure, guardK_true, put_some, evX_t, evX_c, outR_some, pickV_true, op_mv, op_pick, op_bin, op_call, callV_fn, andThen_normal, retK_ret, resVal_tmp, List.set_cons_zero, List.set_cons_succ, List.getD_cons_zero, List.getD_cons_succ, List.map_cons, List.map_nil, List.replicate_zero, outOf_Bo, Option.map_some, Nat.reduceAdd, stepK_mod, aB_eql, Nat.reduceAdd, Option.map_some, upd_id hy, hrs, aB_self]
        · obtain ⟨y, y2, rfl, hy, hy2⟩ := sum_G hc h2 (by omega) (by omega)
          simp (disch := first | omega | decide | simp only [nms_B8, nms_B32, nms_B64, nms_I, nms_N, nms_Bo, nms_Un, nms_undef, nms_Hf, nms_ptr, nms_sl, aB_agg_nms, aW_agg_nms, aD_agg_nms, aO_agg_nms, List.flatMap_cons, List.flatMap_nil, List.nil_append, List.append_nil, ren_B8, ren_B32, ren_B64, ren_I, ren_N, ren_Bo, ren_Un, ren_undef, ren_Hf, aB_agg_ren, aW_agg_ren, aD_agg_ren, aO_agg_ren, List.map_cons, List.map_nil, ren7_I, ren7_N, ren7_Bo, ren7_B8, ren7_B32, ren7_B64, nms7_I, nms7_N, nms7_Bo, nms7_B8, nms7_B32, nms7_B64, nms_tup, ren_tup, implies_true, l17, l18, l19, l20, l36, l37, l38, l39, l43, l21, l22, l24, l25, l33, l35, l40, l42, l14, l27, bs_isCell, bs_nms, bs_ren, ibs_nms, ibs_ren, bs_length, aW_isCell, aB_isCell, isCell_sl, isCell_isl, isCell_nil, isCell_ptr, isCell_N]) only [ev_ret, regK_some, evOpers_nil, evOpers_cons, evOpers_cons_g, guardK_true, put_some, evX_t, evX_c, outR_some, pickV_true, op_mv, op_pick, op_bin, op_call, callV_fn, andThen_normal, retK_ret, resVal_tmp, List.set_cons_zero, List.set_cons_succ, List.getD_cons_zero, List.getD_cons_succ, List.map_cons, List.map_nil, outOf_Bo, Option.map_some, Nat.reduceAdd, aB_eql, Nat.reduceAdd, updN_nil, modN_nil, modN_cons, Option.map_some, stepK_gen, upd_id hy, upd_id hy2, hrs, aB_self]

end Sha
