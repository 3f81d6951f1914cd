/- hmac by definition: pad, Tag; Equal. -/
/- Equal, evaluated. -/
/- Derive, evaluated. -/
/- Derive by definition, evaluated. -/
/- The blocks of hmac's live call, reckoned round by round. (Printed by wip/tools/mkblk2.py.) -/
/- What must come of every program (hmac), evaluated. -/
/- HmacEqual, evaluated. -/
import Derived.Test.YtpkifhjlmkbdpaaDoorLeV
import Derived.Test.YtpkifhjlmkbdpaaDoorLeE
import Derived.Test.YtpkifhjlmkbdpaaDoorLeU
set_option linter.unusedVariables false
set_option linter.unusedSimpArgs false

namespace Sha
open Go Go.LE

def pr (k : List (BitVec 8)) (x : BitVec 8) (i j : Nat) : BitVec 8 := if j < i then k.getD j 0#8 ^^^ x else 0#8
theorem pr_at (k : List (BitVec 8)) (x : BitVec 8) (i : Nat) : pr k x i i = 0#8 := by simp [pr]
theorem pr_succ (k : List (BitVec 8)) (x : BitVec 8) (i : Nat) : set1 (set1 (pr k x i) i (k.getD i 0#8)) i (k.getD i 0#8 ^^^ x) = pr k x (i + 1) := by
  funext j
  simp only [set1, pr]
  by_cases h : j = i
  · subst h; simp
  · rw [if_neg h, if_neg h]
    have : (j < i + 1) ↔ (j < i) := by omega
    simp only [this]
theorem pr_succ0 (k : List (BitVec 8)) (x : BitVec 8) (i : Nat) (h : k.length ≤ i) : set1 (pr k x i) i (0#8 ^^^ x) = pr k x (i + 1) := by
  have e : k.getD i 0#8 = 0#8 := by rw [List.getD_eq_getElem?_getD, List.getElem?_eq_none h]; rfl
  rw [← pr_succ, e]
  congr 1
  funext j
  simp only [set1, pr]
  by_cases h2 : j = i
  · subst h2; simp
  · rw [if_neg h2]

def dA (k : List (BitVec 8)) (x : BitVec 8) (i : Nat) (st : St) : Prop := ∃ (H : Heap), st = ⟨[.isl (bs k) k.length, B8 x, .undef, .undef, .undef, .undef, .sl (1, 0) 0 64 (some 64) 1, N i, .undef, .undef, .undef, .undef, .undef, .undef, .undef, .undef, .undef, .undef, .undef, .undef, .undef, .undef, .undef, .undef, .undef, .undef, .undef, .undef, .undef, .undef, .undef, .undef, .undef, .undef, .undef, .undef, .undef, .undef, .undef, .undef], H, 2, 0⟩ ∧ H (1, 0) = some (aB 64 (pr k x i))
def dB (k : List (BitVec 8)) (x : BitVec 8) (i : Nat) (st : St) : Prop := ∃ (H : Heap), st = ⟨[.sl (1, 0) 0 32 (some 32) 1, B8 x, .undef, .undef, .undef, .undef, .sl (1, 1) 0 64 (some 64) 1, N i, .undef, .undef, .undef, .undef, .undef, .undef, .undef, .undef, .undef, .undef, .undef, .undef, .undef, .undef, .undef, .undef, .undef, .undef, .undef, .undef, .undef, .undef, .undef, .undef, .undef, .undef, .undef, .undef, .undef, .undef, .undef, .undef], H, 2, 0⟩ ∧ H (1, 0) = some (bs k) ∧ H (1, 1) = some (aB 64 (pr k x i))

set_option maxRecDepth 10000 in
theorem dA_round (K k0 : Nat) (k : List (BitVec 8)) (hk : k.length ≤ 64) (x : BitVec 8) (i : Nat) (hi : i < 64) (st : St) (hI : dA k x i st) :
    ∃ st1, ev (envC C k0) K L41b0 st = some (.normal, st1) ∧ dA k x (i + 1) (canon L41k0 st1) := by
  obtain ⟨H, rfl, h1⟩ := hI
  have e0 : ∀ H : Heap, i < k.length → cellAt H 1 (.ipt ((bs k).drop i)) = some [B8 (k.getD i 0#8)] := fun H h => cellAt_ibyte k i h
  by_cases h : i < k.length
  · have e0' := fun H => e0 H h
    apply Exists.intro
    apply And.intro
    · simp (disch := first | omega | decide | simp only [nms_B8, nms_B32, nms_B64, nms_I, nms_N, nms_Bo, nms_Un, nms_undef, nms_Hf, nms_ptr, nms_sl, aB_agg_nms, aW_agg_nms, aD_agg_nms, aO_agg_nms, List.flatMap_cons, List.flatMap_nil, List.nil_append, List.append_nil, ren_B8, ren_B32, ren_B64, ren_I, ren_N, ren_Bo, ren_Un, ren_undef, ren_Hf, aB_agg_ren, aW_agg_ren, aD_agg_ren, aO_agg_ren, List.map_cons, List.map_nil, ren7_I, ren7_N, ren7_Bo, ren7_B8, ren7_B32, ren7_B64, nms7_I, nms7_N, nms7_Bo, nms7_B8, nms7_B32, nms7_B64, nms_tup, ren_tup, implies_true, l17, l18, l19, l20, l36, l37, l38, l39, l43, l21, l22, l24, l25, l33, l35, l40, l42, l14, l27, bs_isCell, bs_nms, bs_ren, ibs_nms, ibs_ren, bs_length, aW_isCell, aB_isCell, isCell_sl, isCell_isl, isCell_nil, isCell_ptr, isCell_N]) only [ev_skip, ev_seq, ev_block, ev_region, regK_some, evOpers_nil, evOpers_cons, stepK_pure, put_some, put_none, evX_t, evX_c, outR_some, op_mv, op_bin, andThen_normal, inBlock_normal, ev_cond, condK_true, List.set_cons_zero, List.set_cons_succ, List.getD_cons_zero, List.getD_cons_succ, List.length_cons, List.length_nil, B8_xor, Nat.reduceAdd, upd_at, stepK_mod, cellsOf_B8, cellAt_ptr, ld1K_some, op_ld1, op_st, stV_ptr, if_true, Nat.zero_add, Nat.add_zero, decide_true, aB_cell, aB_st, Nat.mul_one, Nat.add_zero, Nat.zero_add, N_add, N_lss, N_nat, Nat.reduceAdd, decide_true, op_len, lenV_some, lenS_isl, op_iaS, iaSV_sl, iaSV_isl, Nat.mul_one, L41b0, hi, h, h1, e0', set1_same, pr_succ]
      rfl
    · refine canon_inv [(1, 0)] rfl (by simp only [canonNames, FUEL, reach_cons, reachK_some, reach_nil, nms_sl, nms_B8, nms_undef, List.flatMap_cons, List.flatMap_nil, List.nil_append, List.append_nil, List.range_zero, List.map_nil, List.contains_nil, Bool.false_eq_true, if_true, if_false, Nat.one_ne_zero, List.filter_cons, List.filter_nil, bne_iff_ne, ne_eq, not_false_eq_true, upd_at, mask_nil, mask_true, mask_false, nms_N, L41k0, aB_nms, ibs_nms]) ?_ ⟨_, rfl, ?_⟩
      · simp only [L41k0, ren_B8, List.map_cons, List.map_nil, ibs_ren, ren_slF, mask_true, mask_false, mask_nil, ren_undef]
        rfl
      · exact cN_same (1, 0) rfl (by simp only [upd_at, if_true]) (aB_ren _ _ _)
  · apply Exists.intro
    apply And.intro
    · simp (disch := first | omega | decide | simp only [nms_B8, nms_B32, nms_B64, nms_I, nms_N, nms_Bo, nms_Un, nms_undef, nms_Hf, nms_ptr, nms_sl, aB_agg_nms, aW_agg_nms, aD_agg_nms, aO_agg_nms, List.flatMap_cons, List.flatMap_nil, List.nil_append, List.append_nil, ren_B8, ren_B32, ren_B64, ren_I, ren_N, ren_Bo, ren_Un, ren_undef, ren_Hf, aB_agg_ren, aW_agg_ren, aD_agg_ren, aO_agg_ren, List.map_cons, List.map_nil, ren7_I, ren7_N, ren7_Bo, ren7_B8, ren7_B32, ren7_B64, nms7_I, nms7_N, nms7_Bo, nms7_B8, nms7_B32, nms7_B64, nms_tup, ren_tup, implies_true, l17, l18, l19, l20, l36, l37, l38, l39, l43, l21, l22, l24, l25, l33, l35, l40, l42, l14, l27, bs_isCell, bs_nms, bs_ren, ibs_nms, ibs_ren, bs_length, aW_isCell, aB_isCell, isCell_sl, isCell_isl, isCell_nil, isCell_ptr, isCell_N]) only [ev_skip, ev_seq, ev_block, ev_region, regK_some, evOpers_nil, evOpers_cons, stepK_pure, put_some, put_none, evX_t, evX_c, outR_some, op_mv, op_bin, andThen_normal, inBlock_normal, ev_cond, condK_true, condK_false, List.set_cons_zero, List.set_cons_succ, List.getD_cons_zero, List.getD_cons_succ, List.length_cons, List.length_nil, B8_xor, Nat.reduceAdd, stepK_mod, cellsOf_B8, cellAt_ptr, ld1K_some, op_ld1, op_st, stV_ptr, Nat.zero_add, Nat.add_zero, decide_true, decide_false, aB_cell, aB_st, Nat.mul_one, Nat.add_zero, Nat.zero_add, N_add, N_lss, N_nat, Nat.reduceAdd, decide_false, decide_true, op_len, lenV_some, lenS_isl, op_iaS, iaSV_sl, Nat.mul_one, L41b0, hi, h, h1, pr_at, pr_succ0]
      rfl
    · refine canon_inv [(1, 0)] rfl (by simp only [canonNames, FUEL, reach_cons, reachK_some, reach_nil, nms_sl, nms_B8, nms_undef, List.flatMap_cons, List.flatMap_nil, List.nil_append, List.append_nil, List.range_zero, List.map_nil, List.contains_nil, Bool.false_eq_true, if_true, if_false, Nat.one_ne_zero, List.filter_cons, List.filter_nil, bne_iff_ne, ne_eq, not_false_eq_true, upd_at, mask_nil, mask_true, mask_false, nms_N, L41k0, aB_nms, ibs_nms]) ?_ ⟨_, rfl, ?_⟩
      · simp only [L41k0, ren_B8, List.map_cons, List.map_nil, ibs_ren, ren_slF, mask_true, mask_false, mask_nil, ren_undef]
        rfl
      · exact cN_same (1, 0) rfl (by simp only [upd_at, if_true]) (aB_ren _ _ _)

set_option maxRecDepth 10000 in
theorem dB_round (K k0 : Nat) (k : List (BitVec 8)) (hk : k.length = 32) (x : BitVec 8) (i : Nat) (hi : i < 64) (st : St) (hI : dB k x i st) :
    ∃ st1, ev (envC C k0) K L41b0 st = some (.normal, st1) ∧ dB k x (i + 1) (canon L41k0 st1) := by
  obtain ⟨H, rfl, h0, h1⟩ := hI
  by_cases h : i < 32
  · have hc : cellK i 1 (some (bs k)) = some [B8 (k.getD i 0#8)] := bs_cell k i (by omega)
    apply Exists.intro
    apply And.intro
    · simp (disch := first | omega | decide | simp only [nms_B8, nms_B32, nms_B64, nms_I, nms_N, nms_Bo, nms_Un, nms_undef, nms_Hf, nms_ptr, nms_sl, aB_agg_nms, aW_agg_nms, aD_agg_nms, aO_agg_nms, List.flatMap_cons, List.flatMap_nil, List.nil_append, List.append_nil, ren_B8, ren_B32, ren_B64, ren_I, ren_N, ren_Bo, ren_Un, ren_undef, ren_Hf, aB_agg_ren, aW_agg_ren, aD_agg_ren, aO_agg_ren, List.map_cons, List.map_nil, ren7_I, ren7_N, ren7_Bo, ren7_B8, ren7_B32, ren7_B64, nms7_I, nms7_N, nms7_Bo, nms7_B8, nms7_B32, nms7_B64, nms_tup, ren_tup, implies_true, l17, l18, l19, l20, l36, l37, l38, l39, l43, l21, l22, l24, l25, l33, l35, l40, l42, l14, l27, bs_isCell, bs_nms, bs_ren, ibs_nms, ibs_ren, bs_length, aW_isCell, aB_isCell, isCell_sl, isCell_isl, isCell_nil, isCell_ptr, isCell_N]) only [ev_skip, ev_seq, ev_block, ev_region, regK_some, evOpers_nil, evOpers_cons, stepK_pure, put_some, put_none, evX_t, evX_c, outR_some, op_mv, op_bin, andThen_normal, inBlock_normal, ev_cond, condK_true, List.set_cons_zero, List.set_cons_succ, List.getD_cons_zero, List.getD_cons_succ, List.length_cons, List.length_nil, B8_xor, Nat.reduceAdd, upd_at, stepK_mod, cellsOf_B8, cellAt_ptr, ld1K_some, op_ld1, op_st, stV_ptr, if_true, Nat.zero_add, Nat.add_zero, decide_true, aB_cell, aB_st, Nat.mul_one, Nat.add_zero, Nat.zero_add, N_add, N_lss, N_nat, Nat.reduceAdd, decide_true, op_len, lenV_some, lenS_sl, op_iaS, iaSV_sl, Nat.mul_one, L41b0, hi, h, h0, h1, hc, set1_same, pr_succ]
      rfl
    · refine canon_inv [(1, 0), (1, 1)] rfl (by simp only [canonNames, FUEL, reach_cons, reachK_some, reach_nil, nms_sl, nms_B8, nms_undef, List.flatMap_cons, List.flatMap_nil, List.nil_append, List.cons_append, List.append_nil, List.range_zero, List.map_nil, List.contains_nil, List.contains_cons, Prod.mk.injEq, beq_iff_eq, Bool.or_eq_true, Bool.false_eq_true, and_false, or_false, if_true, if_false, Nat.one_ne_zero, Nat.zero_ne_one, List.filter_cons, List.filter_nil, bne_iff_ne, ne_eq, not_false_eq_true, upd_at, mask_nil, mask_true, mask_false, nms_N, L41k0, h0, aB_nms, bs_nms]) rfl ⟨_, rfl, ?_, ?_⟩
      · exact cN_same (1, 0) rfl (by simp only [upd_at, Prod.mk.injEq, and_false, if_false, Nat.zero_ne_one, h0]) (bs_ren _ _)
      · exact cN_same (1, 1) rfl (by simp only [upd_at, if_true]) (aB_ren _ _ _)
  · have hle : k.length ≤ i := by omega
    apply Exists.intro
    apply And.intro
    · simp (disch := first | omega | decide | simp only [nms_B8, nms_B32, nms_B64, nms_I, nms_N, nms_Bo, nms_Un, nms_undef, nms_Hf, nms_ptr, nms_sl, aB_agg_nms, aW_agg_nms, aD_agg_nms, aO_agg_nms, List.flatMap_cons, List.flatMap_nil, List.nil_append, List.append_nil, ren_B8, ren_B32, ren_B64, ren_I, ren_N, ren_Bo, ren_Un, ren_undef, ren_Hf, aB_agg_ren, aW_agg_ren, aD_agg_ren, aO_agg_ren, List.map_cons, List.map_nil, ren7_I, ren7_N, ren7_Bo, ren7_B8, ren7_B32, ren7_B64, nms7_I, nms7_N, nms7_Bo, nms7_B8, nms7_B32, nms7_B64, nms_tup, ren_tup, implies_true, l17, l18, l19, l20, l36, l37, l38, l39, l43, l21, l22, l24, l25, l33, l35, l40, l42, l14, l27, bs_isCell, bs_nms, bs_ren, ibs_nms, ibs_ren, bs_length, aW_isCell, aB_isCell, isCell_sl, isCell_isl, isCell_nil, isCell_ptr, isCell_N]) only [ev_skip, ev_seq, ev_block, ev_region, regK_some, evOpers_nil, evOpers_cons, stepK_pure, put_some, put_none, evX_t, evX_c, outR_some, op_mv, op_bin, andThen_normal, inBlock_normal, ev_cond, condK_true, condK_false, List.set_cons_zero, List.set_cons_succ, List.getD_cons_zero, List.getD_cons_succ, List.length_cons, List.length_nil, B8_xor, Nat.reduceAdd, stepK_mod, cellsOf_B8, cellAt_ptr, ld1K_some, op_ld1, op_st, stV_ptr, Nat.zero_add, Nat.add_zero, decide_true, decide_false, aB_cell, aB_st, Nat.mul_one, Nat.add_zero, Nat.zero_add, N_add, N_lss, N_nat, Nat.reduceAdd, decide_false, decide_true, op_len, lenV_some, lenS_sl, op_iaS, iaSV_sl, Nat.mul_one, L41b0, hi, h, h1, pr_at, pr_succ0]
      rfl
    · refine canon_inv [(1, 0), (1, 1)] rfl (by simp only [canonNames, FUEL, reach_cons, reachK_some, reach_nil, nms_sl, nms_B8, nms_undef, List.flatMap_cons, List.flatMap_nil, List.nil_append, List.cons_append, List.append_nil, List.range_zero, List.map_nil, List.contains_nil, List.contains_cons, Prod.mk.injEq, beq_iff_eq, Bool.or_eq_true, Bool.false_eq_true, and_false, or_false, if_true, if_false, Nat.one_ne_zero, Nat.zero_ne_one, List.filter_cons, List.filter_nil, bne_iff_ne, ne_eq, not_false_eq_true, upd_at, mask_nil, mask_true, mask_false, nms_N, L41k0, h0, aB_nms, bs_nms]) rfl ⟨_, rfl, ?_, ?_⟩
      · exact cN_same (1, 0) rfl (by simp only [upd_at, Prod.mk.injEq, and_false, if_false, Nat.zero_ne_one, h0]) (bs_ren _ _)
      · exact cN_same (1, 1) rfl (by simp only [upd_at, if_true]) (aB_ren _ _ _)

theorem pr_xl (key : List (BitVec 8)) (x : BitVec 8) : aB 64 (pr (rk key) x 64) = bs (xl (rdy key) x) := by
  rw [xl, ← aB_bs]; exact aB_ext 64 fun i h => by simp only [pr, if_pos h, rdy]
theorem pr_zero (k : List (BitVec 8)) (x : BitVec 8) : pr k x 0 = fun _ => 0#8 := by funext j; simp [pr]

theorem pr_e64 (k : List (BitVec 8)) (x : BitVec 8) : bs (List.replicate 64 0#8) = aB 64 (pr k x 0) := by rw [pr_zero, ← aB_rep, bs_rep]

set_option maxRecDepth 10000 in
theorem pad_F (K : Nat) (key : List (BitVec 8)) (x : BitVec 8) (hb : key.length ≤ 211106232000000) (hK : key.length / 64 + 400 ≤ K) :
    F C (K + 1) 41 [.isl (bs key) key.length, B8 x] [] = some (.sl (1, 0) 0 64 (some 64) 1, [], [bs (xl (rdy key) x)]) := by
  rw [F_succ f41]
  have hs := fun bn (H : Heap) => rsum_call K bn H (.isl (bs key) key.length) key (by omega) (lent_isl H key []) (by omega)
  have hx := pr_xl key x
  by_cases h64 : 64 < key.length
  · have hrk : rk key = dl key := by rw [rk, if_pos h64]
    rw [hrk] at hx
    simp (disch := first | omega | decide | simp only [nms_B8, nms_B32, nms_B64, nms_I, nms_N, nms_Bo, nms_Un, nms_undef, nms_Hf, nms_ptr, nms_sl, aB_agg_nms, aW_agg_nms, aD_agg_nms, aO_agg_nms, List.flatMap_cons, List.flatMap_nil, List.nil_append, List.append_nil, ren_B8, ren_B32, ren_B64, ren_I, ren_N, ren_Bo, ren_Un, ren_undef, ren_Hf, aB_agg_ren, aW_agg_ren, aD_agg_ren, aO_agg_ren, List.map_cons, List.map_nil, ren7_I, ren7_N, ren7_Bo, ren7_B8, ren7_B32, ren7_B64, nms7_I, nms7_N, nms7_Bo, nms7_B8, nms7_B32, nms7_B64, nms_tup, ren_tup, implies_true, l17, l18, l19, l20, l36, l37, l38, l39, l43, l21, l22, l24, l25, l33, l35, l40, l42, l14, l27, bs_isCell, bs_nms, bs_ren, ibs_nms, ibs_ren, bs_length, aW_isCell, aB_isCell, isCell_sl, isCell_isl, isCell_nil, isCell_ptr, isCell_N]) only [funSem_eq, ev_seq, ev_block, ev_region, regK_some, evOpers_nil, evOpers_cons, stepK_pure, put_some, put_none, evX_t, evX_c, outR_some, op_mv, op_bin, op_call, callV_fn, andThen_normal, ev_cond, condK_true, List.set_cons_zero, List.set_cons_succ, List.getD_cons_zero, List.getD_cons_succ, List.map_cons, List.map_nil, List.nil_append, List.cons_append, repUn_succ, List.replicate_zero, List.length_cons, List.length_nil, ev_loop, Nat.reduceAdd, Nat.reduceSub, upd_at, stepK_new, stepK_mod, cellsOf_agg, op_new, op_st, stV_ptr, if_true, Nat.zero_add, Nat.add_zero, decide_true, aB_rep, aB_st_all, Nat.mul_one, Nat.add_zero, Nat.zero_add, N_gtr, N_nat, Nat.reduceAdd, decide_true, op_len, lenV_some, lenS_isl, optNat_none, op_slcAV, slcAV_ptr, op_mkslice, Nat.sub_zero, Nat.mul_one, inHeap_none, L41, h64, hs, mk_bytes]
    generalize hL : loopN L41k0 _ _ _ = r
    refine loop_use hL (dB (dl key) x) 64 (by omega) (fun i st hi hI => dB_round _ _ _ (dl_length key) x i hi st hI) ?_ ?_ ?_
    · refine canon_inv [_, _] rfl (by simp only [canonNames, FUEL, reach_cons, reachK_some, reach_nil, nms_sl, nms_B8, nms_undef, List.flatMap_cons, List.flatMap_nil, List.nil_append, List.cons_append, List.append_nil, List.range_zero, List.map_nil, List.contains_nil, List.contains_cons, Prod.mk.injEq, beq_iff_eq, Bool.or_eq_true, Bool.false_eq_true, Nat.reduceEqDiff, and_true, or_false, if_true, if_false, List.filter_cons, List.filter_nil, bne_iff_ne, ne_eq, not_false_eq_true, upd_at, mask_nil, mask_true, mask_false, inHeap_none, nms_N, L41k0, aB_nms, bs_nms]; rfl) rfl ⟨_, rfl, ?_, ?_⟩
      · exact cN_same _ rfl (by simp only [upd_at, Prod.mk.injEq, Nat.reduceEqDiff, and_true, if_true, if_false, aB_dl]) (bs_ren _ _)
      · exact cN_same _ rfl (by simp only [upd_at, Prod.mk.injEq, Nat.reduceEqDiff, and_true, if_true, if_false, pr_e64 (dl key) x]) (aB_ren _ _ _)
    · rintro st ⟨H, rfl, h0, h1⟩
      apply stop_exit
      simp (disch := first | omega | decide | simp only [nms_B8, nms_B32, nms_B64, nms_I, nms_N, nms_Bo, nms_Un, nms_undef, nms_Hf, nms_ptr, nms_sl, aB_agg_nms, aW_agg_nms, aD_agg_nms, aO_agg_nms, List.flatMap_cons, List.flatMap_nil, List.nil_append, List.append_nil, ren_B8, ren_B32, ren_B64, ren_I, ren_N, ren_Bo, ren_Un, ren_undef, ren_Hf, aB_agg_ren, aW_agg_ren, aD_agg_ren, aO_agg_ren, List.map_cons, List.map_nil, ren7_I, ren7_N, ren7_Bo, ren7_B8, ren7_B32, ren7_B64, nms7_I, nms7_N, nms7_Bo, nms7_B8, nms7_B32, nms7_B64, nms_tup, ren_tup, implies_true, l17, l18, l19, l20, l36, l37, l38, l39, l43, l21, l22, l24, l25, l33, l35, l40, l42, l14, l27, bs_isCell, bs_nms, bs_ren, ibs_nms, ibs_ren, bs_length, aW_isCell, aB_isCell, isCell_sl, isCell_isl, isCell_nil, isCell_ptr, isCell_N]) only [ev_exit, ev_seq, ev_region, regK_some, evOpers_nil, evOpers_cons, stepK_pure, put_some, evX_t, evX_c, outR_some, op_mv, op_bin, andThen_normal, andThen_exit, ev_cond, condK_false, List.set_cons_zero, List.set_cons_succ, List.getD_cons_zero, List.getD_cons_succ, List.length_cons, List.length_nil, Nat.reduceAdd, Nat.zero_add, Nat.add_zero, decide_false, N_lss, Nat.reduceAdd, Nat.lt_irrefl, decide_false, L41b0]
      rfl
    · rintro st ⟨H, rfl, h0, h1⟩ rfl
      simp (disch := first | omega | decide | simp only [nms_B8, nms_B32, nms_B64, nms_I, nms_N, nms_Bo, nms_Un, nms_undef, nms_Hf, nms_ptr, nms_sl, aB_agg_nms, aW_agg_nms, aD_agg_nms, aO_agg_nms, List.flatMap_cons, List.flatMap_nil, List.nil_append, List.append_nil, ren_B8, ren_B32, ren_B64, ren_I, ren_N, ren_Bo, ren_Un, ren_undef, ren_Hf, aB_agg_ren, aW_agg_ren, aD_agg_ren, aO_agg_ren, List.map_cons, List.map_nil, ren7_I, ren7_N, ren7_Bo, ren7_B8, ren7_B32, ren7_B64, nms7_I, nms7_N, nms7_Bo, nms7_B8, nms7_B32, nms7_B64, nms_tup, ren_tup, implies_true, l17, l18, l19, l20, l36, l37, l38, l39, l43, l21, l22, l24, l25, l33, l35, l40, l42, l14, l27, bs_isCell, bs_nms, bs_ren, ibs_nms, ibs_ren, bs_length, aW_isCell, aB_isCell, isCell_sl, isCell_isl, isCell_nil, isCell_ptr, isCell_N]) only [ev_ret, ev_exit, ev_seq, ev_region, regK_some, evOpers_nil, evOpers_cons, stepK_pure, put_some, evX_t, evX_c, outR_some, op_mv, op_bin, andThen_normal, andThen_exit, inBlock_exit, ev_cond, condK_false, retK_ret, resVal_tmp, List.set_cons_zero, List.set_cons_succ, List.getD_cons_zero, List.getD_cons_succ, List.length_cons, List.length_nil, Option.map_some, Nat.reduceAdd, if_true, Nat.zero_add, Nat.add_zero, decide_false, Nat.add_zero, Nat.zero_add, N_lss, Nat.reduceAdd, Nat.lt_irrefl, decide_false, Option.map_some, L41b0]
      rw [hx] at h1
      rw [outOf_mem 0 _ _ [(1, 1)] (by simp only [canonNames, FUEL, reach_cons, reachK_some, reach_nil, nms_sl, List.flatMap_cons, List.flatMap_nil, List.nil_append, List.append_nil, List.range_zero, List.map_nil, List.contains_nil, Bool.false_eq_true, if_true, if_false, Nat.one_ne_zero, List.filter_cons, List.filter_nil, bne_iff_ne, ne_eq, not_false_eq_true, h1, bs_nms])]
      simp (disch := first | omega | decide | simp only [nms_B8, nms_B32, nms_B64, nms_I, nms_N, nms_Bo, nms_Un, nms_undef, nms_Hf, nms_ptr, nms_sl, aB_agg_nms, aW_agg_nms, aD_agg_nms, aO_agg_nms, List.flatMap_cons, List.flatMap_nil, List.nil_append, List.append_nil, ren_B8, ren_B32, ren_B64, ren_I, ren_N, ren_Bo, ren_Un, ren_undef, ren_Hf, aB_agg_ren, aW_agg_ren, aD_agg_ren, aO_agg_ren, List.map_cons, List.map_nil, ren7_I, ren7_N, ren7_Bo, ren7_B8, ren7_B32, ren7_B64, nms7_I, nms7_N, nms7_Bo, nms7_B8, nms7_B32, nms7_B64, nms_tup, ren_tup, implies_true, l17, l18, l19, l20, l36, l37, l38, l39, l43, l21, l22, l24, l25, l33, l35, l40, l42, l14, l27, bs_isCell, bs_nms, bs_ren, ibs_nms, ibs_ren, bs_length, aW_isCell, aB_isCell, isCell_sl, isCell_isl, isCell_nil, isCell_ptr, isCell_N]) only [List.map_cons, List.map_nil, Option.map_some, if_true, Nat.zero_add, idx_cons, canonMap_ne, List.filterMap_nil, Option.map_some, bs_ren, List.filterMap_cons, List.range_zero, ren_slF, slO_some, h1]
  · have hrk : rk key = key := by rw [rk, if_neg h64]
    rw [hrk] at hx
    simp (disch := first | omega | decide | simp only [nms_B8, nms_B32, nms_B64, nms_I, nms_N, nms_Bo, nms_Un, nms_undef, nms_Hf, nms_ptr, nms_sl, aB_agg_nms, aW_agg_nms, aD_agg_nms, aO_agg_nms, List.flatMap_cons, List.flatMap_nil, List.nil_append, List.append_nil, ren_B8, ren_B32, ren_B64, ren_I, ren_N, ren_Bo, ren_Un, ren_undef, ren_Hf, aB_agg_ren, aW_agg_ren, aD_agg_ren, aO_agg_ren, List.map_cons, List.map_nil, ren7_I, ren7_N, ren7_Bo, ren7_B8, ren7_B32, ren7_B64, nms7_I, nms7_N, nms7_Bo, nms7_B8, nms7_B32, nms7_B64, nms_tup, ren_tup, implies_true, l17, l18, l19, l20, l36, l37, l38, l39, l43, l21, l22, l24, l25, l33, l35, l40, l42, l14, l27, bs_isCell, bs_nms, bs_ren, ibs_nms, ibs_ren, bs_length, aW_isCell, aB_isCell, isCell_sl, isCell_isl, isCell_nil, isCell_ptr, isCell_N]) only [funSem_eq, ev_skip, ev_seq, ev_block, ev_region, regK_some, evOpers_nil, evOpers_cons, stepK_pure, put_some, evX_t, evX_c, outR_some, op_mv, op_bin, andThen_normal, ev_cond, condK_false, List.set_cons_zero, List.set_cons_succ, List.getD_cons_zero, List.getD_cons_succ, List.nil_append, List.cons_append, repUn_succ, List.replicate_zero, List.length_cons, List.length_nil, ev_loop, Nat.reduceAdd, Nat.reduceSub, stepK_new, Nat.zero_add, Nat.add_zero, decide_false, aB_rep, Nat.add_zero, Nat.zero_add, N_gtr, N_nat, Nat.reduceAdd, decide_false, op_len, lenV_some, lenS_isl, op_mkslice, L41, h64, mk_bytes]
    generalize hL : loopN L41k0 _ _ _ = r
    refine loop_use hL (dA key x) 64 (by omega) (fun i st hi hI => dA_round _ _ _ (by omega) x i hi st hI) ?_ ?_ ?_
    · refine canon_inv [_] rfl (by simp only [canonNames, FUEL, reach_cons, reachK_some, reach_nil, nms_sl, nms_B8, nms_undef, List.flatMap_cons, List.flatMap_nil, List.nil_append, List.append_nil, List.range_zero, List.map_nil, List.contains_nil, Bool.false_eq_true, Nat.reduceEqDiff, if_true, if_false, List.filter_cons, List.filter_nil, bne_iff_ne, ne_eq, not_false_eq_true, upd_at, mask_nil, mask_true, mask_false, inHeap_none, nms_N, L41k0, bs_nms, ibs_nms]; rfl) ?_ ⟨_, rfl, ?_⟩
      · simp only [L41k0, ren_B8, List.map_cons, List.map_nil, ibs_ren, ren_slF, mask_true, mask_false, mask_nil, ren_undef]
        rfl
      · exact cN_same _ rfl (by simp only [upd_at, if_true, pr_e64 key x]) (aB_ren _ _ _)
    · rintro st ⟨H, rfl, h1⟩
      apply stop_exit
      simp (disch := first | omega | decide | simp only [nms_B8, nms_B32, nms_B64, nms_I, nms_N, nms_Bo, nms_Un, nms_undef, nms_Hf, nms_ptr, nms_sl, aB_agg_nms, aW_agg_nms, aD_agg_nms, aO_agg_nms, List.flatMap_cons, List.flatMap_nil, List.nil_append, List.append_nil, ren_B8, ren_B32, ren_B64, ren_I, ren_N, ren_Bo, ren_Un, ren_undef, ren_Hf, aB_agg_ren, aW_agg_ren, aD_agg_ren, aO_agg_ren, List.map_cons, List.map_nil, ren7_I, ren7_N, ren7_Bo, ren7_B8, ren7_B32, ren7_B64, nms7_I, nms7_N, nms7_Bo, nms7_B8, nms7_B32, nms7_B64, nms_tup, ren_tup, implies_true, l17, l18, l19, l20, l36, l37, l38, l39, l43, l21, l22, l24, l25, l33, l35, l40, l42, l14, l27, bs_isCell, bs_nms, bs_ren, ibs_nms, ibs_ren, bs_length, aW_isCell, aB_isCell, isCell_sl, isCell_isl, isCell_nil, isCell_ptr, isCell_N]) only [ev_exit, ev_seq, ev_region, regK_some, evOpers_nil, evOpers_cons, stepK_pure, put_some, evX_t, evX_c, outR_some, op_mv, op_bin, andThen_normal, andThen_exit, ev_cond, condK_false, List.set_cons_zero, List.set_cons_succ, List.getD_cons_zero, List.getD_cons_succ, List.length_cons, List.length_nil, Nat.reduceAdd, Nat.zero_add, Nat.add_zero, decide_false, N_lss, Nat.reduceAdd, Nat.lt_irrefl, decide_false, L41b0]
      rfl
    · rintro st ⟨H, rfl, h1⟩ rfl
      simp (disch := first | omega | decide | simp only [nms_B8, nms_B32, nms_B64, nms_I, nms_N, nms_Bo, nms_Un, nms_undef, nms_Hf, nms_ptr, nms_sl, aB_agg_nms, aW_agg_nms, aD_agg_nms, aO_agg_nms, List.flatMap_cons, List.flatMap_nil, List.nil_append, List.append_nil, ren_B8, ren_B32, ren_B64, ren_I, ren_N, ren_Bo, ren_Un, ren_undef, ren_Hf, aB_agg_ren, aW_agg_ren, aD_agg_ren, aO_agg_ren, List.map_cons, List.map_nil, ren7_I, ren7_N, ren7_Bo, ren7_B8, ren7_B32, ren7_B64, nms7_I, nms7_N, nms7_Bo, nms7_B8, nms7_B32, nms7_B64, nms_tup, ren_tup, implies_true, l17, l18, l19, l20, l36, l37, l38, l39, l43, l21, l22, l24, l25, l33, l35, l40, l42, l14, l27, bs_isCell, bs_nms, bs_ren, ibs_nms, ibs_ren, bs_length, aW_isCell, aB_isCell, isCell_sl, isCell_isl, isCell_nil, isCell_ptr, isCell_N]) only [ev_ret, ev_exit, ev_seq, ev_region, regK_some, evOpers_nil, evOpers_cons, stepK_pure, put_some, evX_t, evX_c, outR_some, op_mv, op_bin, andThen_normal, andThen_exit, inBlock_exit, ev_cond, condK_false, retK_ret, resVal_tmp, List.set_cons_zero, List.set_cons_succ, List.getD_cons_zero, List.getD_cons_succ, List.length_cons, List.length_nil, Option.map_some, Nat.reduceAdd, if_true, Nat.zero_add, Nat.add_zero, decide_false, Nat.add_zero, Nat.zero_add, N_lss, Nat.reduceAdd, Nat.lt_irrefl, decide_false, Option.map_some, L41b0]
      rw [hx] at h1
      rw [outOf_mem 0 _ _ [(1, 0)] (by simp only [canonNames, FUEL, reach_cons, reachK_some, reach_nil, nms_sl, List.flatMap_cons, List.flatMap_nil, List.nil_append, List.append_nil, List.range_zero, List.map_nil, List.contains_nil, Bool.false_eq_true, if_true, if_false, Nat.one_ne_zero, List.filter_cons, List.filter_nil, bne_iff_ne, ne_eq, not_false_eq_true, h1, bs_nms])]
      simp (disch := first | omega | decide | simp only [nms_B8, nms_B32, nms_B64, nms_I, nms_N, nms_Bo, nms_Un, nms_undef, nms_Hf, nms_ptr, nms_sl, aB_agg_nms, aW_agg_nms, aD_agg_nms, aO_agg_nms, List.flatMap_cons, List.flatMap_nil, List.nil_append, List.append_nil, ren_B8, ren_B32, ren_B64, ren_I, ren_N, ren_Bo, ren_Un, ren_undef, ren_Hf, aB_agg_ren, aW_agg_ren, aD_agg_ren, aO_agg_ren, List.map_cons, List.map_nil, ren7_I, ren7_N, ren7_Bo, ren7_B8, ren7_B32, ren7_B64, nms7_I, nms7_N, nms7_Bo, nms7_B8, nms7_B32, nms7_B64, nms_tup, ren_tup, implies_true, l17, l18, l19, l20, l36, l37, l38, l39, l43, l21, l22, l24, l25, l33, l35, l40, l42, l14, l27, bs_isCell, bs_nms, bs_ren, ibs_nms, ibs_ren, bs_length, aW_isCell, aB_isCell, isCell_sl, isCell_isl, isCell_nil, isCell_ptr, isCell_N]) only [List.map_cons, List.map_nil, Option.map_some, if_true, Nat.zero_add, idx_cons, canonMap_ne, List.filterMap_nil, Option.map_some, bs_ren, List.filterMap_cons, List.range_zero, ren_slF, slO_some, h1]

theorem pad_call (K b : Nat) (H : Heap) (B : LV) (key : List (BitVec 8)) (x : BitVec 8) (hB : Lent H B key []) (hb : key.length ≤ 211106232000000) (hK : key.length / 64 + 400 ≤ K) :
    callOp (envC C (K + 1)) H b 41 [B, B8 x] = some ⟨.sl (b, 0) 0 64 (some 64) 1, [bs (xl (rdy key) x)], []⟩ := by
  obtain ⟨lent, hs, hl⟩ := hB.snap
  have hlend : lend H ((envC C (K + 1)).borrow 41) 0 [B, B8 x] = some ([.isl (bs key) key.length, B8 x], lent) := by
    rw [lend_cons, lend_cons, lend_nil, envC_borrow, C_bor, if_pos (show lentF 41 0 = true by decide), if_neg (show ¬ lentF 41 (0 + 1) = true by decide), hs, lendC_some, lendC_some]
    simp
  have hn : ([.isl (bs key) key.length, B8 x] : List LV).flatMap (nms D) = [] := by
    simp only [List.flatMap_cons, List.flatMap_nil, ibs_nms, nms_B8, List.append_nil]
  have ha : ([.isl (bs key) key.length, B8 x] : List LV).map (ren D (toCallee [])) = [.isl (bs key) key.length, B8 x] := by
    simp only [List.map_cons, List.map_nil, ibs_ren, ren_B8]
  have hp : plainRes (.sl (1, 0) 0 64 (some 64) 1, [], [bs (xl (rdy key) x)]) = true := by
    simp [plainRes, noImm_bs]; rfl
  rw [callOp_L, hlend, callL_some, hn, show reach H FUEL [] [] = [] from rfl, callN_eq _ _ _ _ _ hl, ha, List.filterMap_nil, List.map_nil, envC_cal, pad_F K key x hb hK, resK_any _ _ _ _ hp, backTo_eq]
  simp only [ren_slF, toCaller_1, List.length_cons, List.length_nil, Nat.zero_add, Nat.lt_one_iff, slO_some, List.map_cons, List.map_nil, bs_ren, List.zipWith_nil_left]

/-- bytes behind a row that is full, or nothing -/
theorem app_ex {b : Nat} {H : Heap} {m : Nm} {l0 l : List (BitVec 8)} {n k : Nat} {r : Option Out} (hc : appX b 1 1 k H [] (bs l) (.sl m 0 n (some n) 1) = r) (hm : H m = some (bs l0)) (hn : l0.length = n) (hk : l.length = k) (hlen : n + k ≤ 211106232532992) :
    ∃ m' c news ms H2, r = some ⟨.sl m' 0 (n + k) c 1, news, ms⟩ ∧ updN b 0 news (modN ms H) = H2 ∧ H2 m' = some (bs (l0 ++ l)) ∧ (m' = m ∨ m' = (b, 0)) ∧ ∀ q, q ≠ (b, 0) → H2 q = H q := by
  subst hc hn hk
  by_cases h0 : l = []
  · subst h0
    refine ⟨m, some l0.length, _, _, H, appX_room (b := b) 0 m 0 l0.length l0.length l0 [] hm (by simp) (by simpa using hlen) (by simp), ?_, by rw [List.append_nil]; exact hm, .inl rfl, fun _ _ => rfl⟩
    rw [updN_nil, modN_cons, modN_nil]
    simp only [Nat.zero_add, List.take_length, List.append_nil, List.length_nil, Nat.add_zero, List.drop_length]
    exact upd_id hm
  · have hp : 0 < l.length := List.length_pos_iff.2 h0
    refine ⟨(b, 0), none, _, _, _, appX_full (b := b) l.length m 0 l0.length l0.length l0 l hm (by simp) (by omega) (by omega), rfl, ?_, .inr rfl, ?_⟩
    · rw [updN_cons, updN_nil, upd_at, if_pos rfl, List.drop_zero, List.take_length]
    · intro q hq
      rw [updN_cons, updN_nil, modN_nil, upd_at, if_neg hq]

theorem rsum_use {k b : Nat} {H : Heap} {B : LV} {bb : List (BitVec 8)} {r : Option Out} (hc : callOp (envC C k) H b 16 [B] = r) (hb : bb.length ≤ 211106232000000) (hB : Lent H B bb []) (hk : bb.length / 64 + 301 ≤ k) :
    r = some ⟨.agg (aB 32 (dig bb)), [], []⟩ := by
  rw [← hc]; exact rsum_call k b H B bb hb hB hk

set_option maxRecDepth 10000 in
theorem rtag_F (K : Nat) (key msg : List (BitVec 8)) (hb : key.length ≤ 211106232000000) (hm : msg.length ≤ 211106231000000) (hK : key.length / 64 + msg.length / 64 + 500 ≤ K) :
    F C (K + 2) 26 [.isl (bs key) key.length, .isl (bs msg) msg.length] [] = some (.agg (aB 32 (tagv key msg)), [], []) := by
  rw [F_succ f26]
  have hik := ik_length key
  have hok := ok_length key
  have hp1 := fun b H => pad_call K b H (.isl (bs key) key.length) key 54#8 (lent_isl H key []) hb (by omega)
  have hp2 := fun b H => pad_call K b H (.isl (bs key) key.length) key 92#8 (lent_isl H key []) hb (by omega)
  rw [show xl (rdy key) 54#8 = ik key from rfl] at hp1
  rw [show xl (rdy key) 92#8 = ok key from rfl] at hp2
  have hfr : ∀ H : Heap, front H 1 msg.length (.isl (bs msg) msg.length) = some (bs msg) := fun H => front_ibytes msg msg.length rfl
  simp (disch := first | omega | decide | simp only [nms_B8, nms_B32, nms_B64, nms_I, nms_N, nms_Bo, nms_Un, nms_undef, nms_Hf, nms_ptr, nms_sl, aB_agg_nms, aW_agg_nms, aD_agg_nms, aO_agg_nms, List.flatMap_cons, List.flatMap_nil, List.nil_append, List.append_nil, ren_B8, ren_B32, ren_B64, ren_I, ren_N, ren_Bo, ren_Un, ren_undef, ren_Hf, aB_agg_ren, aW_agg_ren, aD_agg_ren, aO_agg_ren, List.map_cons, List.map_nil, ren7_I, ren7_N, ren7_Bo, ren7_B8, ren7_B32, ren7_B64, nms7_I, nms7_N, nms7_Bo, nms7_B8, nms7_B32, nms7_B64, nms_tup, ren_tup, implies_true, l17, l18, l19, l20, l36, l37, l38, l39, l43, l21, l22, l24, l25, l33, l35, l40, l42, l14, l27, bs_isCell, bs_nms, bs_ren, ibs_nms, ibs_ren, bs_length, aW_isCell, aB_isCell, isCell_sl, isCell_isl, isCell_nil, isCell_ptr, isCell_N]) only [funSem_eq, ev_seq, ev_region, regK_some, evOpers_nil, evOpers_cons, stepK_pure, put_some, evX_t, evX_c, op_mv, op_call, callV_fn, andThen_normal, List.set_cons_zero, List.set_cons_succ, List.getD_cons_zero, List.getD_cons_succ, List.map_cons, List.map_nil, List.nil_append, List.cons_append, repUn_succ, List.replicate_zero, List.length_cons, List.length_nil, Nat.reduceAdd, Nat.reduceSub, stepK_new, op_new, Nat.zero_add, Nat.add_zero, aB_rep, Nat.add_zero, Nat.zero_add, Nat.reduceAdd, lenOf_isl, op_append, appK_some, appF_some, Nat.reduceSub, L26, hp1, hfr]
  generalize hc : appX _ _ _ _ _ _ _ _ = r
  obtain ⟨m', c, news, ms, H2, rfl, hH2, h2, hm', hfr2⟩ := app_ex hc (l0 := ik key) (by simp only [upd_at, Prod.mk.injEq, Nat.reduceEqDiff, and_true, if_true, if_false]) hik rfl (by omega)
  have h22 : H2 (2, 0) = some (aB 32 fun _ => 0#8) := by rw [hfr2 _ (by decide)]; simp only [upd_at, Prod.mk.injEq, Nat.reduceEqDiff, and_true, if_true, if_false]
  have hB := lent_sl H2 m' 0 (64 + msg.length) c _ [] h2 (by rw [List.length_append]; omega) rfl
  rw [List.drop_zero, List.take_of_length_le (by rw [List.length_append]; omega)] at hB
  have hs1 := fun bn => rsum_call (K + 1) bn H2 _ (ik key ++ msg) (by rw [List.length_append]; omega) hB (by rw [List.length_append]; omega)
  simp (disch := first | omega | decide | simp only [nms_B8, nms_B32, nms_B64, nms_I, nms_N, nms_Bo, nms_Un, nms_undef, nms_Hf, nms_ptr, nms_sl, aB_agg_nms, aW_agg_nms, aD_agg_nms, aO_agg_nms, List.flatMap_cons, List.flatMap_nil, List.nil_append, List.append_nil, ren_B8, ren_B32, ren_B64, ren_I, ren_N, ren_Bo, ren_Un, ren_undef, ren_Hf, aB_agg_ren, aW_agg_ren, aD_agg_ren, aO_agg_ren, List.map_cons, List.map_nil, ren7_I, ren7_N, ren7_Bo, ren7_B8, ren7_B32, ren7_B64, nms7_I, nms7_N, nms7_Bo, nms7_B8, nms7_B32, nms7_B64, nms_tup, ren_tup, implies_true, l17, l18, l19, l20, l36, l37, l38, l39, l43, l21, l22, l24, l25, l33, l35, l40, l42, l14, l27, bs_isCell, bs_nms, bs_ren, ibs_nms, ibs_ren, bs_length, aW_isCell, aB_isCell, isCell_sl, isCell_isl, isCell_nil, isCell_ptr, isCell_N]) only [ev_seq, ev_region, regK_some, evOpers_nil, evOpers_cons, put_some, put_none, evX_t, evX_c, op_mv, op_call, callV_fn, andThen_normal, nms_B8, List.set_cons_zero, List.set_cons_succ, List.getD_cons_zero, List.getD_cons_succ, List.map_cons, List.map_nil, List.flatMap_cons, List.flatMap_nil, List.append_nil, List.length_cons, List.length_nil, Nat.reduceAdd, upd_at, cellsOf_agg, op_new, op_st, stV_ptr, if_true, Nat.zero_add, Nat.add_zero, aB_st_all, Nat.add_zero, Nat.zero_add, Nat.reduceAdd, updN_nil, updN_cons, modN_nil, modN_cons, ibs_nms, evOpers_ord, stepO_eq, touch_call, reach_none, nms_fn, stepK_gen, hH2, hp2, hs1]
  generalize hH3 : upd _ _ (some (aB 32 (dig (ik key ++ msg)))) = H3
  have h38 : H3 (8, 0) = some (bs (dl (ik key ++ msg))) := by rw [← hH3, ← aB_dl]; simp only [upd_at, if_true]
  have h32 : H3 (2, 0) = some (aB 32 fun _ => 0#8) := by rw [← hH3]; simp only [upd_at, Prod.mk.injEq, Nat.reduceEqDiff, and_true, if_false, h22]
  have hdl := dl_length (ik key ++ msg)
  simp (disch := first | omega | decide | simp only [nms_B8, nms_B32, nms_B64, nms_I, nms_N, nms_Bo, nms_Un, nms_undef, nms_Hf, nms_ptr, nms_sl, aB_agg_nms, aW_agg_nms, aD_agg_nms, aO_agg_nms, List.flatMap_cons, List.flatMap_nil, List.nil_append, List.append_nil, ren_B8, ren_B32, ren_B64, ren_I, ren_N, ren_Bo, ren_Un, ren_undef, ren_Hf, aB_agg_ren, aW_agg_ren, aD_agg_ren, aO_agg_ren, List.map_cons, List.map_nil, ren7_I, ren7_N, ren7_Bo, ren7_B8, ren7_B32, ren7_B64, nms7_I, nms7_N, nms7_Bo, nms7_B8, nms7_B32, nms7_B64, nms_tup, ren_tup, implies_true, l17, l18, l19, l20, l36, l37, l38, l39, l43, l21, l22, l24, l25, l33, l35, l40, l42, l14, l27, bs_isCell, bs_nms, bs_ren, ibs_nms, ibs_ren, bs_length, aW_isCell, aB_isCell, isCell_sl, isCell_isl, isCell_nil, isCell_ptr, isCell_N]) only [evOpers_cons, put_some, evX_t, evX_c, outR_some, op_call, callV_fn, List.set_cons_zero, List.set_cons_succ, List.getD_cons_zero, List.getD_cons_succ, List.map_cons, List.map_nil, List.flatMap_cons, List.flatMap_nil, List.nil_append, List.cons_append, List.append_nil, Nat.reduceAdd, Nat.reduceSub, upd_at, List.all_cons, List.all_nil, Bool.and_true, Prod.mk.injEq, Nat.reduceEqDiff, Nat.reduceLT, and_true, if_true, if_false, Nat.zero_add, Nat.add_zero, decide_true, decide_false, Nat.mul_one, Nat.add_zero, Nat.zero_add, Nat.reduceLT, Nat.reduceEqDiff, Nat.reduceAdd, decide_false, decide_true, nm_beq, Bool.not_false, lenOf_sl, op_append, appK_some, appF_some, optNat_none, op_slcAV, slcAV_ptr, updN_nil, updN_cons, modN_nil, bs_nms, Nat.sub_zero, Nat.mul_one, evOpers_ord, stepO_eq, only_at, touch_call, nms_fn, List.contains_cons, List.contains_nil, beq_self_eq_true, Bool.or_true, Bool.or_false, ordOk, apartFrom, List.all_cons, List.all_nil, Nat.testBit, Nat.reduceShiftRight, Nat.reduceAnd, Nat.reduceBEq, Bool.not_false, Bool.and_self, Bool.and_true, Nat.reduceSub, Nat.reduceLT, bne, FUEL, reach_cons, reachK_some, reach_nil, nms_sl, List.flatMap_cons, List.flatMap_nil, List.nil_append, List.cons_append, List.append_nil, List.map_nil, List.map_cons, List.contains_nil, List.contains_cons, Prod.mk.injEq, Bool.false_eq_true, Nat.reduceEqDiff, Nat.reduceBEq, and_true, if_true, if_false, upd_at, Nat.reduceAdd, frontK_bs_all, appX_cap, appW_bs_all, front_sl, ordK_gen, stepK_gen, touch_append, h38]
  generalize hc : callOp _ _ _ _ _ = r
  have e := rsum_use hc (bb := ok key ++ dl (ik key ++ msg)) (by rw [List.length_append]; omega) (by
    have := lent_sl (only [(13, 0)] (upd (upd H3 (11, 0) (some (bs (ok key)))) (13, 0) (some (bs (ok key ++ dl (ik key ++ msg)))))) (13, 0) 0 96 none _ [] (by simp only [only_at, List.contains_cons, List.contains_nil, beq_self_eq_true, Bool.or_false, upd_at, Prod.mk.injEq, Nat.reduceEqDiff, and_true, if_true, if_false]; rfl) (by rw [List.length_append]; omega) rfl
    rw [List.drop_zero, List.take_of_length_le (by rw [List.length_append]; omega)] at this
    exact this) (by rw [List.length_append]; omega)
  subst e
  simp (disch := first | omega | decide | simp only [nms_B8, nms_B32, nms_B64, nms_I, nms_N, nms_Bo, nms_Un, nms_undef, nms_Hf, nms_ptr, nms_sl, aB_agg_nms, aW_agg_nms, aD_agg_nms, aO_agg_nms, List.flatMap_cons, List.flatMap_nil, List.nil_append, List.append_nil, ren_B8, ren_B32, ren_B64, ren_I, ren_N, ren_Bo, ren_Un, ren_undef, ren_Hf, aB_agg_ren, aW_agg_ren, aD_agg_ren, aO_agg_ren, List.map_cons, List.map_nil, ren7_I, ren7_N, ren7_Bo, ren7_B8, ren7_B32, ren7_B64, nms7_I, nms7_N, nms7_Bo, nms7_B8, nms7_B32, nms7_B64, nms_tup, ren_tup, implies_true, l17, l18, l19, l20, l36, l37, l38, l39, l43, l21, l22, l24, l25, l33, l35, l40, l42, l14, l27, bs_isCell, bs_nms, bs_ren, ibs_nms, ibs_ren, bs_length, aW_isCell, aB_isCell, isCell_sl, isCell_isl, isCell_nil, isCell_ptr, isCell_N]) only [ev_ret, regK_some, evOpers_nil, put_some, put_none, evX_t, andThen_normal, retK_ret, List.set_cons_zero, List.set_cons_succ, List.getD_cons_zero, List.getD_cons_succ, List.map_cons, List.map_nil, List.append_nil, Option.map_some, Nat.reduceAdd, Nat.reduceSub, upd_at, cellsOf_agg, cellAt_ptr, op_st, stV_ptr, List.all_cons, List.all_nil, Bool.and_true, Prod.mk.injEq, Nat.reduceEqDiff, Nat.reduceLT, and_true, if_true, if_false, decide_true, decide_false, resVal_agg, aggV_some, aB_cells, aB_st_all, aB_agg_nms, aB_outOf, Nat.reduceLT, Nat.reduceEqDiff, Nat.reduceAdd, decide_false, decide_true, nm_beq, Bool.not_false, updN_nil, modN_nil, modN_cons, Option.map_some, evOpers_ord, stepO_eq, only_at, touch_st, nms_ptr, List.contains_cons, List.contains_nil, beq_self_eq_true, Bool.or_true, Bool.or_false, ordOk, apartFrom, List.all_cons, List.all_nil, Nat.testBit, Nat.reduceShiftRight, Nat.reduceAnd, Nat.reduceBEq, Bool.not_false, Bool.and_self, Bool.and_true, Nat.reduceSub, Nat.reduceLT, bne, nms_ptr, List.append_nil, List.map_nil, List.map_cons, List.contains_nil, List.contains_cons, Prod.mk.injEq, Nat.reduceEqDiff, Nat.reduceBEq, and_true, if_true, if_false, upd_at, Nat.reduceAdd, ordK_gen, h32]
  rfl

/-- a function of two rows of lent bytes that gives bytes -/
theorem bytes_call2 (k b g n : Nat) (hg : lentF g 0 = true) (hg1 : lentF g 1 = true) (r : Nat → BitVec 8) (H : Heap) (B1 B2 : LV) (b1 b2 : List (BitVec 8)) (hB1 : Lent H B1 b1 []) (hB2 : Lent H B2 b2 [])
    (hw : F C k g [.isl (bs b1) b1.length, .isl (bs b2) b2.length] [] = some (.agg (aB n r), [], [])) : callOp (envC C k) H b g [B1, B2] = some ⟨.agg (aB n r), [], []⟩ := by
  obtain ⟨l1, hs1, hl1⟩ := hB1.snap
  obtain ⟨l2, hs2, hl2⟩ := hB2.snap
  have hlend : lend H ((envC C k).borrow g) 0 [B1, B2] = some ([.isl (bs b1) b1.length, .isl (bs b2) b2.length], l1 ++ l2) := by
    rw [lend_cons, lend_cons, lend_nil, envC_borrow, C_bor, if_pos hg, if_pos hg1, hs1, hs2, lendC_some, lendC_some, List.append_nil]
  rw [callOp_L, hlend, callL_some]
  have hn : ([.isl (bs b1) b1.length, .isl (bs b2) b2.length] : List LV).flatMap (nms D) = [] := by
    simp only [List.flatMap_cons, List.flatMap_nil, ibs_nms, List.append_nil]
  rw [hn, show reach H FUEL [] [] = [] from rfl, callN_eq _ _ _ _ _ (by rw [List.any_append, hl1, hl2]; rfl)]
  have ha : ([.isl (bs b1) b1.length, .isl (bs b2) b2.length] : List LV).map (ren D (toCallee [])) = [.isl (bs b1) b1.length, .isl (bs b2) b2.length] := by
    simp only [List.map_cons, List.map_nil, ibs_ren]
  rw [ha, List.filterMap_nil, List.map_nil, envC_cal, hw, resK_any _ _ _ _ (by simp [plainRes, noImm_aB]), backTo_eq]
  simp only [aB_agg_ren, List.map_nil, List.zipWith_nil_left]
theorem rtag_call (k b : Nat) (H : Heap) (B1 B2 : LV) (key msg : List (BitVec 8)) (hB1 : Lent H B1 key []) (hB2 : Lent H B2 msg []) (hb : key.length ≤ 211106232000000) (hm : msg.length ≤ 211106231000000)
    (hk : key.length / 64 + msg.length / 64 + 502 ≤ k) : callOp (envC C k) H b 26 [B1, B2] = some ⟨.agg (aB 32 (tagv key msg)), [], []⟩ := by
  have := rtag_F (k - 2) key msg hb hm (by omega)
  rw [show k - 2 + 2 = k by omega] at this
  exact bytes_call2 k b 26 32 rfl rfl _ H B1 B2 key msg hB1 hB2 this

end Sha

namespace Sha
open Go Go.LE

def qJ (a b : List (BitVec 8)) (i : Nat) (st : St) : Prop := ∃ (H : Heap) (d : Nat), st = ⟨[.isl (bs a) a.length, .isl (bs b) b.length, .undef, .undef, .undef, N d, .undef, .undef, .undef, .undef, .undef, .undef, .undef, .undef, .undef, .undef, N (min a.length b.length), N i, .undef, .undef, .undef, .undef, .undef, .undef, .undef, .undef, .undef, .undef, .undef, .undef, .undef, .undef, .undef, .undef, .undef], H, 2, 0⟩ ∧
  d < 9223372036854775808 ∧ (d = 0 ↔ a.length = b.length ∧ ∀ j, j < i → a.getD j 0#8 = b.getD j 0#8)

theorem or_zero (x y : Nat) : x ||| y = 0 ↔ x = 0 ∧ y = 0 := by
  constructor
  · intro h
    have h1 : x ≤ x ||| y := Nat.left_le_or
    have h2 : y ≤ x ||| y := Nat.right_le_or
    omega
  · rintro ⟨rfl, rfl⟩; rfl
theorem xor_zero (x y : Nat) : x ^^^ y = 0 ↔ x = y := by
  constructor
  · intro h
    have h2 : x ^^^ y ^^^ y = 0 ^^^ y := by rw [h]
    rw [Nat.xor_assoc, Nat.xor_self, Nat.xor_zero, Nat.zero_xor] at h2
    exact h2
  · rintro rfl; exact Nat.xor_self x

set_option maxRecDepth 10000 in
theorem q_round (K k0 : Nat) (a b : List (BitVec 8)) (i : Nat) (hi : i < min a.length b.length) (hm : min a.length b.length < 9223372036854775807) (st : St) (hI : qJ a b i st) :
    ∃ st1, ev (envC C k0) K L31b0 st = some (.normal, st1) ∧ qJ a b (i + 1) (canon L31k0 st1) := by
  obtain ⟨H, d, rfl, hd, hiff⟩ := hI
  have ha := fun H : Heap => cellAt_ibyte (H := H) a i (by omega)
  have hb := fun H : Heap => cellAt_ibyte (H := H) b i (by omega)
  obtain ⟨x, hx⟩ : ∃ x, x = a.getD i 0#8 := ⟨_, rfl⟩
  obtain ⟨y, hy⟩ : ∃ y, y = b.getD i 0#8 := ⟨_, rfl⟩
  rw [← hx] at ha
  rw [← hy] at hb
  have hxy : (x ^^^ y).toNat < 9223372036854775808 := by have := (x ^^^ y).isLt; omega
  have hor : binV .or .none (N d) (I ((x ^^^ y).toNat : Int)) = some (N (d ||| (x ^^^ y).toNat)) := N_or .none d (x ^^^ y).toNat hd hxy
  apply Exists.intro
  apply And.intro
  · simp (disch := first | omega | decide | simp only [nms_B8, nms_B32, nms_B64, nms_I, nms_N, nms_Bo, nms_Un, nms_undef, nms_Hf, nms_ptr, nms_sl, aB_agg_nms, aW_agg_nms, aD_agg_nms, aO_agg_nms, List.flatMap_cons, List.flatMap_nil, List.nil_append, List.append_nil, ren_B8, ren_B32, ren_B64, ren_I, ren_N, ren_Bo, ren_Un, ren_undef, ren_Hf, aB_agg_ren, aW_agg_ren, aD_agg_ren, aO_agg_ren, List.map_cons, List.map_nil, ren7_I, ren7_N, ren7_Bo, ren7_B8, ren7_B32, ren7_B64, nms7_I, nms7_N, nms7_Bo, nms7_B8, nms7_B32, nms7_B64, nms_tup, ren_tup, implies_true, l17, l18, l19, l20, l36, l37, l38, l39, l43, l21, l22, l24, l25, l33, l35, l40, l42, l14, l27, bs_isCell, bs_nms, bs_ren, ibs_nms, ibs_ren, bs_length, aW_isCell, aB_isCell, isCell_sl, isCell_isl, isCell_nil, isCell_ptr, isCell_N]) only [ev_skip, ev_seq, ev_block, ev_region, regK_some, evOpers_nil, evOpers_cons, stepK_pure, put_some, evX_t, evX_c, outR_some, op_mv, op_bin, op_cvt, andThen_normal, inBlock_normal, ev_cond, condK_true, List.set_cons_zero, List.set_cons_succ, List.getD_cons_zero, List.getD_cons_succ, List.length_cons, List.length_nil, B8_xor, cvt_8_I, Nat.reduceAdd, ld1K_some, op_ld1, List.all_cons, List.all_nil, Bool.and_true, if_true, Nat.zero_add, Nat.add_zero, decide_true, Nat.mul_one, Nat.add_zero, Nat.zero_add, N_add, N_lss, N_nat, Nat.reduceAdd, decide_true, Bool.not_false, Bool.not_true, op_iaS, iaSV_isl, Nat.mul_one, evOpers_ord, stepO_eq, ordK_pure, touch_ld1, List.contains_nil, beq_self_eq_true, Bool.or_true, ordOk, apartFrom, List.all_cons, List.all_nil, Nat.testBit, Nat.reduceShiftRight, Nat.reduceAnd, Bool.not_true, Bool.not_false, Bool.and_self, Bool.and_true, bne, L31b0, hi, ha, hb, ibp_nms, hor]
    rfl
  · refine canon_inv [] rfl (by simp only [canonNames, FUEL, reach_nil, nms_undef, List.flatMap_cons, List.flatMap_nil, List.append_nil, List.range_zero, List.map_nil, List.filter_nil, mask_nil, mask_true, mask_false, nms_N, L31k0, ibs_nms]) ?_ ⟨_, d ||| (x ^^^ y).toNat, rfl, ?_, ?_⟩
    · simp only [L31k0, List.map_cons, List.map_nil, ibs_ren, mask_true, mask_false, mask_nil, ren_undef, ren_N]
    · exact Nat.or_lt_two_pow (n := 63) hd hxy
    · rw [or_zero, hiff]
      have e1 : (x ^^^ y).toNat = 0 ↔ x = y := by
        rw [BitVec.toNat_xor, xor_zero]
        exact ⟨fun h => BitVec.eq_of_toNat_eq h, fun h => by rw [h]⟩
      rw [e1]
      constructor
      · rintro ⟨⟨h1, h2⟩, h3⟩
        refine ⟨h1, fun j hj => ?_⟩
        by_cases hji : j = i
        · subst hji; rw [← hx, ← hy]; exact h3
        · exact h2 j (by omega)
      · rintro ⟨h1, h2⟩
        exact ⟨⟨h1, fun j hj => h2 j (by omega)⟩, by rw [hx, hy]; exact h2 i (by omega)⟩

theorem eq_iff (a b : List (BitVec 8)) : (a.length = b.length ∧ ∀ j, j < min a.length b.length → a.getD j 0#8 = b.getD j 0#8) ↔ a = b := by
  constructor
  · rintro ⟨h1, h2⟩
    apply List.ext_getElem h1
    intro i h3 h4
    have := h2 i (by omega)
    rw [List.getD_eq_getElem?_getD, List.getD_eq_getElem?_getD, List.getElem?_eq_getElem h3, List.getElem?_eq_getElem h4] at this
    exact this
  · rintro rfl; exact ⟨rfl, fun _ _ => rfl⟩

set_option maxRecDepth 10000 in
theorem equal_F (K : Nat) (a b : List (BitVec 8)) (ha : a.length < 4611686018427387904) (hb : b.length < 4611686018427387904) (hK : min a.length b.length < K) :
    F C (K + 1) 31 [.isl (bs a) a.length, .isl (bs b) b.length] [] = some (Bo (decide (a = b)), [], []) := by
  rw [F_succ f31]
  have hx := N_xor .none a.length b.length (by omega) (by omega)
  simp (disch := first | omega | decide | simp only [nms_B8, nms_B32, nms_B64, nms_I, nms_N, nms_Bo, nms_Un, nms_undef, nms_Hf, nms_ptr, nms_sl, aB_agg_nms, aW_agg_nms, aD_agg_nms, aO_agg_nms, List.flatMap_cons, List.flatMap_nil, List.nil_append, List.append_nil, ren_B8, ren_B32, ren_B64, ren_I, ren_N, ren_Bo, ren_Un, ren_undef, ren_Hf, aB_agg_ren, aW_agg_ren, aD_agg_ren, aO_agg_ren, List.map_cons, List.map_nil, ren7_I, ren7_N, ren7_Bo, ren7_B8, ren7_B32, ren7_B64, nms7_I, nms7_N, nms7_Bo, nms7_B8, nms7_B32, nms7_B64, nms_tup, ren_tup, implies_true, l17, l18, l19, l20, l36, l37, l38, l39, l43, l21, l22, l24, l25, l33, l35, l40, l42, l14, l27, bs_isCell, bs_nms, bs_ren, ibs_nms, ibs_ren, bs_length, aW_isCell, aB_isCell, isCell_sl, isCell_isl, isCell_nil, isCell_ptr, isCell_N]) only [funSem_eq, ev_seq, ev_block, ev_region, regK_some, evOpers_nil, evOpers_cons, stepK_pure, put_some, evX_t, evX_c, outR_some, op_mv, op_bin, andThen_normal, List.set_cons_zero, List.set_cons_succ, List.getD_cons_zero, List.getD_cons_succ, List.map_cons, List.map_nil, List.nil_append, List.cons_append, repUn_succ, List.replicate_zero, List.length_cons, List.length_nil, ev_loop, Nat.reduceAdd, Nat.reduceSub, Nat.zero_add, Nat.add_zero, Nat.add_zero, Nat.zero_add, Nat.reduceAdd, op_len, lenV_some, lenS_isl, op_mnmx, L31, hx, mnmx_min]
  generalize hL : loopN L31k0 _ _ _ = r
  refine loop_use hL (qJ a b) (min a.length b.length) (by omega) (fun i st hi hI => q_round _ _ a b i hi (by omega) st hI) ?_ ?_ ?_
  · refine canon_inv [] rfl (by simp only [canonNames, FUEL, reach_nil, nms_undef, List.flatMap_cons, List.flatMap_nil, List.append_nil, List.range_zero, List.map_nil, List.filter_nil, mask_nil, mask_true, mask_false, nms_N, L31k0, ibs_nms]) ?_ ⟨_, a.length ^^^ b.length, rfl, ?_, ?_⟩
    · simp only [L31k0, List.map_cons, List.map_nil, ibs_ren, mask_true, mask_false, mask_nil, ren_undef, ren_N]
    · exact Nat.xor_lt_two_pow (n := 63) (by omega) (by omega)
    · rw [xor_zero]; simp
  · rintro st ⟨H, d, rfl, h1, h2⟩
    apply stop_exit
    simp (disch := first | omega | decide | simp only [nms_B8, nms_B32, nms_B64, nms_I, nms_N, nms_Bo, nms_Un, nms_undef, nms_Hf, nms_ptr, nms_sl, aB_agg_nms, aW_agg_nms, aD_agg_nms, aO_agg_nms, List.flatMap_cons, List.flatMap_nil, List.nil_append, List.append_nil, ren_B8, ren_B32, ren_B64, ren_I, ren_N, ren_Bo, ren_Un, ren_undef, ren_Hf, aB_agg_ren, aW_agg_ren, aD_agg_ren, aO_agg_ren, List.map_cons, List.map_nil, ren7_I, ren7_N, ren7_Bo, ren7_B8, ren7_B32, ren7_B64, nms7_I, nms7_N, nms7_Bo, nms7_B8, nms7_B32, nms7_B64, nms_tup, ren_tup, implies_true, l17, l18, l19, l20, l36, l37, l38, l39, l43, l21, l22, l24, l25, l33, l35, l40, l42, l14, l27, bs_isCell, bs_nms, bs_ren, ibs_nms, ibs_ren, bs_length, aW_isCell, aB_isCell, isCell_sl, isCell_isl, isCell_nil, isCell_ptr, isCell_N]) only [ev_exit, ev_seq, ev_region, regK_some, evOpers_nil, evOpers_cons, stepK_pure, put_some, evX_t, outR_some, op_bin, andThen_normal, andThen_exit, ev_cond, condK_false, List.set_cons_zero, List.set_cons_succ, List.getD_cons_zero, List.getD_cons_succ, List.length_cons, List.length_nil, Nat.reduceAdd, Nat.zero_add, Nat.add_zero, decide_false, N_lss, Nat.reduceAdd, Nat.lt_irrefl, decide_false, L31b0]
    rfl
  · rintro st ⟨H, d, rfl, h1, h2⟩ rfl
    simp (disch := first | omega | decide | simp only [nms_B8, nms_B32, nms_B64, nms_I, nms_N, nms_Bo, nms_Un, nms_undef, nms_Hf, nms_ptr, nms_sl, aB_agg_nms, aW_agg_nms, aD_agg_nms, aO_agg_nms, List.flatMap_cons, List.flatMap_nil, List.nil_append, List.append_nil, ren_B8, ren_B32, ren_B64, ren_I, ren_N, ren_Bo, ren_Un, ren_undef, ren_Hf, aB_agg_ren, aW_agg_ren, aD_agg_ren, aO_agg_ren, List.map_cons, List.map_nil, ren7_I, ren7_N, ren7_Bo, ren7_B8, ren7_B32, ren7_B64, nms7_I, nms7_N, nms7_Bo, nms7_B8, nms7_B32, nms7_B64, nms_tup, ren_tup, implies_true, l17, l18, l19, l20, l36, l37, l38, l39, l43, l21, l22, l24, l25, l33, l35, l40, l42, l14, l27, bs_isCell, bs_nms, bs_ren, ibs_nms, ibs_ren, bs_length, aW_isCell, aB_isCell, isCell_sl, isCell_isl, isCell_nil, isCell_ptr, isCell_N]) only [ev_ret, ev_exit, ev_seq, ev_region, regK_some, evOpers_nil, evOpers_cons, stepK_pure, put_some, evX_t, evX_c, outR_some, op_mv, op_bin, andThen_normal, andThen_exit, inBlock_exit, ev_cond, condK_false, retK_ret, resVal_tmp, List.set_cons_zero, List.set_cons_succ, List.getD_cons_zero, List.getD_cons_succ, List.length_cons, List.length_nil, outOf_Bo, Option.map_some, Nat.reduceAdd, if_true, Nat.zero_add, Nat.add_zero, decide_false, Nat.add_zero, Nat.zero_add, N_eql, N_lss, Nat.reduceAdd, Nat.lt_irrefl, decide_false, Option.map_some, L31b0]
    rw [eq_iff] at h2
    simp only [h2]

theorem equal_call (k b : Nat) (H : Heap) (B1 B2 : LV) (b1 b2 : List (BitVec 8)) (hB1 : Lent H B1 b1 []) (hB2 : Lent H B2 b2 []) (h1 : b1.length < 4611686018427387904) (h2 : b2.length < 4611686018427387904) (hk : min b1.length b2.length + 1 < k) :
    callOp (envC C k) H b 31 [B1, B2] = some ⟨Bo (decide (b1 = b2)), [], []⟩ := by
  have hw := equal_F (k - 1) b1 b2 h1 h2 (by omega)
  rw [show k - 1 + 1 = k by omega] at hw
  obtain ⟨l1, hs1, hl1⟩ := hB1.snap
  obtain ⟨l2, hs2, hl2⟩ := hB2.snap
  have hlend : lend H ((envC C k).borrow 31) 0 [B1, B2] = some ([.isl (bs b1) b1.length, .isl (bs b2) b2.length], l1 ++ l2) := by
    rw [lend_cons, lend_cons, lend_nil, envC_borrow, C_bor, if_pos (show lentF 31 0 = true by decide), if_pos (show lentF 31 (0 + 1) = true by decide), hs1, hs2, lendC_some, lendC_some, List.append_nil]
  rw [callOp_L, hlend, callL_some]
  have hn : ([.isl (bs b1) b1.length, .isl (bs b2) b2.length] : List LV).flatMap (nms D) = [] := by
    simp only [List.flatMap_cons, List.flatMap_nil, ibs_nms, List.append_nil]
  rw [hn, show reach H FUEL [] [] = [] from rfl, callN_eq _ _ _ _ _ (by rw [List.any_append, hl1, hl2]; rfl)]
  have ha : ([.isl (bs b1) b1.length, .isl (bs b2) b2.length] : List LV).map (ren D (toCallee [])) = [.isl (bs b1) b1.length, .isl (bs b2) b2.length] := by
    simp only [List.map_cons, List.map_nil, ibs_ren]
  rw [ha, List.filterMap_nil, List.map_nil, envC_cal, hw, resK_any _ _ _ _ rfl, backTo_eq]
  simp only [ren_Bo, List.map_nil, List.zipWith_nil_left]

end Sha

namespace Sha
open Go Go.LE

theorem lent_row {H : Heap} {x : LV} {m : Nm} {l : List (BitVec 8)} (h : RowIs H x m l) : Lent H x l [] := by
  obtain ⟨lent, h1, _⟩ := lentA_row h
  exact ⟨lent, h1 6, by simp⟩

theorem tag_call {k b : Nat} {H : Heap} {B M : LV} {key : List (BitVec 8)} {L : List (List (BitVec 8))} {lent : List Nm} {r : Option Out} (hc : callOp (envC C k) H b 28 [B, M] = r) (hB : Lent H B key []) (hM : snap H D M = some (.isl (sls L) L.length, lent))
    (hk : key.length ≤ 211106232000000) (hL : L.flatten.length ≤ 211106231000000) (hLl : L.length ≤ 211106232000000) (hK : key.length / 64 + L.flatten.length / 64 + L.length + 1202 ≤ k) :
    r = some ⟨.agg (aB 32 (tagv key L.flatten)), [], []⟩ := by
  have hw := tag_F (k - 2) key L hk hL hLl (by omega)
  rw [show k - 2 + 2 = k by omega] at hw
  obtain ⟨l1, hs1, hl1⟩ := hB.snap
  have hlend : lend H ((envC C k).borrow 28) 0 [B, M] = some ([.isl (bs key) key.length, .isl (sls L) L.length], l1 ++ lent) := by
    rw [lend_cons, lend_cons, lend_nil, envC_borrow, C_bor, if_pos (show lentF 28 0 = true by decide), if_pos (show lentF 28 (0 + 1) = true by decide), hs1, hM, lendC_some, lendC_some, List.append_nil]
  rw [← hc, callOp_L, hlend, callL_some]
  have hn : ([.isl (bs key) key.length, .isl (sls L) L.length] : List LV).flatMap (nms D) = [] := by
    simp only [List.flatMap_cons, List.flatMap_nil, ibs_nms, sls_nms, List.append_nil]
  rw [hn, show reach H FUEL [] [] = [] from rfl, callN_eq _ _ _ _ _ (by simp)]
  have ha : ([.isl (bs key) key.length, .isl (sls L) L.length] : List LV).map (ren D (toCallee [])) = [.isl (bs key) key.length, .isl (sls L) L.length] := by
    simp only [List.map_cons, List.map_nil, ibs_ren, sls_ren]
  rw [ha, List.filterMap_nil, List.map_nil, envC_cal, hw, resK_any _ _ _ _ (by simp [plainRes, noImm_aB]), backTo_eq]
  simp only [aB_agg_ren, List.map_nil, List.zipWith_nil_left]

def tl (key msg : List (BitVec 8)) : List (BitVec 8) := (List.range 32).map (tagv key msg)
theorem tl_length (key msg : List (BitVec 8)) : (tl key msg).length = 32 := by simp [tl]
theorem aB_tl (key msg : List (BitVec 8)) : aB 32 (tagv key msg) = bs (tl key msg) := aB_bs 32 _

/-- the tags, one behind the other -/
def dT (key lbl : List (BitVec 8)) : Nat → List (BitVec 8)
  | 0 => []
  | i + 1 => tl key (dT key lbl i ++ lbl ++ [BitVec.ofNat 8 (i + 1)])
def dO (key lbl : List (BitVec 8)) : Nat → List (BitVec 8)
  | 0 => []
  | i + 1 => dO key lbl i ++ dT key lbl (i + 1)
theorem dT_length (key lbl : List (BitVec 8)) (i : Nat) : (dT key lbl (i + 1)).length = 32 := tl_length _ _
theorem dT_le (key lbl : List (BitVec 8)) (i : Nat) : (dT key lbl i).length ≤ 32 := by
  cases i with
  | zero => simp [dT]
  | succ i => rw [dT_length]; omega
theorem dO_length (key lbl : List (BitVec 8)) (i : Nat) : (dO key lbl i).length = 32 * i := by
  induction i with
  | zero => rfl
  | succ i ih => rw [dO, List.length_append, ih, dT_length]; omega

def vJ (key lbl : List (BitVec 8)) (n : Nat) (i : Nat) (st : St) : Prop := ∃ (H : Heap),
  (i = 0 ∧ st = ⟨[.isl (bs key) key.length, txt lbl, N n, .undef, .undef, .undef, .undef, Nil, Nil, B8 (BitVec.ofNat 8 (i + 1)), .undef, .undef, .undef, .undef, .undef, .undef, .undef, .undef, .undef, .undef, .undef, .undef, .undef, .undef, .undef, .undef, .undef, .undef, .undef, .undef, .undef, .undef, .undef, .undef, .undef, .undef, .undef, .undef, .undef], H, 2, 0⟩) ∨
  (0 < i ∧ st = ⟨[.isl (bs key) key.length, txt lbl, N n, .undef, .undef, .undef, .undef, .sl (1, 0) 0 (32 * i) none 1, .sl (1, 1) 0 32 (some 32) 1, B8 (BitVec.ofNat 8 (i + 1)), .undef, .undef, .undef, .undef, .undef, .undef, .undef, .undef, .undef, .undef, .undef, .undef, .undef, .undef, .undef, .undef, .undef, .undef, .undef, .undef, .undef, .undef, .undef, .undef, .undef, .undef, .undef, .undef, .undef], H, 2, 0⟩ ∧ H (1, 0) = some (bs (dO key lbl i)) ∧ H (1, 1) = some (bs (dT key lbl i)))

set_option maxRecDepth 10000 in
theorem v_round (K k0 : Nat) (key lbl : List (BitVec 8)) (n : Nat) (hn : n ≤ 8160) (hk : key.length ≤ 211106232000000) (hl : lbl.length ≤ 211106230000000) (hK : key.length / 64 + lbl.length / 64 + 2000 ≤ k0) (i : Nat) (hi : 32 * i < n) (st : St) (hI : vJ key lbl n i st) :
    ∃ st1, ev (envC C k0) K L29b0 st = some (.normal, st1) ∧ vJ key lbl n (i + 1) (canon L29k0 st1) := by
  obtain ⟨H, hI⟩ := hI
  have hdO := dO_length key lbl i
  have hdT := dT_le key lbl i
  have hcnt : BitVec.ofNat 8 (i + 1) + 1#8 = BitVec.ofNat 8 (i + 1 + 1) := by
    apply BitVec.eq_of_toNat_eq; simp [BitVec.toNat_add]
  have hT : dT key lbl (i + 1) = tl key (dT key lbl i ++ lbl ++ [BitVec.ofNat 8 (i + 1)]) := rfl
  have htl := tl_length key (dT key lbl i ++ lbl ++ [BitVec.ofNat 8 (i + 1)])
  rcases hI with ⟨rfl, rfl⟩ | ⟨h0, rfl, h1, h2⟩
  · have hn1 : 0 < n := by omega
    simp (disch := first | omega | decide | simp only [nms_B8, nms_B32, nms_B64, nms_I, nms_N, nms_Bo, nms_Un, nms_undef, nms_Hf, nms_ptr, nms_sl, aB_agg_nms, aW_agg_nms, aD_agg_nms, aO_agg_nms, List.flatMap_cons, List.flatMap_nil, List.nil_append, List.append_nil, ren_B8, ren_B32, ren_B64, ren_I, ren_N, ren_Bo, ren_Un, ren_undef, ren_Hf, aB_agg_ren, aW_agg_ren, aD_agg_ren, aO_agg_ren, List.map_cons, List.map_nil, ren7_I, ren7_N, ren7_Bo, ren7_B8, ren7_B32, ren7_B64, nms7_I, nms7_N, nms7_Bo, nms7_B8, nms7_B32, nms7_B64, nms_tup, ren_tup, implies_true, l17, l18, l19, l20, l36, l37, l38, l39, l43, l21, l22, l24, l25, l33, l35, l40, l42, l14, l27, bs_isCell, bs_nms, bs_ren, ibs_nms, ibs_ren, bs_length, aW_isCell, aB_isCell, isCell_sl, isCell_isl, isCell_nil, isCell_ptr, isCell_N]) only [ev_skip, ev_seq, ev_block, ev_region, regK_some, evOpers_nil, evOpers_cons, stepK_pure, put_some, evX_t, evX_c, outR_some, op_mv, op_bin, op_call, callV_fn, andThen_normal, ev_cond, condK_true, List.set_cons_zero, List.set_cons_succ, List.getD_cons_zero, List.getD_cons_succ, List.map_cons, List.map_nil, List.nil_append, List.cons_append, List.append_nil, List.length_cons, List.length_nil, Nat.reduceAdd, stepK_new, cellsOf_B8, fill_nil, fill_cons, fillK_some, splice, List.take_succ_cons, List.take_zero, List.drop_succ_cons, List.drop_zero, List.drop_nil, Nat.reduceLeDiff, and_self, if_true, Nat.zero_add, Nat.add_zero, Nat.le_refl, decide_true, aB_rep, Nat.add_zero, Nat.zero_add, N_lss, Nat.reduceLeDiff, Nat.reduceAdd, decide_true, op_len, lenV_some, lenS_nil, cellsOf_nil, cellsOf_sl, op_mkrow, rowK_some, L29b0, hn1, op_s2b, s2bV_txt]
    generalize hc : callOp _ _ _ _ _ = r
    generalize hH3 : upd _ _ (some [Nil, _, _]) = H3 at hc ⊢
    have k12 := upd_self2 hH3
    have k9 : H3 (9, 0) = some (bs lbl) := by rw [← hH3]; simp only [upd_at, Prod.mk.injEq, Nat.reduceEqDiff, and_true, if_true, if_false]
    have k11 : H3 (11, 0) = some (bs [1#8]) := by rw [← hH3]; simp only [upd_at, Prod.mk.injEq, Nat.reduceEqDiff, and_true, if_true, if_false]; rfl
    obtain ⟨l2, q2, _⟩ := lentA_row (RowIs.un k9 rfl)
    obtain ⟨l3, q3, _⟩ := lentA_row (RowIs.new k11 rfl)
    have hM := snap_row H3 (12, 0) (some 3) [(Nil, [], []), (_, lbl, l2), (_, [1#8], l3)] (by
      intro p hp
      simp only [List.mem_cons, List.not_mem_nil, or_false] at hp
      rcases hp with rfl | rfl | rfl
      · exact lentA_nil _
      · exact q2
      · exact q3) k12 (by simp)
    have e := tag_call (L := [[], lbl, [1#8]]) hc (lent_isl _ key []) hM hk (by simp; omega) (by simp) (by simp; omega)
    have e2 : ([[], lbl, [1#8]] : List (List (BitVec 8))).flatten = dT key lbl 0 ++ lbl ++ [BitVec.ofNat 8 (0 + 1)] := by simp [dT]
    rw [e2] at e
    subst e
    obtain ⟨m, hm⟩ : ∃ m, m = dT key lbl 0 ++ lbl ++ [BitVec.ofNat 8 (0 + 1)] := ⟨_, rfl⟩
    rw [← hm] at hT htl ⊢
    have hT2 : (List.range 32).map (tagv key m) = dT key lbl 1 := hT.symm
    have hT3 : aB 32 (tagv key m) = bs (dT key lbl 1) := by rw [aB_tl]; exact congrArg bs hT2
    simp (disch := first | omega | decide | simp only [nms_B8, nms_B32, nms_B64, nms_I, nms_N, nms_Bo, nms_Un, nms_undef, nms_Hf, nms_ptr, nms_sl, aB_agg_nms, aW_agg_nms, aD_agg_nms, aO_agg_nms, List.flatMap_cons, List.flatMap_nil, List.nil_append, List.append_nil, ren_B8, ren_B32, ren_B64, ren_I, ren_N, ren_Bo, ren_Un, ren_undef, ren_Hf, aB_agg_ren, aW_agg_ren, aD_agg_ren, aO_agg_ren, List.map_cons, List.map_nil, ren7_I, ren7_N, ren7_Bo, ren7_B8, ren7_B32, ren7_B64, nms7_I, nms7_N, nms7_Bo, nms7_B8, nms7_B32, nms7_B64, nms_tup, ren_tup, implies_true, l17, l18, l19, l20, l36, l37, l38, l39, l43, l21, l22, l24, l25, l33, l35, l40, l42, l14, l27, bs_isCell, bs_nms, bs_ren, ibs_nms, ibs_ren, bs_length, aW_isCell, aB_isCell, isCell_sl, isCell_isl, isCell_nil, isCell_ptr, isCell_N]) only [ev_seq, ev_region, regK_some, evOpers_nil, evOpers_cons, put_some, put_none, evX_t, evX_c, outR_some, op_mv, op_bin, andThen_normal, inBlock_normal, List.set_cons_zero, List.set_cons_succ, List.getD_cons_zero, List.getD_cons_succ, List.length_cons, List.length_nil, B8_add, Nat.reduceAdd, upd_at, cellsOf_agg, op_new, op_st, stV_ptr, if_true, Nat.zero_add, Nat.add_zero, aB_st_all, Nat.mul_one, Nat.add_zero, Nat.zero_add, Nat.reduceAdd, lenOf_sl, op_append, appK_some, appF_some, appX_nil, optNat_none, op_slcAV, slcAV_ptr, updN_nil, updN_cons, modN_nil, modN_cons, Nat.sub_zero, Nat.mul_one, frontK_aB, front_sl, stepK_gen, hT2]
    refine ⟨_, rfl, ?_⟩
    refine canon_inv [(20, 0), (14, 0)] rfl (by simp only [canonNames, FUEL, reach_cons, reachK_some, reach_nil, nms_sl, nms_B8, nms_undef, List.flatMap_cons, List.flatMap_nil, List.nil_append, List.cons_append, List.append_nil, List.range_zero, List.map_nil, List.contains_nil, List.contains_cons, Prod.mk.injEq, beq_iff_eq, Bool.or_eq_true, Bool.false_eq_true, Nat.reduceEqDiff, and_true, or_false, if_true, if_false, List.filter_cons, List.filter_nil, bne_iff_ne, ne_eq, not_false_eq_true, upd_at, mask_nil, mask_true, mask_false, nms_N, L29k0, nms_txt, bs_nms, aB_nms, ibs_nms]) ?_ ⟨_, .inr ⟨by omega, rfl, ?_, ?_⟩⟩
    · simp only [L29k0, ren_B8, List.map_cons, List.map_nil, Nat.reduceAdd, ibs_ren, Nat.mul_one, ren_slF, mask_true, mask_false, mask_nil, ren_undef, ren_txt, ren_N, Nat.mul_one]
      rfl
    · exact cN_same (20, 0) rfl (by simp only [upd_at, Prod.mk.injEq, Nat.reduceEqDiff, and_true, if_true, if_false, Nat.zero_add, dO, List.nil_append]) (bs_ren _ _)
    · exact cN_same (14, 0) rfl (by simp only [upd_at, Prod.mk.injEq, Nat.reduceEqDiff, and_true, if_true, if_false, hT3]) (bs_ren _ _)
  · simp (disch := first | omega | decide | simp only [nms_B8, nms_B32, nms_B64, nms_I, nms_N, nms_Bo, nms_Un, nms_undef, nms_Hf, nms_ptr, nms_sl, aB_agg_nms, aW_agg_nms, aD_agg_nms, aO_agg_nms, List.flatMap_cons, List.flatMap_nil, List.nil_append, List.append_nil, ren_B8, ren_B32, ren_B64, ren_I, ren_N, ren_Bo, ren_Un, ren_undef, ren_Hf, aB_agg_ren, aW_agg_ren, aD_agg_ren, aO_agg_ren, List.map_cons, List.map_nil, ren7_I, ren7_N, ren7_Bo, ren7_B8, ren7_B32, ren7_B64, nms7_I, nms7_N, nms7_Bo, nms7_B8, nms7_B32, nms7_B64, nms_tup, ren_tup, implies_true, l17, l18, l19, l20, l36, l37, l38, l39, l43, l21, l22, l24, l25, l33, l35, l40, l42, l14, l27, bs_isCell, bs_nms, bs_ren, ibs_nms, ibs_ren, bs_length, aW_isCell, aB_isCell, isCell_sl, isCell_isl, isCell_nil, isCell_ptr, isCell_N]) only [ev_skip, ev_seq, ev_block, ev_region, regK_some, evOpers_nil, evOpers_cons, stepK_pure, put_some, evX_t, evX_c, outR_some, op_mv, op_bin, op_call, callV_fn, andThen_normal, ev_cond, condK_true, List.set_cons_zero, List.set_cons_succ, List.getD_cons_zero, List.getD_cons_succ, List.map_cons, List.map_nil, List.nil_append, List.cons_append, List.append_nil, List.length_cons, List.length_nil, Nat.reduceAdd, stepK_new, cellsOf_B8, fill_nil, fill_cons, fillK_some, splice, List.take_succ_cons, List.take_zero, List.drop_succ_cons, List.drop_zero, List.drop_nil, Nat.reduceLeDiff, and_self, if_true, Nat.zero_add, Nat.add_zero, Nat.le_refl, decide_true, aB_rep, Nat.add_zero, Nat.zero_add, N_lss, Nat.reduceLeDiff, Nat.reduceAdd, decide_true, op_len, lenV_some, lenS_sl, cellsOf_sl, op_mkrow, rowK_some, L29b0, hi, op_s2b, s2bV_txt]
    generalize hc : callOp _ _ _ _ _ = r
    generalize hH3 : upd _ _ (some [_, _, _]) = H3 at hc ⊢
    have k12 := upd_self2 hH3
    have k9 : H3 (9, 0) = some (bs lbl) := by rw [← hH3]; simp only [upd_at, Prod.mk.injEq, Nat.reduceEqDiff, and_true, if_true, if_false]
    have k11 : H3 (11, 0) = some (bs [BitVec.ofNat 8 (i + 1)]) := by rw [← hH3]; simp only [upd_at, Prod.mk.injEq, Nat.reduceEqDiff, and_true, if_true, if_false]; rfl
    have k1 : H3 (1, 0) = some (bs (dO key lbl i)) := by rw [← hH3]; simp only [upd_at, Prod.mk.injEq, Nat.reduceEqDiff, and_true, if_false, h1]
    have k2 : H3 (1, 1) = some (bs (dT key lbl i)) := by rw [← hH3]; simp only [upd_at, Prod.mk.injEq, Nat.reduceEqDiff, and_self, if_false, Nat.one_ne_zero, h2]
    have hdTi : (dT key lbl i).length = 32 := by obtain ⟨j, rfl⟩ : ∃ j, i = j + 1 := ⟨i - 1, by omega⟩; exact dT_length _ _ _
    obtain ⟨l1, q1, _⟩ := lentA_row (RowIs.new k2 hdTi)
    obtain ⟨l2, q2, _⟩ := lentA_row (RowIs.un k9 rfl)
    obtain ⟨l3, q3, _⟩ := lentA_row (RowIs.new k11 rfl)
    have hM := snap_row H3 (12, 0) (some 3) [(_, dT key lbl i, l1), (_, lbl, l2), (_, [BitVec.ofNat 8 (i + 1)], l3)] (by
      intro p hp
      simp only [List.mem_cons, List.not_mem_nil, or_false] at hp
      rcases hp with rfl | rfl | rfl
      · exact q1
      · exact q2
      · exact q3) k12 (by simp)
    have e := tag_call (L := [dT key lbl i, lbl, [BitVec.ofNat 8 (i + 1)]]) hc (lent_isl _ key []) hM hk (by simp; omega) (by simp) (by simp; omega)
    have e2 : ([dT key lbl i, lbl, [BitVec.ofNat 8 (i + 1)]] : List (List (BitVec 8))).flatten = dT key lbl i ++ lbl ++ [BitVec.ofNat 8 (i + 1)] := by simp
    rw [e2] at e
    subst e
    obtain ⟨m, hm⟩ : ∃ m, m = dT key lbl i ++ lbl ++ [BitVec.ofNat 8 (i + 1)] := ⟨_, rfl⟩
    rw [← hm] at hT htl ⊢
    have hT2 : (List.range 32).map (tagv key m) = dT key lbl (i + 1) := hT.symm
    have hT3 : aB 32 (tagv key m) = bs (dT key lbl (i + 1)) := by rw [aB_tl]; exact congrArg bs hT2
    have hfull : (dO key lbl i).take (32 * i) = dO key lbl i := List.take_of_length_le (by omega)
    simp (disch := first | omega | decide | simp only [nms_B8, nms_B32, nms_B64, nms_I, nms_N, nms_Bo, nms_Un, nms_undef, nms_Hf, nms_ptr, nms_sl, aB_agg_nms, aW_agg_nms, aD_agg_nms, aO_agg_nms, List.flatMap_cons, List.flatMap_nil, List.nil_append, List.append_nil, ren_B8, ren_B32, ren_B64, ren_I, ren_N, ren_Bo, ren_Un, ren_undef, ren_Hf, aB_agg_ren, aW_agg_ren, aD_agg_ren, aO_agg_ren, List.map_cons, List.map_nil, ren7_I, ren7_N, ren7_Bo, ren7_B8, ren7_B32, ren7_B64, nms7_I, nms7_N, nms7_Bo, nms7_B8, nms7_B32, nms7_B64, nms_tup, ren_tup, implies_true, l17, l18, l19, l20, l36, l37, l38, l39, l43, l21, l22, l24, l25, l33, l35, l40, l42, l14, l27, bs_isCell, bs_nms, bs_ren, ibs_nms, ibs_ren, bs_length, aW_isCell, aB_isCell, isCell_sl, isCell_isl, isCell_nil, isCell_ptr, isCell_N]) only [ev_seq, ev_region, regK_some, evOpers_nil, evOpers_cons, put_some, put_none, evX_t, evX_c, outR_some, op_mv, op_bin, andThen_normal, inBlock_normal, List.set_cons_zero, List.set_cons_succ, List.getD_cons_zero, List.getD_cons_succ, List.length_cons, List.length_nil, B8_add, Nat.reduceAdd, upd_at, cellsOf_agg, op_new, op_st, stV_ptr, List.drop_zero, Prod.mk.injEq, Nat.reduceEqDiff, and_true, if_true, if_false, Nat.zero_add, Nat.add_zero, aB_st_all, Nat.mul_one, Nat.add_zero, Nat.zero_add, Nat.reduceEqDiff, Nat.reduceAdd, lenOf_sl, op_append, appK_some, appF_some, appX_none, appN_bytes, optNat_none, op_slcAV, slcAV_ptr, updN_nil, updN_cons, modN_nil, modN_cons, Nat.sub_zero, Nat.mul_one, frontK_aB, front_sl, stepK_gen, hT2, k1, hcnt, List.drop_zero, hfull]
    refine ⟨_, rfl, ?_⟩
    refine canon_inv [(20, 0), (14, 0)] rfl (by simp only [canonNames, FUEL, reach_cons, reachK_some, reach_nil, nms_sl, nms_B8, nms_undef, List.flatMap_cons, List.flatMap_nil, List.nil_append, List.cons_append, List.append_nil, List.range_zero, List.map_nil, List.contains_nil, List.contains_cons, Prod.mk.injEq, beq_iff_eq, Bool.or_eq_true, Bool.false_eq_true, Nat.reduceEqDiff, and_true, or_false, if_true, if_false, List.filter_cons, List.filter_nil, bne_iff_ne, ne_eq, not_false_eq_true, upd_at, mask_nil, mask_true, mask_false, nms_N, L29k0, nms_txt, bs_nms, aB_nms, ibs_nms]) ?_ ⟨_, .inr ⟨by omega, rfl, ?_, ?_⟩⟩
    · simp only [L29k0, ren_B8, List.map_cons, List.map_nil, ibs_ren, Nat.mul_one, ren_slF, mask_true, mask_false, mask_nil, ren_undef, ren_txt, ren_N, Nat.mul_add, Nat.mul_one]
      rfl
    · exact cN_same (20, 0) rfl (by simp only [upd_at, Prod.mk.injEq, Nat.reduceEqDiff, and_true, if_true, if_false, dO]) (bs_ren _ _)
    · exact cN_same (14, 0) rfl (by simp only [upd_at, Prod.mk.injEq, Nat.reduceEqDiff, and_true, if_true, if_false, hT3]) (bs_ren _ _)

set_option maxRecDepth 10000 in
theorem derive_F (K : Nat) (key lbl : List (BitVec 8)) (n : Nat) (hn1 : 1 ≤ n) (hn : n ≤ 8160) (hk : key.length ≤ 211106232000000) (hl : lbl.length ≤ 211106230000000) (hK : key.length / 64 + lbl.length / 64 + 2000 ≤ K) :
    F C (K + 1) 29 [.isl (bs key) key.length, txt lbl, N n] [] = some (.sl (1, 0) 0 n (some n) 1, [], [bs (dO key lbl ((n + 31) / 32))]) := by
  rw [F_succ f29]
  have a1 : ¬ n < 1 := by omega
  have a2 : ¬ 8160 < n := by omega
  simp (disch := first | omega | decide | simp only [nms_B8, nms_B32, nms_B64, nms_I, nms_N, nms_Bo, nms_Un, nms_undef, nms_Hf, nms_ptr, nms_sl, aB_agg_nms, aW_agg_nms, aD_agg_nms, aO_agg_nms, List.flatMap_cons, List.flatMap_nil, List.nil_append, List.append_nil, ren_B8, ren_B32, ren_B64, ren_I, ren_N, ren_Bo, ren_Un, ren_undef, ren_Hf, aB_agg_ren, aW_agg_ren, aD_agg_ren, aO_agg_ren, List.map_cons, List.map_nil, ren7_I, ren7_N, ren7_Bo, ren7_B8, ren7_B32, ren7_B64, nms7_I, nms7_N, nms7_Bo, nms7_B8, nms7_B32, nms7_B64, nms_tup, ren_tup, implies_true, l17, l18, l19, l20, l36, l37, l38, l39, l43, l21, l22, l24, l25, l33, l35, l40, l42, l14, l27, bs_isCell, bs_nms, bs_ren, ibs_nms, ibs_ren, bs_length, aW_isCell, aB_isCell, isCell_sl, isCell_isl, isCell_nil, isCell_ptr, isCell_N]) only [funSem_eq, ev_skip, ev_seq, ev_block, ev_region, regK_some, evOpers_nil, evOpers_cons, evOpers_cons_g, stepK_pure, guardK_true', put_some, evX_t, evX_c, outR_some, pickV_false, op_mv, op_pick, op_bin, andThen_normal, ev_cond, condK_false, List.set_cons_zero, List.set_cons_succ, List.getD_cons_zero, List.getD_cons_succ, List.nil_append, List.cons_append, repUn_succ, List.replicate_zero, List.length_cons, List.length_nil, ev_loop, Nat.reduceAdd, Nat.reduceSub, Nat.zero_add, Nat.add_zero, decide_false, Nat.add_zero, Nat.zero_add, N_lss, N_gtr, Nat.reduceAdd, decide_false, L29, a1, a2]
  generalize hL : loopN L29k0 _ _ _ = r
  refine loop_use hL (vJ key lbl n) ((n + 31) / 32) (by omega) (fun i st hi hI => v_round _ _ key lbl n hn hk hl hK i (by omega) st hI) ?_ ?_ ?_
  · refine canon_inv [] rfl (by simp only [canonNames, FUEL, reach_nil, nms_B8, nms_undef, List.flatMap_cons, List.flatMap_nil, List.append_nil, List.range_zero, List.map_nil, List.filter_nil, mask_nil, mask_true, mask_false, nms_N, nms_nil, L29k0, nms_txt, ibs_nms]) ?_ ⟨_, .inl ⟨rfl, rfl⟩⟩
    simp only [L29k0, ren_B8, List.map_cons, List.map_nil, Nat.zero_add, ren_nil, ibs_ren, mask_true, mask_false, mask_nil, ren_undef, ren_txt, ren_N]
  · rintro st ⟨H, ⟨h, _⟩ | ⟨h, rfl, h1, h2⟩⟩
    · omega
    · have hx : ¬ 32 * ((n + 31) / 32) < n := by omega
      apply stop_exit
      simp (disch := first | omega | decide | simp only [nms_B8, nms_B32, nms_B64, nms_I, nms_N, nms_Bo, nms_Un, nms_undef, nms_Hf, nms_ptr, nms_sl, aB_agg_nms, aW_agg_nms, aD_agg_nms, aO_agg_nms, List.flatMap_cons, List.flatMap_nil, List.nil_append, List.append_nil, ren_B8, ren_B32, ren_B64, ren_I, ren_N, ren_Bo, ren_Un, ren_undef, ren_Hf, aB_agg_ren, aW_agg_ren, aD_agg_ren, aO_agg_ren, List.map_cons, List.map_nil, ren7_I, ren7_N, ren7_Bo, ren7_B8, ren7_B32, ren7_B64, nms7_I, nms7_N, nms7_Bo, nms7_B8, nms7_B32, nms7_B64, nms_tup, ren_tup, implies_true, l17, l18, l19, l20, l36, l37, l38, l39, l43, l21, l22, l24, l25, l33, l35, l40, l42, l14, l27, bs_isCell, bs_nms, bs_ren, ibs_nms, ibs_ren, bs_length, aW_isCell, aB_isCell, isCell_sl, isCell_isl, isCell_nil, isCell_ptr, isCell_N]) only [ev_exit, ev_seq, ev_region, regK_some, evOpers_nil, evOpers_cons, stepK_pure, put_some, evX_t, outR_some, op_mv, op_bin, andThen_normal, andThen_exit, ev_cond, condK_false, List.set_cons_zero, List.set_cons_succ, List.getD_cons_zero, List.getD_cons_succ, List.length_cons, List.length_nil, Nat.reduceAdd, Nat.zero_add, Nat.add_zero, decide_false, N_lss, Nat.reduceAdd, decide_false, op_len, lenV_some, lenS_sl, L29b0, hx]
      rfl
  · rintro st ⟨H, ⟨h, _⟩ | ⟨h, rfl, h1, h2⟩⟩ rfl
    · omega
    · have hx : ¬ 32 * ((n + 31) / 32) < n := by omega
      simp (disch := first | omega | decide | simp only [nms_B8, nms_B32, nms_B64, nms_I, nms_N, nms_Bo, nms_Un, nms_undef, nms_Hf, nms_ptr, nms_sl, aB_agg_nms, aW_agg_nms, aD_agg_nms, aO_agg_nms, List.flatMap_cons, List.flatMap_nil, List.nil_append, List.append_nil, ren_B8, ren_B32, ren_B64, ren_I, ren_N, ren_Bo, ren_Un, ren_undef, ren_Hf, aB_agg_ren, aW_agg_ren, aD_agg_ren, aO_agg_ren, List.map_cons, List.map_nil, ren7_I, ren7_N, ren7_Bo, ren7_B8, ren7_B32, ren7_B64, nms7_I, nms7_N, nms7_Bo, nms7_B8, nms7_B32, nms7_B64, nms_tup, ren_tup, implies_true, l17, l18, l19, l20, l36, l37, l38, l39, l43, l21, l22, l24, l25, l33, l35, l40, l42, l14, l27, bs_isCell, bs_nms, bs_ren, ibs_nms, ibs_ren, bs_length, aW_isCell, aB_isCell, isCell_sl, isCell_isl, isCell_nil, isCell_ptr, isCell_N]) only [ev_ret, ev_exit, ev_seq, ev_region, regK_some, evOpers_nil, evOpers_cons, put_some, evX_t, outR_some, op_mv, op_bin, andThen_normal, andThen_exit, inBlock_exit, ev_cond, condK_false, retK_ret, resVal_tmp, List.set_cons_zero, List.set_cons_succ, List.getD_cons_zero, List.getD_cons_succ, List.length_cons, List.length_nil, Option.map_some, Nat.reduceAdd, if_true, Nat.zero_add, Nat.add_zero, decide_false, aB_rep, Nat.mul_one, Nat.add_zero, Nat.zero_add, N_lss, N_nat, Nat.reduceAdd, decide_false, op_len, lenV_some, lenS_sl, optNat_none, updN_nil, modN_nil, Option.map_some, Nat.sub_zero, Nat.mul_one, stepK_gen, op_slcM, slcM_ok, L29b0, hx]
      rw [outOf_mem 0 _ _ [(1, 0)] (by simp only [canonNames, FUEL, reach_cons, reachK_some, reach_nil, nms_sl, List.flatMap_cons, List.flatMap_nil, List.nil_append, List.append_nil, List.range_zero, List.map_nil, List.contains_nil, Bool.false_eq_true, if_true, if_false, Nat.one_ne_zero, List.filter_cons, List.filter_nil, bne_iff_ne, ne_eq, not_false_eq_true, h1, bs_nms])]
      simp (disch := first | omega | decide | simp only [nms_B8, nms_B32, nms_B64, nms_I, nms_N, nms_Bo, nms_Un, nms_undef, nms_Hf, nms_ptr, nms_sl, aB_agg_nms, aW_agg_nms, aD_agg_nms, aO_agg_nms, List.flatMap_cons, List.flatMap_nil, List.nil_append, List.append_nil, ren_B8, ren_B32, ren_B64, ren_I, ren_N, ren_Bo, ren_Un, ren_undef, ren_Hf, aB_agg_ren, aW_agg_ren, aD_agg_ren, aO_agg_ren, List.map_cons, List.map_nil, ren7_I, ren7_N, ren7_Bo, ren7_B8, ren7_B32, ren7_B64, nms7_I, nms7_N, nms7_Bo, nms7_B8, nms7_B32, nms7_B64, nms_tup, ren_tup, implies_true, l17, l18, l19, l20, l36, l37, l38, l39, l43, l21, l22, l24, l25, l33, l35, l40, l42, l14, l27, bs_isCell, bs_nms, bs_ren, ibs_nms, ibs_ren, bs_length, aW_isCell, aB_isCell, isCell_sl, isCell_isl, isCell_nil, isCell_ptr, isCell_N]) only [List.map_cons, List.map_nil, Option.map_some, if_true, Nat.zero_add, idx_cons, canonMap_ne, List.filterMap_nil, Option.map_some, bs_ren, List.filterMap_cons, List.range_zero, ren_slF, slO_some, h1]

theorem I_lt1 (z : Int) (m : Nat) : binV .lss .none (I z) (N m) = some (Bo (decide (z < m))) := by rw [N, I_lss]
theorem I_gtN (z : Int) (m : Nat) : binV .gtr .none (I z) (N m) = some (Bo (decide ((m : Int) < z))) := by rw [N, I_gtr]

theorem derive_no (K : Nat) (key lbl : List (BitVec 8)) (z : Int) (hz : z < 1 ∨ 8160 < z) : F C (K + 1) 29 [.isl (bs key) key.length, txt lbl, I z] [] = some (Nil, [], []) := by
  rw [F_succ f29]
  have h1 := I_lt1 z 1
  have h2 := I_gtN z 8160
  by_cases hlt : z < 1
  · have e1 : decide (z < ((1 : Nat) : Int)) = true := by simpa using hlt
    rw [e1] at h1
    simp (disch := first | omega | decide | simp only [nms_B8, nms_B32, nms_B64, nms_I, nms_N, nms_Bo, nms_Un, nms_undef, nms_Hf, nms_ptr, nms_sl, aB_agg_nms, aW_agg_nms, aD_agg_nms, aO_agg_nms, List.flatMap_cons, List.flatMap_nil, List.nil_append, List.append_nil, ren_B8, ren_B32, ren_B64, ren_I, ren_N, ren_Bo, ren_Un, ren_undef, ren_Hf, aB_agg_ren, aW_agg_ren, aD_agg_ren, aO_agg_ren, List.map_cons, List.map_nil, ren7_I, ren7_N, ren7_Bo, ren7_B8, ren7_B32, ren7_B64, nms7_I, nms7_N, nms7_Bo, nms7_B8, nms7_B32, nms7_B64, nms_tup, ren_tup, implies_true, l17, l18, l19, l20, l36, l37, l38, l39, l43, l21, l22, l24, l25, l33, l35, l40, l42, l14, l27, bs_isCell, bs_nms, bs_ren, ibs_nms, ibs_ren, bs_length, aW_isCell, aB_isCell, isCell_sl, isCell_isl, isCell_nil, isCell_ptr, isCell_N]) only [funSem_eq, ev_ret, ev_seq, ev_region, regK_some, evOpers_nil, evOpers_cons, evOpers_cons_g, stepK_pure, guardK_false', put_some, evX_t, evX_c, outR_some, pickV_true, op_mv, op_pick, op_bin, andThen_normal, andThen_ret, ev_cond, condK_true, retK_ret, resVal_tmp, List.set_cons_zero, List.set_cons_succ, List.getD_cons_zero, List.getD_cons_succ, List.nil_append, List.cons_append, repUn_succ, List.replicate_zero, List.length_cons, List.length_nil, Option.map_some, Nat.reduceAdd, Nat.reduceSub, Nat.zero_add, Nat.add_zero, Nat.add_zero, Nat.zero_add, Nat.reduceAdd, Option.map_some, L29, h1]
    rw [outOf_mem 0 _ _ [] (by simp only [canonNames, FUEL, reach_nil, List.flatMap_cons, List.flatMap_nil, List.append_nil, List.range_zero, List.map_nil, List.filter_nil, nms_nil])]
    simp (disch := first | omega | decide | simp only [nms_B8, nms_B32, nms_B64, nms_I, nms_N, nms_Bo, nms_Un, nms_undef, nms_Hf, nms_ptr, nms_sl, aB_agg_nms, aW_agg_nms, aD_agg_nms, aO_agg_nms, List.flatMap_cons, List.flatMap_nil, List.nil_append, List.append_nil, ren_B8, ren_B32, ren_B64, ren_I, ren_N, ren_Bo, ren_Un, ren_undef, ren_Hf, aB_agg_ren, aW_agg_ren, aD_agg_ren, aO_agg_ren, List.map_cons, List.map_nil, ren7_I, ren7_N, ren7_Bo, ren7_B8, ren7_B32, ren7_B64, nms7_I, nms7_N, nms7_Bo, nms7_B8, nms7_B32, nms7_B64, nms_tup, ren_tup, implies_true, l17, l18, l19, l20, l36, l37, l38, l39, l43, l21, l22, l24, l25, l33, l35, l40, l42, l14, l27, bs_isCell, bs_nms, bs_ren, ibs_nms, ibs_ren, bs_length, aW_isCell, aB_isCell, isCell_sl, isCell_isl, isCell_nil, isCell_ptr, isCell_N]) only [List.map_nil, ren_nil, List.filterMap_nil, inHeap_at, List.range_zero]
  · have hgt : 8160 < z := hz.resolve_left hlt
    have e1 : decide (z < ((1 : Nat) : Int)) = false := by simpa using hlt
    have e2 : decide (((8160 : Nat) : Int) < z) = true := by simpa using hgt
    rw [e1] at h1
    rw [e2] at h2
    simp (disch := first | omega | decide | simp only [nms_B8, nms_B32, nms_B64, nms_I, nms_N, nms_Bo, nms_Un, nms_undef, nms_Hf, nms_ptr, nms_sl, aB_agg_nms, aW_agg_nms, aD_agg_nms, aO_agg_nms, List.flatMap_cons, List.flatMap_nil, List.nil_append, List.append_nil, ren_B8, ren_B32, ren_B64, ren_I, ren_N, ren_Bo, ren_Un, ren_undef, ren_Hf, aB_agg_ren, aW_agg_ren, aD_agg_ren, aO_agg_ren, List.map_cons, List.map_nil, ren7_I, ren7_N, ren7_Bo, ren7_B8, ren7_B32, ren7_B64, nms7_I, nms7_N, nms7_Bo, nms7_B8, nms7_B32, nms7_B64, nms_tup, ren_tup, implies_true, l17, l18, l19, l20, l36, l37, l38, l39, l43, l21, l22, l24, l25, l33, l35, l40, l42, l14, l27, bs_isCell, bs_nms, bs_ren, ibs_nms, ibs_ren, bs_length, aW_isCell, aB_isCell, isCell_sl, isCell_isl, isCell_nil, isCell_ptr, isCell_N]) only [funSem_eq, ev_ret, ev_seq, ev_region, regK_some, evOpers_nil, evOpers_cons, evOpers_cons_g, stepK_pure, guardK_true', put_some, evX_t, evX_c, outR_some, pickV_false, op_mv, op_pick, op_bin, andThen_normal, andThen_ret, ev_cond, condK_true, retK_ret, resVal_tmp, List.set_cons_zero, List.set_cons_succ, List.getD_cons_zero, List.getD_cons_succ, List.nil_append, List.cons_append, repUn_succ, List.replicate_zero, List.length_cons, List.length_nil, Option.map_some, Nat.reduceAdd, Nat.reduceSub, Nat.zero_add, Nat.add_zero, Nat.add_zero, Nat.zero_add, Nat.reduceAdd, Option.map_some, L29, h1, h2]
    rw [outOf_mem 0 _ _ [] (by simp only [canonNames, FUEL, reach_nil, List.flatMap_cons, List.flatMap_nil, List.append_nil, List.range_zero, List.map_nil, List.filter_nil, nms_nil])]
    simp (disch := first | omega | decide | simp only [nms_B8, nms_B32, nms_B64, nms_I, nms_N, nms_Bo, nms_Un, nms_undef, nms_Hf, nms_ptr, nms_sl, aB_agg_nms, aW_agg_nms, aD_agg_nms, aO_agg_nms, List.flatMap_cons, List.flatMap_nil, List.nil_append, List.append_nil, ren_B8, ren_B32, ren_B64, ren_I, ren_N, ren_Bo, ren_Un, ren_undef, ren_Hf, aB_agg_ren, aW_agg_ren, aD_agg_ren, aO_agg_ren, List.map_cons, List.map_nil, ren7_I, ren7_N, ren7_Bo, ren7_B8, ren7_B32, ren7_B64, nms7_I, nms7_N, nms7_Bo, nms7_B8, nms7_B32, nms7_B64, nms_tup, ren_tup, implies_true, l17, l18, l19, l20, l36, l37, l38, l39, l43, l21, l22, l24, l25, l33, l35, l40, l42, l14, l27, bs_isCell, bs_nms, bs_ren, ibs_nms, ibs_ren, bs_length, aW_isCell, aB_isCell, isCell_sl, isCell_isl, isCell_nil, isCell_ptr, isCell_N]) only [List.map_nil, ren_nil, List.filterMap_nil, inHeap_at, List.range_zero]

/-- the derived bytes -/
def dvl (key lbl : List (BitVec 8)) (z : Int) : List (BitVec 8) := if z < 1 ∨ 8160 < z then [] else (dO key lbl ((z.toNat + 31) / 32)).take z.toNat

/-- bytes, or nothing at all -/
def RowOr (H : Heap) (x : LV) (m : Nm) (l : List (BitVec 8)) : Prop := (x = Nil ∧ l = []) ∨ RowIs H x m l

theorem derive_call {k b : Nat} {H : Heap} {B : LV} {key lbl : List (BitVec 8)} {z : Int} {r : Option Out} (hc : callOp (envC C k) H b 29 [B, txt lbl, I z] = r) (hB : Lent H B key []) (hk : key.length ≤ 211106232000000) (hl : lbl.length ≤ 211106230000000)
    (hK : key.length / 64 + lbl.length / 64 + 2001 ≤ k) : ∃ x news H2, r = some ⟨x, news, []⟩ ∧ updN b 0 news H = H2 ∧ RowOr H2 x (b, 0) (dvl key lbl z) ∧ ∀ m, m.1 ≠ b → H2 m = H m := by
  subst hc
  obtain ⟨l1, hs1, hl1⟩ := hB.snap
  have hlend : lend H ((envC C k).borrow 29) 0 [B, txt lbl, I z] = some ([.isl (bs key) key.length, txt lbl, I z], l1) := by
    rw [lend_cons, lend_cons, lend_cons, lend_nil, envC_borrow, C_bor, if_pos (show lentF 29 0 = true by decide), if_neg (show ¬ lentF 29 (0 + 1) = true by decide), if_neg (show ¬ lentF 29 (0 + 1 + 1) = true by decide), hs1, lendC_some, lendC_some, lendC_some]
    simp
  have hn : ([.isl (bs key) key.length, txt lbl, I z] : List LV).flatMap (nms D) = [] := by
    simp only [List.flatMap_cons, List.flatMap_nil, ibs_nms, nms_txt, nms_I, List.append_nil]
  have ha : ([.isl (bs key) key.length, txt lbl, I z] : List LV).map (ren D (toCallee [])) = [.isl (bs key) key.length, txt lbl, I z] := by
    simp only [List.map_cons, List.map_nil, ibs_ren, ren_txt, ren_I]
  by_cases hz : z < 1 ∨ 8160 < z
  · have hw := derive_no (k - 1) key lbl z hz
    rw [show k - 1 + 1 = k by omega] at hw
    refine ⟨Nil, [], H, ?_, rfl, .inl ⟨rfl, by rw [dvl, if_pos hz]⟩, fun _ _ => rfl⟩
    rw [callOp_L, hlend, callL_some, hn, show reach H FUEL [] [] = [] from rfl, callN_eq _ _ _ _ _ hl1, ha, List.filterMap_nil, List.map_nil, envC_cal, hw, resK_any _ _ _ _ rfl, backTo_eq]
    simp only [ren_nil, List.map_nil, List.zipWith_nil_left]
  · obtain ⟨n, rfl⟩ : ∃ n : Nat, z = (n : Int) := ⟨z.toNat, by omega⟩
    have hw := derive_F (k - 1) key lbl n (by omega) (by omega) hk hl (by omega)
    rw [show k - 1 + 1 = k by omega] at hw
    have hw' : F C k 29 [.isl (bs key) key.length, txt lbl, I (n : Int)] [] = some (.sl (1, 0) 0 n (some n) 1, [], [bs (dO key lbl ((n + 31) / 32))]) := hw
    have hlen := dO_length key lbl ((n + 31) / 32)
    have hdv : dvl key lbl n = (dO key lbl ((n + 31) / 32)).take n := by rw [dvl, if_neg hz]; simp
    have hdl : (dvl key lbl n).length = n := by rw [hdv, List.length_take]; omega
    refine ⟨.sl (b, 0) 0 n (some n) 1, [bs (dO key lbl ((n + 31) / 32))], _, ?_, rfl, .inr ⟨some n, dO key lbl ((n + 31) / 32), ?_, ?_, ?_, ?_, .inr ?_⟩, ?_⟩
    · rw [callOp_L, hlend, callL_some, hn, show reach H FUEL [] [] = [] from rfl, callN_eq _ _ _ _ _ hl1, ha, List.filterMap_nil, List.map_nil, envC_cal, hw', resK_any _ _ _ _ (by simp [plainRes, noImm_bs]; rfl), backTo_eq]
      simp only [ren_slF, toCaller_1, List.length_cons, List.length_nil, Nat.zero_add, Nat.lt_one_iff, slO_some, List.map_cons, List.map_nil, bs_ren, List.zipWith_nil_left]
    · rw [hdl]
    · rw [updN_cons, updN_nil, upd_at, if_pos rfl]
    · rw [hdl]; omega
    · rw [hdl, hdv]
    · rw [hdl]
    · intro m hm
      rw [updN_at, if_neg (fun h => hm h.1)]

end Sha

namespace Sha
open Go Go.LE

end Sha

namespace Sha
open Go Go.LE

def p_h1 : List (BitVec 8) := [124#8, 83#8, 80#8, 83#8, 54#8, 54#8, 54#8, 54#8, 54#8, 54#8, 54#8, 54#8, 54#8, 54#8, 54#8, 54#8, 54#8, 54#8, 54#8, 54#8, 54#8, 54#8, 54#8, 54#8, 54#8, 54#8, 54#8, 54#8, 54#8, 54#8, 54#8, 54#8, 54#8, 54#8, 54#8, 54#8, 54#8, 54#8, 54#8, 54#8, 54#8, 54#8, 54#8, 54#8, 54#8, 54#8, 54#8, 54#8, 54#8, 54#8, 54#8, 54#8, 54#8, 54#8, 54#8, 54#8, 54#8, 54#8, 54#8, 54#8, 54#8, 54#8, 54#8, 54#8]
def L_h1 : List (BitVec 32) := [0x7c535053#32, 0x36363636#32, 0x36363636#32, 0x36363636#32, 0x36363636#32, 0x36363636#32, 0x36363636#32, 0x36363636#32, 0x36363636#32, 0x36363636#32, 0x36363636#32, 0x36363636#32, 0x36363636#32, 0x36363636#32, 0x36363636#32, 0x36363636#32, 0x7780fe00#32, 0x3163e3e3#32, 0xb47168a2#32, 0xe11539f8#32, 0xecfba47f#32, 0x8f8ebd79#32, 0xfa1ec89e#32, 0x1e0e70f6#32, 0x0c23673e#32, 0xc8311559#32, 0xddee66a1#32, 0xb28ed337#32, 0xac9fc9a9#32, 0xcb4db29d#32, 0x59369281#32, 0xe32830f3#32, 0x136f5555#32, 0x377ff55a#32, 0x4aa3e0f1#32, 0x9d19ff47#32, 0x926e254f#32, 0x39c2254f#32, 0x2731f000#32, 0x2bd17abc#32, 0xf96d6a27#32, 0x6686c278#32, 0x616aea0c#32, 0xb308442a#32, 0x5d1a34ff#32, 0xca7159c9#32, 0xd99ebf95#32, 0xe1a34c15#32, 0x51dbd4be#32, 0x7c986d13#32, 0x71d1a48e#32, 0x39a42882#32, 0x53c21066#32, 0x1d686bfc#32, 0x7682d688#32, 0xc08ab048#32, 0xf41238c8#32, 0x94e252cd#32, 0x485d2762#32, 0xe20b3ab9#32, 0x8e7ad67d#32, 0xda8d1cc5#32, 0xb0eeaf96#32, 0x8739d375#32]
def S_h1 : List (List (BitVec 32)) := [[0x6a09e667#32, 0xbb67ae85#32, 0x3c6ef372#32, 0xa54ff53a#32, 0x510e527f#32, 0x9b05688c#32, 0x1f83d9ab#32, 0x5be0cd19#32],
  [0x785bd8a0#32, 0x6a09e667#32, 0xbb67ae85#32, 0x3c6ef372#32, 0x151b32f5#32, 0x510e527f#32, 0x9b05688c#32, 0x1f83d9ab#32],
  [0x983307d2#32, 0x785bd8a0#32, 0x6a09e667#32, 0xbb67ae85#32, 0xa5de5788#32, 0x151b32f5#32, 0x510e527f#32, 0x9b05688c#32],
  [0xe561c53c#32, 0x983307d2#32, 0x785bd8a0#32, 0x6a09e667#32, 0xd42662d3#32, 0xa5de5788#32, 0x151b32f5#32, 0x510e527f#32],
  [0x8c549b2f#32, 0xe561c53c#32, 0x983307d2#32, 0x785bd8a0#32, 0x663f1212#32, 0xd42662d3#32, 0xa5de5788#32, 0x151b32f5#32],
  [0x53632755#32, 0x8c549b2f#32, 0xe561c53c#32, 0x983307d2#32, 0xd7477e59#32, 0x663f1212#32, 0xd42662d3#32, 0xa5de5788#32],
  [0x34561afc#32, 0x53632755#32, 0x8c549b2f#32, 0xe561c53c#32, 0x24389410#32, 0xd7477e59#32, 0x663f1212#32, 0xd42662d3#32],
  [0x58778f6a#32, 0x34561afc#32, 0x53632755#32, 0x8c549b2f#32, 0xa6e3644b#32, 0x24389410#32, 0xd7477e59#32, 0x663f1212#32],
  [0x16fcd1de#32, 0x58778f6a#32, 0x34561afc#32, 0x53632755#32, 0x1f67d48a#32, 0xa6e3644b#32, 0x24389410#32, 0xd7477e59#32],
  [0x235471b0#32, 0x16fcd1de#32, 0x58778f6a#32, 0x34561afc#32, 0x6a38013d#32, 0x1f67d48a#32, 0xa6e3644b#32, 0x24389410#32],
  [0xb0e25b7e#32, 0x235471b0#32, 0x16fcd1de#32, 0x58778f6a#32, 0xfe30de3e#32, 0x6a38013d#32, 0x1f67d48a#32, 0xa6e3644b#32],
  [0xc29f7823#32, 0xb0e25b7e#32, 0x235471b0#32, 0x16fcd1de#32, 0xe981ca81#32, 0xfe30de3e#32, 0x6a38013d#32, 0x1f67d48a#32],
  [0x1b918ad1#32, 0xc29f7823#32, 0xb0e25b7e#32, 0x235471b0#32, 0x435e9d84#32, 0xe981ca81#32, 0xfe30de3e#32, 0x6a38013d#32],
  [0x07f487ee#32, 0x1b918ad1#32, 0xc29f7823#32, 0xb0e25b7e#32, 0x426da4d5#32, 0x435e9d84#32, 0xe981ca81#32, 0xfe30de3e#32],
  [0x0aae579f#32, 0x07f487ee#32, 0x1b918ad1#32, 0xc29f7823#32, 0x4b6881fa#32, 0x426da4d5#32, 0x435e9d84#32, 0xe981ca81#32],
  [0x32f91b02#32, 0x0aae579f#32, 0x07f487ee#32, 0x1b918ad1#32, 0x22d64e87#32, 0x4b6881fa#32, 0x426da4d5#32, 0x435e9d84#32],
  [0xd8a297b3#32, 0x32f91b02#32, 0x0aae579f#32, 0x07f487ee#32, 0x40743133#32, 0x22d64e87#32, 0x4b6881fa#32, 0x426da4d5#32],
  [0x57ea9c70#32, 0xd8a297b3#32, 0x32f91b02#32, 0x0aae579f#32, 0x834c5d31#32, 0x40743133#32, 0x22d64e87#32, 0x4b6881fa#32],
  [0x0268f9a1#32, 0x57ea9c70#32, 0xd8a297b3#32, 0x32f91b02#32, 0x5e22d8f7#32, 0x834c5d31#32, 0x40743133#32, 0x22d64e87#32],
  [0x3dbc498e#32, 0x0268f9a1#32, 0x57ea9c70#32, 0xd8a297b3#32, 0xef561db9#32, 0x5e22d8f7#32, 0x834c5d31#32, 0x40743133#32],
  [0xd9507501#32, 0x3dbc498e#32, 0x0268f9a1#32, 0x57ea9c70#32, 0x67d16b9d#32, 0xef561db9#32, 0x5e22d8f7#32, 0x834c5d31#32],
  [0xc5318371#32, 0xd9507501#32, 0x3dbc498e#32, 0x0268f9a1#32, 0x6414d5ba#32, 0x67d16b9d#32, 0xef561db9#32, 0x5e22d8f7#32],
  [0x062e40f6#32, 0xc5318371#32, 0xd9507501#32, 0x3dbc498e#32, 0x7e976b52#32, 0x6414d5ba#32, 0x67d16b9d#32, 0xef561db9#32],
  [0x17e2b319#32, 0x062e40f6#32, 0xc5318371#32, 0xd9507501#32, 0x513641df#32, 0x7e976b52#32, 0x6414d5ba#32, 0x67d16b9d#32],
  [0xad9d4643#32, 0x17e2b319#32, 0x062e40f6#32, 0xc5318371#32, 0x27cec047#32, 0x513641df#32, 0x7e976b52#32, 0x6414d5ba#32],
  [0x08bb510a#32, 0xad9d4643#32, 0x17e2b319#32, 0x062e40f6#32, 0x19db5e5c#32, 0x27cec047#32, 0x513641df#32, 0x7e976b52#32],
  [0x7c2a0dc2#32, 0x08bb510a#32, 0xad9d4643#32, 0x17e2b319#32, 0x8d6241f3#32, 0x19db5e5c#32, 0x27cec047#32, 0x513641df#32],
  [0xd2451e37#32, 0x7c2a0dc2#32, 0x08bb510a#32, 0xad9d4643#32, 0x643e203e#32, 0x8d6241f3#32, 0x19db5e5c#32, 0x27cec047#32],
  [0x0268fa1b#32, 0xd2451e37#32, 0x7c2a0dc2#32, 0x08bb510a#32, 0x46841870#32, 0x643e203e#32, 0x8d6241f3#32, 0x19db5e5c#32],
  [0xedf2ce47#32, 0x0268fa1b#32, 0xd2451e37#32, 0x7c2a0dc2#32, 0xf09bbf76#32, 0x46841870#32, 0x643e203e#32, 0x8d6241f3#32],
  [0xf09b0708#32, 0xedf2ce47#32, 0x0268fa1b#32, 0xd2451e37#32, 0x67e97303#32, 0xf09bbf76#32, 0x46841870#32, 0x643e203e#32],
  [0x078f5fb6#32, 0xf09b0708#32, 0xedf2ce47#32, 0x0268fa1b#32, 0x905c490a#32, 0x67e97303#32, 0xf09bbf76#32, 0x46841870#32],
  [0xeaa1ecb4#32, 0x078f5fb6#32, 0xf09b0708#32, 0xedf2ce47#32, 0xc6426440#32, 0x905c490a#32, 0x67e97303#32, 0xf09bbf76#32],
  [0x3328a14d#32, 0xeaa1ecb4#32, 0x078f5fb6#32, 0xf09b0708#32, 0x65d22258#32, 0xc6426440#32, 0x905c490a#32, 0x67e97303#32],
  [0x6d2e4564#32, 0x3328a14d#32, 0xeaa1ecb4#32, 0x078f5fb6#32, 0x55f8d8de#32, 0x65d22258#32, 0xc6426440#32, 0x905c490a#32],
  [0x83963ea4#32, 0x6d2e4564#32, 0x3328a14d#32, 0xeaa1ecb4#32, 0x967f4f57#32, 0x55f8d8de#32, 0x65d22258#32, 0xc6426440#32],
  [0x68029891#32, 0x83963ea4#32, 0x6d2e4564#32, 0x3328a14d#32, 0xa23b5ecb#32, 0x967f4f57#32, 0x55f8d8de#32, 0x65d22258#32],
  [0x1d8a1947#32, 0x68029891#32, 0x83963ea4#32, 0x6d2e4564#32, 0x52c2fa60#32, 0xa23b5ecb#32, 0x967f4f57#32, 0x55f8d8de#32],
  [0x67625ada#32, 0x1d8a1947#32, 0x68029891#32, 0x83963ea4#32, 0xa5cf1142#32, 0x52c2fa60#32, 0xa23b5ecb#32, 0x967f4f57#32],
  [0x3b14694f#32, 0x67625ada#32, 0x1d8a1947#32, 0x68029891#32, 0x8b47cae7#32, 0xa5cf1142#32, 0x52c2fa60#32, 0xa23b5ecb#32],
  [0xa79b91d0#32, 0x3b14694f#32, 0x67625ada#32, 0x1d8a1947#32, 0xfb81d2f6#32, 0x8b47cae7#32, 0xa5cf1142#32, 0x52c2fa60#32],
  [0xb44f112a#32, 0xa79b91d0#32, 0x3b14694f#32, 0x67625ada#32, 0xe1a23661#32, 0xfb81d2f6#32, 0x8b47cae7#32, 0xa5cf1142#32],
  [0x09f97f87#32, 0xb44f112a#32, 0xa79b91d0#32, 0x3b14694f#32, 0xa239fc34#32, 0xe1a23661#32, 0xfb81d2f6#32, 0x8b47cae7#32],
  [0x73144f72#32, 0x09f97f87#32, 0xb44f112a#32, 0xa79b91d0#32, 0x2c959b32#32, 0xa239fc34#32, 0xe1a23661#32, 0xfb81d2f6#32],
  [0x232d24d1#32, 0x73144f72#32, 0x09f97f87#32, 0xb44f112a#32, 0xe30014cd#32, 0x2c959b32#32, 0xa239fc34#32, 0xe1a23661#32],
  [0x5cd1d6ed#32, 0x232d24d1#32, 0x73144f72#32, 0x09f97f87#32, 0x13126373#32, 0xe30014cd#32, 0x2c959b32#32, 0xa239fc34#32],
  [0xb803f3e1#32, 0x5cd1d6ed#32, 0x232d24d1#32, 0x73144f72#32, 0xa7e30631#32, 0x13126373#32, 0xe30014cd#32, 0x2c959b32#32],
  [0x6531bcdc#32, 0xb803f3e1#32, 0x5cd1d6ed#32, 0x232d24d1#32, 0xa1815b66#32, 0xa7e30631#32, 0x13126373#32, 0xe30014cd#32],
  [0x750ed7b4#32, 0x6531bcdc#32, 0xb803f3e1#32, 0x5cd1d6ed#32, 0xe2cdce6a#32, 0xa1815b66#32, 0xa7e30631#32, 0x13126373#32],
  [0x352963ee#32, 0x750ed7b4#32, 0x6531bcdc#32, 0xb803f3e1#32, 0x81387698#32, 0xe2cdce6a#32, 0xa1815b66#32, 0xa7e30631#32],
  [0xbd49faae#32, 0x352963ee#32, 0x750ed7b4#32, 0x6531bcdc#32, 0xc86fad2f#32, 0x81387698#32, 0xe2cdce6a#32, 0xa1815b66#32],
  [0x9d2923ec#32, 0xbd49faae#32, 0x352963ee#32, 0x750ed7b4#32, 0x6f83bf09#32, 0xc86fad2f#32, 0x81387698#32, 0xe2cdce6a#32],
  [0x7875932a#32, 0x9d2923ec#32, 0xbd49faae#32, 0x352963ee#32, 0x93b9f32a#32, 0x6f83bf09#32, 0xc86fad2f#32, 0x81387698#32],
  [0xfc2f1aae#32, 0x7875932a#32, 0x9d2923ec#32, 0xbd49faae#32, 0xa2ecbc67#32, 0x93b9f32a#32, 0x6f83bf09#32, 0xc86fad2f#32],
  [0x3ac20327#32, 0xfc2f1aae#32, 0x7875932a#32, 0x9d2923ec#32, 0x25c84e04#32, 0xa2ecbc67#32, 0x93b9f32a#32, 0x6f83bf09#32],
  [0x80be9491#32, 0x3ac20327#32, 0xfc2f1aae#32, 0x7875932a#32, 0xc5fadb1d#32, 0x25c84e04#32, 0xa2ecbc67#32, 0x93b9f32a#32],
  [0xc5a25619#32, 0x80be9491#32, 0x3ac20327#32, 0xfc2f1aae#32, 0x4677efca#32, 0xc5fadb1d#32, 0x25c84e04#32, 0xa2ecbc67#32],
  [0x26d12d1d#32, 0xc5a25619#32, 0x80be9491#32, 0x3ac20327#32, 0x595f5238#32, 0x4677efca#32, 0xc5fadb1d#32, 0x25c84e04#32],
  [0xecaa3749#32, 0x26d12d1d#32, 0xc5a25619#32, 0x80be9491#32, 0x3cd11d02#32, 0x595f5238#32, 0x4677efca#32, 0xc5fadb1d#32],
  [0xfc2dd2ee#32, 0xecaa3749#32, 0x26d12d1d#32, 0xc5a25619#32, 0x2e916135#32, 0x3cd11d02#32, 0x595f5238#32, 0x4677efca#32],
  [0x79b8b244#32, 0xfc2dd2ee#32, 0xecaa3749#32, 0x26d12d1d#32, 0xb37aa2eb#32, 0x2e916135#32, 0x3cd11d02#32, 0x595f5238#32],
  [0x6142f8d4#32, 0x79b8b244#32, 0xfc2dd2ee#32, 0xecaa3749#32, 0x1ce682f3#32, 0xb37aa2eb#32, 0x2e916135#32, 0x3cd11d02#32],
  [0x1dade259#32, 0x6142f8d4#32, 0x79b8b244#32, 0xfc2dd2ee#32, 0xbc1e4137#32, 0x1ce682f3#32, 0xb37aa2eb#32, 0x2e916135#32],
  [0x10db9cb2#32, 0x1dade259#32, 0x6142f8d4#32, 0x79b8b244#32, 0xb1358bbd#32, 0xbc1e4137#32, 0x1ce682f3#32, 0xb37aa2eb#32],
  [0xfb53c193#32, 0x10db9cb2#32, 0x1dade259#32, 0x6142f8d4#32, 0x536bd154#32, 0xb1358bbd#32, 0xbc1e4137#32, 0x1ce682f3#32]]
def c_h1 : List (BitVec 32) := [0x655da7fa#32, 0xcc434b37#32, 0x5a1cd5cb#32, 0x0692ee0e#32, 0xa47a23d3#32, 0x4c3af449#32, 0xdba21ae2#32, 0x78c7500c#32]
theorem blk_h1 : blk (toV (S_h1.getD 0 [])) (chunk p_h1 0) = toV c_h1 :=
  blk_list _ L_h1 S_h1 c_h1 rfl (by decide +kernel) (by decide +kernel) (by decide +kernel)

def p_h2 : List (BitVec 8) := [119#8, 104#8, 97#8, 116#8, 32#8, 100#8, 111#8, 32#8, 121#8, 97#8, 32#8, 119#8, 97#8, 110#8, 116#8, 32#8, 102#8, 111#8, 114#8, 32#8, 110#8, 111#8, 116#8, 104#8, 105#8, 110#8, 103#8, 63#8, 128#8, 0#8, 0#8, 0#8, 0#8, 0#8, 0#8, 0#8, 0#8, 0#8, 0#8, 0#8, 0#8, 0#8, 0#8, 0#8, 0#8, 0#8, 0#8, 0#8, 0#8, 0#8, 0#8, 0#8, 0#8, 0#8, 0#8, 0#8, 0#8, 0#8, 0#8, 0#8, 0#8, 0#8, 2#8, 224#8]
def L_h2 : List (BitVec 32) := [0x77686174#32, 0x20646f20#32, 0x79612077#32, 0x616e7420#32, 0x666f7220#32, 0x6e6f7468#32, 0x696e673f#32, 0x80000000#32, 0x00000000#32, 0x00000000#32, 0x00000000#32, 0x00000000#32, 0x00000000#32, 0x00000000#32, 0x00000000#32, 0x000002e0#32, 0xd6ecae97#32, 0xcb53a736#32, 0x0df4d52e#32, 0x99470585#32, 0x56ac588f#32, 0xbaf46d24#32, 0x21b274b4#32, 0x120525d6#32, 0x40189fa8#32, 0x444a1f39#32, 0xf57833ad#32, 0xa316f0ba#32, 0xda928743#32, 0xc8153509#32, 0xe63c58e9#32, 0x9b063401#32, 0x5fb8701b#32, 0x06610ac3#32, 0xc09ff909#32, 0x1a6d0e91#32, 0x67b9d8fd#32, 0xb9251d58#32, 0x7b42c482#32, 0x1e4fcbae#32, 0x7f18d3ae#32, 0x6b3e02aa#32, 0x60acd3cc#32, 0x09230471#32, 0xcf103ae0#32, 0xff3e7122#32, 0xbc028b24#32, 0x31f8a0a0#32, 0xa4405ebd#32, 0xa126f06e#32, 0x5140b18d#32, 0x0f9727bc#32, 0x96dc649b#32, 0xa7105035#32, 0x1955553f#32, 0x4cbc81fd#32, 0xf9992590#32, 0x2d78b115#32, 0x48b2660c#32, 0xc566eb38#32, 0xbc4719f4#32, 0xbd8f6578#32, 0xe71fceb9#32, 0x023dd359#32]
def S_h2 : List (List (BitVec 32)) := [[0x655da7fa#32, 0xcc434b37#32, 0x5a1cd5cb#32, 0x0692ee0e#32, 0xa47a23d3#32, 0x4c3af449#32, 0xdba21ae2#32, 0x78c7500c#32],
  [0xb8e21a13#32, 0x655da7fa#32, 0xcc434b37#32, 0x5a1cd5cb#32, 0xa2fb95a0#32, 0xa47a23d3#32, 0x4c3af449#32, 0xdba21ae2#32],
  [0x481dac7b#32, 0xb8e21a13#32, 0x655da7fa#32, 0xcc434b37#32, 0xff2a679c#32, 0xa2fb95a0#32, 0xa47a23d3#32, 0x4c3af449#32],
  [0x62f20e4d#32, 0x481dac7b#32, 0xb8e21a13#32, 0x655da7fa#32, 0xff6ae436#32, 0xff2a679c#32, 0xa2fb95a0#32, 0xa47a23d3#32],
  [0x238af6c2#32, 0x62f20e4d#32, 0x481dac7b#32, 0xb8e21a13#32, 0x3d07eed9#32, 0xff6ae436#32, 0xff2a679c#32, 0xa2fb95a0#32],
  [0xf5d4dabb#32, 0x238af6c2#32, 0x62f20e4d#32, 0x481dac7b#32, 0x36f39d1a#32, 0x3d07eed9#32, 0xff6ae436#32, 0xff2a679c#32],
  [0x567dcdf7#32, 0xf5d4dabb#32, 0x238af6c2#32, 0x62f20e4d#32, 0xbf0823c8#32, 0x36f39d1a#32, 0x3d07eed9#32, 0xff6ae436#32],
  [0xd609bdc3#32, 0x567dcdf7#32, 0xf5d4dabb#32, 0x238af6c2#32, 0x740ccf53#32, 0xbf0823c8#32, 0x36f39d1a#32, 0x3d07eed9#32],
  [0x54c22a6c#32, 0xd609bdc3#32, 0x567dcdf7#32, 0xf5d4dabb#32, 0x648372d6#32, 0x740ccf53#32, 0xbf0823c8#32, 0x36f39d1a#32],
  [0xf630cd63#32, 0x54c22a6c#32, 0xd609bdc3#32, 0x567dcdf7#32, 0x46c05c5e#32, 0x648372d6#32, 0x740ccf53#32, 0xbf0823c8#32],
  [0x04bd02e2#32, 0xf630cd63#32, 0x54c22a6c#32, 0xd609bdc3#32, 0x2f941670#32, 0x46c05c5e#32, 0x648372d6#32, 0x740ccf53#32],
  [0x5a575c57#32, 0x04bd02e2#32, 0xf630cd63#32, 0x54c22a6c#32, 0x797c2276#32, 0x2f941670#32, 0x46c05c5e#32, 0x648372d6#32],
  [0xd1f3d86b#32, 0x5a575c57#32, 0x04bd02e2#32, 0xf630cd63#32, 0x67225dae#32, 0x797c2276#32, 0x2f941670#32, 0x46c05c5e#32],
  [0x09eca57c#32, 0xd1f3d86b#32, 0x5a575c57#32, 0x04bd02e2#32, 0xb6e243b9#32, 0x67225dae#32, 0x797c2276#32, 0x2f941670#32],
  [0xf5842695#32, 0x09eca57c#32, 0xd1f3d86b#32, 0x5a575c57#32, 0x053ab6db#32, 0xb6e243b9#32, 0x67225dae#32, 0x797c2276#32],
  [0xd0e32bb8#32, 0xf5842695#32, 0x09eca57c#32, 0xd1f3d86b#32, 0x0000f140#32, 0x053ab6db#32, 0xb6e243b9#32, 0x67225dae#32],
  [0xbf4e7f46#32, 0xd0e32bb8#32, 0xf5842695#32, 0x09eca57c#32, 0xda0d8141#32, 0x0000f140#32, 0x053ab6db#32, 0xb6e243b9#32],
  [0x03129a36#32, 0xbf4e7f46#32, 0xd0e32bb8#32, 0xf5842695#32, 0xab1d90bf#32, 0xda0d8141#32, 0x0000f140#32, 0x053ab6db#32],
  [0x604a7248#32, 0x03129a36#32, 0xbf4e7f46#32, 0xd0e32bb8#32, 0xa76ff792#32, 0xab1d90bf#32, 0xda0d8141#32, 0x0000f140#32],
  [0xeedaca00#32, 0x604a7248#32, 0x03129a36#32, 0xbf4e7f46#32, 0xf8dabc32#32, 0xa76ff792#32, 0xab1d90bf#32, 0xda0d8141#32],
  [0xbe87e7f9#32, 0xeedaca00#32, 0x604a7248#32, 0x03129a36#32, 0x1ae1c552#32, 0xf8dabc32#32, 0xa76ff792#32, 0xab1d90bf#32],
  [0xbf0b0bf2#32, 0xbe87e7f9#32, 0xeedaca00#32, 0x604a7248#32, 0x835ed8a5#32, 0x1ae1c552#32, 0xf8dabc32#32, 0xa76ff792#32],
  [0xf06fcc32#32, 0xbf0b0bf2#32, 0xbe87e7f9#32, 0xeedaca00#32, 0xb5b58232#32, 0x835ed8a5#32, 0x1ae1c552#32, 0xf8dabc32#32],
  [0x79a0a5a9#32, 0xf06fcc32#32, 0xbf0b0bf2#32, 0xbe87e7f9#32, 0x47aee404#32, 0xb5b58232#32, 0x835ed8a5#32, 0x1ae1c552#32],
  [0x5b9a284d#32, 0x79a0a5a9#32, 0xf06fcc32#32, 0xbf0b0bf2#32, 0x2f41410b#32, 0x47aee404#32, 0xb5b58232#32, 0x835ed8a5#32],
  [0x96bb045f#32, 0x5b9a284d#32, 0x79a0a5a9#32, 0xf06fcc32#32, 0x5fee007c#32, 0x2f41410b#32, 0x47aee404#32, 0xb5b58232#32],
  [0x4263f6b0#32, 0x96bb045f#32, 0x5b9a284d#32, 0x79a0a5a9#32, 0xabd69400#32, 0x5fee007c#32, 0x2f41410b#32, 0x47aee404#32],
  [0xe45cf572#32, 0x4263f6b0#32, 0x96bb045f#32, 0x5b9a284d#32, 0xe0824704#32, 0xabd69400#32, 0x5fee007c#32, 0x2f41410b#32],
  [0x2baf19c4#32, 0xe45cf572#32, 0x4263f6b0#32, 0x96bb045f#32, 0x5f777975#32, 0xe0824704#32, 0xabd69400#32, 0x5fee007c#32],
  [0xfd6b63f2#32, 0x2baf19c4#32, 0xe45cf572#32, 0x4263f6b0#32, 0xb908e6ba#32, 0x5f777975#32, 0xe0824704#32, 0xabd69400#32],
  [0x578885a2#32, 0xfd6b63f2#32, 0x2baf19c4#32, 0xe45cf572#32, 0x9f3a120e#32, 0xb908e6ba#32, 0x5f777975#32, 0xe0824704#32],
  [0xa80d8d52#32, 0x578885a2#32, 0xfd6b63f2#32, 0x2baf19c4#32, 0x71d96c70#32, 0x9f3a120e#32, 0xb908e6ba#32, 0x5f777975#32],
  [0x3eebaf95#32, 0xa80d8d52#32, 0x578885a2#32, 0xfd6b63f2#32, 0x76edd9cf#32, 0x71d96c70#32, 0x9f3a120e#32, 0xb908e6ba#32],
  [0x89640ed6#32, 0x3eebaf95#32, 0xa80d8d52#32, 0x578885a2#32, 0xaa989cf3#32, 0x76edd9cf#32, 0x71d96c70#32, 0x9f3a120e#32],
  [0x51552207#32, 0x89640ed6#32, 0x3eebaf95#32, 0xa80d8d52#32, 0xbb9a0523#32, 0xaa989cf3#32, 0x76edd9cf#32, 0x71d96c70#32],
  [0x008c48f1#32, 0x51552207#32, 0x89640ed6#32, 0x3eebaf95#32, 0xfe4cc83f#32, 0xbb9a0523#32, 0xaa989cf3#32, 0x76edd9cf#32],
  [0xb55acccf#32, 0x008c48f1#32, 0x51552207#32, 0x89640ed6#32, 0xbc799f31#32, 0xfe4cc83f#32, 0xbb9a0523#32, 0xaa989cf3#32],
  [0x44a5d2ff#32, 0xb55acccf#32, 0x008c48f1#32, 0x51552207#32, 0xdc9571de#32, 0xbc799f31#32, 0xfe4cc83f#32, 0xbb9a0523#32],
  [0x89b963f0#32, 0x44a5d2ff#32, 0xb55acccf#32, 0x008c48f1#32, 0x04e91075#32, 0xdc9571de#32, 0xbc799f31#32, 0xfe4cc83f#32],
  [0xc43e9334#32, 0x89b963f0#32, 0x44a5d2ff#32, 0xb55acccf#32, 0x66ab4215#32, 0x04e91075#32, 0xdc9571de#32, 0xbc799f31#32],
  [0x64336633#32, 0xc43e9334#32, 0x89b963f0#32, 0x44a5d2ff#32, 0x01eb08e5#32, 0x66ab4215#32, 0x04e91075#32, 0xdc9571de#32],
  [0x6987babb#32, 0x64336633#32, 0xc43e9334#32, 0x89b963f0#32, 0xc4e2f503#32, 0x01eb08e5#32, 0x66ab4215#32, 0x04e91075#32],
  [0x8ec6134f#32, 0x6987babb#32, 0x64336633#32, 0xc43e9334#32, 0xa2f775d7#32, 0xc4e2f503#32, 0x01eb08e5#32, 0x66ab4215#32],
  [0x795b866f#32, 0x8ec6134f#32, 0x6987babb#32, 0x64336633#32, 0x6f921a90#32, 0xa2f775d7#32, 0xc4e2f503#32, 0x01eb08e5#32],
  [0x3d286fbb#32, 0x795b866f#32, 0x8ec6134f#32, 0x6987babb#32, 0xb45facdd#32, 0x6f921a90#32, 0xa2f775d7#32, 0xc4e2f503#32],
  [0x9f6132f2#32, 0x3d286fbb#32, 0x795b866f#32, 0x8ec6134f#32, 0xb871c7e5#32, 0xb45facdd#32, 0x6f921a90#32, 0xa2f775d7#32],
  [0xb5486ab0#32, 0x9f6132f2#32, 0x3d286fbb#32, 0x795b866f#32, 0x521dd93c#32, 0xb871c7e5#32, 0xb45facdd#32, 0x6f921a90#32],
  [0xc30b4900#32, 0xb5486ab0#32, 0x9f6132f2#32, 0x3d286fbb#32, 0x2580f283#32, 0x521dd93c#32, 0xb871c7e5#32, 0xb45facdd#32],
  [0x18eae95d#32, 0xc30b4900#32, 0xb5486ab0#32, 0x9f6132f2#32, 0x68e92552#32, 0x2580f283#32, 0x521dd93c#32, 0xb871c7e5#32],
  [0x792962de#32, 0x18eae95d#32, 0xc30b4900#32, 0xb5486ab0#32, 0xdfc9235d#32, 0x68e92552#32, 0x2580f283#32, 0x521dd93c#32],
  [0xf8f9ec3e#32, 0x792962de#32, 0x18eae95d#32, 0xc30b4900#32, 0x27e4057a#32, 0xdfc9235d#32, 0x68e92552#32, 0x2580f283#32],
  [0x55103dbb#32, 0xf8f9ec3e#32, 0x792962de#32, 0x18eae95d#32, 0x66b8573a#32, 0x27e4057a#32, 0xdfc9235d#32, 0x68e92552#32],
  [0xb1b19220#32, 0x55103dbb#32, 0xf8f9ec3e#32, 0x792962de#32, 0xd8fac404#32, 0x66b8573a#32, 0x27e4057a#32, 0xdfc9235d#32],
  [0x72ebf845#32, 0xb1b19220#32, 0x55103dbb#32, 0xf8f9ec3e#32, 0x7f423327#32, 0xd8fac404#32, 0x66b8573a#32, 0x27e4057a#32],
  [0x71f4ebf0#32, 0x72ebf845#32, 0xb1b19220#32, 0x55103dbb#32, 0xc7cca388#32, 0x7f423327#32, 0xd8fac404#32, 0x66b8573a#32],
  [0xf1b65c41#32, 0x71f4ebf0#32, 0x72ebf845#32, 0xb1b19220#32, 0x44832b00#32, 0xc7cca388#32, 0x7f423327#32, 0xd8fac404#32],
  [0xe73f1bab#32, 0xf1b65c41#32, 0x71f4ebf0#32, 0x72ebf845#32, 0xdfe69826#32, 0x44832b00#32, 0xc7cca388#32, 0x7f423327#32],
  [0x69922978#32, 0xe73f1bab#32, 0xf1b65c41#32, 0x71f4ebf0#32, 0x11c9754e#32, 0xdfe69826#32, 0x44832b00#32, 0xc7cca388#32],
  [0x33a4ced7#32, 0x69922978#32, 0xe73f1bab#32, 0xf1b65c41#32, 0xaae179f5#32, 0x11c9754e#32, 0xdfe69826#32, 0x44832b00#32],
  [0x8d8a1bdb#32, 0x33a4ced7#32, 0x69922978#32, 0xe73f1bab#32, 0xf21e79c4#32, 0xaae179f5#32, 0x11c9754e#32, 0xdfe69826#32],
  [0x39946bf0#32, 0x8d8a1bdb#32, 0x33a4ced7#32, 0x69922978#32, 0xe17ff730#32, 0xf21e79c4#32, 0xaae179f5#32, 0x11c9754e#32],
  [0x1d9fb3df#32, 0x39946bf0#32, 0x8d8a1bdb#32, 0x33a4ced7#32, 0x4d627acb#32, 0xe17ff730#32, 0xf21e79c4#32, 0xaae179f5#32],
  [0x0a8fb7b5#32, 0x1d9fb3df#32, 0x39946bf0#32, 0x8d8a1bdb#32, 0xf945ce35#32, 0x4d627acb#32, 0xe17ff730#32, 0xf21e79c4#32],
  [0x70e4aea1#32, 0x0a8fb7b5#32, 0x1d9fb3df#32, 0x39946bf0#32, 0x22f9a8cd#32, 0xf945ce35#32, 0x4d627acb#32, 0xe17ff730#32],
  [0x3d86dd8c#32, 0x70e4aea1#32, 0x0a8fb7b5#32, 0x1d9fb3df#32, 0xa3036879#32, 0x22f9a8cd#32, 0xf945ce35#32, 0x4d627acb#32]]
def c_h2 : List (BitVec 32) := [0xa2e48586#32, 0x3d27f9d8#32, 0x64ac8d80#32, 0x2432a1ed#32, 0x477d8c4c#32, 0x6f349d16#32, 0xd4e7e917#32, 0xc629cad7#32]
theorem blk_h2 : blk (toV (S_h2.getD 0 [])) (chunk p_h2 0) = toV c_h2 :=
  blk_list _ L_h2 S_h2 c_h2 rfl (by decide +kernel) (by decide +kernel) (by decide +kernel)

def p_h3 : List (BitVec 8) := [22#8, 57#8, 58#8, 57#8, 92#8, 92#8, 92#8, 92#8, 92#8, 92#8, 92#8, 92#8, 92#8, 92#8, 92#8, 92#8, 92#8, 92#8, 92#8, 92#8, 92#8, 92#8, 92#8, 92#8, 92#8, 92#8, 92#8, 92#8, 92#8, 92#8, 92#8, 92#8, 92#8, 92#8, 92#8, 92#8, 92#8, 92#8, 92#8, 92#8, 92#8, 92#8, 92#8, 92#8, 92#8, 92#8, 92#8, 92#8, 92#8, 92#8, 92#8, 92#8, 92#8, 92#8, 92#8, 92#8, 92#8, 92#8, 92#8, 92#8, 92#8, 92#8, 92#8, 92#8]
def L_h3 : List (BitVec 32) := [0x16393a39#32, 0x5c5c5c5c#32, 0x5c5c5c5c#32, 0x5c5c5c5c#32, 0x5c5c5c5c#32, 0x5c5c5c5c#32, 0x5c5c5c5c#32, 0x5c5c5c5c#32, 0x5c5c5c5c#32, 0x5c5c5c5c#32, 0x5c5c5c5c#32, 0x5c5c5c5c#32, 0x5c5c5c5c#32, 0x5c5c5c5c#32, 0x5c5c5c5c#32, 0x5c5c5c5c#32, 0xbc6c6d6b#32, 0x028f8f8e#32, 0x18148f7c#32, 0x93133fd1#32, 0x33346707#32, 0x55131c00#32, 0x1c4c8fc1#32, 0xaa8252d7#32, 0xd92fce9a#32, 0x7bb09081#32, 0xb23c3c92#32, 0x8e036611#32, 0xef8b1cd6#32, 0xfcb68659#32, 0x98cd1c4a#32, 0xa514d1ce#32, 0x655e9871#32, 0x80b14e30#32, 0xc3f7e470#32, 0x235e01a7#32, 0x0b79c2d8#32, 0x51112a82#32, 0xc947e091#32, 0x9d17222d#32, 0x8fead71a#32, 0xf1240136#32, 0xf2403484#32, 0x911ae6e0#32, 0x6b8481a7#32, 0xb6c12283#32, 0xc47d12e8#32, 0x32b8fe41#32, 0xa4366b12#32, 0xd4bab7a3#32, 0x18198b37#32, 0x5dc30ab5#32, 0xfb56e209#32, 0xbc47b487#32, 0x298fa38f#32, 0xff6df23c#32, 0xfded1548#32, 0x6b3181fd#32, 0xe2eea69e#32, 0xe11be15d#32, 0x08859856#32, 0xfacb39cf#32, 0xfeb10bf2#32, 0xd790cd34#32]
def S_h3 : List (List (BitVec 32)) := [[0x6a09e667#32, 0xbb67ae85#32, 0x3c6ef372#32, 0xa54ff53a#32, 0x510e527f#32, 0x9b05688c#32, 0x1f83d9ab#32, 0x5be0cd19#32],
  [0x1241c286#32, 0x6a09e667#32, 0xbb67ae85#32, 0x3c6ef372#32, 0xaf011cdb#32, 0x510e527f#32, 0x9b05688c#32, 0x1f83d9ab#32],
  [0x455055eb#32, 0x1241c286#32, 0x6a09e667#32, 0xbb67ae85#32, 0xafd267f0#32, 0xaf011cdb#32, 0x510e527f#32, 0x9b05688c#32],
  [0x03637aee#32, 0x455055eb#32, 0x1241c286#32, 0x6a09e667#32, 0x3d2fcf9f#32, 0xafd267f0#32, 0xaf011cdb#32, 0x510e527f#32],
  [0x3c9c8844#32, 0x03637aee#32, 0x455055eb#32, 0x1241c286#32, 0xc9219e10#32, 0x3d2fcf9f#32, 0xafd267f0#32, 0xaf011cdb#32],
  [0xcb1304a6#32, 0x3c9c8844#32, 0x03637aee#32, 0x455055eb#32, 0x98dc9837#32, 0xc9219e10#32, 0x3d2fcf9f#32, 0xafd267f0#32],
  [0xb1133397#32, 0xcb1304a6#32, 0x3c9c8844#32, 0x03637aee#32, 0x0f707dff#32, 0x98dc9837#32, 0xc9219e10#32, 0x3d2fcf9f#32],
  [0xe54a3493#32, 0xb1133397#32, 0xcb1304a6#32, 0x3c9c8844#32, 0xf3639443#32, 0x0f707dff#32, 0x98dc9837#32, 0xc9219e10#32],
  [0x69435709#32, 0xe54a3493#32, 0xb1133397#32, 0xcb1304a6#32, 0x4facc1d6#32, 0xf3639443#32, 0x0f707dff#32, 0x98dc9837#32],
  [0x96d3fb5e#32, 0x69435709#32, 0xe54a3493#32, 0xb1133397#32, 0x915c0df4#32, 0x4facc1d6#32, 0xf3639443#32, 0x0f707dff#32],
  [0xba42125f#32, 0x96d3fb5e#32, 0x69435709#32, 0xe54a3493#32, 0x55649cc8#32, 0x915c0df4#32, 0x4facc1d6#32, 0xf3639443#32],
  [0xc8369aca#32, 0xba42125f#32, 0x96d3fb5e#32, 0x69435709#32, 0x7f195390#32, 0x55649cc8#32, 0x915c0df4#32, 0x4facc1d6#32],
  [0xee376db8#32, 0xc8369aca#32, 0xba42125f#32, 0x96d3fb5e#32, 0xfef75e3d#32, 0x7f195390#32, 0x55649cc8#32, 0x915c0df4#32],
  [0xa1a61c47#32, 0xee376db8#32, 0xc8369aca#32, 0xba42125f#32, 0xc247b35e#32, 0xfef75e3d#32, 0x7f195390#32, 0x55649cc8#32],
  [0xdf63a889#32, 0xa1a61c47#32, 0xee376db8#32, 0xc8369aca#32, 0x1f4a0977#32, 0xc247b35e#32, 0xfef75e3d#32, 0x7f195390#32],
  [0x5e3eeba7#32, 0xdf63a889#32, 0xa1a61c47#32, 0xee376db8#32, 0x7a1a23a6#32, 0x1f4a0977#32, 0xc247b35e#32, 0xfef75e3d#32],
  [0xe7b8b56f#32, 0x5e3eeba7#32, 0xdf63a889#32, 0xa1a61c47#32, 0x85ada43a#32, 0x7a1a23a6#32, 0x1f4a0977#32, 0xc247b35e#32],
  [0xc8ad2b06#32, 0xe7b8b56f#32, 0x5e3eeba7#32, 0xdf63a889#32, 0xdad3ee9e#32, 0x85ada43a#32, 0x7a1a23a6#32, 0x1f4a0977#32],
  [0xa0d6a020#32, 0xc8ad2b06#32, 0xe7b8b56f#32, 0x5e3eeba7#32, 0x52cc88f8#32, 0xdad3ee9e#32, 0x85ada43a#32, 0x7a1a23a6#32],
  [0x6643e281#32, 0xa0d6a020#32, 0xc8ad2b06#32, 0xe7b8b56f#32, 0x701600c4#32, 0x52cc88f8#32, 0xdad3ee9e#32, 0x85ada43a#32],
  [0x3cbb1ed2#32, 0x6643e281#32, 0xa0d6a020#32, 0xc8ad2b06#32, 0x019a631b#32, 0x701600c4#32, 0x52cc88f8#32, 0xdad3ee9e#32],
  [0x0b37ef52#32, 0x3cbb1ed2#32, 0x6643e281#32, 0xa0d6a020#32, 0x194d0d3a#32, 0x019a631b#32, 0x701600c4#32, 0x52cc88f8#32],
  [0x93238532#32, 0x0b37ef52#32, 0x3cbb1ed2#32, 0x6643e281#32, 0xdde54c39#32, 0x194d0d3a#32, 0x019a631b#32, 0x701600c4#32],
  [0xb3d8e080#32, 0x93238532#32, 0x0b37ef52#32, 0x3cbb1ed2#32, 0xfba08193#32, 0xdde54c39#32, 0x194d0d3a#32, 0x019a631b#32],
  [0x897a142a#32, 0xb3d8e080#32, 0x93238532#32, 0x0b37ef52#32, 0xe78fa9c2#32, 0xfba08193#32, 0xdde54c39#32, 0x194d0d3a#32],
  [0xf9870a23#32, 0x897a142a#32, 0xb3d8e080#32, 0x93238532#32, 0x85ea1054#32, 0xe78fa9c2#32, 0xfba08193#32, 0xdde54c39#32],
  [0x1c11e5a3#32, 0xf9870a23#32, 0x897a142a#32, 0xb3d8e080#32, 0x4204e95d#32, 0x85ea1054#32, 0xe78fa9c2#32, 0xfba08193#32],
  [0xa6dcfe16#32, 0x1c11e5a3#32, 0xf9870a23#32, 0x897a142a#32, 0x1418c4dc#32, 0x4204e95d#32, 0x85ea1054#32, 0xe78fa9c2#32],
  [0x86103013#32, 0xa6dcfe16#32, 0x1c11e5a3#32, 0xf9870a23#32, 0x27fa0221#32, 0x1418c4dc#32, 0x4204e95d#32, 0x85ea1054#32],
  [0x66159104#32, 0x86103013#32, 0xa6dcfe16#32, 0x1c11e5a3#32, 0xb7b33477#32, 0x27fa0221#32, 0x1418c4dc#32, 0x4204e95d#32],
  [0x33c6b89d#32, 0x66159104#32, 0x86103013#32, 0xa6dcfe16#32, 0xe1e1a8b5#32, 0xb7b33477#32, 0x27fa0221#32, 0x1418c4dc#32],
  [0x466a3c05#32, 0x33c6b89d#32, 0x66159104#32, 0x86103013#32, 0x34384529#32, 0xe1e1a8b5#32, 0xb7b33477#32, 0x27fa0221#32],
  [0x223781a1#32, 0x466a3c05#32, 0x33c6b89d#32, 0x66159104#32, 0x28c05066#32, 0x34384529#32, 0xe1e1a8b5#32, 0xb7b33477#32],
  [0xd822185e#32, 0x223781a1#32, 0x466a3c05#32, 0x33c6b89d#32, 0x804e7b81#32, 0x28c05066#32, 0x34384529#32, 0xe1e1a8b5#32],
  [0x54ecb192#32, 0xd822185e#32, 0x223781a1#32, 0x466a3c05#32, 0x49f215c3#32, 0x804e7b81#32, 0x28c05066#32, 0x34384529#32],
  [0xad7954cf#32, 0x54ecb192#32, 0xd822185e#32, 0x223781a1#32, 0xf84d3cf0#32, 0x49f215c3#32, 0x804e7b81#32, 0x28c05066#32],
  [0xe7d10d33#32, 0xad7954cf#32, 0x54ecb192#32, 0xd822185e#32, 0x85307daa#32, 0xf84d3cf0#32, 0x49f215c3#32, 0x804e7b81#32],
  [0xfb686937#32, 0xe7d10d33#32, 0xad7954cf#32, 0x54ecb192#32, 0x1931b9a7#32, 0x85307daa#32, 0xf84d3cf0#32, 0x49f215c3#32],
  [0x297f2869#32, 0xfb686937#32, 0xe7d10d33#32, 0xad7954cf#32, 0x78316de1#32, 0x1931b9a7#32, 0x85307daa#32, 0xf84d3cf0#32],
  [0xe332a1f9#32, 0x297f2869#32, 0xfb686937#32, 0xe7d10d33#32, 0xaf7ba84f#32, 0x78316de1#32, 0x1931b9a7#32, 0x85307daa#32],
  [0x2085ac20#32, 0xe332a1f9#32, 0x297f2869#32, 0xfb686937#32, 0x5f583973#32, 0xaf7ba84f#32, 0x78316de1#32, 0x1931b9a7#32],
  [0x6b28b082#32, 0x2085ac20#32, 0xe332a1f9#32, 0x297f2869#32, 0xc5c881a9#32, 0x5f583973#32, 0xaf7ba84f#32, 0x78316de1#32],
  [0x16966c26#32, 0x6b28b082#32, 0x2085ac20#32, 0xe332a1f9#32, 0x20d97726#32, 0xc5c881a9#32, 0x5f583973#32, 0xaf7ba84f#32],
  [0xb476c398#32, 0x16966c26#32, 0x6b28b082#32, 0x2085ac20#32, 0xb7ff018f#32, 0x20d97726#32, 0xc5c881a9#32, 0x5f583973#32],
  [0x2a70095c#32, 0xb476c398#32, 0x16966c26#32, 0x6b28b082#32, 0x29e86379#32, 0xb7ff018f#32, 0x20d97726#32, 0xc5c881a9#32],
  [0x5b5a8b27#32, 0x2a70095c#32, 0xb476c398#32, 0x16966c26#32, 0x0fb4d10f#32, 0x29e86379#32, 0xb7ff018f#32, 0x20d97726#32],
  [0x5009f43b#32, 0x5b5a8b27#32, 0x2a70095c#32, 0xb476c398#32, 0x466cefd5#32, 0x0fb4d10f#32, 0x29e86379#32, 0xb7ff018f#32],
  [0xe65638ea#32, 0x5009f43b#32, 0x5b5a8b27#32, 0x2a70095c#32, 0xee6c6342#32, 0x466cefd5#32, 0x0fb4d10f#32, 0x29e86379#32],
  [0x835aa22a#32, 0xe65638ea#32, 0x5009f43b#32, 0x5b5a8b27#32, 0x354edc49#32, 0xee6c6342#32, 0x466cefd5#32, 0x0fb4d10f#32],
  [0xdbfedfb7#32, 0x835aa22a#32, 0xe65638ea#32, 0x5009f43b#32, 0x99f4a262#32, 0x354edc49#32, 0xee6c6342#32, 0x466cefd5#32],
  [0xa0b0242f#32, 0xdbfedfb7#32, 0x835aa22a#32, 0xe65638ea#32, 0x3d1ba64c#32, 0x99f4a262#32, 0x354edc49#32, 0xee6c6342#32],
  [0x4980a430#32, 0xa0b0242f#32, 0xdbfedfb7#32, 0x835aa22a#32, 0xa21a84e3#32, 0x3d1ba64c#32, 0x99f4a262#32, 0x354edc49#32],
  [0x1ca2eaeb#32, 0x4980a430#32, 0xa0b0242f#32, 0xdbfedfb7#32, 0xa4da44af#32, 0xa21a84e3#32, 0x3d1ba64c#32, 0x99f4a262#32],
  [0xf2457593#32, 0x1ca2eaeb#32, 0x4980a430#32, 0xa0b0242f#32, 0xa9c7bd40#32, 0xa4da44af#32, 0xa21a84e3#32, 0x3d1ba64c#32],
  [0xd2dbf54f#32, 0xf2457593#32, 0x1ca2eaeb#32, 0x4980a430#32, 0xd532b445#32, 0xa9c7bd40#32, 0xa4da44af#32, 0xa21a84e3#32],
  [0xd3a780aa#32, 0xd2dbf54f#32, 0xf2457593#32, 0x1ca2eaeb#32, 0x1946da48#32, 0xd532b445#32, 0xa9c7bd40#32, 0xa4da44af#32],
  [0x8a8b3fbf#32, 0xd3a780aa#32, 0xd2dbf54f#32, 0xf2457593#32, 0xa4a85ec7#32, 0x1946da48#32, 0xd532b445#32, 0xa9c7bd40#32],
  [0x05ccc2a3#32, 0x8a8b3fbf#32, 0xd3a780aa#32, 0xd2dbf54f#32, 0xf1e61ceb#32, 0xa4a85ec7#32, 0x1946da48#32, 0xd532b445#32],
  [0x8e535f40#32, 0x05ccc2a3#32, 0x8a8b3fbf#32, 0xd3a780aa#32, 0xf63e3f0b#32, 0xf1e61ceb#32, 0xa4a85ec7#32, 0x1946da48#32],
  [0x6717179f#32, 0x8e535f40#32, 0x05ccc2a3#32, 0x8a8b3fbf#32, 0x17059133#32, 0xf63e3f0b#32, 0xf1e61ceb#32, 0xa4a85ec7#32],
  [0xb31fa7ba#32, 0x6717179f#32, 0x8e535f40#32, 0x05ccc2a3#32, 0xfcf30f33#32, 0x17059133#32, 0xf63e3f0b#32, 0xf1e61ceb#32],
  [0x87e76592#32, 0xb31fa7ba#32, 0x6717179f#32, 0x8e535f40#32, 0xf71074bc#32, 0xfcf30f33#32, 0x17059133#32, 0xf63e3f0b#32],
  [0x2dfb3c79#32, 0x87e76592#32, 0xb31fa7ba#32, 0x6717179f#32, 0x043bc7df#32, 0xf71074bc#32, 0xfcf30f33#32, 0x17059133#32],
  [0x57d97fe7#32, 0x2dfb3c79#32, 0x87e76592#32, 0xb31fa7ba#32, 0xd2ab2d5c#32, 0x043bc7df#32, 0xf71074bc#32, 0xfcf30f33#32],
  [0xa4a5fd6e#32, 0x57d97fe7#32, 0x2dfb3c79#32, 0x87e76592#32, 0x0096aac8#32, 0xd2ab2d5c#32, 0x043bc7df#32, 0xf71074bc#32]]
def c_h3 : List (BitVec 32) := [0x0eafe3d5#32, 0x13412e6c#32, 0x6a6a2feb#32, 0x2d375acc#32, 0x51a4fd47#32, 0x6db095e8#32, 0x23bfa18a#32, 0x52f141d5#32]
theorem blk_h3 : blk (toV (S_h3.getD 0 [])) (chunk p_h3 0) = toV c_h3 :=
  blk_list _ L_h3 S_h3 c_h3 rfl (by decide +kernel) (by decide +kernel) (by decide +kernel)

def p_h4 : List (BitVec 8) := [162#8, 228#8, 133#8, 134#8, 61#8, 39#8, 249#8, 216#8, 100#8, 172#8, 141#8, 128#8, 36#8, 50#8, 161#8, 237#8, 71#8, 125#8, 140#8, 76#8, 111#8, 52#8, 157#8, 22#8, 212#8, 231#8, 233#8, 23#8, 198#8, 41#8, 202#8, 215#8, 128#8, 0#8, 0#8, 0#8, 0#8, 0#8, 0#8, 0#8, 0#8, 0#8, 0#8, 0#8, 0#8, 0#8, 0#8, 0#8, 0#8, 0#8, 0#8, 0#8, 0#8, 0#8, 0#8, 0#8, 0#8, 0#8, 0#8, 0#8, 0#8, 0#8, 3#8, 0#8]
def L_h4 : List (BitVec 32) := [0xa2e48586#32, 0x3d27f9d8#32, 0x64ac8d80#32, 0x2432a1ed#32, 0x477d8c4c#32, 0x6f349d16#32, 0xd4e7e917#32, 0xc629cad7#32, 0x80000000#32, 0x00000000#32, 0x00000000#32, 0x00000000#32, 0x00000000#32, 0x00000000#32, 0x00000000#32, 0x00000300#32, 0xec8d4507#32, 0x6e44cb58#32, 0xe57a2e78#32, 0x1481a913#32, 0xa0c51e3a#32, 0x20542d99#32, 0xc7d6bc99#32, 0x572ed109#32, 0x7832fa16#32, 0x982a793e#32, 0x36d9a8b4#32, 0x1463b3c8#32, 0x01955976#32, 0x776eccea#32, 0x5f84771d#32, 0x7b31f508#32, 0xc9f4aee0#32, 0xd055fb5c#32, 0x0b79d67f#32, 0x7fe06bb1#32, 0x27530bc7#32, 0x3cdd17eb#32, 0xd3a5276a#32, 0xe79ef353#32, 0x70708e40#32, 0x503a442e#32, 0x8c04f280#32, 0x60a9ae13#32, 0x8edf61fe#32, 0x5a70bc6a#32, 0x06d8cf63#32, 0x2866cc9d#32, 0x7608691a#32, 0xa7182225#32, 0x1dc70eca#32, 0x6c947dd1#32, 0x7c97dcae#32, 0x7b09005f#32, 0x19d1e2a0#32, 0xab60d9da#32, 0xac37d412#32, 0x1236e096#32, 0x4a8a3d6d#32, 0xbe58c2f1#32, 0x53d27161#32, 0xe25a87a5#32, 0xb53d7e5f#32, 0x0828fce9#32]
def S_h4 : List (List (BitVec 32)) := [[0x0eafe3d5#32, 0x13412e6c#32, 0x6a6a2feb#32, 0x2d375acc#32, 0x51a4fd47#32, 0x6db095e8#32, 0x23bfa18a#32, 0x52f141d5#32],
  [0xf0e59b1a#32, 0x0eafe3d5#32, 0x13412e6c#32, 0x6a6a2feb#32, 0x3124ec49#32, 0x51a4fd47#32, 0x6db095e8#32, 0x23bfa18a#32],
  [0x74d0a70d#32, 0xf0e59b1a#32, 0x0eafe3d5#32, 0x13412e6c#32, 0xd9d2a173#32, 0x3124ec49#32, 0x51a4fd47#32, 0x6db095e8#32],
  [0x3e39426b#32, 0x74d0a70d#32, 0xf0e59b1a#32, 0x0eafe3d5#32, 0xb4d11325#32, 0xd9d2a173#32, 0x3124ec49#32, 0x51a4fd47#32],
  [0x3b3e45a9#32, 0x3e39426b#32, 0x74d0a70d#32, 0xf0e59b1a#32, 0x9b1e98cb#32, 0xb4d11325#32, 0xd9d2a173#32, 0x3124ec49#32],
  [0x13e61c3b#32, 0x3b3e45a9#32, 0x3e39426b#32, 0x74d0a70d#32, 0x2c0283b8#32, 0x9b1e98cb#32, 0xb4d11325#32, 0xd9d2a173#32],
  [0xcb506feb#32, 0x13e61c3b#32, 0x3b3e45a9#32, 0x3e39426b#32, 0x4790de5c#32, 0x2c0283b8#32, 0x9b1e98cb#32, 0xb4d11325#32],
  [0x12acdcbb#32, 0xcb506feb#32, 0x13e61c3b#32, 0x3b3e45a9#32, 0x6939e327#32, 0x4790de5c#32, 0x2c0283b8#32, 0x9b1e98cb#32],
  [0x5d1582d4#32, 0x12acdcbb#32, 0xcb506feb#32, 0x13e61c3b#32, 0xf26e1dc0#32, 0x6939e327#32, 0x4790de5c#32, 0x2c0283b8#32],
  [0x299dafa1#32, 0x5d1582d4#32, 0x12acdcbb#32, 0xcb506feb#32, 0x8a822374#32, 0xf26e1dc0#32, 0x6939e327#32, 0x4790de5c#32],
  [0x96690f80#32, 0x299dafa1#32, 0x5d1582d4#32, 0x12acdcbb#32, 0x064b4d17#32, 0x8a822374#32, 0xf26e1dc0#32, 0x6939e327#32],
  [0x75af6d08#32, 0x96690f80#32, 0x299dafa1#32, 0x5d1582d4#32, 0x6d9dc752#32, 0x064b4d17#32, 0x8a822374#32, 0xf26e1dc0#32],
  [0x38e7f5bb#32, 0x75af6d08#32, 0x96690f80#32, 0x299dafa1#32, 0x97b3f120#32, 0x6d9dc752#32, 0x064b4d17#32, 0x8a822374#32],
  [0xb3f53c2a#32, 0x38e7f5bb#32, 0x75af6d08#32, 0x96690f80#32, 0xac6ca791#32, 0x97b3f120#32, 0x6d9dc752#32, 0x064b4d17#32],
  [0x9af3cfc9#32, 0xb3f53c2a#32, 0x38e7f5bb#32, 0x75af6d08#32, 0x661ce7b3#32, 0xac6ca791#32, 0x97b3f120#32, 0x6d9dc752#32],
  [0x8777eeed#32, 0x9af3cfc9#32, 0xb3f53c2a#32, 0x38e7f5bb#32, 0x6a605c43#32, 0x661ce7b3#32, 0xac6ca791#32, 0x97b3f120#32],
  [0x524a1ef8#32, 0x8777eeed#32, 0x9af3cfc9#32, 0xb3f53c2a#32, 0x2e2fafb1#32, 0x6a605c43#32, 0x661ce7b3#32, 0xac6ca791#32],
  [0x6ab009c8#32, 0x524a1ef8#32, 0x8777eeed#32, 0x9af3cfc9#32, 0xc1058262#32, 0x2e2fafb1#32, 0x6a605c43#32, 0x661ce7b3#32],
  [0x0b5d65cb#32, 0x6ab009c8#32, 0x524a1ef8#32, 0x8777eeed#32, 0xcf16b054#32, 0xc1058262#32, 0x2e2fafb1#32, 0x6a605c43#32],
  [0xf737884e#32, 0x0b5d65cb#32, 0x6ab009c8#32, 0x524a1ef8#32, 0x9b3f39bf#32, 0xcf16b054#32, 0xc1058262#32, 0x2e2fafb1#32],
  [0x14a85bed#32, 0xf737884e#32, 0x0b5d65cb#32, 0x6ab009c8#32, 0xda2210a8#32, 0x9b3f39bf#32, 0xcf16b054#32, 0xc1058262#32],
  [0x28d0682e#32, 0x14a85bed#32, 0xf737884e#32, 0x0b5d65cb#32, 0x4116203c#32, 0xda2210a8#32, 0x9b3f39bf#32, 0xcf16b054#32],
  [0x513d0d3f#32, 0x28d0682e#32, 0x14a85bed#32, 0xf737884e#32, 0x9d044671#32, 0x4116203c#32, 0xda2210a8#32, 0x9b3f39bf#32],
  [0xe78abb5d#32, 0x513d0d3f#32, 0x28d0682e#32, 0x14a85bed#32, 0x8488c299#32, 0x9d044671#32, 0x4116203c#32, 0xda2210a8#32],
  [0xca1dd9eb#32, 0xe78abb5d#32, 0x513d0d3f#32, 0x28d0682e#32, 0xf34d277d#32, 0x8488c299#32, 0x9d044671#32, 0x4116203c#32],
  [0xaa4cb4b8#32, 0xca1dd9eb#32, 0xe78abb5d#32, 0x513d0d3f#32, 0xc540f9ab#32, 0xf34d277d#32, 0x8488c299#32, 0x9d044671#32],
  [0x80cb7f4b#32, 0xaa4cb4b8#32, 0xca1dd9eb#32, 0xe78abb5d#32, 0x2a7734af#32, 0xc540f9ab#32, 0xf34d277d#32, 0x8488c299#32],
  [0x11668226#32, 0x80cb7f4b#32, 0xaa4cb4b8#32, 0xca1dd9eb#32, 0x370f480e#32, 0x2a7734af#32, 0xc540f9ab#32, 0xf34d277d#32],
  [0xf7c152af#32, 0x11668226#32, 0x80cb7f4b#32, 0xaa4cb4b8#32, 0x322ec278#32, 0x370f480e#32, 0x2a7734af#32, 0xc540f9ab#32],
  [0x804e3e18#32, 0xf7c152af#32, 0x11668226#32, 0x80cb7f4b#32, 0x2b124b23#32, 0x322ec278#32, 0x370f480e#32, 0x2a7734af#32],
  [0x88ff9220#32, 0x804e3e18#32, 0xf7c152af#32, 0x11668226#32, 0x90550f47#32, 0x2b124b23#32, 0x322ec278#32, 0x370f480e#32],
  [0x6a101e8a#32, 0x88ff9220#32, 0x804e3e18#32, 0xf7c152af#32, 0xad346d31#32, 0x90550f47#32, 0x2b124b23#32, 0x322ec278#32],
  [0xf5637c6b#32, 0x6a101e8a#32, 0x88ff9220#32, 0x804e3e18#32, 0x36193288#32, 0xad346d31#32, 0x90550f47#32, 0x2b124b23#32],
  [0xbac40fc4#32, 0xf5637c6b#32, 0x6a101e8a#32, 0x88ff9220#32, 0xbea853de#32, 0x36193288#32, 0xad346d31#32, 0x90550f47#32],
  [0x55d2eba2#32, 0xbac40fc4#32, 0xf5637c6b#32, 0x6a101e8a#32, 0xa3e697be#32, 0xbea853de#32, 0x36193288#32, 0xad346d31#32],
  [0x342f2c31#32, 0x55d2eba2#32, 0xbac40fc4#32, 0xf5637c6b#32, 0x24b43db1#32, 0xa3e697be#32, 0xbea853de#32, 0x36193288#32],
  [0xb17f8072#32, 0x342f2c31#32, 0x55d2eba2#32, 0xbac40fc4#32, 0xe1ea1e98#32, 0x24b43db1#32, 0xa3e697be#32, 0xbea853de#32],
  [0x3a8a934f#32, 0xb17f8072#32, 0x342f2c31#32, 0x55d2eba2#32, 0x6e0359bc#32, 0xe1ea1e98#32, 0x24b43db1#32, 0xa3e697be#32],
  [0x2e42d717#32, 0x3a8a934f#32, 0xb17f8072#32, 0x342f2c31#32, 0xd54ff5d9#32, 0x6e0359bc#32, 0xe1ea1e98#32, 0x24b43db1#32],
  [0x0d153365#32, 0x2e42d717#32, 0x3a8a934f#32, 0xb17f8072#32, 0x8e8430d5#32, 0xd54ff5d9#32, 0x6e0359bc#32, 0xe1ea1e98#32],
  [0x0939a676#32, 0x0d153365#32, 0x2e42d717#32, 0x3a8a934f#32, 0x0015e35d#32, 0x8e8430d5#32, 0xd54ff5d9#32, 0x6e0359bc#32],
  [0xd04db10e#32, 0x0939a676#32, 0x0d153365#32, 0x2e42d717#32, 0xa65e9472#32, 0x0015e35d#32, 0x8e8430d5#32, 0xd54ff5d9#32],
  [0x558052cc#32, 0xd04db10e#32, 0x0939a676#32, 0x0d153365#32, 0x7003a10e#32, 0xa65e9472#32, 0x0015e35d#32, 0x8e8430d5#32],
  [0xea1d3715#32, 0x558052cc#32, 0xd04db10e#32, 0x0939a676#32, 0x23df2e45#32, 0x7003a10e#32, 0xa65e9472#32, 0x0015e35d#32],
  [0x86ed36a6#32, 0xea1d3715#32, 0x558052cc#32, 0xd04db10e#32, 0x09255f8c#32, 0x23df2e45#32, 0x7003a10e#32, 0xa65e9472#32],
  [0x31c61bbf#32, 0x86ed36a6#32, 0xea1d3715#32, 0x558052cc#32, 0x9b30b56e#32, 0x09255f8c#32, 0x23df2e45#32, 0x7003a10e#32],
  [0x0795c206#32, 0x31c61bbf#32, 0x86ed36a6#32, 0xea1d3715#32, 0xb061e903#32, 0x9b30b56e#32, 0x09255f8c#32, 0x23df2e45#32],
  [0xa4d05bd3#32, 0x0795c206#32, 0x31c61bbf#32, 0x86ed36a6#32, 0xc04b2c11#32, 0xb061e903#32, 0x9b30b56e#32, 0x09255f8c#32],
  [0x5ab28db9#32, 0xa4d05bd3#32, 0x0795c206#32, 0x31c61bbf#32, 0x4504e9e3#32, 0xc04b2c11#32, 0xb061e903#32, 0x9b30b56e#32],
  [0x4628a95a#32, 0x5ab28db9#32, 0xa4d05bd3#32, 0x0795c206#32, 0x800d65f6#32, 0x4504e9e3#32, 0xc04b2c11#32, 0xb061e903#32],
  [0xd908ac74#32, 0x4628a95a#32, 0x5ab28db9#32, 0xa4d05bd3#32, 0x1ff07294#32, 0x800d65f6#32, 0x4504e9e3#32, 0xc04b2c11#32],
  [0x11a2ef9d#32, 0xd908ac74#32, 0x4628a95a#32, 0x5ab28db9#32, 0xe4f56dbc#32, 0x1ff07294#32, 0x800d65f6#32, 0x4504e9e3#32],
  [0x2e630aba#32, 0x11a2ef9d#32, 0xd908ac74#32, 0x4628a95a#32, 0x84aea861#32, 0xe4f56dbc#32, 0x1ff07294#32, 0x800d65f6#32],
  [0x1eb1f18c#32, 0x2e630aba#32, 0x11a2ef9d#32, 0xd908ac74#32, 0xf954931b#32, 0x84aea861#32, 0xe4f56dbc#32, 0x1ff07294#32],
  [0x7ffaa436#32, 0x1eb1f18c#32, 0x2e630aba#32, 0x11a2ef9d#32, 0xee54ab78#32, 0xf954931b#32, 0x84aea861#32, 0xe4f56dbc#32],
  [0x7e24f1f8#32, 0x7ffaa436#32, 0x1eb1f18c#32, 0x2e630aba#32, 0xfbf6b1b0#32, 0xee54ab78#32, 0xf954931b#32, 0x84aea861#32],
  [0x13793033#32, 0x7e24f1f8#32, 0x7ffaa436#32, 0x1eb1f18c#32, 0xbf9e1c90#32, 0xfbf6b1b0#32, 0xee54ab78#32, 0xf954931b#32],
  [0x56d92dbb#32, 0x13793033#32, 0x7e24f1f8#32, 0x7ffaa436#32, 0x548c538d#32, 0xbf9e1c90#32, 0xfbf6b1b0#32, 0xee54ab78#32],
  [0x6f544952#32, 0x56d92dbb#32, 0x13793033#32, 0x7e24f1f8#32, 0xbbfbaad1#32, 0x548c538d#32, 0xbf9e1c90#32, 0xfbf6b1b0#32],
  [0x989fc133#32, 0x6f544952#32, 0x56d92dbb#32, 0x13793033#32, 0x3f0868ad#32, 0xbbfbaad1#32, 0x548c538d#32, 0xbf9e1c90#32],
  [0x9b56f73d#32, 0x989fc133#32, 0x6f544952#32, 0x56d92dbb#32, 0xbf32e36d#32, 0x3f0868ad#32, 0xbbfbaad1#32, 0x548c538d#32],
  [0xdb5e1afb#32, 0x9b56f73d#32, 0x989fc133#32, 0x6f544952#32, 0x11faf66e#32, 0xbf32e36d#32, 0x3f0868ad#32, 0xbbfbaad1#32],
  [0xff99f43b#32, 0xdb5e1afb#32, 0x9b56f73d#32, 0x989fc133#32, 0x7a2cb72f#32, 0x11faf66e#32, 0xbf32e36d#32, 0x3f0868ad#32],
  [0xac1f46e2#32, 0xff99f43b#32, 0xdb5e1afb#32, 0x9b56f73d#32, 0x2f76a39b#32, 0x7a2cb72f#32, 0x11faf66e#32, 0xbf32e36d#32],
  [0x4d2cdd71#32, 0xac1f46e2#32, 0xff99f43b#32, 0xdb5e1afb#32, 0x085b41c1#32, 0x2f76a39b#32, 0x7a2cb72f#32, 0x11faf66e#32]]
def c_h4 : List (BitVec 32) := [0x5bdcc146#32, 0xbf60754e#32, 0x6a042426#32, 0x089575c7#32, 0x5a003f08#32, 0x9d273983#32, 0x9dec58b9#32, 0x64ec3843#32]
theorem blk_h4 : blk (toV (S_h4.getD 0 [])) (chunk p_h4 0) = toV c_h4 :=
  blk_list _ L_h4 S_h4 c_h4 rfl (by decide +kernel) (by decide +kernel) (by decide +kernel)

end Sha

namespace Sha
open Go Go.LE

def jefe : List (BitVec 8) := [74#8, 101#8, 102#8, 101#8]
def want1 : List (BitVec 8) := [119#8, 104#8, 97#8, 116#8, 32#8, 100#8, 111#8, 32#8, 121#8, 97#8, 32#8]
def want2 : List (BitVec 8) := [119#8, 97#8, 110#8, 116#8, 32#8, 102#8, 111#8, 114#8, 32#8, 110#8, 111#8, 116#8, 104#8, 105#8, 110#8, 103#8, 63#8]

theorem two_blocks (b p1 p2 : List (BitVec 8)) (h : pad b = p1 ++ p2) (h1 : p1.length = 64) (h2 : p2.length = 64) (c1 c2 : List (BitVec 32)) (e1 : blk ini (chunk p1 0) = toV c1) (e2 : blk (toV c1) (chunk p2 0) = toV c2) : dig b = outB (toV c2) := by
  have hl : (p1 ++ p2).length / 64 = 2 := by rw [List.length_append, h1, h2]
  have k1 : chunk (p1 ++ p2) 0 = chunk p1 0 := chunk_front p1 p2 0 (by omega)
  have k2 : chunk (p1 ++ p2) 1 = chunk p2 0 := by
    have := chunk_drop (p1 ++ p2) 1 0
    rw [show 64 * 1 = p1.length by omega, List.drop_left] at this
    exact this.symm
  rw [dig, h, hl, absN, absN, absN, k1, k2, e1, e2]

theorem dig_in : dig (ik jefe ++ ([want1, want2] : List (List (BitVec 8))).flatten) = outB (toV c_h2) :=
  two_blocks _ p_h1 p_h2 (by decide +kernel) rfl rfl c_h1 c_h2 blk_h1 blk_h2
theorem dig_out : dig (ok jefe ++ (List.range 32).map (outB (toV c_h2))) = outB (toV c_h4) :=
  two_blocks _ p_h3 p_h4 (by decide +kernel) rfl rfl c_h3 c_h4 blk_h3 blk_h4
theorem tag_jefe : tagv jefe ([want1, want2] : List (List (BitVec 8))).flatten = outB (toV c_h4) := by
  rw [tagv, dl, dig_in, dig_out]

theorem equal_use {k b : Nat} {H : Heap} {B1 B2 : LV} {b1 b2 : List (BitVec 8)} {r : Option Out} (hc : callOp (envC C k) H b 31 [B1, B2] = r) (hB1 : Lent H B1 b1 []) (hB2 : Lent H B2 b2 []) (h1 : b1.length < 4611686018427387904) (h2 : b2.length < 4611686018427387904) (hk : min b1.length b2.length + 1 < k) :
    r = some ⟨Bo (decide (b1 = b2)), [], []⟩ := by rw [← hc]; exact equal_call k b H B1 B2 b1 b2 hB1 hB2 h1 h2 hk

set_option maxRecDepth 10000 in
theorem hlives_F (K : Nat) (hK : 5000 ≤ K) : F C (K + 1) 27 [] [] = some (Bo true, [], []) := by
  rw [F_succ f27]
  have hr1 : fill [B8 0#8, B8 0#8, B8 0#8, B8 0#8] [(0, 1, B8 74#8), (1, 1, B8 101#8), (2, 1, B8 102#8), (3, 1, B8 101#8)] = some (bs jefe) := rfl
  have hr2 : fill (aB 11 fun _ => 0#8) [(0, 1, B8 119#8), (1, 1, B8 104#8), (2, 1, B8 97#8), (3, 1, B8 116#8), (4, 1, B8 32#8), (5, 1, B8 100#8), (6, 1, B8 111#8), (7, 1, B8 32#8), (8, 1, B8 121#8), (9, 1, B8 97#8), (10, 1, B8 32#8)] = some (bs want1) := rfl
  have hr3 : fill (aB 17 fun _ => 0#8) [(0, 1, B8 119#8), (1, 1, B8 97#8), (2, 1, B8 110#8), (3, 1, B8 116#8), (4, 1, B8 32#8), (5, 1, B8 102#8), (6, 1, B8 111#8), (7, 1, B8 114#8), (8, 1, B8 32#8), (9, 1, B8 110#8), (10, 1, B8 111#8), (11, 1, B8 116#8), (12, 1, B8 104#8), (13, 1, B8 105#8), (14, 1, B8 110#8), (15, 1, B8 103#8), (16, 1, B8 63#8)] = some (bs want2) := rfl
  have hr4 : fill [B8 0#8, B8 0#8] [(0, 1, B8 1#8), (1, 1, B8 0#8)] = some (bs [1#8, 0#8]) := rfl
  simp (disch := first | omega | decide | simp only [nms_B8, nms_B32, nms_B64, nms_I, nms_N, nms_Bo, nms_Un, nms_undef, nms_Hf, nms_ptr, nms_sl, aB_agg_nms, aW_agg_nms, aD_agg_nms, aO_agg_nms, List.flatMap_cons, List.flatMap_nil, List.nil_append, List.append_nil, ren_B8, ren_B32, ren_B64, ren_I, ren_N, ren_Bo, ren_Un, ren_undef, ren_Hf, aB_agg_ren, aW_agg_ren, aD_agg_ren, aO_agg_ren, List.map_cons, List.map_nil, ren7_I, ren7_N, ren7_Bo, ren7_B8, ren7_B32, ren7_B64, nms7_I, nms7_N, nms7_Bo, nms7_B8, nms7_B32, nms7_B64, nms_tup, ren_tup, implies_true, l17, l18, l19, l20, l36, l37, l38, l39, l43, l21, l22, l24, l25, l33, l35, l40, l42, l14, l27, bs_isCell, bs_nms, bs_ren, ibs_nms, ibs_ren, bs_length, aW_isCell, aB_isCell, isCell_sl, isCell_isl, isCell_nil, isCell_ptr, isCell_N]) only [funSem_eq, ev_seq, ev_region, regK_some, evOpers_nil, evOpers_cons, stepK_pure, put_some, evX_t, evX_c, op_mv, andThen_normal, List.set_cons_zero, List.set_cons_succ, List.getD_cons_zero, List.getD_cons_succ, List.map_cons, List.map_nil, List.nil_append, repUn_succ, List.replicate_zero, List.length_cons, List.length_nil, Nat.reduceAdd, upd_at, stepK_new, stepK_mod, Prod.mk.injEq, Nat.reduceEqDiff, and_true, if_true, if_false, Nat.zero_add, Nat.add_zero, aB_rep, Nat.add_zero, Nat.zero_add, Nat.reduceEqDiff, Nat.reduceAdd, op_mkrow, rowK_some, op_cvs, cvsV_sl, cvsK_some, Nat.sub_zero, inHeap_none, L27, hr1, hr2, hr3]
  simp (disch := first | omega | decide | simp only [nms_B8, nms_B32, nms_B64, nms_I, nms_N, nms_Bo, nms_Un, nms_undef, nms_Hf, nms_ptr, nms_sl, aB_agg_nms, aW_agg_nms, aD_agg_nms, aO_agg_nms, List.flatMap_cons, List.flatMap_nil, List.nil_append, List.append_nil, ren_B8, ren_B32, ren_B64, ren_I, ren_N, ren_Bo, ren_Un, ren_undef, ren_Hf, aB_agg_ren, aW_agg_ren, aD_agg_ren, aO_agg_ren, List.map_cons, List.map_nil, ren7_I, ren7_N, ren7_Bo, ren7_B8, ren7_B32, ren7_B64, nms7_I, nms7_N, nms7_Bo, nms7_B8, nms7_B32, nms7_B64, nms_tup, ren_tup, implies_true, l17, l18, l19, l20, l36, l37, l38, l39, l43, l21, l22, l24, l25, l33, l35, l40, l42, l14, l27, bs_isCell, bs_nms, bs_ren, ibs_nms, ibs_ren, bs_length, aW_isCell, aB_isCell, isCell_sl, isCell_isl, isCell_nil, isCell_ptr, isCell_N]) only [evOpers_cons, put_some, evX_t, evX_c, op_call, callV_fn, List.set_cons_zero, List.set_cons_succ, List.getD_cons_zero, List.getD_cons_succ, List.map_cons, List.map_nil, List.nil_append, List.cons_append, List.append_nil, List.length_cons, List.length_nil, Nat.reduceAdd, stepK_new, fill_nil, fill_cons, fillK_some, splice, List.take_succ_cons, List.take_zero, List.drop_succ_cons, List.drop_zero, List.drop_nil, Nat.reduceLeDiff, and_self, if_true, Nat.zero_add, Nat.le_refl, Nat.zero_add, Nat.reduceLeDiff, Nat.reduceAdd, cellsOf_sl, rowK_some]
  generalize hc : callOp _ _ _ _ _ = r
  generalize hH3 : upd _ _ (some [_, _]) = H3 at hc ⊢
  have k9 := upd_self2 hH3
  have k3 : H3 (3, 0) = some (bs jefe) := by rw [← hH3]; simp only [upd_at, Prod.mk.injEq, Nat.reduceEqDiff, and_true, if_true, if_false]
  have k5 : H3 (5, 0) = some (bs want1) := by rw [← hH3]; simp only [upd_at, Prod.mk.injEq, Nat.reduceEqDiff, and_true, if_true, if_false]
  have k7 : H3 (7, 0) = some (bs want2) := by rw [← hH3]; simp only [upd_at, Prod.mk.injEq, Nat.reduceEqDiff, and_true, if_true, if_false]
  obtain ⟨l1, q1, _⟩ := lentA_row (RowIs.new (n := 11) k5 rfl)
  obtain ⟨l2, q2, _⟩ := lentA_row (RowIs.new (n := 17) k7 rfl)
  have hM := snap_row H3 (9, 0) (some 2) [(_, want1, l1), (_, want2, l2)] (by
    intro p hp
    simp only [List.mem_cons, List.not_mem_nil, or_false] at hp
    rcases hp with rfl | rfl
    · exact q1
    · exact q2) k9 (by simp)
  have e := tag_call (L := [want1, want2]) (key := jefe) hc (lent_row (RowIs.new (n := 4) k3 rfl)) hM (by decide) (by decide) (by decide) (by
    have h1 : jefe.length / 64 = 0 := rfl
    have h2 : ([want1, want2] : List (List (BitVec 8))).flatten.length / 64 = 0 := rfl
    have h3 : ([want1, want2] : List (List (BitVec 8))).length = 2 := rfl
    omega)
  subst e
  rw [tag_jefe]
  obtain ⟨d, hd⟩ : ∃ d, d = outB (toV c_h4) := ⟨_, rfl⟩
  have d0 : d 0 = 91#8 := by rw [hd]; decide
  have d1 : d 1 = 220#8 := by rw [hd]; decide
  have d31 : d 31 = 67#8 := by rw [hd]; decide
  rw [← hd]
  clear hd
  have b0 : (91#8 == 91#8) = true := rfl
  have b1 : (220#8 == 220#8) = true := rfl
  have b2 : (67#8 == 67#8) = true := rfl
  simp (disch := first | omega | decide | simp only [nms_B8, nms_B32, nms_B64, nms_I, nms_N, nms_Bo, nms_Un, nms_undef, nms_Hf, nms_ptr, nms_sl, aB_agg_nms, aW_agg_nms, aD_agg_nms, aO_agg_nms, List.flatMap_cons, List.flatMap_nil, List.nil_append, List.append_nil, ren_B8, ren_B32, ren_B64, ren_I, ren_N, ren_Bo, ren_Un, ren_undef, ren_Hf, aB_agg_ren, aW_agg_ren, aD_agg_ren, aO_agg_ren, List.map_cons, List.map_nil, ren7_I, ren7_N, ren7_Bo, ren7_B8, ren7_B32, ren7_B64, nms7_I, nms7_N, nms7_Bo, nms7_B8, nms7_B32, nms7_B64, nms_tup, ren_tup, implies_true, l17, l18, l19, l20, l36, l37, l38, l39, l43, l21, l22, l24, l25, l33, l35, l40, l42, l14, l27, bs_isCell, bs_nms, bs_ren, ibs_nms, ibs_ren, bs_length, aW_isCell, aB_isCell, isCell_sl, isCell_isl, isCell_nil, isCell_ptr, isCell_N]) only [ev_seq, ev_region, regK_some, evOpers_nil, evOpers_cons, evOpers_cons_g, stepK_pure, guardK_true, put_some, put_none, evX_t, evX_c, outR_some, pickV_true, op_mv, op_pick, op_bin, op_call, callV_fn, andThen_normal, List.set_cons_zero, List.set_cons_succ, List.getD_cons_zero, List.getD_cons_succ, List.map_cons, List.map_nil, List.length_cons, List.length_nil, B8_eql, Nat.reduceAdd, upd_at, stepK_new, stepK_mod, cellsOf_agg, cellAt_ptr, ld1K_some, op_ld1, op_new, op_st, stV_ptr, op_iaA, iaV_lt, if_true, Nat.zero_add, Nat.add_zero, aB_cell, aB_st_all, Nat.mul_one, Nat.add_zero, Nat.zero_add, N_nat, Nat.reduceAdd, op_mkrow, rowK_some, Nat.mul_one, d0, d1, d31, b0, b1, b2, fill1]
  generalize hc : callOp _ _ _ _ _ = r
  generalize hH4 : upd _ _ (some (bs [1#8])) = H4 at hc ⊢
  have k28 := upd_self2 hH4
  have k27 : H4 (27, 0) = some (bs [1#8]) := by rw [← hH4]; simp only [upd_at, Prod.mk.injEq, Nat.reduceEqDiff, and_true, if_true, if_false]
  have e := equal_use hc (lent_row (RowIs.new (n := 1) k27 rfl)) (lent_row (RowIs.new (n := 1) k28 rfl)) (by decide) (by decide) (by simp; omega)
  subst e
  simp (disch := first | omega | decide | simp only [nms_B8, nms_B32, nms_B64, nms_I, nms_N, nms_Bo, nms_Un, nms_undef, nms_Hf, nms_ptr, nms_sl, aB_agg_nms, aW_agg_nms, aD_agg_nms, aO_agg_nms, List.flatMap_cons, List.flatMap_nil, List.nil_append, List.append_nil, ren_B8, ren_B32, ren_B64, ren_I, ren_N, ren_Bo, ren_Un, ren_undef, ren_Hf, aB_agg_ren, aW_agg_ren, aD_agg_ren, aO_agg_ren, List.map_cons, List.map_nil, ren7_I, ren7_N, ren7_Bo, ren7_B8, ren7_B32, ren7_B64, nms7_I, nms7_N, nms7_Bo, nms7_B8, nms7_B32, nms7_B64, nms_tup, ren_tup, implies_true, l17, l18, l19, l20, l36, l37, l38, l39, l43, l21, l22, l24, l25, l33, l35, l40, l42, l14, l27, bs_isCell, bs_nms, bs_ren, ibs_nms, ibs_ren, bs_length, aW_isCell, aB_isCell, isCell_sl, isCell_isl, isCell_nil, isCell_ptr, isCell_N]) only [evOpers_cons, evOpers_cons_g, stepK_pure, guardK_true, put_some, evX_t, evX_c, outR_some, pickV_true, op_mv, op_pick, op_call, callV_fn, List.set_cons_zero, List.set_cons_succ, List.getD_cons_zero, List.getD_cons_succ, List.map_cons, List.map_nil, Nat.reduceAdd, stepK_new, decide_true, Nat.reduceAdd, decide_true, op_mkrow, rowK_some, fill1, hr4]
  generalize hc : callOp _ _ _ _ _ = r
  generalize hH5 : upd _ _ (some (bs [1#8, 0#8])) = H5 at hc ⊢
  have k33 := upd_self2 hH5
  have k32 : H5 (32, 0) = some (bs [1#8]) := by rw [← hH5]; simp only [upd_at, Prod.mk.injEq, Nat.reduceEqDiff, and_true, if_true, if_false]
  have e := equal_use hc (lent_row (RowIs.new (n := 1) k32 rfl)) (lent_row (RowIs.new (n := 2) k33 rfl)) (by decide) (by decide) (by simp; omega)
  subst e
  have ef : decide ([1#8] = [1#8, 0#8]) = false := by decide
  simp (disch := first | omega | decide | simp only [nms_B8, nms_B32, nms_B64, nms_I, nms_N, nms_Bo, nms_Un, nms_undef, nms_Hf, nms_ptr, nms_sl, aB_agg_nms, aW_agg_nms, aD_agg_nms, aO_agg_nms, List.flatMap_cons, List.flatMap_nil, List.nil_append, List.append_nil, ren_B8, ren_B32, ren_B64, ren_I, ren_N, ren_Bo, ren_Un, ren_undef, ren_Hf, aB_agg_ren, aW_agg_ren, aD_agg_ren, aO_agg_ren, List.map_cons, List.map_nil, ren7_I, ren7_N, ren7_Bo, ren7_B8, ren7_B32, ren7_B64, nms7_I, nms7_N, nms7_Bo, nms7_B8, nms7_B32, nms7_B64, nms_tup, ren_tup, implies_true, l17, l18, l19, l20, l36, l37, l38, l39, l43, l21, l22, l24, l25, l33, l35, l40, l42, l14, l27, bs_isCell, bs_nms, bs_ren, ibs_nms, ibs_ren, bs_length, aW_isCell, aB_isCell, isCell_sl, isCell_isl, isCell_nil, isCell_ptr, isCell_N]) only [evOpers_cons, evOpers_cons_g, stepK_pure, guardK_true, put_some, evX_t, evX_c, outR_some, pickV_true, op_mv, op_pick, op_un, op_call, callV_fn, List.set_cons_zero, List.set_cons_succ, List.getD_cons_zero, List.getD_cons_succ, List.map_cons, List.map_nil, Bo_not, Nat.reduceAdd, upd_at, stepK_new, stepK_mod, if_true, Nat.reduceAdd, Bool.not_false, op_mkrow, rowK_some, op_cvs, cvsV_sl, cvsK_some, fill1, ef]
  generalize hc : callOp _ _ _ _ _ = r
  generalize hH6 : upd _ _ (some (bs [107#8])) = H6 at hc ⊢
  have k38 := upd_self2 hH6
  obtain ⟨x, news, H7, rfl, hH7, hx, _⟩ := derive_call (lbl := [108#8]) (z := 40) hc (lent_row (RowIs.new (n := 1) k38 rfl)) (by decide) (by decide) (by simp; omega)
  have hdl : (dvl [107#8] [108#8] 40).length = 40 := by
    rw [dvl, if_neg (by decide), List.length_take, dO_length]; decide
  have hlen : lenS x = some 40 := by
    rcases hx with ⟨_, h⟩ | h
    · rw [h] at hdl; cases hdl
    · rw [h.lenS, hdl]
  simp (disch := first | omega | decide | simp only [nms_B8, nms_B32, nms_B64, nms_I, nms_N, nms_Bo, nms_Un, nms_undef, nms_Hf, nms_ptr, nms_sl, aB_agg_nms, aW_agg_nms, aD_agg_nms, aO_agg_nms, List.flatMap_cons, List.flatMap_nil, List.nil_append, List.append_nil, ren_B8, ren_B32, ren_B64, ren_I, ren_N, ren_Bo, ren_Un, ren_undef, ren_Hf, aB_agg_ren, aW_agg_ren, aD_agg_ren, aO_agg_ren, List.map_cons, List.map_nil, ren7_I, ren7_N, ren7_Bo, ren7_B8, ren7_B32, ren7_B64, nms7_I, nms7_N, nms7_Bo, nms7_B8, nms7_B32, nms7_B64, nms_tup, ren_tup, implies_true, l17, l18, l19, l20, l36, l37, l38, l39, l43, l21, l22, l24, l25, l33, l35, l40, l42, l14, l27, bs_isCell, bs_nms, bs_ren, ibs_nms, ibs_ren, bs_length, aW_isCell, aB_isCell, isCell_sl, isCell_isl, isCell_nil, isCell_ptr, isCell_N]) only [ev_ret, regK_some, evOpers_nil, evOpers_cons, evOpers_cons_g, guardK_true, put_some, evX_t, evX_c, outR_some, pickV_true, op_mv, op_pick, op_bin, andThen_normal, retK_ret, resVal_tmp, List.set_cons_zero, List.set_cons_succ, List.getD_cons_zero, List.getD_cons_succ, outOf_Bo, Option.map_some, Nat.reduceAdd, decide_true, N_eql, Nat.reduceAdd, decide_true, op_len, lenV_some, updN_nil, modN_nil, Option.map_some, stepK_gen, hlen]

end Sha

namespace Sha
open Go Go.LE

theorem hlives_call (k b : Nat) (H : Heap) (hk : 5001 ≤ k) : callOp (envC C k) H b 27 [] = some ⟨Bo true, [], []⟩ := by
  have h := hlives_F (k - 1) (by omega)
  rw [show k - 1 + 1 = k by omega] at h
  rw [callOp_C l27 rfl rfl, h]
  exact calK_plain b fun _ => rfl

end Sha
