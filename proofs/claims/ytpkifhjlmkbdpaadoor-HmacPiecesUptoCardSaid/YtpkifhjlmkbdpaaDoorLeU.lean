/- (h).Sum: the digest of what came, evaluated. (Printed by wip/tools/mksum.py.) -/
/- The digest of bytes, evaluated. -/
/- The document's digest of bytes is the same. -/
/- Some blocks, reckoned round by round. (Printed by wip/tools/mkblk.py.) -/
/- Calls of the digests; what must come of every program, evaluated. -/
/- ShaBlocks and ShaSums, evaluated. -/
import Derived.Test.YtpkifhjlmkbdpaaDoorLeS
set_option linter.unusedVariables false
set_option linter.unusedSimpArgs false

namespace Sha
open Go Go.LE

/-- how many zeros -/
def zs (n : Nat) : Nat := (119 - n % 64) % 64
def lenb (n i : Nat) : BitVec 8 := ((BitVec.ofNat 64 n * 8#64) >>> (56 - 8 * i)).setWidth 8
def fb (n i : Nat) : List (BitVec 8) := 128#8 :: (List.replicate (zs n) 0#8 ++ (List.range i).map (lenb n))
theorem fb_length (n i : Nat) : (fb n i).length = zs n + 1 + i := by simp [fb]; omega
theorem fb_zero (n : Nat) : fb n 0 = (List.replicate (zs n + 1) 0#8).set 0 128#8 := by simp [fb, List.replicate_succ]
theorem fb_succ (n i : Nat) : fb n (i + 1) = fb n i ++ [lenb n i] := by simp [fb, List.range_succ]
theorem fill1 (z x : BitVec 8) : fill [B8 z] [(0, 1, B8 x)] = some (bs [x]) := rfl
theorem zs_lt (n : Nat) : zs n < 64 := by unfold zs; omega

def outB (s : Nat → BitVec 32) (j : Nat) : BitVec 8 := (s (j / 4) >>> (24 - 8 * (j % 4))).setWidth 8
def outP (s : Nat → BitVec 32) (i j : Nat) : BitVec 8 := if j < 4 * i then outB s j else 0#8
theorem outP_succ (s : Nat → BitVec 32) (i : Nat) : outP s (i + 1) = set1 (set1 (set1 (set1 (outP s i) (4 * i) ((s i >>> 24).setWidth 8)) (4 * i + 1) ((s i >>> 16).setWidth 8)) (4 * i + 2) ((s i >>> 8).setWidth 8)) (4 * i + 3) ((s i).setWidth 8) := by
  funext j
  simp only [set1, outP, outB]
  by_cases h3 : j = 4 * i + 3
  · subst h3
    rw [if_pos (by omega), if_pos rfl]
    have e1 : (4 * i + 3) / 4 = i := by omega
    have e2 : (4 * i + 3) % 4 = 3 := by omega
    rw [e1, e2]; simp
  rw [if_neg h3]
  by_cases h2 : j = 4 * i + 2
  · subst h2
    rw [if_pos (by omega), if_pos rfl]
    have e1 : (4 * i + 2) / 4 = i := by omega
    have e2 : (4 * i + 2) % 4 = 2 := by omega
    rw [e1, e2]
  rw [if_neg h2]
  by_cases h1 : j = 4 * i + 1
  · subst h1
    rw [if_pos (by omega), if_pos rfl]
    have e1 : (4 * i + 1) / 4 = i := by omega
    have e2 : (4 * i + 1) % 4 = 1 := by omega
    rw [e1, e2]
  rw [if_neg h1]
  by_cases h0 : j = 4 * i
  · subst h0
    rw [if_pos (by omega), if_pos rfl]
    have e1 : (4 * i) / 4 = i := by omega
    have e2 : (4 * i) % 4 = 0 := by omega
    rw [e1, e2]
  rw [if_neg h0]
  have : (j < 4 * (i + 1)) ↔ (j < 4 * i) := by omega
  simp only [this]

/-! ### form A -/

def fJA (s : Nat → BitVec 32) (n : Nat) (i : Nat) (st : St) : Prop := ∃ (c : Option Nat) (H : Heap), st = ⟨[.ptr (0, 0) 0, .undef, .ptr (1, 0) 0, .ptr (1, 1) 0, .ptr (1, 2) 0, .sl (1, 3) 0 (zs n + 1 + i) c 1, .undef, .undef, .undef, .undef, .undef, .undef, .undef, .undef, .undef, .undef, .undef, .undef, .undef, .undef, .undef, .undef, .undef, .undef, .undef, N i, .undef, .undef, .undef, .undef, .undef, .undef, .undef, .undef, .undef, .undef, .undef, .undef, .undef, .undef, .undef, .undef, .undef, .undef, .undef, .undef, .undef, .undef, .undef, .undef, .undef, .undef, .undef, .undef, .undef, .undef, .undef, .undef, .undef, .undef, .undef, .undef, .undef, .undef, .undef, .undef, .undef, .undef, .undef, .undef, .undef, .undef, .undef, .undef, .undef, .undef, .undef, .undef, .undef, .undef, .undef, .undef], H, 2, 1⟩ ∧
  (c = none ∨ (i = 0 ∧ c = some (zs n + 1))) ∧ H (0, 0) = some (HsC s Nil n) ∧ H (1, 0) = some (aB 32 fun _ => 0#8) ∧ H (1, 1) = some (aB 32 fun _ => 0#8) ∧ H (1, 2) = some (HsC s Nil n) ∧ H (1, 3) = some (bs (fb n i))

set_option maxRecDepth 10000 in
theorem f_roundA (K k0 : Nat) (s : Nat → BitVec 32) (n : Nat) (hn : n ≤ 4611686018427387904) (i : Nat) (hi : i < 8) (st : St) (hI : fJA s n i st) :
    ∃ st1, ev (envC C k0) K L24b1 st = some (.normal, st1) ∧ fJA s n (i + 1) (canon L24k1 st1) := by
  obtain ⟨c, H, rfl, hc, h0, h1, h2, h3, hF⟩ := hI
  have hz := zs_lt n
  have hl := fb_length n i
  have hlen : ((BitVec.ofNat 64 n * 8#64) >>> (56 - 8 * i)).setWidth 8 = lenb n i := rfl
  have hx : H (1, 3) = some (bs (fb n i)) := hF
  have hfr : front (upd H (17, 0) (some (bs [lenb n i]))) 1 1 (.sl (17, 0) 0 1 (some 1) 1) = some (bs [lenb n i]) := front_bytes (17, 0) 0 1 (some 1) [lenb n i] (by simp only [upd_at, if_true]) (by simp)
  have hF' : upd H (17, 0) (some (bs [lenb n i])) (1, 3) = some (bs (fb n i)) := by simp only [upd_at, Prod.mk.injEq, Nat.reduceEqDiff, and_self, if_false, hF]
  have ha : ∃ ms, (ms = [] ∨ ms = [((1, 3), none)]) ∧ appX 18 1 1 1 (upd H (17, 0) (some (bs [lenb n i]))) [] (bs [lenb n i]) (.sl (1, 3) 0 (zs n + 1 + i) c 1) = some ⟨.sl (18, 0) 0 (zs n + 1 + i + 1) none 1, [bs (fb n (i + 1))], ms⟩ := by
    rcases hc with rfl | ⟨rfl, rfl⟩
    · refine ⟨_, .inr rfl, ?_⟩
      rw [appX_none 1 1 _ _ _ _ _ (by omega), hF', appN_bytes _ _ _ _ _ _ (by omega), List.drop_zero, List.take_of_length_le (by omega), ← fb_succ]
    · refine ⟨_, .inl rfl, ?_⟩
      rw [appX_full _ (1, 3) 0 _ _ _ _ hF' (by omega) (by omega) (by omega), List.drop_zero, List.take_of_length_le (by omega), ← fb_succ]
  obtain ⟨ms, hms, ha⟩ := ha
  rcases hms with rfl | rfl
  all_goals
    apply Exists.intro
    apply And.intro
    · simp (disch := first | omega | decide | simp only [nms_B8, nms_B32, nms_B64, nms_I, nms_N, nms_Bo, nms_Un, nms_undef, nms_Hf, nms_ptr, nms_sl, aB_agg_nms, aW_agg_nms, aD_agg_nms, aO_agg_nms, List.flatMap_cons, List.flatMap_nil, List.nil_append, List.append_nil, ren_B8, ren_B32, ren_B64, ren_I, ren_N, ren_Bo, ren_Un, ren_undef, ren_Hf, aB_agg_ren, aW_agg_ren, aD_agg_ren, aO_agg_ren, List.map_cons, List.map_nil, ren7_I, ren7_N, ren7_Bo, ren7_B8, ren7_B32, ren7_B64, nms7_I, nms7_N, nms7_Bo, nms7_B8, nms7_B32, nms7_B64, nms_tup, ren_tup, implies_true, l17, l18, l19, l20, l36, l37, l38, l39, l43, l21, l22, l24, l25, l33, l35, l40, l42, l14, l27, bs_isCell, bs_nms, bs_ren, ibs_nms, ibs_ren, bs_length, aW_isCell, aB_isCell, isCell_sl, isCell_isl, isCell_nil, isCell_ptr, isCell_N]) only [ev_skip, ev_seq, ev_block, ev_region, regK_some, evOpers_nil, evOpers_cons, stepK_pure, put_some, evX_t, evX_c, outR_some, op_mv, op_bin, op_cvt, andThen_normal, inBlock_normal, ev_cond, condK_true, List.set_cons_zero, List.set_cons_succ, List.getD_cons_zero, List.getD_cons_succ, List.map_cons, List.map_nil, List.length_cons, List.length_nil, B64_mul, cvt_64_8, Nat.reduceAdd, stepK_new, cellAt_ptr, ld1K_some, op_ld1, op_fa, faV_ptr, Nat.zero_add, Nat.add_zero, decide_true, Nat.add_zero, Nat.zero_add, N_add, N_sub, N_mul, N_lss, cvt_N_64, B64_shrN, Nat.reduceAdd, decide_true, op_chk, chkV_ptr, lenOf_sl, op_append, appK_some, appF_some, op_mkrow, rowK_some, stepK_nm, L24b1, hi, h0, Hs_n, hlen, fill1, hfr, ha]
      rfl
    · refine canon_inv [(1, 0), (1, 1), (1, 2), (18, 0)] rfl (by simp only [canonNames, FUEL, reach_cons, reachK_some, reach_nil, nms_ptr, nms_sl, nms_undef, List.flatMap_cons, List.flatMap_nil, List.nil_append, List.cons_append, List.append_nil, List.map_nil, List.map_cons, List.contains_nil, List.contains_cons, Prod.mk.injEq, beq_iff_eq, Bool.or_eq_true, Bool.false_eq_true, Nat.reduceEqDiff, and_true, and_false, or_false, if_true, if_false, Nat.one_ne_zero, Nat.zero_ne_one, List.filter_cons, List.filter_nil, bne_iff_ne, ne_eq, not_false_eq_true, not_true_eq_false, upd_at, mask_nil, mask_true, mask_false, range_one, nms_N, nms_nil, L24k1, h0, h1, h2, h3, aB_nms, HsC_nms, bs_nms]) rfl ⟨none, _, rfl, .inl rfl, ?_, ?_, ?_, ?_, ?_⟩
      · rw [cN_zero]; simp (disch := first | omega | decide | simp only [nms_B8, nms_B32, nms_B64, nms_I, nms_N, nms_Bo, nms_Un, nms_undef, nms_Hf, nms_ptr, nms_sl, aB_agg_nms, aW_agg_nms, aD_agg_nms, aO_agg_nms, List.flatMap_cons, List.flatMap_nil, List.nil_append, List.append_nil, ren_B8, ren_B32, ren_B64, ren_I, ren_N, ren_Bo, ren_Un, ren_undef, ren_Hf, aB_agg_ren, aW_agg_ren, aD_agg_ren, aO_agg_ren, List.map_cons, List.map_nil, ren7_I, ren7_N, ren7_Bo, ren7_B8, ren7_B32, ren7_B64, nms7_I, nms7_N, nms7_Bo, nms7_B8, nms7_B32, nms7_B64, nms_tup, ren_tup, implies_true, l17, l18, l19, l20, l36, l37, l38, l39, l43, l21, l22, l24, l25, l33, l35, l40, l42, l14, l27, bs_isCell, bs_nms, bs_ren, ibs_nms, ibs_ren, bs_length, aW_isCell, aB_isCell, isCell_sl, isCell_isl, isCell_nil, isCell_ptr, isCell_N]) only [Option.map_some, upd_at, Prod.mk.injEq, Nat.reduceEqDiff, and_true, and_self, if_false, Nat.zero_ne_one, ren_nil, Option.map_some, h0, HsC_ren]
      · exact cN_same (1, 0) rfl (by simp only [upd_at, Prod.mk.injEq, Nat.reduceEqDiff, and_true, and_false, if_false, h1]) (aB_ren _ _ _)
      · exact cN_same (1, 1) rfl (by simp only [upd_at, Prod.mk.injEq, Nat.reduceEqDiff, and_false, and_self, if_false, Nat.one_ne_zero, h2]) (aB_ren _ _ _)
      · rw [cN_one _ _ _ (1, 2) (HsC s Nil n) rfl (by simp only [upd_at, Prod.mk.injEq, Nat.reduceEqDiff, and_false, and_self, if_false, h3]), HsC_ren]; rfl
      · exact cN_same (18, 0) rfl (by simp only [upd_at, Prod.mk.injEq, Nat.reduceEqDiff, and_true, and_self, if_true, if_false]) (bs_ren _ _)

def gJA (s s' : Nat → BitVec 32) (n : Nat) (i : Nat) (st : St) : Prop := ∃ (H : Heap), st = ⟨[.undef, .undef, .ptr (1, 0) 0, .ptr (1, 1) 0, .undef, .undef, .undef, .undef, .undef, .undef, .undef, .undef, .undef, .undef, .undef, .undef, .undef, .undef, .undef, .undef, .undef, .undef, .undef, .undef, .undef, .undef, .undef, .undef, .undef, .undef, .undef, .undef, .undef, .undef, .undef, .undef, .undef, .undef, .undef, .undef, .undef, .undef, .undef, .undef, .undef, .undef, .undef, .undef, .undef, .agg (aW 8 s'), N i, .undef, .undef, .undef, .undef, .undef, .undef, .undef, .undef, .undef, .undef, .undef, .undef, .undef, .undef, .undef, .undef, .undef, .undef, .undef, .undef, .undef, .undef, .undef, .undef, .undef, .undef, .undef, .undef, .undef, .undef, .undef], H, 2, 1⟩ ∧
  H (0, 0) = some (HsC s Nil n) ∧ H (1, 0) = some (aB 32 fun _ => 0#8) ∧ H (1, 1) = some (aB 32 (outP s' i))

set_option maxRecDepth 10000 in
theorem g_roundA (K k0 : Nat) (s s' : Nat → BitVec 32) (n : Nat) (i : Nat) (hi : i < 8) (st : St) (hI : gJA s s' n i st) :
    ∃ st1, ev (envC C k0) K L24b0 st = some (.normal, st1) ∧ gJA s s' n (i + 1) (canon L24k0 st1) := by
  obtain ⟨H, rfl, h0, h1, h2⟩ := hI
  apply Exists.intro
  apply And.intro
  · simp (disch := first | omega | decide | simp only [nms_B8, nms_B32, nms_B64, nms_I, nms_N, nms_Bo, nms_Un, nms_undef, nms_Hf, nms_ptr, nms_sl, aB_agg_nms, aW_agg_nms, aD_agg_nms, aO_agg_nms, List.flatMap_cons, List.flatMap_nil, List.nil_append, List.append_nil, ren_B8, ren_B32, ren_B64, ren_I, ren_N, ren_Bo, ren_Un, ren_undef, ren_Hf, aB_agg_ren, aW_agg_ren, aD_agg_ren, aO_agg_ren, List.map_cons, List.map_nil, ren7_I, ren7_N, ren7_Bo, ren7_B8, ren7_B32, ren7_B64, nms7_I, nms7_N, nms7_Bo, nms7_B8, nms7_B32, nms7_B64, nms_tup, ren_tup, implies_true, l17, l18, l19, l20, l36, l37, l38, l39, l43, l21, l22, l24, l25, l33, l35, l40, l42, l14, l27, bs_isCell, bs_nms, bs_ren, ibs_nms, ibs_ren, bs_length, aW_isCell, aB_isCell, isCell_sl, isCell_isl, isCell_nil, isCell_ptr, isCell_N]) only [ev_skip, ev_seq, ev_block, ev_region, regK_some, evOpers_nil, evOpers_cons, stepK_pure, put_some, put_none, evX_t, evX_c, outR_some, op_mv, op_bin, op_cvt, andThen_normal, inBlock_normal, ev_cond, condK_true, List.set_cons_zero, List.set_cons_succ, List.getD_cons_zero, List.getD_cons_succ, List.length_cons, List.length_nil, B32_shr64, cvt_32_8, BitVec.toNat_ofNat, Nat.reduceAdd, upd_at, stepK_mod, cellsOf_B8, op_st, stV_ptr, op_iaA, iaV_lt, if_true, Nat.zero_add, Nat.add_zero, decide_true, Nat.reducePow, Nat.reduceMod, op_ix1, aB_st, aW_ix1, Nat.mul_one, Nat.add_zero, Nat.zero_add, N_add, N_mul, N_lss, N_nat, Nat.reduceAdd, Nat.reduceMod, decide_true, L24b0, hi, h2]
    rfl
  · refine canon_inv [(1, 0), (1, 1)] rfl (by simp only [canonNames, FUEL, reach_cons, reachK_some, reach_nil, nms_ptr, nms_undef, List.flatMap_cons, List.flatMap_nil, List.nil_append, List.cons_append, List.append_nil, List.map_nil, List.map_cons, List.contains_nil, List.contains_cons, Prod.mk.injEq, beq_iff_eq, Bool.or_eq_true, Bool.false_eq_true, and_true, and_false, or_false, if_true, if_false, Nat.one_ne_zero, Nat.zero_ne_one, List.filter_cons, List.filter_nil, bne_iff_ne, ne_eq, not_false_eq_true, not_true_eq_false, upd_at, mask_nil, mask_true, mask_false, range_one, nms_N, nms_nil, L24k0, h0, h1, h2, aB_nms, HsC_nms, aW_agg_nms]) rfl ⟨_, rfl, ?_, ?_, ?_⟩
    · rw [cN_zero]; simp (disch := first | omega | decide | simp only [nms_B8, nms_B32, nms_B64, nms_I, nms_N, nms_Bo, nms_Un, nms_undef, nms_Hf, nms_ptr, nms_sl, aB_agg_nms, aW_agg_nms, aD_agg_nms, aO_agg_nms, List.flatMap_cons, List.flatMap_nil, List.nil_append, List.append_nil, ren_B8, ren_B32, ren_B64, ren_I, ren_N, ren_Bo, ren_Un, ren_undef, ren_Hf, aB_agg_ren, aW_agg_ren, aD_agg_ren, aO_agg_ren, List.map_cons, List.map_nil, ren7_I, ren7_N, ren7_Bo, ren7_B8, ren7_B32, ren7_B64, nms7_I, nms7_N, nms7_Bo, nms7_B8, nms7_B32, nms7_B64, nms_tup, ren_tup, implies_true, l17, l18, l19, l20, l36, l37, l38, l39, l43, l21, l22, l24, l25, l33, l35, l40, l42, l14, l27, bs_isCell, bs_nms, bs_ren, ibs_nms, ibs_ren, bs_length, aW_isCell, aB_isCell, isCell_sl, isCell_isl, isCell_nil, isCell_ptr, isCell_N]) only [Option.map_some, upd_at, Prod.mk.injEq, and_self, if_false, Nat.zero_ne_one, ren_nil, Option.map_some, h0, HsC_ren]
    · exact cN_same (1, 0) rfl (by simp only [upd_at, Prod.mk.injEq, and_false, if_false, Nat.zero_ne_one, h1]) (aB_ren _ _ _)
    · rw [outP_succ]; exact cN_same (1, 1) rfl (by simp only [upd_at, if_true]) (aB_ren _ _ _)

set_option maxRecDepth 10000 in
theorem sumA (k : Nat) (s : Nat → BitVec 32) (n : Nat) (hn : n ≤ 4611686018427387000) :
    F C (k + (fb n 8).length / 64 + 101) 24 [.ptr (0, 0) 0] [HsC s Nil n] = some (.agg (aB 32 (outB (absN (fb n 8) s ((fb n 8).length / 64)))), [some (HsC s Nil n)], []) := by
  have hz := zs_lt n
  have hfl := fb_length n 8
  obtain ⟨m, hm⟩ : ∃ m, m = fb n 8 := ⟨_, rfl⟩
  rw [← hm]
  rw [F_succ f24]
  have hfork := ptr_callA (k + m.length / 64 + 100) 7 22 l22 (upd (upd (inHeap [HsC s Nil n]) (2, 0) (some (aB 32 fun _ => 0#8))) (3, 0) (some (aB 32 fun _ => 0#8))) (0, 0) s n rfl (.ptr (1, 0) 0) (.ptr (7, 0) 0) [HsC s Nil n] [HsC s Nil n] (forkA (k + m.length / 64 + 98) s n) rfl (by simp only [List.map_cons, List.map_nil, HsC_ren, ren_nil])
  have hzs : (119 - n % 64) % 64 = zs n := rfl
  have hst : ∀ nm : Nm, stK 1 0 nm (some [B8 128#8]) (some (bs (List.replicate (zs n + 1) 0#8))) = some ⟨Un, [], [(nm, some (bs (fb n 0)))]⟩ := by
    intro nm; rw [bs_st _ _ _ _ (by simp), ← fb_zero]
  simp (disch := first | omega | decide | simp only [nms_B8, nms_B32, nms_B64, nms_I, nms_N, nms_Bo, nms_Un, nms_undef, nms_Hf, nms_ptr, nms_sl, aB_agg_nms, aW_agg_nms, aD_agg_nms, aO_agg_nms, List.flatMap_cons, List.flatMap_nil, List.nil_append, List.append_nil, ren_B8, ren_B32, ren_B64, ren_I, ren_N, ren_Bo, ren_Un, ren_undef, ren_Hf, aB_agg_ren, aW_agg_ren, aD_agg_ren, aO_agg_ren, List.map_cons, List.map_nil, ren7_I, ren7_N, ren7_Bo, ren7_B8, ren7_B32, ren7_B64, nms7_I, nms7_N, nms7_Bo, nms7_B8, nms7_B32, nms7_B64, nms_tup, ren_tup, implies_true, l17, l18, l19, l20, l36, l37, l38, l39, l43, l21, l22, l24, l25, l33, l35, l40, l42, l14, l27, bs_isCell, bs_nms, bs_ren, ibs_nms, ibs_ren, bs_length, aW_isCell, aB_isCell, isCell_sl, isCell_isl, isCell_nil, isCell_ptr, isCell_N]) only [funSem_eq, ev_skip, ev_seq, ev_block, ev_region, regK_some, evOpers_nil, evOpers_cons, stepK_pure, put_some, put_none, evX_t, evX_c, outR_some, op_mv, op_bin, op_call, callV_fn, andThen_normal, ev_cond, condK_false, List.set_cons_zero, List.set_cons_succ, List.getD_cons_zero, List.getD_cons_succ, List.map_cons, List.map_nil, List.nil_append, List.cons_append, repUn_succ, List.replicate_zero, List.length_cons, List.length_nil, ev_loop, Nat.reduceAdd, Nat.reduceSub, upd_at, stepK_new, stepK_mod, cellsOf_B8, cellAt_ptr, ld1K_some, op_ld1, op_new, op_st, stV_ptr, op_fa, faV_ptr, Prod.mk.injEq, Nat.reduceEqDiff, and_true, if_true, if_false, Nat.zero_add, Nat.add_zero, aB_rep, Nat.mul_one, Nat.add_zero, Nat.zero_add, N_add, N_sub, N_rem, N_nat, Nat.reduceEqDiff, Nat.reduceAdd, op_chk, chkV_ptr, eqp_ptr, op_iaS, iaSV_sl, op_mkslice, Nat.mul_one, inHeap_at, inHeap_none, List.getElem?_cons_zero, stepK_nm, L24, Hs_n, hfork, mk_bytes, hzs, hst]
  generalize hL : loopN L24k1 _ _ _ = r
  refine loop_use hL (fJA s n) 8 (by omega) (fun i st hi hI => f_roundA _ _ s n (by omega) i hi st hI) ?_ ?_ ?_
  · refine canon_inv [(2, 0), (3, 0), (7, 0), (17, 0)] rfl (by simp only [canonNames, FUEL, reach_cons, reachK_some, reach_nil, nms_ptr, nms_sl, nms_undef, List.flatMap_cons, List.flatMap_nil, List.nil_append, List.cons_append, List.append_nil, List.map_nil, List.map_cons, List.contains_nil, List.contains_cons, Prod.mk.injEq, beq_iff_eq, Bool.or_eq_true, Bool.false_eq_true, Nat.reduceEqDiff, and_true, or_false, if_true, if_false, List.filter_cons, List.filter_nil, bne_iff_ne, ne_eq, not_false_eq_true, not_true_eq_false, upd_at, mask_nil, mask_true, mask_false, inHeap_at, inHeap_none, range_one, List.getElem?_cons_zero, nms_N, nms_nil, L24k1, aB_nms, HsC_nms, bs_nms]) rfl ⟨some (zs n + 1), _, rfl, .inr ⟨rfl, rfl⟩, ?_, ?_, ?_, ?_, ?_⟩
    · rw [cN_zero]; simp (disch := first | omega | decide | simp only [nms_B8, nms_B32, nms_B64, nms_I, nms_N, nms_Bo, nms_Un, nms_undef, nms_Hf, nms_ptr, nms_sl, aB_agg_nms, aW_agg_nms, aD_agg_nms, aO_agg_nms, List.flatMap_cons, List.flatMap_nil, List.nil_append, List.append_nil, ren_B8, ren_B32, ren_B64, ren_I, ren_N, ren_Bo, ren_Un, ren_undef, ren_Hf, aB_agg_ren, aW_agg_ren, aD_agg_ren, aO_agg_ren, List.map_cons, List.map_nil, ren7_I, ren7_N, ren7_Bo, ren7_B8, ren7_B32, ren7_B64, nms7_I, nms7_N, nms7_Bo, nms7_B8, nms7_B32, nms7_B64, nms_tup, ren_tup, implies_true, l17, l18, l19, l20, l36, l37, l38, l39, l43, l21, l22, l24, l25, l33, l35, l40, l42, l14, l27, bs_isCell, bs_nms, bs_ren, ibs_nms, ibs_ren, bs_length, aW_isCell, aB_isCell, isCell_sl, isCell_isl, isCell_nil, isCell_ptr, isCell_N]) only [Option.map_some, upd_at, Prod.mk.injEq, Nat.reduceEqDiff, and_true, if_true, if_false, ren_nil, Option.map_some, inHeap_at, List.getElem?_cons_zero, HsC_ren]
    · exact cN_same (2, 0) rfl (by simp only [upd_at, Prod.mk.injEq, Nat.reduceEqDiff, and_true, if_true, if_false]) (aB_ren _ _ _)
    · exact cN_same (3, 0) rfl (by simp only [upd_at, Prod.mk.injEq, Nat.reduceEqDiff, and_true, if_true, if_false]) (aB_ren _ _ _)
    · rw [cN_one _ _ _ (7, 0) (HsC s Nil n) rfl (by simp only [upd_at, Prod.mk.injEq, Nat.reduceEqDiff, and_true, if_true, if_false]), HsC_ren]; rfl
    · exact cN_same (17, 0) rfl (by simp only [upd_at, Prod.mk.injEq, Nat.reduceEqDiff, and_true, if_true, if_false]) (bs_ren _ _)
  · rintro st ⟨c, H, rfl, hc, h0, h1, h2, h3, hF⟩
    apply stop_exit
    simp (disch := first | omega | decide | simp only [nms_B8, nms_B32, nms_B64, nms_I, nms_N, nms_Bo, nms_Un, nms_undef, nms_Hf, nms_ptr, nms_sl, aB_agg_nms, aW_agg_nms, aD_agg_nms, aO_agg_nms, List.flatMap_cons, List.flatMap_nil, List.nil_append, List.append_nil, ren_B8, ren_B32, ren_B64, ren_I, ren_N, ren_Bo, ren_Un, ren_undef, ren_Hf, aB_agg_ren, aW_agg_ren, aD_agg_ren, aO_agg_ren, List.map_cons, List.map_nil, ren7_I, ren7_N, ren7_Bo, ren7_B8, ren7_B32, ren7_B64, nms7_I, nms7_N, nms7_Bo, nms7_B8, nms7_B32, nms7_B64, nms_tup, ren_tup, implies_true, l17, l18, l19, l20, l36, l37, l38, l39, l43, l21, l22, l24, l25, l33, l35, l40, l42, l14, l27, bs_isCell, bs_nms, bs_ren, ibs_nms, ibs_ren, bs_length, aW_isCell, aB_isCell, isCell_sl, isCell_isl, isCell_nil, isCell_ptr, isCell_N]) only [ev_exit, ev_seq, ev_region, regK_some, evOpers_nil, evOpers_cons, stepK_pure, put_some, evX_t, evX_c, outR_some, op_bin, andThen_normal, andThen_exit, ev_cond, condK_false, List.set_cons_zero, List.set_cons_succ, List.getD_cons_zero, List.getD_cons_succ, List.length_cons, List.length_nil, Nat.reduceAdd, Nat.zero_add, Nat.add_zero, decide_false, N_lss, Nat.reduceAdd, Nat.lt_irrefl, decide_false, L24b1]
    rfl
  · rintro st ⟨c, H, rfl, hc, h0, h1, h2, h3, hF⟩ rfl
    clear hL
    obtain ⟨l', hw, _, _⟩ := writeA k s n (fb n 8) m hm (by simp [fb]) (by rw [hm]; omega) (by omega)
    have hB := lent_sl H (1, 3) 0 (zs n + 1 + 8) c (fb n 8) [(1, 2)] hF (by omega) rfl
    rw [List.drop_zero, List.take_of_length_le (by omega)] at hB
    have hcall := fun b => write_callA _ b H (1, 2) s _ n _ _ _ (fb n 8) l' h3 hB hw
    obtain ⟨s', hs'⟩ : ∃ s', s' = absN m s (m.length / 64) := ⟨_, rfl⟩
    rw [← hs'] at hcall ⊢
    simp (disch := first | omega | decide | simp only [nms_B8, nms_B32, nms_B64, nms_I, nms_N, nms_Bo, nms_Un, nms_undef, nms_Hf, nms_ptr, nms_sl, aB_agg_nms, aW_agg_nms, aD_agg_nms, aO_agg_nms, List.flatMap_cons, List.flatMap_nil, List.nil_append, List.append_nil, ren_B8, ren_B32, ren_B64, ren_I, ren_N, ren_Bo, ren_Un, ren_undef, ren_Hf, aB_agg_ren, aW_agg_ren, aD_agg_ren, aO_agg_ren, List.map_cons, List.map_nil, ren7_I, ren7_N, ren7_Bo, ren7_B8, ren7_B32, ren7_B64, nms7_I, nms7_N, nms7_Bo, nms7_B8, nms7_B32, nms7_B64, nms_tup, ren_tup, implies_true, l17, l18, l19, l20, l36, l37, l38, l39, l43, l21, l22, l24, l25, l33, l35, l40, l42, l14, l27, bs_isCell, bs_nms, bs_ren, ibs_nms, ibs_ren, bs_length, aW_isCell, aB_isCell, isCell_sl, isCell_isl, isCell_nil, isCell_ptr, isCell_N]) only [ev_exit, ev_seq, ev_block, ev_region, regK_some, evOpers_nil, evOpers_cons, stepK_pure, put_some, evX_t, evX_c, outR_some, op_mv, op_bin, op_call, callV_fn, andThen_normal, andThen_exit, inBlock_exit, ev_cond, condK_false, List.set_cons_zero, List.set_cons_succ, List.getD_cons_zero, List.getD_cons_succ, List.map_cons, List.map_nil, List.length_cons, List.length_nil, ev_loop, Nat.reduceAdd, upd_at, cellAt_ptr, ldK_some, op_ld, op_fa, faV_ptr, Prod.mk.injEq, Nat.reduceEqDiff, and_self, if_true, if_false, Nat.zero_add, Nat.add_zero, decide_false, Nat.add_zero, Nat.zero_add, N_lss, Nat.reduceEqDiff, Nat.reduceAdd, Nat.lt_irrefl, decide_false, op_chk, chkV_ptr, stepK_nm, L24b1, hcall, Hs_state]
    generalize hL : loopN L24k0 _ _ _ = r
    refine loop_use hL (gJA s s' n) 8 (by omega) (fun i st hi hI => g_roundA _ _ s s' n i hi st hI) ?_ ?_ ?_
    · refine canon_inv [(1, 0), (1, 1)] rfl (by simp only [canonNames, FUEL, reach_cons, reachK_some, reach_nil, nms_ptr, nms_undef, List.flatMap_cons, List.flatMap_nil, List.nil_append, List.cons_append, List.append_nil, List.map_nil, List.map_cons, List.contains_nil, List.contains_cons, Prod.mk.injEq, beq_iff_eq, Bool.or_eq_true, Bool.false_eq_true, Nat.reduceEqDiff, and_true, and_false, or_false, if_true, if_false, Nat.one_ne_zero, Nat.zero_ne_one, List.filter_cons, List.filter_nil, bne_iff_ne, ne_eq, not_false_eq_true, not_true_eq_false, upd_at, mask_nil, mask_true, mask_false, range_one, nms_N, nms_nil, L24k0, h0, h1, h2, aB_nms, HsC_nms, aW_agg_nms]) rfl ⟨_, rfl, ?_, ?_, ?_⟩
      · rw [cN_zero]; simp (disch := first | omega | decide | simp only [nms_B8, nms_B32, nms_B64, nms_I, nms_N, nms_Bo, nms_Un, nms_undef, nms_Hf, nms_ptr, nms_sl, aB_agg_nms, aW_agg_nms, aD_agg_nms, aO_agg_nms, List.flatMap_cons, List.flatMap_nil, List.nil_append, List.append_nil, ren_B8, ren_B32, ren_B64, ren_I, ren_N, ren_Bo, ren_Un, ren_undef, ren_Hf, aB_agg_ren, aW_agg_ren, aD_agg_ren, aO_agg_ren, List.map_cons, List.map_nil, ren7_I, ren7_N, ren7_Bo, ren7_B8, ren7_B32, ren7_B64, nms7_I, nms7_N, nms7_Bo, nms7_B8, nms7_B32, nms7_B64, nms_tup, ren_tup, implies_true, l17, l18, l19, l20, l36, l37, l38, l39, l43, l21, l22, l24, l25, l33, l35, l40, l42, l14, l27, bs_isCell, bs_nms, bs_ren, ibs_nms, ibs_ren, bs_length, aW_isCell, aB_isCell, isCell_sl, isCell_isl, isCell_nil, isCell_ptr, isCell_N]) only [Option.map_some, upd_at, Prod.mk.injEq, Nat.reduceEqDiff, and_true, and_self, if_false, Nat.zero_ne_one, ren_nil, Option.map_some, h0, HsC_ren]
      · exact cN_same (1, 0) rfl (by simp only [upd_at, Prod.mk.injEq, Nat.reduceEqDiff, and_true, and_false, if_false, h1]) (aB_ren _ _ _)
      · rw [show outP s' 0 = fun _ => 0#8 by funext j; simp [outP]]
        exact cN_same (1, 1) rfl (by simp only [upd_at, Prod.mk.injEq, Nat.reduceEqDiff, and_false, and_self, if_false, Nat.one_ne_zero, h2]) (aB_ren _ _ _)
    · rintro st ⟨H, rfl, h0, h1, h2⟩
      apply stop_exit
      simp (disch := first | omega | decide | simp only [nms_B8, nms_B32, nms_B64, nms_I, nms_N, nms_Bo, nms_Un, nms_undef, nms_Hf, nms_ptr, nms_sl, aB_agg_nms, aW_agg_nms, aD_agg_nms, aO_agg_nms, List.flatMap_cons, List.flatMap_nil, List.nil_append, List.append_nil, ren_B8, ren_B32, ren_B64, ren_I, ren_N, ren_Bo, ren_Un, ren_undef, ren_Hf, aB_agg_ren, aW_agg_ren, aD_agg_ren, aO_agg_ren, List.map_cons, List.map_nil, ren7_I, ren7_N, ren7_Bo, ren7_B8, ren7_B32, ren7_B64, nms7_I, nms7_N, nms7_Bo, nms7_B8, nms7_B32, nms7_B64, nms_tup, ren_tup, implies_true, l17, l18, l19, l20, l36, l37, l38, l39, l43, l21, l22, l24, l25, l33, l35, l40, l42, l14, l27, bs_isCell, bs_nms, bs_ren, ibs_nms, ibs_ren, bs_length, aW_isCell, aB_isCell, isCell_sl, isCell_isl, isCell_nil, isCell_ptr, isCell_N]) only [ev_exit, ev_seq, ev_region, regK_some, evOpers_nil, evOpers_cons, stepK_pure, put_some, evX_t, evX_c, outR_some, op_bin, andThen_normal, andThen_exit, ev_cond, condK_false, List.set_cons_zero, List.set_cons_succ, List.getD_cons_zero, List.getD_cons_succ, List.length_cons, List.length_nil, Nat.reduceAdd, Nat.zero_add, Nat.add_zero, decide_false, N_lss, Nat.reduceAdd, Nat.lt_irrefl, decide_false, L24b0]
      rfl
    · rintro st ⟨H, rfl, h0, h1, h2⟩ rfl
      have e : aB 32 (outP s' 8) = aB 32 (outB s') := aB_ext 32 fun j hj => by simp only [outP]; rw [if_pos (by omega)]
      rw [e] at h2
      simp (disch := first | omega | decide | simp only [nms_B8, nms_B32, nms_B64, nms_I, nms_N, nms_Bo, nms_Un, nms_undef, nms_Hf, nms_ptr, nms_sl, aB_agg_nms, aW_agg_nms, aD_agg_nms, aO_agg_nms, List.flatMap_cons, List.flatMap_nil, List.nil_append, List.append_nil, ren_B8, ren_B32, ren_B64, ren_I, ren_N, ren_Bo, ren_Un, ren_undef, ren_Hf, aB_agg_ren, aW_agg_ren, aD_agg_ren, aO_agg_ren, List.map_cons, List.map_nil, ren7_I, ren7_N, ren7_Bo, ren7_B8, ren7_B32, ren7_B64, nms7_I, nms7_N, nms7_Bo, nms7_B8, nms7_B32, nms7_B64, nms_tup, ren_tup, implies_true, l17, l18, l19, l20, l36, l37, l38, l39, l43, l21, l22, l24, l25, l33, l35, l40, l42, l14, l27, bs_isCell, bs_nms, bs_ren, ibs_nms, ibs_ren, bs_length, aW_isCell, aB_isCell, isCell_sl, isCell_isl, isCell_nil, isCell_ptr, isCell_N]) only [ev_ret, ev_exit, ev_seq, ev_region, regK_some, evOpers_nil, evOpers_cons, stepK_pure, put_some, put_none, evX_t, evX_c, outR_some, op_bin, andThen_normal, andThen_exit, inBlock_exit, ev_cond, condK_false, retK_ret, List.set_cons_zero, List.set_cons_succ, List.getD_cons_zero, List.getD_cons_succ, List.length_cons, List.length_nil, Option.map_some, Nat.reduceAdd, upd_at, stepK_mod, cellsOf_agg, cellAt_ptr, ldK_some, op_ld, op_st, stV_ptr, if_true, Nat.zero_add, Nat.add_zero, decide_false, resVal_agg, aggV_some, aB_cells, aB_st_all, Nat.add_zero, Nat.zero_add, N_lss, Nat.reduceAdd, Nat.lt_irrefl, decide_false, Option.map_some, L24b0, h1, h2]
      rw [outOf_mem 1 _ _ [] (by simp only [canonNames, FUEL, reach_cons, reachK_some, reach_nil, List.flatMap_cons, List.flatMap_nil, List.nil_append, List.append_nil, List.map_nil, List.map_cons, List.contains_nil, Prod.mk.injEq, Bool.false_eq_true, and_true, if_false, Nat.zero_ne_one, List.filter_cons, List.filter_nil, bne_iff_ne, ne_eq, not_true_eq_false, upd_at, range_one, nms_nil, h0, aB_agg_nms, HsC_nms])]
      simp (disch := first | omega | decide | simp only [nms_B8, nms_B32, nms_B64, nms_I, nms_N, nms_Bo, nms_Un, nms_undef, nms_Hf, nms_ptr, nms_sl, aB_agg_nms, aW_agg_nms, aD_agg_nms, aO_agg_nms, List.flatMap_cons, List.flatMap_nil, List.nil_append, List.append_nil, ren_B8, ren_B32, ren_B64, ren_I, ren_N, ren_Bo, ren_Un, ren_undef, ren_Hf, aB_agg_ren, aW_agg_ren, aD_agg_ren, aO_agg_ren, List.map_cons, List.map_nil, ren7_I, ren7_N, ren7_Bo, ren7_B8, ren7_B32, ren7_B64, nms7_I, nms7_N, nms7_Bo, nms7_B8, nms7_B32, nms7_B64, nms_tup, ren_tup, implies_true, l17, l18, l19, l20, l36, l37, l38, l39, l43, l21, l22, l24, l25, l33, l35, l40, l42, l14, l27, bs_isCell, bs_nms, bs_ren, ibs_nms, ibs_ren, bs_length, aW_isCell, aB_isCell, isCell_sl, isCell_isl, isCell_nil, isCell_ptr, isCell_N]) only [List.map_cons, List.map_nil, Option.map_some, upd_at, Prod.mk.injEq, false_and, if_false, Nat.zero_ne_one, aB_agg_ren, ren_nil, List.filterMap_nil, Option.map_some, range_one, h0, HsC_ren]

/-! ### form B -/

def fJB (s : Nat → BitVec 32) (n : Nat) (len : Nat) (l : List (BitVec 8)) (i : Nat) (st : St) : Prop := ∃ (c : Option Nat) (H : Heap), st = ⟨[.ptr (0, 0) 0, .undef, .ptr (1, 0) 0, .ptr (1, 1) 0, .ptr (1, 2) 0, .sl (1, 4) 0 (zs n + 1 + i) c 1, .undef, .undef, .undef, .undef, .undef, .undef, .undef, .undef, .undef, .undef, .undef, .undef, .undef, .undef, .undef, .undef, .undef, .undef, .undef, N i, .undef, .undef, .undef, .undef, .undef, .undef, .undef, .undef, .undef, .undef, .undef, .undef, .undef, .undef, .undef, .undef, .undef, .undef, .undef, .undef, .undef, .undef, .undef, .undef, .undef, .undef, .undef, .undef, .undef, .undef, .undef, .undef, .undef, .undef, .undef, .undef, .undef, .undef, .undef, .undef, .undef, .undef, .undef, .undef, .undef, .undef, .undef, .undef, .undef, .undef, .undef, .undef, .undef, .undef, .undef, .undef], H, 2, 2⟩ ∧
  (c = none ∨ (i = 0 ∧ c = some (zs n + 1))) ∧ H (0, 0) = some (HsC s (.sl (0, 1) 0 len none 1) n) ∧ H (1, 0) = some (aB 32 fun _ => 0#8) ∧ H (1, 1) = some (aB 32 fun _ => 0#8) ∧ H (1, 2) = some (HsC s (.sl (1, 3) 0 len none 1) n) ∧ H (1, 4) = some (bs (fb n i)) ∧ H (1, 3) = some (bs (l.take len)) ∧ H (0, 1) = some (bs l)

set_option maxRecDepth 10000 in
theorem f_roundB (K k0 : Nat) (s : Nat → BitVec 32) (n : Nat) (len : Nat) (l : List (BitVec 8)) (hn : n ≤ 4611686018427387904) (i : Nat) (hi : i < 8) (st : St) (hI : fJB s n len l i st) :
    ∃ st1, ev (envC C k0) K L24b1 st = some (.normal, st1) ∧ fJB s n len l (i + 1) (canon L24k1 st1) := by
  obtain ⟨c, H, rfl, hc, h0, h1, h2, h3, hF, h13, h01⟩ := hI
  have hz := zs_lt n
  have hl := fb_length n i
  have hlen : ((BitVec.ofNat 64 n * 8#64) >>> (56 - 8 * i)).setWidth 8 = lenb n i := rfl
  have hx : H (1, 4) = some (bs (fb n i)) := hF
  have hfr : front (upd H (17, 0) (some (bs [lenb n i]))) 1 1 (.sl (17, 0) 0 1 (some 1) 1) = some (bs [lenb n i]) := front_bytes (17, 0) 0 1 (some 1) [lenb n i] (by simp only [upd_at, if_true]) (by simp)
  have hF' : upd H (17, 0) (some (bs [lenb n i])) (1, 4) = some (bs (fb n i)) := by simp only [upd_at, Prod.mk.injEq, Nat.reduceEqDiff, and_self, if_false, hF]
  have ha : ∃ ms, (ms = [] ∨ ms = [((1, 4), none)]) ∧ appX 18 1 1 1 (upd H (17, 0) (some (bs [lenb n i]))) [] (bs [lenb n i]) (.sl (1, 4) 0 (zs n + 1 + i) c 1) = some ⟨.sl (18, 0) 0 (zs n + 1 + i + 1) none 1, [bs (fb n (i + 1))], ms⟩ := by
    rcases hc with rfl | ⟨rfl, rfl⟩
    · refine ⟨_, .inr rfl, ?_⟩
      rw [appX_none 1 1 _ _ _ _ _ (by omega), hF', appN_bytes _ _ _ _ _ _ (by omega), List.drop_zero, List.take_of_length_le (by omega), ← fb_succ]
    · refine ⟨_, .inl rfl, ?_⟩
      rw [appX_full _ (1, 4) 0 _ _ _ _ hF' (by omega) (by omega) (by omega), List.drop_zero, List.take_of_length_le (by omega), ← fb_succ]
  obtain ⟨ms, hms, ha⟩ := ha
  rcases hms with rfl | rfl
  all_goals
    apply Exists.intro
    apply And.intro
    · simp (disch := first | omega | decide | simp only [nms_B8, nms_B32, nms_B64, nms_I, nms_N, nms_Bo, nms_Un, nms_undef, nms_Hf, nms_ptr, nms_sl, aB_agg_nms, aW_agg_nms, aD_agg_nms, aO_agg_nms, List.flatMap_cons, List.flatMap_nil, List.nil_append, List.append_nil, ren_B8, ren_B32, ren_B64, ren_I, ren_N, ren_Bo, ren_Un, ren_undef, ren_Hf, aB_agg_ren, aW_agg_ren, aD_agg_ren, aO_agg_ren, List.map_cons, List.map_nil, ren7_I, ren7_N, ren7_Bo, ren7_B8, ren7_B32, ren7_B64, nms7_I, nms7_N, nms7_Bo, nms7_B8, nms7_B32, nms7_B64, nms_tup, ren_tup, implies_true, l17, l18, l19, l20, l36, l37, l38, l39, l43, l21, l22, l24, l25, l33, l35, l40, l42, l14, l27, bs_isCell, bs_nms, bs_ren, ibs_nms, ibs_ren, bs_length, aW_isCell, aB_isCell, isCell_sl, isCell_isl, isCell_nil, isCell_ptr, isCell_N]) only [ev_skip, ev_seq, ev_block, ev_region, regK_some, evOpers_nil, evOpers_cons, stepK_pure, put_some, evX_t, evX_c, outR_some, op_mv, op_bin, op_cvt, andThen_normal, inBlock_normal, ev_cond, condK_true, List.set_cons_zero, List.set_cons_succ, List.getD_cons_zero, List.getD_cons_succ, List.map_cons, List.map_nil, List.length_cons, List.length_nil, B64_mul, cvt_64_8, Nat.reduceAdd, stepK_new, cellAt_ptr, ld1K_some, op_ld1, op_fa, faV_ptr, Nat.zero_add, Nat.add_zero, decide_true, Nat.add_zero, Nat.zero_add, N_add, N_sub, N_mul, N_lss, cvt_N_64, B64_shrN, Nat.reduceAdd, decide_true, op_chk, chkV_ptr, lenOf_sl, op_append, appK_some, appF_some, op_mkrow, rowK_some, stepK_nm, L24b1, hi, h0, Hs_n, hlen, fill1, hfr, ha]
      rfl
    · refine canon_inv [(1, 0), (1, 1), (1, 2), (1, 3), (18, 0)] rfl (by simp only [canonNames, FUEL, reach_cons, reachK_some, reach_nil, nms_ptr, nms_sl, nms_undef, List.flatMap_cons, List.flatMap_nil, List.nil_append, List.cons_append, List.append_nil, List.map_nil, List.map_cons, List.contains_nil, List.contains_cons, Prod.mk.injEq, beq_iff_eq, Bool.or_eq_true, Bool.false_eq_true, Nat.reduceEqDiff, and_true, and_false, or_false, or_true, if_true, if_false, Nat.one_ne_zero, Nat.zero_ne_one, List.filter_cons, List.filter_nil, bne_iff_ne, ne_eq, not_false_eq_true, not_true_eq_false, upd_at, mask_nil, mask_true, mask_false, range_two, nms_N, L24k1, h0, h1, h2, h3, h13, h01, aB_nms, HsC_nms, bs_nms]) rfl ⟨none, _, rfl, .inl rfl, ?_, ?_, ?_, ?_, ?_, ?_, ?_⟩
      · rw [cN_zero]; simp (disch := first | omega | decide | simp only [nms_B8, nms_B32, nms_B64, nms_I, nms_N, nms_Bo, nms_Un, nms_undef, nms_Hf, nms_ptr, nms_sl, aB_agg_nms, aW_agg_nms, aD_agg_nms, aO_agg_nms, List.flatMap_cons, List.flatMap_nil, List.nil_append, List.append_nil, ren_B8, ren_B32, ren_B64, ren_I, ren_N, ren_Bo, ren_Un, ren_undef, ren_Hf, aB_agg_ren, aW_agg_ren, aD_agg_ren, aO_agg_ren, List.map_cons, List.map_nil, ren7_I, ren7_N, ren7_Bo, ren7_B8, ren7_B32, ren7_B64, nms7_I, nms7_N, nms7_Bo, nms7_B8, nms7_B32, nms7_B64, nms_tup, ren_tup, implies_true, l17, l18, l19, l20, l36, l37, l38, l39, l43, l21, l22, l24, l25, l33, l35, l40, l42, l14, l27, bs_isCell, bs_nms, bs_ren, ibs_nms, ibs_ren, bs_length, aW_isCell, aB_isCell, isCell_sl, isCell_isl, isCell_nil, isCell_ptr, isCell_N]) only [Option.map_some, upd_at, Prod.mk.injEq, Nat.reduceEqDiff, and_true, and_self, if_false, Nat.zero_ne_one, canonMap_0, Option.map_some, ren_slF, slO_some, h0, HsC_ren]
      · exact cN_same (1, 0) rfl (by simp only [upd_at, Prod.mk.injEq, Nat.reduceEqDiff, and_true, and_false, if_false, h1]) (aB_ren _ _ _)
      · exact cN_same (1, 1) rfl (by simp only [upd_at, Prod.mk.injEq, Nat.reduceEqDiff, and_false, and_self, if_false, Nat.one_ne_zero, h2]) (aB_ren _ _ _)
      · rw [cN_one _ _ _ (1, 2) (HsC s (.sl (1, 3) 0 len none 1) n) rfl (by simp only [upd_at, Prod.mk.injEq, Nat.reduceEqDiff, and_false, and_self, if_false, h3]), HsC_ren]; rfl
      · exact cN_same (18, 0) rfl (by simp only [upd_at, Prod.mk.injEq, Nat.reduceEqDiff, and_true, and_self, if_true, if_false]) (bs_ren _ _)
      · exact cN_same (1, 3) rfl (by simp only [upd_at, Prod.mk.injEq, Nat.reduceEqDiff, and_false, and_self, if_false, h13]) (bs_ren _ _)
      · rw [cN_zero]; simp (disch := first | omega | decide | simp only [nms_B8, nms_B32, nms_B64, nms_I, nms_N, nms_Bo, nms_Un, nms_undef, nms_Hf, nms_ptr, nms_sl, aB_agg_nms, aW_agg_nms, aD_agg_nms, aO_agg_nms, List.flatMap_cons, List.flatMap_nil, List.nil_append, List.append_nil, ren_B8, ren_B32, ren_B64, ren_I, ren_N, ren_Bo, ren_Un, ren_undef, ren_Hf, aB_agg_ren, aW_agg_ren, aD_agg_ren, aO_agg_ren, List.map_cons, List.map_nil, ren7_I, ren7_N, ren7_Bo, ren7_B8, ren7_B32, ren7_B64, nms7_I, nms7_N, nms7_Bo, nms7_B8, nms7_B32, nms7_B64, nms_tup, ren_tup, implies_true, l17, l18, l19, l20, l36, l37, l38, l39, l43, l21, l22, l24, l25, l33, l35, l40, l42, l14, l27, bs_isCell, bs_nms, bs_ren, ibs_nms, ibs_ren, bs_length, aW_isCell, aB_isCell, isCell_sl, isCell_isl, isCell_nil, isCell_ptr, isCell_N]) only [Option.map_some, upd_at, Prod.mk.injEq, Nat.reduceEqDiff, and_self, if_false, Nat.one_ne_zero, Nat.zero_ne_one, Option.map_some, bs_ren, h01]

def gJB (s s' : Nat → BitVec 32) (n : Nat) (len : Nat) (l : List (BitVec 8)) (i : Nat) (st : St) : Prop := ∃ (H : Heap), st = ⟨[.undef, .undef, .ptr (1, 0) 0, .ptr (1, 1) 0, .undef, .undef, .undef, .undef, .undef, .undef, .undef, .undef, .undef, .undef, .undef, .undef, .undef, .undef, .undef, .undef, .undef, .undef, .undef, .undef, .undef, .undef, .undef, .undef, .undef, .undef, .undef, .undef, .undef, .undef, .undef, .undef, .undef, .undef, .undef, .undef, .undef, .undef, .undef, .undef, .undef, .undef, .undef, .undef, .undef, .agg (aW 8 s'), N i, .undef, .undef, .undef, .undef, .undef, .undef, .undef, .undef, .undef, .undef, .undef, .undef, .undef, .undef, .undef, .undef, .undef, .undef, .undef, .undef, .undef, .undef, .undef, .undef, .undef, .undef, .undef, .undef, .undef, .undef, .undef], H, 2, 2⟩ ∧
  H (0, 0) = some (HsC s (.sl (0, 1) 0 len none 1) n) ∧ H (1, 0) = some (aB 32 fun _ => 0#8) ∧ H (1, 1) = some (aB 32 (outP s' i)) ∧ H (0, 1) = some (bs l)

set_option maxRecDepth 10000 in
theorem g_roundB (K k0 : Nat) (s s' : Nat → BitVec 32) (n : Nat) (len : Nat) (l : List (BitVec 8)) (i : Nat) (hi : i < 8) (st : St) (hI : gJB s s' n len l i st) :
    ∃ st1, ev (envC C k0) K L24b0 st = some (.normal, st1) ∧ gJB s s' n len l (i + 1) (canon L24k0 st1) := by
  obtain ⟨H, rfl, h0, h1, h2, h01⟩ := hI
  apply Exists.intro
  apply And.intro
  · simp (disch := first | omega | decide | simp only [nms_B8, nms_B32, nms_B64, nms_I, nms_N, nms_Bo, nms_Un, nms_undef, nms_Hf, nms_ptr, nms_sl, aB_agg_nms, aW_agg_nms, aD_agg_nms, aO_agg_nms, List.flatMap_cons, List.flatMap_nil, List.nil_append, List.append_nil, ren_B8, ren_B32, ren_B64, ren_I, ren_N, ren_Bo, ren_Un, ren_undef, ren_Hf, aB_agg_ren, aW_agg_ren, aD_agg_ren, aO_agg_ren, List.map_cons, List.map_nil, ren7_I, ren7_N, ren7_Bo, ren7_B8, ren7_B32, ren7_B64, nms7_I, nms7_N, nms7_Bo, nms7_B8, nms7_B32, nms7_B64, nms_tup, ren_tup, implies_true, l17, l18, l19, l20, l36, l37, l38, l39, l43, l21, l22, l24, l25, l33, l35, l40, l42, l14, l27, bs_isCell, bs_nms, bs_ren, ibs_nms, ibs_ren, bs_length, aW_isCell, aB_isCell, isCell_sl, isCell_isl, isCell_nil, isCell_ptr, isCell_N]) only [ev_skip, ev_seq, ev_block, ev_region, regK_some, evOpers_nil, evOpers_cons, stepK_pure, put_some, put_none, evX_t, evX_c, outR_some, op_mv, op_bin, op_cvt, andThen_normal, inBlock_normal, ev_cond, condK_true, List.set_cons_zero, List.set_cons_succ, List.getD_cons_zero, List.getD_cons_succ, List.length_cons, List.length_nil, B32_shr64, cvt_32_8, BitVec.toNat_ofNat, Nat.reduceAdd, upd_at, stepK_mod, cellsOf_B8, op_st, stV_ptr, op_iaA, iaV_lt, if_true, Nat.zero_add, Nat.add_zero, decide_true, Nat.reducePow, Nat.reduceMod, op_ix1, aB_st, aW_ix1, Nat.mul_one, Nat.add_zero, Nat.zero_add, N_add, N_mul, N_lss, N_nat, Nat.reduceAdd, Nat.reduceMod, decide_true, L24b0, hi, h2]
    rfl
  · refine canon_inv [(1, 0), (1, 1)] rfl (by simp only [canonNames, FUEL, reach_cons, reachK_some, reach_nil, nms_ptr, nms_sl, nms_undef, List.flatMap_cons, List.flatMap_nil, List.nil_append, List.cons_append, List.append_nil, List.map_nil, List.map_cons, List.contains_nil, List.contains_cons, Prod.mk.injEq, beq_iff_eq, Bool.or_eq_true, Bool.false_eq_true, and_true, and_false, or_false, or_true, if_true, if_false, Nat.one_ne_zero, Nat.zero_ne_one, List.filter_cons, List.filter_nil, bne_iff_ne, ne_eq, not_false_eq_true, not_true_eq_false, upd_at, mask_nil, mask_true, mask_false, range_two, nms_N, L24k0, h0, h1, h2, h01, aB_nms, HsC_nms, bs_nms, aW_agg_nms]) rfl ⟨_, rfl, ?_, ?_, ?_, ?_⟩
    · rw [cN_zero]; simp (disch := first | omega | decide | simp only [nms_B8, nms_B32, nms_B64, nms_I, nms_N, nms_Bo, nms_Un, nms_undef, nms_Hf, nms_ptr, nms_sl, aB_agg_nms, aW_agg_nms, aD_agg_nms, aO_agg_nms, List.flatMap_cons, List.flatMap_nil, List.nil_append, List.append_nil, ren_B8, ren_B32, ren_B64, ren_I, ren_N, ren_Bo, ren_Un, ren_undef, ren_Hf, aB_agg_ren, aW_agg_ren, aD_agg_ren, aO_agg_ren, List.map_cons, List.map_nil, ren7_I, ren7_N, ren7_Bo, ren7_B8, ren7_B32, ren7_B64, nms7_I, nms7_N, nms7_Bo, nms7_B8, nms7_B32, nms7_B64, nms_tup, ren_tup, implies_true, l17, l18, l19, l20, l36, l37, l38, l39, l43, l21, l22, l24, l25, l33, l35, l40, l42, l14, l27, bs_isCell, bs_nms, bs_ren, ibs_nms, ibs_ren, bs_length, aW_isCell, aB_isCell, isCell_sl, isCell_isl, isCell_nil, isCell_ptr, isCell_N]) only [Option.map_some, upd_at, Prod.mk.injEq, and_self, if_false, Nat.zero_ne_one, canonMap_0, Option.map_some, ren_slF, slO_some, h0, HsC_ren]
    · exact cN_same (1, 0) rfl (by simp only [upd_at, Prod.mk.injEq, and_false, if_false, Nat.zero_ne_one, h1]) (aB_ren _ _ _)
    · rw [outP_succ]; exact cN_same (1, 1) rfl (by simp only [upd_at, if_true]) (aB_ren _ _ _)
    · rw [cN_zero]; simp (disch := first | omega | decide | simp only [nms_B8, nms_B32, nms_B64, nms_I, nms_N, nms_Bo, nms_Un, nms_undef, nms_Hf, nms_ptr, nms_sl, aB_agg_nms, aW_agg_nms, aD_agg_nms, aO_agg_nms, List.flatMap_cons, List.flatMap_nil, List.nil_append, List.append_nil, ren_B8, ren_B32, ren_B64, ren_I, ren_N, ren_Bo, ren_Un, ren_undef, ren_Hf, aB_agg_ren, aW_agg_ren, aD_agg_ren, aO_agg_ren, List.map_cons, List.map_nil, ren7_I, ren7_N, ren7_Bo, ren7_B8, ren7_B32, ren7_B64, nms7_I, nms7_N, nms7_Bo, nms7_B8, nms7_B32, nms7_B64, nms_tup, ren_tup, implies_true, l17, l18, l19, l20, l36, l37, l38, l39, l43, l21, l22, l24, l25, l33, l35, l40, l42, l14, l27, bs_isCell, bs_nms, bs_ren, ibs_nms, ibs_ren, bs_length, aW_isCell, aB_isCell, isCell_sl, isCell_isl, isCell_nil, isCell_ptr, isCell_N]) only [Option.map_some, upd_at, Prod.mk.injEq, and_true, if_false, Nat.zero_ne_one, Option.map_some, bs_ren, h01]

set_option maxRecDepth 10000 in
theorem sumB (k : Nat) (s : Nat → BitVec 32) (n : Nat) (len : Nat) (l : List (BitVec 8)) (hn : n ≤ 4611686018427387000) (hl : len ≤ l.length) (h0 : 0 < len) (hlb : len ≤ 211106232000000):
    F C (k + (l.take len ++ fb n 8).length / 64 + 101) 24 [.ptr (0, 0) 0] [HsC s (.sl (0, 1) 0 len none 1) n, bs l] = some (.agg (aB 32 (outB (absN (l.take len ++ fb n 8) s ((l.take len ++ fb n 8).length / 64)))), [some (HsC s (.sl (0, 1) 0 len none 1) n), some (bs l)], []) := by
  have hz := zs_lt n
  have hfl := fb_length n 8
  obtain ⟨m, hm⟩ : ∃ m, m = l.take len ++ fb n 8 := ⟨_, rfl⟩
  rw [← hm]
  rw [F_succ f24]
  have hfork := ptr_callG (k + m.length / 64 + 100) 7 22 l22 (upd (upd (inHeap [HsC s (.sl (0, 1) 0 len none 1) n, bs l]) (2, 0) (some (aB 32 fun _ => 0#8))) (3, 0) (some (aB 32 fun _ => 0#8))) (0, 0) (0, 1) s n len none l rfl rfl (by decide)
    (.ptr (1, 0) 0) (.ptr (7, 0) 0) [HsC s (.sl (1, 1) 0 len none 1) n, bs (l.take len)] [HsC s (.sl (7, 1) 0 len none 1) n, bs (l.take len)] (forkG (k + m.length / 64 + 98) s n len len none none l (l.take len) (clone_F _ len l hl h0 (by omega))) rfl (by
      simp only [List.map_cons, List.map_nil, HsC_ren, bs_ren]; rfl)
  have hzs : (119 - n % 64) % 64 = zs n := rfl
  have hst : ∀ nm : Nm, stK 1 0 nm (some [B8 128#8]) (some (bs (List.replicate (zs n + 1) 0#8))) = some ⟨Un, [], [(nm, some (bs (fb n 0)))]⟩ := by
    intro nm; rw [bs_st _ _ _ _ (by simp), ← fb_zero]
  simp (disch := first | omega | decide | simp only [nms_B8, nms_B32, nms_B64, nms_I, nms_N, nms_Bo, nms_Un, nms_undef, nms_Hf, nms_ptr, nms_sl, aB_agg_nms, aW_agg_nms, aD_agg_nms, aO_agg_nms, List.flatMap_cons, List.flatMap_nil, List.nil_append, List.append_nil, ren_B8, ren_B32, ren_B64, ren_I, ren_N, ren_Bo, ren_Un, ren_undef, ren_Hf, aB_agg_ren, aW_agg_ren, aD_agg_ren, aO_agg_ren, List.map_cons, List.map_nil, ren7_I, ren7_N, ren7_Bo, ren7_B8, ren7_B32, ren7_B64, nms7_I, nms7_N, nms7_Bo, nms7_B8, nms7_B32, nms7_B64, nms_tup, ren_tup, implies_true, l17, l18, l19, l20, l36, l37, l38, l39, l43, l21, l22, l24, l25, l33, l35, l40, l42, l14, l27, bs_isCell, bs_nms, bs_ren, ibs_nms, ibs_ren, bs_length, aW_isCell, aB_isCell, isCell_sl, isCell_isl, isCell_nil, isCell_ptr, isCell_N]) only [funSem_eq, ev_skip, ev_seq, ev_block, ev_region, regK_some, evOpers_nil, evOpers_cons, stepK_pure, put_some, put_none, evX_t, evX_c, outR_some, op_mv, op_bin, op_call, callV_fn, andThen_normal, ev_cond, condK_false, List.set_cons_zero, List.set_cons_succ, List.getD_cons_zero, List.getD_cons_succ, List.map_cons, List.map_nil, List.nil_append, List.cons_append, repUn_succ, List.replicate_zero, List.length_cons, List.length_nil, ev_loop, Nat.reduceAdd, Nat.reduceSub, upd_at, stepK_new, stepK_mod, cellsOf_B8, cellAt_ptr, ld1K_some, op_ld1, op_new, op_st, stV_ptr, op_fa, faV_ptr, Prod.mk.injEq, Nat.reduceEqDiff, and_true, and_false, and_self, if_true, if_false, Nat.zero_add, Nat.add_zero, Nat.zero_ne_one, aB_rep, Nat.mul_one, Nat.add_zero, Nat.zero_add, N_add, N_sub, N_rem, N_nat, Nat.reduceEqDiff, Nat.reduceAdd, op_chk, chkV_ptr, eqp_ptr, op_iaS, iaSV_sl, op_mkslice, Nat.mul_one, inHeap_at, inHeap_none, List.getElem?_cons_zero, stepK_n2m2, L24, Hs_n, hfork, mk_bytes, hzs, hst]
  generalize hL : loopN L24k1 _ _ _ = r
  refine loop_use hL (fJB s n len l) 8 (by omega) (fun i st hi hI => f_roundB _ _ s n len l (by omega) i hi st hI) ?_ ?_ ?_
  · refine canon_inv [(2, 0), (3, 0), (7, 0), (7, 1), (17, 0)] rfl (by simp only [canonNames, FUEL, reach_cons, reachK_some, reach_nil, nms_ptr, nms_sl, nms_undef, List.flatMap_cons, List.flatMap_nil, List.nil_append, List.cons_append, List.append_nil, List.map_nil, List.map_cons, List.contains_nil, List.contains_cons, Prod.mk.injEq, beq_iff_eq, Bool.or_eq_true, Bool.false_eq_true, Nat.reduceEqDiff, and_true, and_false, or_false, or_true, if_true, if_false, Nat.one_ne_zero, Nat.zero_ne_one, List.filter_cons, List.filter_nil, bne_iff_ne, ne_eq, not_false_eq_true, not_true_eq_false, upd_at, mask_nil, mask_true, mask_false, inHeap_at, inHeap_none, range_two, List.getElem?_cons_zero, List.getElem?_cons_succ, nms_N, L24k1, aB_nms, HsC_nms, bs_nms]) rfl ⟨some (zs n + 1), _, rfl, .inr ⟨rfl, rfl⟩, ?_, ?_, ?_, ?_, ?_, ?_, ?_⟩
    · rw [cN_zero]; simp (disch := first | omega | decide | simp only [nms_B8, nms_B32, nms_B64, nms_I, nms_N, nms_Bo, nms_Un, nms_undef, nms_Hf, nms_ptr, nms_sl, aB_agg_nms, aW_agg_nms, aD_agg_nms, aO_agg_nms, List.flatMap_cons, List.flatMap_nil, List.nil_append, List.append_nil, ren_B8, ren_B32, ren_B64, ren_I, ren_N, ren_Bo, ren_Un, ren_undef, ren_Hf, aB_agg_ren, aW_agg_ren, aD_agg_ren, aO_agg_ren, List.map_cons, List.map_nil, ren7_I, ren7_N, ren7_Bo, ren7_B8, ren7_B32, ren7_B64, nms7_I, nms7_N, nms7_Bo, nms7_B8, nms7_B32, nms7_B64, nms_tup, ren_tup, implies_true, l17, l18, l19, l20, l36, l37, l38, l39, l43, l21, l22, l24, l25, l33, l35, l40, l42, l14, l27, bs_isCell, bs_nms, bs_ren, ibs_nms, ibs_ren, bs_length, aW_isCell, aB_isCell, isCell_sl, isCell_isl, isCell_nil, isCell_ptr, isCell_N]) only [Option.map_some, upd_at, Prod.mk.injEq, Nat.reduceEqDiff, and_true, and_false, and_self, if_true, if_false, Nat.zero_ne_one, canonMap_0, Option.map_some, inHeap_at, List.getElem?_cons_zero, ren_slF, slO_some, HsC_ren]
    · exact cN_same (2, 0) rfl (by simp only [upd_at, Prod.mk.injEq, Nat.reduceEqDiff, and_true, and_self, if_true, if_false, Nat.zero_ne_one]) (aB_ren _ _ _)
    · exact cN_same (3, 0) rfl (by simp only [upd_at, Prod.mk.injEq, Nat.reduceEqDiff, and_true, and_self, if_true, if_false, Nat.zero_ne_one]) (aB_ren _ _ _)
    · rw [cN_one _ _ _ (7, 0) (HsC s (.sl (7, 1) 0 len none 1) n) rfl (by simp only [upd_at, Prod.mk.injEq, Nat.reduceEqDiff, and_true, and_false, and_self, if_true, if_false, Nat.zero_ne_one]), HsC_ren]; rfl
    · exact cN_same (17, 0) rfl (by simp only [upd_at, Prod.mk.injEq, Nat.reduceEqDiff, and_true, and_self, if_true, if_false, Nat.zero_ne_one]) (bs_ren _ _)
    · exact cN_same (7, 1) rfl (by simp only [upd_at, Prod.mk.injEq, Nat.reduceEqDiff, and_true, and_false, and_self, if_true, if_false, Nat.one_ne_zero]) (bs_ren _ _)
    · rw [cN_zero]; simp (disch := first | omega | decide | simp only [nms_B8, nms_B32, nms_B64, nms_I, nms_N, nms_Bo, nms_Un, nms_undef, nms_Hf, nms_ptr, nms_sl, aB_agg_nms, aW_agg_nms, aD_agg_nms, aO_agg_nms, List.flatMap_cons, List.flatMap_nil, List.nil_append, List.append_nil, ren_B8, ren_B32, ren_B64, ren_I, ren_N, ren_Bo, ren_Un, ren_undef, ren_Hf, aB_agg_ren, aW_agg_ren, aD_agg_ren, aO_agg_ren, List.map_cons, List.map_nil, ren7_I, ren7_N, ren7_Bo, ren7_B8, ren7_B32, ren7_B64, nms7_I, nms7_N, nms7_Bo, nms7_B8, nms7_B32, nms7_B64, nms_tup, ren_tup, implies_true, l17, l18, l19, l20, l36, l37, l38, l39, l43, l21, l22, l24, l25, l33, l35, l40, l42, l14, l27, bs_isCell, bs_nms, bs_ren, ibs_nms, ibs_ren, bs_length, aW_isCell, aB_isCell, isCell_sl, isCell_isl, isCell_nil, isCell_ptr, isCell_N]) only [Option.map_some, upd_at, Prod.mk.injEq, Nat.reduceEqDiff, and_true, and_false, and_self, if_true, if_false, Nat.one_ne_zero, Option.map_some, bs_ren, inHeap_at, List.getElem?_cons_zero, List.getElem?_cons_succ, bs_ren]
  · rintro st ⟨c, H, rfl, hc, h0, h1, h2, h3, hF, h13, h01⟩
    apply stop_exit
    simp (disch := first | omega | decide | simp only [nms_B8, nms_B32, nms_B64, nms_I, nms_N, nms_Bo, nms_Un, nms_undef, nms_Hf, nms_ptr, nms_sl, aB_agg_nms, aW_agg_nms, aD_agg_nms, aO_agg_nms, List.flatMap_cons, List.flatMap_nil, List.nil_append, List.append_nil, ren_B8, ren_B32, ren_B64, ren_I, ren_N, ren_Bo, ren_Un, ren_undef, ren_Hf, aB_agg_ren, aW_agg_ren, aD_agg_ren, aO_agg_ren, List.map_cons, List.map_nil, ren7_I, ren7_N, ren7_Bo, ren7_B8, ren7_B32, ren7_B64, nms7_I, nms7_N, nms7_Bo, nms7_B8, nms7_B32, nms7_B64, nms_tup, ren_tup, implies_true, l17, l18, l19, l20, l36, l37, l38, l39, l43, l21, l22, l24, l25, l33, l35, l40, l42, l14, l27, bs_isCell, bs_nms, bs_ren, ibs_nms, ibs_ren, bs_length, aW_isCell, aB_isCell, isCell_sl, isCell_isl, isCell_nil, isCell_ptr, isCell_N]) only [ev_exit, ev_seq, ev_region, regK_some, evOpers_nil, evOpers_cons, stepK_pure, put_some, evX_t, evX_c, outR_some, op_bin, andThen_normal, andThen_exit, ev_cond, condK_false, List.set_cons_zero, List.set_cons_succ, List.getD_cons_zero, List.getD_cons_succ, List.length_cons, List.length_nil, Nat.reduceAdd, Nat.zero_add, Nat.add_zero, decide_false, N_lss, Nat.reduceAdd, Nat.lt_irrefl, decide_false, L24b1]
    rfl
  · rintro st ⟨c, H, rfl, hc, h0, h1, h2, h3, hF, h13, h01⟩ rfl
    clear hL
    have hlt : (l.take len).length = len := by rw [List.length_take, Nat.min_eq_left hl]
    have hmt : m = (l.take len).take len ++ fb n 8 := by rw [hm, List.take_take, Nat.min_self]
    have hml : m.length = len + (fb n 8).length := by rw [hm, List.length_append, hlt]
    obtain ⟨l', hw, _, _⟩ := writeB k s n len (l.take len) (by omega) (fb n 8) m hmt (by omega) (by omega)
    have hB := lent_sl H (1, 4) 0 (zs n + 1 + 8) c (fb n 8) [(1, 2), (1, 3)] hF (by omega) rfl
    rw [List.drop_zero, List.take_of_length_le (by omega)] at hB
    have hcall := fun b => write_callG _ b H (1, 2) (1, 3) s _ n _ _ len none _ (fb n 8) (l.take len) l' none h3 h13 (by decide) hB hw
    obtain ⟨s', hs'⟩ : ∃ s', s' = absN m s (m.length / 64) := ⟨_, rfl⟩
    rw [← hs'] at hcall ⊢
    simp (disch := first | omega | decide | simp only [nms_B8, nms_B32, nms_B64, nms_I, nms_N, nms_Bo, nms_Un, nms_undef, nms_Hf, nms_ptr, nms_sl, aB_agg_nms, aW_agg_nms, aD_agg_nms, aO_agg_nms, List.flatMap_cons, List.flatMap_nil, List.nil_append, List.append_nil, ren_B8, ren_B32, ren_B64, ren_I, ren_N, ren_Bo, ren_Un, ren_undef, ren_Hf, aB_agg_ren, aW_agg_ren, aD_agg_ren, aO_agg_ren, List.map_cons, List.map_nil, ren7_I, ren7_N, ren7_Bo, ren7_B8, ren7_B32, ren7_B64, nms7_I, nms7_N, nms7_Bo, nms7_B8, nms7_B32, nms7_B64, nms_tup, ren_tup, implies_true, l17, l18, l19, l20, l36, l37, l38, l39, l43, l21, l22, l24, l25, l33, l35, l40, l42, l14, l27, bs_isCell, bs_nms, bs_ren, ibs_nms, ibs_ren, bs_length, aW_isCell, aB_isCell, isCell_sl, isCell_isl, isCell_nil, isCell_ptr, isCell_N]) only [ev_exit, ev_seq, ev_block, ev_region, regK_some, evOpers_nil, evOpers_cons, stepK_pure, put_some, evX_t, evX_c, outR_some, op_mv, op_bin, op_call, callV_fn, andThen_normal, andThen_exit, inBlock_exit, ev_cond, condK_false, List.set_cons_zero, List.set_cons_succ, List.getD_cons_zero, List.getD_cons_succ, List.map_cons, List.map_nil, List.length_cons, List.length_nil, ev_loop, Nat.reduceAdd, upd_at, cellAt_ptr, ldK_some, op_ld, op_fa, faV_ptr, Prod.mk.injEq, Nat.reduceEqDiff, and_false, and_self, if_true, if_false, Nat.zero_add, Nat.add_zero, decide_false, Nat.add_zero, Nat.zero_add, N_lss, Nat.reduceEqDiff, Nat.reduceAdd, Nat.lt_irrefl, decide_false, op_chk, chkV_ptr, Option.map_none, stepK_nm2, L24b1, hcall, Hs_state]
    generalize hL : loopN L24k0 _ _ _ = r
    refine loop_use hL (gJB s s' n len l) 8 (by omega) (fun i st hi hI => g_roundB _ _ s s' n len l i hi st hI) ?_ ?_ ?_
    · refine canon_inv [(1, 0), (1, 1)] rfl (by simp only [canonNames, FUEL, reach_cons, reachK_some, reach_nil, nms_ptr, nms_sl, nms_undef, List.flatMap_cons, List.flatMap_nil, List.nil_append, List.cons_append, List.append_nil, List.map_nil, List.map_cons, List.contains_nil, List.contains_cons, Prod.mk.injEq, beq_iff_eq, Bool.or_eq_true, Bool.false_eq_true, Nat.reduceEqDiff, and_true, and_false, or_false, or_true, if_true, if_false, Nat.one_ne_zero, Nat.zero_ne_one, List.filter_cons, List.filter_nil, bne_iff_ne, ne_eq, not_false_eq_true, not_true_eq_false, upd_at, mask_nil, mask_true, mask_false, range_two, nms_N, L24k0, h0, h1, h2, h01, aB_nms, HsC_nms, bs_nms, aW_agg_nms]) rfl ⟨_, rfl, ?_, ?_, ?_, ?_⟩
      · rw [cN_zero]; simp (disch := first | omega | decide | simp only [nms_B8, nms_B32, nms_B64, nms_I, nms_N, nms_Bo, nms_Un, nms_undef, nms_Hf, nms_ptr, nms_sl, aB_agg_nms, aW_agg_nms, aD_agg_nms, aO_agg_nms, List.flatMap_cons, List.flatMap_nil, List.nil_append, List.append_nil, ren_B8, ren_B32, ren_B64, ren_I, ren_N, ren_Bo, ren_Un, ren_undef, ren_Hf, aB_agg_ren, aW_agg_ren, aD_agg_ren, aO_agg_ren, List.map_cons, List.map_nil, ren7_I, ren7_N, ren7_Bo, ren7_B8, ren7_B32, ren7_B64, nms7_I, nms7_N, nms7_Bo, nms7_B8, nms7_B32, nms7_B64, nms_tup, ren_tup, implies_true, l17, l18, l19, l20, l36, l37, l38, l39, l43, l21, l22, l24, l25, l33, l35, l40, l42, l14, l27, bs_isCell, bs_nms, bs_ren, ibs_nms, ibs_ren, bs_length, aW_isCell, aB_isCell, isCell_sl, isCell_isl, isCell_nil, isCell_ptr, isCell_N]) only [Option.map_some, upd_at, Prod.mk.injEq, Nat.reduceEqDiff, and_true, and_self, if_false, Nat.zero_ne_one, canonMap_0, Option.map_some, ren_slF, slO_some, h0, HsC_ren]
      · exact cN_same (1, 0) rfl (by simp only [upd_at, Prod.mk.injEq, Nat.reduceEqDiff, and_true, and_false, if_false, h1]) (aB_ren _ _ _)
      · rw [show outP s' 0 = fun _ => 0#8 by funext j; simp [outP]]
        exact cN_same (1, 1) rfl (by simp only [upd_at, Prod.mk.injEq, Nat.reduceEqDiff, and_false, and_self, if_false, Nat.one_ne_zero, h2]) (aB_ren _ _ _)
      · rw [cN_zero]; simp (disch := first | omega | decide | simp only [nms_B8, nms_B32, nms_B64, nms_I, nms_N, nms_Bo, nms_Un, nms_undef, nms_Hf, nms_ptr, nms_sl, aB_agg_nms, aW_agg_nms, aD_agg_nms, aO_agg_nms, List.flatMap_cons, List.flatMap_nil, List.nil_append, List.append_nil, ren_B8, ren_B32, ren_B64, ren_I, ren_N, ren_Bo, ren_Un, ren_undef, ren_Hf, aB_agg_ren, aW_agg_ren, aD_agg_ren, aO_agg_ren, List.map_cons, List.map_nil, ren7_I, ren7_N, ren7_Bo, ren7_B8, ren7_B32, ren7_B64, nms7_I, nms7_N, nms7_Bo, nms7_B8, nms7_B32, nms7_B64, nms_tup, ren_tup, implies_true, l17, l18, l19, l20, l36, l37, l38, l39, l43, l21, l22, l24, l25, l33, l35, l40, l42, l14, l27, bs_isCell, bs_nms, bs_ren, ibs_nms, ibs_ren, bs_length, aW_isCell, aB_isCell, isCell_sl, isCell_isl, isCell_nil, isCell_ptr, isCell_N]) only [Option.map_some, upd_at, Prod.mk.injEq, Nat.reduceEqDiff, and_self, if_false, Nat.one_ne_zero, Nat.zero_ne_one, Option.map_some, bs_ren, h01, bs_ren]
    · rintro st ⟨H, rfl, h0, h1, h2, h01⟩
      apply stop_exit
      simp (disch := first | omega | decide | simp only [nms_B8, nms_B32, nms_B64, nms_I, nms_N, nms_Bo, nms_Un, nms_undef, nms_Hf, nms_ptr, nms_sl, aB_agg_nms, aW_agg_nms, aD_agg_nms, aO_agg_nms, List.flatMap_cons, List.flatMap_nil, List.nil_append, List.append_nil, ren_B8, ren_B32, ren_B64, ren_I, ren_N, ren_Bo, ren_Un, ren_undef, ren_Hf, aB_agg_ren, aW_agg_ren, aD_agg_ren, aO_agg_ren, List.map_cons, List.map_nil, ren7_I, ren7_N, ren7_Bo, ren7_B8, ren7_B32, ren7_B64, nms7_I, nms7_N, nms7_Bo, nms7_B8, nms7_B32, nms7_B64, nms_tup, ren_tup, implies_true, l17, l18, l19, l20, l36, l37, l38, l39, l43, l21, l22, l24, l25, l33, l35, l40, l42, l14, l27, bs_isCell, bs_nms, bs_ren, ibs_nms, ibs_ren, bs_length, aW_isCell, aB_isCell, isCell_sl, isCell_isl, isCell_nil, isCell_ptr, isCell_N]) only [ev_exit, ev_seq, ev_region, regK_some, evOpers_nil, evOpers_cons, stepK_pure, put_some, evX_t, evX_c, outR_some, op_bin, andThen_normal, andThen_exit, ev_cond, condK_false, List.set_cons_zero, List.set_cons_succ, List.getD_cons_zero, List.getD_cons_succ, List.length_cons, List.length_nil, Nat.reduceAdd, Nat.zero_add, Nat.add_zero, decide_false, N_lss, Nat.reduceAdd, Nat.lt_irrefl, decide_false, L24b0]
      rfl
    · rintro st ⟨H, rfl, h0, h1, h2, h01⟩ rfl
      have e : aB 32 (outP s' 8) = aB 32 (outB s') := aB_ext 32 fun j hj => by simp only [outP]; rw [if_pos (by omega)]
      rw [e] at h2
      simp (disch := first | omega | decide | simp only [nms_B8, nms_B32, nms_B64, nms_I, nms_N, nms_Bo, nms_Un, nms_undef, nms_Hf, nms_ptr, nms_sl, aB_agg_nms, aW_agg_nms, aD_agg_nms, aO_agg_nms, List.flatMap_cons, List.flatMap_nil, List.nil_append, List.append_nil, ren_B8, ren_B32, ren_B64, ren_I, ren_N, ren_Bo, ren_Un, ren_undef, ren_Hf, aB_agg_ren, aW_agg_ren, aD_agg_ren, aO_agg_ren, List.map_cons, List.map_nil, ren7_I, ren7_N, ren7_Bo, ren7_B8, ren7_B32, ren7_B64, nms7_I, nms7_N, nms7_Bo, nms7_B8, nms7_B32, nms7_B64, nms_tup, ren_tup, implies_true, l17, l18, l19, l20, l36, l37, l38, l39, l43, l21, l22, l24, l25, l33, l35, l40, l42, l14, l27, bs_isCell, bs_nms, bs_ren, ibs_nms, ibs_ren, bs_length, aW_isCell, aB_isCell, isCell_sl, isCell_isl, isCell_nil, isCell_ptr, isCell_N]) only [ev_ret, ev_exit, ev_seq, ev_region, regK_some, evOpers_nil, evOpers_cons, stepK_pure, put_some, put_none, evX_t, evX_c, outR_some, op_bin, andThen_normal, andThen_exit, inBlock_exit, ev_cond, condK_false, retK_ret, List.set_cons_zero, List.set_cons_succ, List.getD_cons_zero, List.getD_cons_succ, List.length_cons, List.length_nil, Option.map_some, Nat.reduceAdd, upd_at, stepK_mod, cellsOf_agg, cellAt_ptr, ldK_some, op_ld, op_st, stV_ptr, if_true, Nat.zero_add, Nat.add_zero, decide_false, resVal_agg, aggV_some, aB_cells, aB_st_all, Nat.add_zero, Nat.zero_add, N_lss, Nat.reduceAdd, Nat.lt_irrefl, decide_false, Option.map_some, L24b0, h1, h2]
      rw [outOf_mem 2 _ _ [] (by simp only [canonNames, FUEL, reach_cons, reachK_some, reach_nil, nms_sl, List.flatMap_cons, List.flatMap_nil, List.nil_append, List.cons_append, List.append_nil, List.map_nil, List.map_cons, List.contains_nil, List.contains_cons, Prod.mk.injEq, beq_iff_eq, Bool.or_eq_true, Bool.false_eq_true, and_true, and_false, or_false, or_true, if_true, if_false, Nat.one_ne_zero, Nat.zero_ne_one, List.filter_cons, List.filter_nil, bne_iff_ne, ne_eq, not_true_eq_false, upd_at, range_two, h0, h01, aB_agg_nms, HsC_nms, bs_nms])]
      simp (disch := first | omega | decide | simp only [nms_B8, nms_B32, nms_B64, nms_I, nms_N, nms_Bo, nms_Un, nms_undef, nms_Hf, nms_ptr, nms_sl, aB_agg_nms, aW_agg_nms, aD_agg_nms, aO_agg_nms, List.flatMap_cons, List.flatMap_nil, List.nil_append, List.append_nil, ren_B8, ren_B32, ren_B64, ren_I, ren_N, ren_Bo, ren_Un, ren_undef, ren_Hf, aB_agg_ren, aW_agg_ren, aD_agg_ren, aO_agg_ren, List.map_cons, List.map_nil, ren7_I, ren7_N, ren7_Bo, ren7_B8, ren7_B32, ren7_B64, nms7_I, nms7_N, nms7_Bo, nms7_B8, nms7_B32, nms7_B64, nms_tup, ren_tup, implies_true, l17, l18, l19, l20, l36, l37, l38, l39, l43, l21, l22, l24, l25, l33, l35, l40, l42, l14, l27, bs_isCell, bs_nms, bs_ren, ibs_nms, ibs_ren, bs_length, aW_isCell, aB_isCell, isCell_sl, isCell_isl, isCell_nil, isCell_ptr, isCell_N]) only [List.map_cons, List.map_nil, Option.map_some, upd_at, Prod.mk.injEq, false_and, if_false, Nat.zero_ne_one, aB_agg_ren, canonMap_0, List.filterMap_nil, Option.map_some, bs_ren, range_two, ren_slF, slO_some, h0, h01, HsC_ren]

/-! ### form Z -/

def fJZ (s : Nat → BitVec 32) (n : Nat) (l : List (BitVec 8)) (i : Nat) (st : St) : Prop := ∃ (c : Option Nat) (H : Heap), st = ⟨[.ptr (0, 0) 0, .undef, .ptr (1, 0) 0, .ptr (1, 1) 0, .ptr (1, 2) 0, .sl (1, 4) 0 (zs n + 1 + i) c 1, .undef, .undef, .undef, .undef, .undef, .undef, .undef, .undef, .undef, .undef, .undef, .undef, .undef, .undef, .undef, .undef, .undef, .undef, .undef, N i, .undef, .undef, .undef, .undef, .undef, .undef, .undef, .undef, .undef, .undef, .undef, .undef, .undef, .undef, .undef, .undef, .undef, .undef, .undef, .undef, .undef, .undef, .undef, .undef, .undef, .undef, .undef, .undef, .undef, .undef, .undef, .undef, .undef, .undef, .undef, .undef, .undef, .undef, .undef, .undef, .undef, .undef, .undef, .undef, .undef, .undef, .undef, .undef, .undef, .undef, .undef, .undef, .undef, .undef, .undef, .undef], H, 2, 2⟩ ∧
  (c = none ∨ (i = 0 ∧ c = some (zs n + 1))) ∧ H (0, 0) = some (HsC s (.sl (0, 1) 0 0 none 1) n) ∧ H (1, 0) = some (aB 32 fun _ => 0#8) ∧ H (1, 1) = some (aB 32 fun _ => 0#8) ∧ H (1, 2) = some (HsC s (.sl (1, 3) 0 0 (some 0) 1) n) ∧ H (1, 4) = some (bs (fb n i)) ∧ H (1, 3) = some (bs []) ∧ H (0, 1) = some (bs l)

set_option maxRecDepth 10000 in
theorem f_roundZ (K k0 : Nat) (s : Nat → BitVec 32) (n : Nat) (l : List (BitVec 8)) (hn : n ≤ 4611686018427387904) (i : Nat) (hi : i < 8) (st : St) (hI : fJZ s n l i st) :
    ∃ st1, ev (envC C k0) K L24b1 st = some (.normal, st1) ∧ fJZ s n l (i + 1) (canon L24k1 st1) := by
  obtain ⟨c, H, rfl, hc, h0, h1, h2, h3, hF, h13, h01⟩ := hI
  have hz := zs_lt n
  have hl := fb_length n i
  have hlen : ((BitVec.ofNat 64 n * 8#64) >>> (56 - 8 * i)).setWidth 8 = lenb n i := rfl
  have hx : H (1, 4) = some (bs (fb n i)) := hF
  have hfr : front (upd H (17, 0) (some (bs [lenb n i]))) 1 1 (.sl (17, 0) 0 1 (some 1) 1) = some (bs [lenb n i]) := front_bytes (17, 0) 0 1 (some 1) [lenb n i] (by simp only [upd_at, if_true]) (by simp)
  have hF' : upd H (17, 0) (some (bs [lenb n i])) (1, 4) = some (bs (fb n i)) := by simp only [upd_at, Prod.mk.injEq, Nat.reduceEqDiff, and_self, if_false, hF]
  have ha : ∃ ms, (ms = [] ∨ ms = [((1, 4), none)]) ∧ appX 18 1 1 1 (upd H (17, 0) (some (bs [lenb n i]))) [] (bs [lenb n i]) (.sl (1, 4) 0 (zs n + 1 + i) c 1) = some ⟨.sl (18, 0) 0 (zs n + 1 + i + 1) none 1, [bs (fb n (i + 1))], ms⟩ := by
    rcases hc with rfl | ⟨rfl, rfl⟩
    · refine ⟨_, .inr rfl, ?_⟩
      rw [appX_none 1 1 _ _ _ _ _ (by omega), hF', appN_bytes _ _ _ _ _ _ (by omega), List.drop_zero, List.take_of_length_le (by omega), ← fb_succ]
    · refine ⟨_, .inl rfl, ?_⟩
      rw [appX_full _ (1, 4) 0 _ _ _ _ hF' (by omega) (by omega) (by omega), List.drop_zero, List.take_of_length_le (by omega), ← fb_succ]
  obtain ⟨ms, hms, ha⟩ := ha
  rcases hms with rfl | rfl
  all_goals
    apply Exists.intro
    apply And.intro
    · simp (disch := first | omega | decide | simp only [nms_B8, nms_B32, nms_B64, nms_I, nms_N, nms_Bo, nms_Un, nms_undef, nms_Hf, nms_ptr, nms_sl, aB_agg_nms, aW_agg_nms, aD_agg_nms, aO_agg_nms, List.flatMap_cons, List.flatMap_nil, List.nil_append, List.append_nil, ren_B8, ren_B32, ren_B64, ren_I, ren_N, ren_Bo, ren_Un, ren_undef, ren_Hf, aB_agg_ren, aW_agg_ren, aD_agg_ren, aO_agg_ren, List.map_cons, List.map_nil, ren7_I, ren7_N, ren7_Bo, ren7_B8, ren7_B32, ren7_B64, nms7_I, nms7_N, nms7_Bo, nms7_B8, nms7_B32, nms7_B64, nms_tup, ren_tup, implies_true, l17, l18, l19, l20, l36, l37, l38, l39, l43, l21, l22, l24, l25, l33, l35, l40, l42, l14, l27, bs_isCell, bs_nms, bs_ren, ibs_nms, ibs_ren, bs_length, aW_isCell, aB_isCell, isCell_sl, isCell_isl, isCell_nil, isCell_ptr, isCell_N]) only [ev_skip, ev_seq, ev_block, ev_region, regK_some, evOpers_nil, evOpers_cons, stepK_pure, put_some, evX_t, evX_c, outR_some, op_mv, op_bin, op_cvt, andThen_normal, inBlock_normal, ev_cond, condK_true, List.set_cons_zero, List.set_cons_succ, List.getD_cons_zero, List.getD_cons_succ, List.map_cons, List.map_nil, List.length_cons, List.length_nil, B64_mul, cvt_64_8, Nat.reduceAdd, stepK_new, cellAt_ptr, ld1K_some, op_ld1, op_fa, faV_ptr, Nat.zero_add, Nat.add_zero, decide_true, Nat.add_zero, Nat.zero_add, N_add, N_sub, N_mul, N_lss, cvt_N_64, B64_shrN, Nat.reduceAdd, decide_true, op_chk, chkV_ptr, lenOf_sl, op_append, appK_some, appF_some, op_mkrow, rowK_some, stepK_nm, L24b1, hi, h0, Hs_n, hlen, fill1, hfr, ha]
      rfl
    · refine canon_inv [(1, 0), (1, 1), (1, 2), (1, 3), (18, 0)] rfl (by simp only [canonNames, FUEL, reach_cons, reachK_some, reach_nil, nms_ptr, nms_sl, nms_undef, List.flatMap_cons, List.flatMap_nil, List.nil_append, List.cons_append, List.append_nil, List.map_nil, List.map_cons, List.contains_nil, List.contains_cons, Prod.mk.injEq, beq_iff_eq, Bool.or_eq_true, Bool.false_eq_true, Nat.reduceEqDiff, and_true, and_false, or_false, or_true, if_true, if_false, Nat.one_ne_zero, Nat.zero_ne_one, List.filter_cons, List.filter_nil, bne_iff_ne, ne_eq, not_false_eq_true, not_true_eq_false, upd_at, mask_nil, mask_true, mask_false, range_two, nms_N, L24k1, h0, h1, h2, h3, h13, h01, aB_nms, HsC_nms, bs_nms]) rfl ⟨none, _, rfl, .inl rfl, ?_, ?_, ?_, ?_, ?_, ?_, ?_⟩
      · rw [cN_zero]; simp (disch := first | omega | decide | simp only [nms_B8, nms_B32, nms_B64, nms_I, nms_N, nms_Bo, nms_Un, nms_undef, nms_Hf, nms_ptr, nms_sl, aB_agg_nms, aW_agg_nms, aD_agg_nms, aO_agg_nms, List.flatMap_cons, List.flatMap_nil, List.nil_append, List.append_nil, ren_B8, ren_B32, ren_B64, ren_I, ren_N, ren_Bo, ren_Un, ren_undef, ren_Hf, aB_agg_ren, aW_agg_ren, aD_agg_ren, aO_agg_ren, List.map_cons, List.map_nil, ren7_I, ren7_N, ren7_Bo, ren7_B8, ren7_B32, ren7_B64, nms7_I, nms7_N, nms7_Bo, nms7_B8, nms7_B32, nms7_B64, nms_tup, ren_tup, implies_true, l17, l18, l19, l20, l36, l37, l38, l39, l43, l21, l22, l24, l25, l33, l35, l40, l42, l14, l27, bs_isCell, bs_nms, bs_ren, ibs_nms, ibs_ren, bs_length, aW_isCell, aB_isCell, isCell_sl, isCell_isl, isCell_nil, isCell_ptr, isCell_N]) only [Option.map_some, upd_at, Prod.mk.injEq, Nat.reduceEqDiff, and_true, and_self, if_false, Nat.zero_ne_one, canonMap_0, Option.map_some, ren_slF, slO_some, h0, HsC_ren]
      · exact cN_same (1, 0) rfl (by simp only [upd_at, Prod.mk.injEq, Nat.reduceEqDiff, and_true, and_false, if_false, h1]) (aB_ren _ _ _)
      · exact cN_same (1, 1) rfl (by simp only [upd_at, Prod.mk.injEq, Nat.reduceEqDiff, and_false, and_self, if_false, Nat.one_ne_zero, h2]) (aB_ren _ _ _)
      · rw [cN_one _ _ _ (1, 2) (HsC s (.sl (1, 3) 0 0 (some 0) 1) n) rfl (by simp only [upd_at, Prod.mk.injEq, Nat.reduceEqDiff, and_false, and_self, if_false, h3]), HsC_ren]; rfl
      · exact cN_same (18, 0) rfl (by simp only [upd_at, Prod.mk.injEq, Nat.reduceEqDiff, and_true, and_self, if_true, if_false]) (bs_ren _ _)
      · exact cN_same (1, 3) rfl (by simp only [upd_at, Prod.mk.injEq, Nat.reduceEqDiff, and_false, and_self, if_false, h13]) (bs_ren _ _)
      · rw [cN_zero]; simp (disch := first | omega | decide | simp only [nms_B8, nms_B32, nms_B64, nms_I, nms_N, nms_Bo, nms_Un, nms_undef, nms_Hf, nms_ptr, nms_sl, aB_agg_nms, aW_agg_nms, aD_agg_nms, aO_agg_nms, List.flatMap_cons, List.flatMap_nil, List.nil_append, List.append_nil, ren_B8, ren_B32, ren_B64, ren_I, ren_N, ren_Bo, ren_Un, ren_undef, ren_Hf, aB_agg_ren, aW_agg_ren, aD_agg_ren, aO_agg_ren, List.map_cons, List.map_nil, ren7_I, ren7_N, ren7_Bo, ren7_B8, ren7_B32, ren7_B64, nms7_I, nms7_N, nms7_Bo, nms7_B8, nms7_B32, nms7_B64, nms_tup, ren_tup, implies_true, l17, l18, l19, l20, l36, l37, l38, l39, l43, l21, l22, l24, l25, l33, l35, l40, l42, l14, l27, bs_isCell, bs_nms, bs_ren, ibs_nms, ibs_ren, bs_length, aW_isCell, aB_isCell, isCell_sl, isCell_isl, isCell_nil, isCell_ptr, isCell_N]) only [Option.map_some, upd_at, Prod.mk.injEq, Nat.reduceEqDiff, and_self, if_false, Nat.one_ne_zero, Nat.zero_ne_one, Option.map_some, bs_ren, h01]

def gJZ (s s' : Nat → BitVec 32) (n : Nat) (l : List (BitVec 8)) (i : Nat) (st : St) : Prop := ∃ (H : Heap), st = ⟨[.undef, .undef, .ptr (1, 0) 0, .ptr (1, 1) 0, .undef, .undef, .undef, .undef, .undef, .undef, .undef, .undef, .undef, .undef, .undef, .undef, .undef, .undef, .undef, .undef, .undef, .undef, .undef, .undef, .undef, .undef, .undef, .undef, .undef, .undef, .undef, .undef, .undef, .undef, .undef, .undef, .undef, .undef, .undef, .undef, .undef, .undef, .undef, .undef, .undef, .undef, .undef, .undef, .undef, .agg (aW 8 s'), N i, .undef, .undef, .undef, .undef, .undef, .undef, .undef, .undef, .undef, .undef, .undef, .undef, .undef, .undef, .undef, .undef, .undef, .undef, .undef, .undef, .undef, .undef, .undef, .undef, .undef, .undef, .undef, .undef, .undef, .undef, .undef], H, 2, 2⟩ ∧
  H (0, 0) = some (HsC s (.sl (0, 1) 0 0 none 1) n) ∧ H (1, 0) = some (aB 32 fun _ => 0#8) ∧ H (1, 1) = some (aB 32 (outP s' i)) ∧ H (0, 1) = some (bs l)

set_option maxRecDepth 10000 in
theorem g_roundZ (K k0 : Nat) (s s' : Nat → BitVec 32) (n : Nat) (l : List (BitVec 8)) (i : Nat) (hi : i < 8) (st : St) (hI : gJZ s s' n l i st) :
    ∃ st1, ev (envC C k0) K L24b0 st = some (.normal, st1) ∧ gJZ s s' n l (i + 1) (canon L24k0 st1) := by
  obtain ⟨H, rfl, h0, h1, h2, h01⟩ := hI
  apply Exists.intro
  apply And.intro
  · simp (disch := first | omega | decide | simp only [nms_B8, nms_B32, nms_B64, nms_I, nms_N, nms_Bo, nms_Un, nms_undef, nms_Hf, nms_ptr, nms_sl, aB_agg_nms, aW_agg_nms, aD_agg_nms, aO_agg_nms, List.flatMap_cons, List.flatMap_nil, List.nil_append, List.append_nil, ren_B8, ren_B32, ren_B64, ren_I, ren_N, ren_Bo, ren_Un, ren_undef, ren_Hf, aB_agg_ren, aW_agg_ren, aD_agg_ren, aO_agg_ren, List.map_cons, List.map_nil, ren7_I, ren7_N, ren7_Bo, ren7_B8, ren7_B32, ren7_B64, nms7_I, nms7_N, nms7_Bo, nms7_B8, nms7_B32, nms7_B64, nms_tup, ren_tup, implies_true, l17, l18, l19, l20, l36, l37, l38, l39, l43, l21, l22, l24, l25, l33, l35, l40, l42, l14, l27, bs_isCell, bs_nms, bs_ren, ibs_nms, ibs_ren, bs_length, aW_isCell, aB_isCell, isCell_sl, isCell_isl, isCell_nil, isCell_ptr, isCell_N]) only [ev_skip, ev_seq, ev_block, ev_region, regK_some, evOpers_nil, evOpers_cons, stepK_pure, put_some, put_none, evX_t, evX_c, outR_some, op_mv, op_bin, op_cvt, andThen_normal, inBlock_normal, ev_cond, condK_true, List.set_cons_zero, List.set_cons_succ, List.getD_cons_zero, List.getD_cons_succ, List.length_cons, List.length_nil, B32_shr64, cvt_32_8, BitVec.toNat_ofNat, Nat.reduceAdd, upd_at, stepK_mod, cellsOf_B8, op_st, stV_ptr, op_iaA, iaV_lt, if_true, Nat.zero_add, Nat.add_zero, decide_true, Nat.reducePow, Nat.reduceMod, op_ix1, aB_st, aW_ix1, Nat.mul_one, Nat.add_zero, Nat.zero_add, N_add, N_mul, N_lss, N_nat, Nat.reduceAdd, Nat.reduceMod, decide_true, L24b0, hi, h2]
    rfl
  · refine canon_inv [(1, 0), (1, 1)] rfl (by simp only [canonNames, FUEL, reach_cons, reachK_some, reach_nil, nms_ptr, nms_sl, nms_undef, List.flatMap_cons, List.flatMap_nil, List.nil_append, List.cons_append, List.append_nil, List.map_nil, List.map_cons, List.contains_nil, List.contains_cons, Prod.mk.injEq, beq_iff_eq, Bool.or_eq_true, Bool.false_eq_true, and_true, and_false, or_false, or_true, if_true, if_false, Nat.one_ne_zero, Nat.zero_ne_one, List.filter_cons, List.filter_nil, bne_iff_ne, ne_eq, not_false_eq_true, not_true_eq_false, upd_at, mask_nil, mask_true, mask_false, range_two, nms_N, L24k0, h0, h1, h2, h01, aB_nms, HsC_nms, bs_nms, aW_agg_nms]) rfl ⟨_, rfl, ?_, ?_, ?_, ?_⟩
    · rw [cN_zero]; simp (disch := first | omega | decide | simp only [nms_B8, nms_B32, nms_B64, nms_I, nms_N, nms_Bo, nms_Un, nms_undef, nms_Hf, nms_ptr, nms_sl, aB_agg_nms, aW_agg_nms, aD_agg_nms, aO_agg_nms, List.flatMap_cons, List.flatMap_nil, List.nil_append, List.append_nil, ren_B8, ren_B32, ren_B64, ren_I, ren_N, ren_Bo, ren_Un, ren_undef, ren_Hf, aB_agg_ren, aW_agg_ren, aD_agg_ren, aO_agg_ren, List.map_cons, List.map_nil, ren7_I, ren7_N, ren7_Bo, ren7_B8, ren7_B32, ren7_B64, nms7_I, nms7_N, nms7_Bo, nms7_B8, nms7_B32, nms7_B64, nms_tup, ren_tup, implies_true, l17, l18, l19, l20, l36, l37, l38, l39, l43, l21, l22, l24, l25, l33, l35, l40, l42, l14, l27, bs_isCell, bs_nms, bs_ren, ibs_nms, ibs_ren, bs_length, aW_isCell, aB_isCell, isCell_sl, isCell_isl, isCell_nil, isCell_ptr, isCell_N]) only [Option.map_some, upd_at, Prod.mk.injEq, and_self, if_false, Nat.zero_ne_one, canonMap_0, Option.map_some, ren_slF, slO_some, h0, HsC_ren]
    · exact cN_same (1, 0) rfl (by simp only [upd_at, Prod.mk.injEq, and_false, if_false, Nat.zero_ne_one, h1]) (aB_ren _ _ _)
    · rw [outP_succ]; exact cN_same (1, 1) rfl (by simp only [upd_at, if_true]) (aB_ren _ _ _)
    · rw [cN_zero]; simp (disch := first | omega | decide | simp only [nms_B8, nms_B32, nms_B64, nms_I, nms_N, nms_Bo, nms_Un, nms_undef, nms_Hf, nms_ptr, nms_sl, aB_agg_nms, aW_agg_nms, aD_agg_nms, aO_agg_nms, List.flatMap_cons, List.flatMap_nil, List.nil_append, List.append_nil, ren_B8, ren_B32, ren_B64, ren_I, ren_N, ren_Bo, ren_Un, ren_undef, ren_Hf, aB_agg_ren, aW_agg_ren, aD_agg_ren, aO_agg_ren, List.map_cons, List.map_nil, ren7_I, ren7_N, ren7_Bo, ren7_B8, ren7_B32, ren7_B64, nms7_I, nms7_N, nms7_Bo, nms7_B8, nms7_B32, nms7_B64, nms_tup, ren_tup, implies_true, l17, l18, l19, l20, l36, l37, l38, l39, l43, l21, l22, l24, l25, l33, l35, l40, l42, l14, l27, bs_isCell, bs_nms, bs_ren, ibs_nms, ibs_ren, bs_length, aW_isCell, aB_isCell, isCell_sl, isCell_isl, isCell_nil, isCell_ptr, isCell_N]) only [Option.map_some, upd_at, Prod.mk.injEq, and_true, if_false, Nat.zero_ne_one, Option.map_some, bs_ren, h01]

set_option maxRecDepth 10000 in
theorem sumZ (k : Nat) (s : Nat → BitVec 32) (n : Nat) (l : List (BitVec 8)) (hn : n ≤ 4611686018427387000) :
    F C (k + (fb n 8).length / 64 + 101) 24 [.ptr (0, 0) 0] [HsC s (.sl (0, 1) 0 0 none 1) n, bs l] = some (.agg (aB 32 (outB (absN (fb n 8) s ((fb n 8).length / 64)))), [some (HsC s (.sl (0, 1) 0 0 none 1) n), some (bs l)], []) := by
  have hz := zs_lt n
  have hfl := fb_length n 8
  obtain ⟨m, hm⟩ : ∃ m, m = fb n 8 := ⟨_, rfl⟩
  rw [← hm]
  rw [F_succ f24]
  have hfork := ptr_callG (k + m.length / 64 + 100) 7 22 l22 (upd (upd (inHeap [HsC s (.sl (0, 1) 0 0 none 1) n, bs l]) (2, 0) (some (aB 32 fun _ => 0#8))) (3, 0) (some (aB 32 fun _ => 0#8))) (0, 0) (0, 1) s n 0 none l rfl rfl (by decide)
    (.ptr (1, 0) 0) (.ptr (7, 0) 0) [HsC s (.sl (1, 1) 0 0 (some 0) 1) n, bs []] [HsC s (.sl (7, 1) 0 0 (some 0) 1) n, bs []] (forkG (k + m.length / 64 + 98) s n 0 0 none (some 0) l [] (clone_0 _ l)) rfl (by
      simp only [List.map_cons, List.map_nil, HsC_ren, bs_ren]; rfl)
  have hzs : (119 - n % 64) % 64 = zs n := rfl
  have hst : ∀ nm : Nm, stK 1 0 nm (some [B8 128#8]) (some (bs (List.replicate (zs n + 1) 0#8))) = some ⟨Un, [], [(nm, some (bs (fb n 0)))]⟩ := by
    intro nm; rw [bs_st _ _ _ _ (by simp), ← fb_zero]
  simp (disch := first | omega | decide | simp only [nms_B8, nms_B32, nms_B64, nms_I, nms_N, nms_Bo, nms_Un, nms_undef, nms_Hf, nms_ptr, nms_sl, aB_agg_nms, aW_agg_nms, aD_agg_nms, aO_agg_nms, List.flatMap_cons, List.flatMap_nil, List.nil_append, List.append_nil, ren_B8, ren_B32, ren_B64, ren_I, ren_N, ren_Bo, ren_Un, ren_undef, ren_Hf, aB_agg_ren, aW_agg_ren, aD_agg_ren, aO_agg_ren, List.map_cons, List.map_nil, ren7_I, ren7_N, ren7_Bo, ren7_B8, ren7_B32, ren7_B64, nms7_I, nms7_N, nms7_Bo, nms7_B8, nms7_B32, nms7_B64, nms_tup, ren_tup, implies_true, l17, l18, l19, l20, l36, l37, l38, l39, l43, l21, l22, l24, l25, l33, l35, l40, l42, l14, l27, bs_isCell, bs_nms, bs_ren, ibs_nms, ibs_ren, bs_length, aW_isCell, aB_isCell, isCell_sl, isCell_isl, isCell_nil, isCell_ptr, isCell_N]) only [funSem_eq, ev_skip, ev_seq, ev_block, ev_region, regK_some, evOpers_nil, evOpers_cons, stepK_pure, put_some, put_none, evX_t, evX_c, outR_some, op_mv, op_bin, op_call, callV_fn, andThen_normal, ev_cond, condK_false, List.set_cons_zero, List.set_cons_succ, List.getD_cons_zero, List.getD_cons_succ, List.map_cons, List.map_nil, List.nil_append, List.cons_append, repUn_succ, List.replicate_zero, List.length_cons, List.length_nil, ev_loop, Nat.reduceAdd, Nat.reduceSub, upd_at, stepK_new, stepK_mod, cellsOf_B8, cellAt_ptr, ld1K_some, op_ld1, op_new, op_st, stV_ptr, op_fa, faV_ptr, Prod.mk.injEq, Nat.reduceEqDiff, and_true, and_false, and_self, if_true, if_false, Nat.zero_add, Nat.add_zero, Nat.zero_ne_one, aB_rep, Nat.mul_one, Nat.add_zero, Nat.zero_add, N_add, N_sub, N_rem, N_nat, Nat.reduceEqDiff, Nat.reduceAdd, op_chk, chkV_ptr, eqp_ptr, op_iaS, iaSV_sl, op_mkslice, Nat.mul_one, inHeap_at, inHeap_none, List.getElem?_cons_zero, stepK_n2m2, L24, Hs_n, hfork, mk_bytes, hzs, hst]
  generalize hL : loopN L24k1 _ _ _ = r
  refine loop_use hL (fJZ s n l) 8 (by omega) (fun i st hi hI => f_roundZ _ _ s n l (by omega) i hi st hI) ?_ ?_ ?_
  · refine canon_inv [(2, 0), (3, 0), (7, 0), (7, 1), (17, 0)] rfl (by simp only [canonNames, FUEL, reach_cons, reachK_some, reach_nil, nms_ptr, nms_sl, nms_undef, List.flatMap_cons, List.flatMap_nil, List.nil_append, List.cons_append, List.append_nil, List.map_nil, List.map_cons, List.contains_nil, List.contains_cons, Prod.mk.injEq, beq_iff_eq, Bool.or_eq_true, Bool.false_eq_true, Nat.reduceEqDiff, and_true, and_false, or_false, or_true, if_true, if_false, Nat.one_ne_zero, Nat.zero_ne_one, List.filter_cons, List.filter_nil, bne_iff_ne, ne_eq, not_false_eq_true, not_true_eq_false, upd_at, mask_nil, mask_true, mask_false, inHeap_at, inHeap_none, range_two, List.getElem?_cons_zero, List.getElem?_cons_succ, nms_N, L24k1, aB_nms, HsC_nms, bs_nms]) rfl ⟨some (zs n + 1), _, rfl, .inr ⟨rfl, rfl⟩, ?_, ?_, ?_, ?_, ?_, ?_, ?_⟩
    · rw [cN_zero]; simp (disch := first | omega | decide | simp only [nms_B8, nms_B32, nms_B64, nms_I, nms_N, nms_Bo, nms_Un, nms_undef, nms_Hf, nms_ptr, nms_sl, aB_agg_nms, aW_agg_nms, aD_agg_nms, aO_agg_nms, List.flatMap_cons, List.flatMap_nil, List.nil_append, List.append_nil, ren_B8, ren_B32, ren_B64, ren_I, ren_N, ren_Bo, ren_Un, ren_undef, ren_Hf, aB_agg_ren, aW_agg_ren, aD_agg_ren, aO_agg_ren, List.map_cons, List.map_nil, ren7_I, ren7_N, ren7_Bo, ren7_B8, ren7_B32, ren7_B64, nms7_I, nms7_N, nms7_Bo, nms7_B8, nms7_B32, nms7_B64, nms_tup, ren_tup, implies_true, l17, l18, l19, l20, l36, l37, l38, l39, l43, l21, l22, l24, l25, l33, l35, l40, l42, l14, l27, bs_isCell, bs_nms, bs_ren, ibs_nms, ibs_ren, bs_length, aW_isCell, aB_isCell, isCell_sl, isCell_isl, isCell_nil, isCell_ptr, isCell_N]) only [Option.map_some, upd_at, Prod.mk.injEq, Nat.reduceEqDiff, and_true, and_false, and_self, if_true, if_false, Nat.zero_ne_one, canonMap_0, Option.map_some, inHeap_at, List.getElem?_cons_zero, ren_slF, slO_some, HsC_ren]
    · exact cN_same (2, 0) rfl (by simp only [upd_at, Prod.mk.injEq, Nat.reduceEqDiff, and_true, and_self, if_true, if_false, Nat.zero_ne_one]) (aB_ren _ _ _)
    · exact cN_same (3, 0) rfl (by simp only [upd_at, Prod.mk.injEq, Nat.reduceEqDiff, and_true, and_self, if_true, if_false, Nat.zero_ne_one]) (aB_ren _ _ _)
    · rw [cN_one _ _ _ (7, 0) (HsC s (.sl (7, 1) 0 0 (some 0) 1) n) rfl (by simp only [upd_at, Prod.mk.injEq, Nat.reduceEqDiff, and_true, and_false, and_self, if_true, if_false, Nat.zero_ne_one]), HsC_ren]; rfl
    · exact cN_same (17, 0) rfl (by simp only [upd_at, Prod.mk.injEq, Nat.reduceEqDiff, and_true, and_self, if_true, if_false, Nat.zero_ne_one]) (bs_ren _ _)
    · exact cN_same (7, 1) rfl (by simp only [upd_at, Prod.mk.injEq, Nat.reduceEqDiff, and_true, and_false, and_self, if_true, if_false, Nat.one_ne_zero]) (bs_ren _ _)
    · rw [cN_zero]; simp (disch := first | omega | decide | simp only [nms_B8, nms_B32, nms_B64, nms_I, nms_N, nms_Bo, nms_Un, nms_undef, nms_Hf, nms_ptr, nms_sl, aB_agg_nms, aW_agg_nms, aD_agg_nms, aO_agg_nms, List.flatMap_cons, List.flatMap_nil, List.nil_append, List.append_nil, ren_B8, ren_B32, ren_B64, ren_I, ren_N, ren_Bo, ren_Un, ren_undef, ren_Hf, aB_agg_ren, aW_agg_ren, aD_agg_ren, aO_agg_ren, List.map_cons, List.map_nil, ren7_I, ren7_N, ren7_Bo, ren7_B8, ren7_B32, ren7_B64, nms7_I, nms7_N, nms7_Bo, nms7_B8, nms7_B32, nms7_B64, nms_tup, ren_tup, implies_true, l17, l18, l19, l20, l36, l37, l38, l39, l43, l21, l22, l24, l25, l33, l35, l40, l42, l14, l27, bs_isCell, bs_nms, bs_ren, ibs_nms, ibs_ren, bs_length, aW_isCell, aB_isCell, isCell_sl, isCell_isl, isCell_nil, isCell_ptr, isCell_N]) only [Option.map_some, upd_at, Prod.mk.injEq, Nat.reduceEqDiff, and_true, and_false, and_self, if_true, if_false, Nat.one_ne_zero, Option.map_some, bs_ren, inHeap_at, List.getElem?_cons_zero, List.getElem?_cons_succ, bs_ren]
  · rintro st ⟨c, H, rfl, hc, h0, h1, h2, h3, hF, h13, h01⟩
    apply stop_exit
    simp (disch := first | omega | decide | simp only [nms_B8, nms_B32, nms_B64, nms_I, nms_N, nms_Bo, nms_Un, nms_undef, nms_Hf, nms_ptr, nms_sl, aB_agg_nms, aW_agg_nms, aD_agg_nms, aO_agg_nms, List.flatMap_cons, List.flatMap_nil, List.nil_append, List.append_nil, ren_B8, ren_B32, ren_B64, ren_I, ren_N, ren_Bo, ren_Un, ren_undef, ren_Hf, aB_agg_ren, aW_agg_ren, aD_agg_ren, aO_agg_ren, List.map_cons, List.map_nil, ren7_I, ren7_N, ren7_Bo, ren7_B8, ren7_B32, ren7_B64, nms7_I, nms7_N, nms7_Bo, nms7_B8, nms7_B32, nms7_B64, nms_tup, ren_tup, implies_true, l17, l18, l19, l20, l36, l37, l38, l39, l43, l21, l22, l24, l25, l33, l35, l40, l42, l14, l27, bs_isCell, bs_nms, bs_ren, ibs_nms, ibs_ren, bs_length, aW_isCell, aB_isCell, isCell_sl, isCell_isl, isCell_nil, isCell_ptr, isCell_N]) only [ev_exit, ev_seq, ev_region, regK_some, evOpers_nil, evOpers_cons, stepK_pure, put_some, evX_t, evX_c, outR_some, op_bin, andThen_normal, andThen_exit, ev_cond, condK_false, List.set_cons_zero, List.set_cons_succ, List.getD_cons_zero, List.getD_cons_succ, List.length_cons, List.length_nil, Nat.reduceAdd, Nat.zero_add, Nat.add_zero, decide_false, N_lss, Nat.reduceAdd, Nat.lt_irrefl, decide_false, L24b1]
    rfl
  · rintro st ⟨c, H, rfl, hc, h0, h1, h2, h3, hF, h13, h01⟩ rfl
    clear hL
    obtain ⟨l', hw, _, _⟩ := writeC k s n (fb n 8) m hm (by simp [fb]) (by rw [hm]; omega) (by omega)
    have hB := lent_sl H (1, 4) 0 (zs n + 1 + 8) c (fb n 8) [(1, 2), (1, 3)] hF (by omega) rfl
    rw [List.drop_zero, List.take_of_length_le (by omega)] at hB
    have hcall := fun b => write_callG _ b H (1, 2) (1, 3) s _ n _ _ 0 (some 0) _ (fb n 8) [] l' (some []) h3 h13 (by decide) hB hw
    obtain ⟨s', hs'⟩ : ∃ s', s' = absN m s (m.length / 64) := ⟨_, rfl⟩
    rw [← hs'] at hcall ⊢
    simp (disch := first | omega | decide | simp only [nms_B8, nms_B32, nms_B64, nms_I, nms_N, nms_Bo, nms_Un, nms_undef, nms_Hf, nms_ptr, nms_sl, aB_agg_nms, aW_agg_nms, aD_agg_nms, aO_agg_nms, List.flatMap_cons, List.flatMap_nil, List.nil_append, List.append_nil, ren_B8, ren_B32, ren_B64, ren_I, ren_N, ren_Bo, ren_Un, ren_undef, ren_Hf, aB_agg_ren, aW_agg_ren, aD_agg_ren, aO_agg_ren, List.map_cons, List.map_nil, ren7_I, ren7_N, ren7_Bo, ren7_B8, ren7_B32, ren7_B64, nms7_I, nms7_N, nms7_Bo, nms7_B8, nms7_B32, nms7_B64, nms_tup, ren_tup, implies_true, l17, l18, l19, l20, l36, l37, l38, l39, l43, l21, l22, l24, l25, l33, l35, l40, l42, l14, l27, bs_isCell, bs_nms, bs_ren, ibs_nms, ibs_ren, bs_length, aW_isCell, aB_isCell, isCell_sl, isCell_isl, isCell_nil, isCell_ptr, isCell_N]) only [ev_exit, ev_seq, ev_block, ev_region, regK_some, evOpers_nil, evOpers_cons, stepK_pure, put_some, evX_t, evX_c, outR_some, op_mv, op_bin, op_call, callV_fn, andThen_normal, andThen_exit, inBlock_exit, ev_cond, condK_false, List.set_cons_zero, List.set_cons_succ, List.getD_cons_zero, List.getD_cons_succ, List.map_cons, List.map_nil, List.length_cons, List.length_nil, Option.map_some, ev_loop, Nat.reduceAdd, upd_at, cellAt_ptr, ldK_some, op_ld, op_fa, faV_ptr, Prod.mk.injEq, Nat.reduceEqDiff, and_false, and_self, if_true, if_false, Nat.zero_add, Nat.add_zero, decide_false, Nat.add_zero, Nat.zero_add, N_lss, Nat.reduceEqDiff, Nat.reduceAdd, Nat.lt_irrefl, decide_false, op_chk, chkV_ptr, Option.map_some, stepK_nm2, L24b1, hcall, Hs_state]
    generalize hL : loopN L24k0 _ _ _ = r
    refine loop_use hL (gJZ s s' n l) 8 (by omega) (fun i st hi hI => g_roundZ _ _ s s' n l i hi st hI) ?_ ?_ ?_
    · refine canon_inv [(1, 0), (1, 1)] rfl (by simp only [canonNames, FUEL, reach_cons, reachK_some, reach_nil, nms_ptr, nms_sl, nms_undef, List.flatMap_cons, List.flatMap_nil, List.nil_append, List.cons_append, List.append_nil, List.map_nil, List.map_cons, List.contains_nil, List.contains_cons, Prod.mk.injEq, beq_iff_eq, Bool.or_eq_true, Bool.false_eq_true, Nat.reduceEqDiff, and_true, and_false, or_false, or_true, if_true, if_false, Nat.one_ne_zero, Nat.zero_ne_one, List.filter_cons, List.filter_nil, bne_iff_ne, ne_eq, not_false_eq_true, not_true_eq_false, upd_at, mask_nil, mask_true, mask_false, range_two, nms_N, L24k0, h0, h1, h2, h01, aB_nms, HsC_nms, bs_nms, aW_agg_nms]) rfl ⟨_, rfl, ?_, ?_, ?_, ?_⟩
      · rw [cN_zero]; simp (disch := first | omega | decide | simp only [nms_B8, nms_B32, nms_B64, nms_I, nms_N, nms_Bo, nms_Un, nms_undef, nms_Hf, nms_ptr, nms_sl, aB_agg_nms, aW_agg_nms, aD_agg_nms, aO_agg_nms, List.flatMap_cons, List.flatMap_nil, List.nil_append, List.append_nil, ren_B8, ren_B32, ren_B64, ren_I, ren_N, ren_Bo, ren_Un, ren_undef, ren_Hf, aB_agg_ren, aW_agg_ren, aD_agg_ren, aO_agg_ren, List.map_cons, List.map_nil, ren7_I, ren7_N, ren7_Bo, ren7_B8, ren7_B32, ren7_B64, nms7_I, nms7_N, nms7_Bo, nms7_B8, nms7_B32, nms7_B64, nms_tup, ren_tup, implies_true, l17, l18, l19, l20, l36, l37, l38, l39, l43, l21, l22, l24, l25, l33, l35, l40, l42, l14, l27, bs_isCell, bs_nms, bs_ren, ibs_nms, ibs_ren, bs_length, aW_isCell, aB_isCell, isCell_sl, isCell_isl, isCell_nil, isCell_ptr, isCell_N]) only [Option.map_some, upd_at, Prod.mk.injEq, Nat.reduceEqDiff, and_true, and_self, if_false, Nat.zero_ne_one, canonMap_0, Option.map_some, ren_slF, slO_some, h0, HsC_ren]
      · exact cN_same (1, 0) rfl (by simp only [upd_at, Prod.mk.injEq, Nat.reduceEqDiff, and_true, and_false, if_false, h1]) (aB_ren _ _ _)
      · rw [show outP s' 0 = fun _ => 0#8 by funext j; simp [outP]]
        exact cN_same (1, 1) rfl (by simp only [upd_at, Prod.mk.injEq, Nat.reduceEqDiff, and_false, and_self, if_false, Nat.one_ne_zero, h2]) (aB_ren _ _ _)
      · rw [cN_zero]; simp (disch := first | omega | decide | simp only [nms_B8, nms_B32, nms_B64, nms_I, nms_N, nms_Bo, nms_Un, nms_undef, nms_Hf, nms_ptr, nms_sl, aB_agg_nms, aW_agg_nms, aD_agg_nms, aO_agg_nms, List.flatMap_cons, List.flatMap_nil, List.nil_append, List.append_nil, ren_B8, ren_B32, ren_B64, ren_I, ren_N, ren_Bo, ren_Un, ren_undef, ren_Hf, aB_agg_ren, aW_agg_ren, aD_agg_ren, aO_agg_ren, List.map_cons, List.map_nil, ren7_I, ren7_N, ren7_Bo, ren7_B8, ren7_B32, ren7_B64, nms7_I, nms7_N, nms7_Bo, nms7_B8, nms7_B32, nms7_B64, nms_tup, ren_tup, implies_true, l17, l18, l19, l20, l36, l37, l38, l39, l43, l21, l22, l24, l25, l33, l35, l40, l42, l14, l27, bs_isCell, bs_nms, bs_ren, ibs_nms, ibs_ren, bs_length, aW_isCell, aB_isCell, isCell_sl, isCell_isl, isCell_nil, isCell_ptr, isCell_N]) only [Option.map_some, upd_at, Prod.mk.injEq, Nat.reduceEqDiff, and_self, if_false, Nat.one_ne_zero, Nat.zero_ne_one, Option.map_some, bs_ren, h01, bs_ren]
    · rintro st ⟨H, rfl, h0, h1, h2, h01⟩
      apply stop_exit
      simp (disch := first | omega | decide | simp only [nms_B8, nms_B32, nms_B64, nms_I, nms_N, nms_Bo, nms_Un, nms_undef, nms_Hf, nms_ptr, nms_sl, aB_agg_nms, aW_agg_nms, aD_agg_nms, aO_agg_nms, List.flatMap_cons, List.flatMap_nil, List.nil_append, List.append_nil, ren_B8, ren_B32, ren_B64, ren_I, ren_N, ren_Bo, ren_Un, ren_undef, ren_Hf, aB_agg_ren, aW_agg_ren, aD_agg_ren, aO_agg_ren, List.map_cons, List.map_nil, ren7_I, ren7_N, ren7_Bo, ren7_B8, ren7_B32, ren7_B64, nms7_I, nms7_N, nms7_Bo, nms7_B8, nms7_B32, nms7_B64, nms_tup, ren_tup, implies_true, l17, l18, l19, l20, l36, l37, l38, l39, l43, l21, l22, l24, l25, l33, l35, l40, l42, l14, l27, bs_isCell, bs_nms, bs_ren, ibs_nms, ibs_ren, bs_length, aW_isCell, aB_isCell, isCell_sl, isCell_isl, isCell_nil, isCell_ptr, isCell_N]) only [ev_exit, ev_seq, ev_region, regK_some, evOpers_nil, evOpers_cons, stepK_pure, put_some, evX_t, evX_c, outR_some, op_bin, andThen_normal, andThen_exit, ev_cond, condK_false, List.set_cons_zero, List.set_cons_succ, List.getD_cons_zero, List.getD_cons_succ, List.length_cons, List.length_nil, Nat.reduceAdd, Nat.zero_add, Nat.add_zero, decide_false, N_lss, Nat.reduceAdd, Nat.lt_irrefl, decide_false, L24b0]
      rfl
    · rintro st ⟨H, rfl, h0, h1, h2, h01⟩ rfl
      have e : aB 32 (outP s' 8) = aB 32 (outB s') := aB_ext 32 fun j hj => by simp only [outP]; rw [if_pos (by omega)]
      rw [e] at h2
      simp (disch := first | omega | decide | simp only [nms_B8, nms_B32, nms_B64, nms_I, nms_N, nms_Bo, nms_Un, nms_undef, nms_Hf, nms_ptr, nms_sl, aB_agg_nms, aW_agg_nms, aD_agg_nms, aO_agg_nms, List.flatMap_cons, List.flatMap_nil, List.nil_append, List.append_nil, ren_B8, ren_B32, ren_B64, ren_I, ren_N, ren_Bo, ren_Un, ren_undef, ren_Hf, aB_agg_ren, aW_agg_ren, aD_agg_ren, aO_agg_ren, List.map_cons, List.map_nil, ren7_I, ren7_N, ren7_Bo, ren7_B8, ren7_B32, ren7_B64, nms7_I, nms7_N, nms7_Bo, nms7_B8, nms7_B32, nms7_B64, nms_tup, ren_tup, implies_true, l17, l18, l19, l20, l36, l37, l38, l39, l43, l21, l22, l24, l25, l33, l35, l40, l42, l14, l27, bs_isCell, bs_nms, bs_ren, ibs_nms, ibs_ren, bs_length, aW_isCell, aB_isCell, isCell_sl, isCell_isl, isCell_nil, isCell_ptr, isCell_N]) only [ev_ret, ev_exit, ev_seq, ev_region, regK_some, evOpers_nil, evOpers_cons, stepK_pure, put_some, put_none, evX_t, evX_c, outR_some, op_bin, andThen_normal, andThen_exit, inBlock_exit, ev_cond, condK_false, retK_ret, List.set_cons_zero, List.set_cons_succ, List.getD_cons_zero, List.getD_cons_succ, List.length_cons, List.length_nil, Option.map_some, Nat.reduceAdd, upd_at, stepK_mod, cellsOf_agg, cellAt_ptr, ldK_some, op_ld, op_st, stV_ptr, if_true, Nat.zero_add, Nat.add_zero, decide_false, resVal_agg, aggV_some, aB_cells, aB_st_all, Nat.add_zero, Nat.zero_add, N_lss, Nat.reduceAdd, Nat.lt_irrefl, decide_false, Option.map_some, L24b0, h1, h2]
      rw [outOf_mem 2 _ _ [] (by simp only [canonNames, FUEL, reach_cons, reachK_some, reach_nil, nms_sl, List.flatMap_cons, List.flatMap_nil, List.nil_append, List.cons_append, List.append_nil, List.map_nil, List.map_cons, List.contains_nil, List.contains_cons, Prod.mk.injEq, beq_iff_eq, Bool.or_eq_true, Bool.false_eq_true, and_true, and_false, or_false, or_true, if_true, if_false, Nat.one_ne_zero, Nat.zero_ne_one, List.filter_cons, List.filter_nil, bne_iff_ne, ne_eq, not_true_eq_false, upd_at, range_two, h0, h01, aB_agg_nms, HsC_nms, bs_nms])]
      simp (disch := first | omega | decide | simp only [nms_B8, nms_B32, nms_B64, nms_I, nms_N, nms_Bo, nms_Un, nms_undef, nms_Hf, nms_ptr, nms_sl, aB_agg_nms, aW_agg_nms, aD_agg_nms, aO_agg_nms, List.flatMap_cons, List.flatMap_nil, List.nil_append, List.append_nil, ren_B8, ren_B32, ren_B64, ren_I, ren_N, ren_Bo, ren_Un, ren_undef, ren_Hf, aB_agg_ren, aW_agg_ren, aD_agg_ren, aO_agg_ren, List.map_cons, List.map_nil, ren7_I, ren7_N, ren7_Bo, ren7_B8, ren7_B32, ren7_B64, nms7_I, nms7_N, nms7_Bo, nms7_B8, nms7_B32, nms7_B64, nms_tup, ren_tup, implies_true, l17, l18, l19, l20, l36, l37, l38, l39, l43, l21, l22, l24, l25, l33, l35, l40, l42, l14, l27, bs_isCell, bs_nms, bs_ren, ibs_nms, ibs_ren, bs_length, aW_isCell, aB_isCell, isCell_sl, isCell_isl, isCell_nil, isCell_ptr, isCell_N]) only [List.map_cons, List.map_nil, Option.map_some, upd_at, Prod.mk.injEq, false_and, if_false, Nat.zero_ne_one, aB_agg_ren, canonMap_0, List.filterMap_nil, Option.map_some, bs_ren, range_two, ren_slF, slO_some, h0, h01, HsC_ren]

/-! ### form C -/

def fJC (s : Nat → BitVec 32) (n : Nat) (l : List (BitVec 8)) (i : Nat) (st : St) : Prop := ∃ (c : Option Nat) (H : Heap), st = ⟨[.ptr (0, 0) 0, .undef, .ptr (1, 0) 0, .ptr (1, 1) 0, .ptr (1, 2) 0, .sl (1, 4) 0 (zs n + 1 + i) c 1, .undef, .undef, .undef, .undef, .undef, .undef, .undef, .undef, .undef, .undef, .undef, .undef, .undef, .undef, .undef, .undef, .undef, .undef, .undef, N i, .undef, .undef, .undef, .undef, .undef, .undef, .undef, .undef, .undef, .undef, .undef, .undef, .undef, .undef, .undef, .undef, .undef, .undef, .undef, .undef, .undef, .undef, .undef, .undef, .undef, .undef, .undef, .undef, .undef, .undef, .undef, .undef, .undef, .undef, .undef, .undef, .undef, .undef, .undef, .undef, .undef, .undef, .undef, .undef, .undef, .undef, .undef, .undef, .undef, .undef, .undef, .undef, .undef, .undef, .undef, .undef], H, 2, 2⟩ ∧
  (c = none ∨ (i = 0 ∧ c = some (zs n + 1))) ∧ H (0, 0) = some (HsC s (.sl (0, 1) 0 0 (some 0) 1) n) ∧ H (1, 0) = some (aB 32 fun _ => 0#8) ∧ H (1, 1) = some (aB 32 fun _ => 0#8) ∧ H (1, 2) = some (HsC s (.sl (1, 3) 0 0 (some 0) 1) n) ∧ H (1, 4) = some (bs (fb n i)) ∧ H (1, 3) = some (bs []) ∧ H (0, 1) = some (bs l)

set_option maxRecDepth 10000 in
theorem f_roundC (K k0 : Nat) (s : Nat → BitVec 32) (n : Nat) (l : List (BitVec 8)) (hn : n ≤ 4611686018427387904) (i : Nat) (hi : i < 8) (st : St) (hI : fJC s n l i st) :
    ∃ st1, ev (envC C k0) K L24b1 st = some (.normal, st1) ∧ fJC s n l (i + 1) (canon L24k1 st1) := by
  obtain ⟨c, H, rfl, hc, h0, h1, h2, h3, hF, h13, h01⟩ := hI
  have hz := zs_lt n
  have hl := fb_length n i
  have hlen : ((BitVec.ofNat 64 n * 8#64) >>> (56 - 8 * i)).setWidth 8 = lenb n i := rfl
  have hx : H (1, 4) = some (bs (fb n i)) := hF
  have hfr : front (upd H (17, 0) (some (bs [lenb n i]))) 1 1 (.sl (17, 0) 0 1 (some 1) 1) = some (bs [lenb n i]) := front_bytes (17, 0) 0 1 (some 1) [lenb n i] (by simp only [upd_at, if_true]) (by simp)
  have hF' : upd H (17, 0) (some (bs [lenb n i])) (1, 4) = some (bs (fb n i)) := by simp only [upd_at, Prod.mk.injEq, Nat.reduceEqDiff, and_self, if_false, hF]
  have ha : ∃ ms, (ms = [] ∨ ms = [((1, 4), none)]) ∧ appX 18 1 1 1 (upd H (17, 0) (some (bs [lenb n i]))) [] (bs [lenb n i]) (.sl (1, 4) 0 (zs n + 1 + i) c 1) = some ⟨.sl (18, 0) 0 (zs n + 1 + i + 1) none 1, [bs (fb n (i + 1))], ms⟩ := by
    rcases hc with rfl | ⟨rfl, rfl⟩
    · refine ⟨_, .inr rfl, ?_⟩
      rw [appX_none 1 1 _ _ _ _ _ (by omega), hF', appN_bytes _ _ _ _ _ _ (by omega), List.drop_zero, List.take_of_length_le (by omega), ← fb_succ]
    · refine ⟨_, .inl rfl, ?_⟩
      rw [appX_full _ (1, 4) 0 _ _ _ _ hF' (by omega) (by omega) (by omega), List.drop_zero, List.take_of_length_le (by omega), ← fb_succ]
  obtain ⟨ms, hms, ha⟩ := ha
  rcases hms with rfl | rfl
  all_goals
    apply Exists.intro
    apply And.intro
    · simp (disch := first | omega | decide | simp only [nms_B8, nms_B32, nms_B64, nms_I, nms_N, nms_Bo, nms_Un, nms_undef, nms_Hf, nms_ptr, nms_sl, aB_agg_nms, aW_agg_nms, aD_agg_nms, aO_agg_nms, List.flatMap_cons, List.flatMap_nil, List.nil_append, List.append_nil, ren_B8, ren_B32, ren_B64, ren_I, ren_N, ren_Bo, ren_Un, ren_undef, ren_Hf, aB_agg_ren, aW_agg_ren, aD_agg_ren, aO_agg_ren, List.map_cons, List.map_nil, ren7_I, ren7_N, ren7_Bo, ren7_B8, ren7_B32, ren7_B64, nms7_I, nms7_N, nms7_Bo, nms7_B8, nms7_B32, nms7_B64, nms_tup, ren_tup, implies_true, l17, l18, l19, l20, l36, l37, l38, l39, l43, l21, l22, l24, l25, l33, l35, l40, l42, l14, l27, bs_isCell, bs_nms, bs_ren, ibs_nms, ibs_ren, bs_length, aW_isCell, aB_isCell, isCell_sl, isCell_isl, isCell_nil, isCell_ptr, isCell_N]) only [ev_skip, ev_seq, ev_block, ev_region, regK_some, evOpers_nil, evOpers_cons, stepK_pure, put_some, evX_t, evX_c, outR_some, op_mv, op_bin, op_cvt, andThen_normal, inBlock_normal, ev_cond, condK_true, List.set_cons_zero, List.set_cons_succ, List.getD_cons_zero, List.getD_cons_succ, List.map_cons, List.map_nil, List.length_cons, List.length_nil, B64_mul, cvt_64_8, Nat.reduceAdd, stepK_new, cellAt_ptr, ld1K_some, op_ld1, op_fa, faV_ptr, Nat.zero_add, Nat.add_zero, decide_true, Nat.add_zero, Nat.zero_add, N_add, N_sub, N_mul, N_lss, cvt_N_64, B64_shrN, Nat.reduceAdd, decide_true, op_chk, chkV_ptr, lenOf_sl, op_append, appK_some, appF_some, op_mkrow, rowK_some, stepK_nm, L24b1, hi, h0, Hs_n, hlen, fill1, hfr, ha]
      rfl
    · refine canon_inv [(1, 0), (1, 1), (1, 2), (1, 3), (18, 0)] rfl (by simp only [canonNames, FUEL, reach_cons, reachK_some, reach_nil, nms_ptr, nms_sl, nms_undef, List.flatMap_cons, List.flatMap_nil, List.nil_append, List.cons_append, List.append_nil, List.map_nil, List.map_cons, List.contains_nil, List.contains_cons, Prod.mk.injEq, beq_iff_eq, Bool.or_eq_true, Bool.false_eq_true, Nat.reduceEqDiff, and_true, and_false, or_false, or_true, if_true, if_false, Nat.one_ne_zero, Nat.zero_ne_one, List.filter_cons, List.filter_nil, bne_iff_ne, ne_eq, not_false_eq_true, not_true_eq_false, upd_at, mask_nil, mask_true, mask_false, range_two, nms_N, L24k1, h0, h1, h2, h3, h13, h01, aB_nms, HsC_nms, bs_nms]) rfl ⟨none, _, rfl, .inl rfl, ?_, ?_, ?_, ?_, ?_, ?_, ?_⟩
      · rw [cN_zero]; simp (disch := first | omega | decide | simp only [nms_B8, nms_B32, nms_B64, nms_I, nms_N, nms_Bo, nms_Un, nms_undef, nms_Hf, nms_ptr, nms_sl, aB_agg_nms, aW_agg_nms, aD_agg_nms, aO_agg_nms, List.flatMap_cons, List.flatMap_nil, List.nil_append, List.append_nil, ren_B8, ren_B32, ren_B64, ren_I, ren_N, ren_Bo, ren_Un, ren_undef, ren_Hf, aB_agg_ren, aW_agg_ren, aD_agg_ren, aO_agg_ren, List.map_cons, List.map_nil, ren7_I, ren7_N, ren7_Bo, ren7_B8, ren7_B32, ren7_B64, nms7_I, nms7_N, nms7_Bo, nms7_B8, nms7_B32, nms7_B64, nms_tup, ren_tup, implies_true, l17, l18, l19, l20, l36, l37, l38, l39, l43, l21, l22, l24, l25, l33, l35, l40, l42, l14, l27, bs_isCell, bs_nms, bs_ren, ibs_nms, ibs_ren, bs_length, aW_isCell, aB_isCell, isCell_sl, isCell_isl, isCell_nil, isCell_ptr, isCell_N]) only [Option.map_some, upd_at, Prod.mk.injEq, Nat.reduceEqDiff, and_true, and_self, if_false, Nat.zero_ne_one, canonMap_0, Option.map_some, ren_slF, slO_some, h0, HsC_ren]
      · exact cN_same (1, 0) rfl (by simp only [upd_at, Prod.mk.injEq, Nat.reduceEqDiff, and_true, and_false, if_false, h1]) (aB_ren _ _ _)
      · exact cN_same (1, 1) rfl (by simp only [upd_at, Prod.mk.injEq, Nat.reduceEqDiff, and_false, and_self, if_false, Nat.one_ne_zero, h2]) (aB_ren _ _ _)
      · rw [cN_one _ _ _ (1, 2) (HsC s (.sl (1, 3) 0 0 (some 0) 1) n) rfl (by simp only [upd_at, Prod.mk.injEq, Nat.reduceEqDiff, and_false, and_self, if_false, h3]), HsC_ren]; rfl
      · exact cN_same (18, 0) rfl (by simp only [upd_at, Prod.mk.injEq, Nat.reduceEqDiff, and_true, and_self, if_true, if_false]) (bs_ren _ _)
      · exact cN_same (1, 3) rfl (by simp only [upd_at, Prod.mk.injEq, Nat.reduceEqDiff, and_false, and_self, if_false, h13]) (bs_ren _ _)
      · rw [cN_zero]; simp (disch := first | omega | decide | simp only [nms_B8, nms_B32, nms_B64, nms_I, nms_N, nms_Bo, nms_Un, nms_undef, nms_Hf, nms_ptr, nms_sl, aB_agg_nms, aW_agg_nms, aD_agg_nms, aO_agg_nms, List.flatMap_cons, List.flatMap_nil, List.nil_append, List.append_nil, ren_B8, ren_B32, ren_B64, ren_I, ren_N, ren_Bo, ren_Un, ren_undef, ren_Hf, aB_agg_ren, aW_agg_ren, aD_agg_ren, aO_agg_ren, List.map_cons, List.map_nil, ren7_I, ren7_N, ren7_Bo, ren7_B8, ren7_B32, ren7_B64, nms7_I, nms7_N, nms7_Bo, nms7_B8, nms7_B32, nms7_B64, nms_tup, ren_tup, implies_true, l17, l18, l19, l20, l36, l37, l38, l39, l43, l21, l22, l24, l25, l33, l35, l40, l42, l14, l27, bs_isCell, bs_nms, bs_ren, ibs_nms, ibs_ren, bs_length, aW_isCell, aB_isCell, isCell_sl, isCell_isl, isCell_nil, isCell_ptr, isCell_N]) only [Option.map_some, upd_at, Prod.mk.injEq, Nat.reduceEqDiff, and_self, if_false, Nat.one_ne_zero, Nat.zero_ne_one, Option.map_some, bs_ren, h01]

def gJC (s s' : Nat → BitVec 32) (n : Nat) (l : List (BitVec 8)) (i : Nat) (st : St) : Prop := ∃ (H : Heap), st = ⟨[.undef, .undef, .ptr (1, 0) 0, .ptr (1, 1) 0, .undef, .undef, .undef, .undef, .undef, .undef, .undef, .undef, .undef, .undef, .undef, .undef, .undef, .undef, .undef, .undef, .undef, .undef, .undef, .undef, .undef, .undef, .undef, .undef, .undef, .undef, .undef, .undef, .undef, .undef, .undef, .undef, .undef, .undef, .undef, .undef, .undef, .undef, .undef, .undef, .undef, .undef, .undef, .undef, .undef, .agg (aW 8 s'), N i, .undef, .undef, .undef, .undef, .undef, .undef, .undef, .undef, .undef, .undef, .undef, .undef, .undef, .undef, .undef, .undef, .undef, .undef, .undef, .undef, .undef, .undef, .undef, .undef, .undef, .undef, .undef, .undef, .undef, .undef, .undef], H, 2, 2⟩ ∧
  H (0, 0) = some (HsC s (.sl (0, 1) 0 0 (some 0) 1) n) ∧ H (1, 0) = some (aB 32 fun _ => 0#8) ∧ H (1, 1) = some (aB 32 (outP s' i)) ∧ H (0, 1) = some (bs l)

set_option maxRecDepth 10000 in
theorem g_roundC (K k0 : Nat) (s s' : Nat → BitVec 32) (n : Nat) (l : List (BitVec 8)) (i : Nat) (hi : i < 8) (st : St) (hI : gJC s s' n l i st) :
    ∃ st1, ev (envC C k0) K L24b0 st = some (.normal, st1) ∧ gJC s s' n l (i + 1) (canon L24k0 st1) := by
  obtain ⟨H, rfl, h0, h1, h2, h01⟩ := hI
  apply Exists.intro
  apply And.intro
  · simp (disch := first | omega | decide | simp only [nms_B8, nms_B32, nms_B64, nms_I, nms_N, nms_Bo, nms_Un, nms_undef, nms_Hf, nms_ptr, nms_sl, aB_agg_nms, aW_agg_nms, aD_agg_nms, aO_agg_nms, List.flatMap_cons, List.flatMap_nil, List.nil_append, List.append_nil, ren_B8, ren_B32, ren_B64, ren_I, ren_N, ren_Bo, ren_Un, ren_undef, ren_Hf, aB_agg_ren, aW_agg_ren, aD_agg_ren, aO_agg_ren, List.map_cons, List.map_nil, ren7_I, ren7_N, ren7_Bo, ren7_B8, ren7_B32, ren7_B64, nms7_I, nms7_N, nms7_Bo, nms7_B8, nms7_B32, nms7_B64, nms_tup, ren_tup, implies_true, l17, l18, l19, l20, l36, l37, l38, l39, l43, l21, l22, l24, l25, l33, l35, l40, l42, l14, l27, bs_isCell, bs_nms, bs_ren, ibs_nms, ibs_ren, bs_length, aW_isCell, aB_isCell, isCell_sl, isCell_isl, isCell_nil, isCell_ptr, isCell_N]) only [ev_skip, ev_seq, ev_block, ev_region, regK_some, evOpers_nil, evOpers_cons, stepK_pure, put_some, put_none, evX_t, evX_c, outR_some, op_mv, op_bin, op_cvt, andThen_normal, inBlock_normal, ev_cond, condK_true, List.set_cons_zero, List.set_cons_succ, List.getD_cons_zero, List.getD_cons_succ, List.length_cons, List.length_nil, B32_shr64, cvt_32_8, BitVec.toNat_ofNat, Nat.reduceAdd, upd_at, stepK_mod, cellsOf_B8, op_st, stV_ptr, op_iaA, iaV_lt, if_true, Nat.zero_add, Nat.add_zero, decide_true, Nat.reducePow, Nat.reduceMod, op_ix1, aB_st, aW_ix1, Nat.mul_one, Nat.add_zero, Nat.zero_add, N_add, N_mul, N_lss, N_nat, Nat.reduceAdd, Nat.reduceMod, decide_true, L24b0, hi, h2]
    rfl
  · refine canon_inv [(1, 0), (1, 1)] rfl (by simp only [canonNames, FUEL, reach_cons, reachK_some, reach_nil, nms_ptr, nms_sl, nms_undef, List.flatMap_cons, List.flatMap_nil, List.nil_append, List.cons_append, List.append_nil, List.map_nil, List.map_cons, List.contains_nil, List.contains_cons, Prod.mk.injEq, beq_iff_eq, Bool.or_eq_true, Bool.false_eq_true, and_true, and_false, or_false, or_true, if_true, if_false, Nat.one_ne_zero, Nat.zero_ne_one, List.filter_cons, List.filter_nil, bne_iff_ne, ne_eq, not_false_eq_true, not_true_eq_false, upd_at, mask_nil, mask_true, mask_false, range_two, nms_N, L24k0, h0, h1, h2, h01, aB_nms, HsC_nms, bs_nms, aW_agg_nms]) rfl ⟨_, rfl, ?_, ?_, ?_, ?_⟩
    · rw [cN_zero]; simp (disch := first | omega | decide | simp only [nms_B8, nms_B32, nms_B64, nms_I, nms_N, nms_Bo, nms_Un, nms_undef, nms_Hf, nms_ptr, nms_sl, aB_agg_nms, aW_agg_nms, aD_agg_nms, aO_agg_nms, List.flatMap_cons, List.flatMap_nil, List.nil_append, List.append_nil, ren_B8, ren_B32, ren_B64, ren_I, ren_N, ren_Bo, ren_Un, ren_undef, ren_Hf, aB_agg_ren, aW_agg_ren, aD_agg_ren, aO_agg_ren, List.map_cons, List.map_nil, ren7_I, ren7_N, ren7_Bo, ren7_B8, ren7_B32, ren7_B64, nms7_I, nms7_N, nms7_Bo, nms7_B8, nms7_B32, nms7_B64, nms_tup, ren_tup, implies_true, l17, l18, l19, l20, l36, l37, l38, l39, l43, l21, l22, l24, l25, l33, l35, l40, l42, l14, l27, bs_isCell, bs_nms, bs_ren, ibs_nms, ibs_ren, bs_length, aW_isCell, aB_isCell, isCell_sl, isCell_isl, isCell_nil, isCell_ptr, isCell_N]) only [Option.map_some, upd_at, Prod.mk.injEq, and_self, if_false, Nat.zero_ne_one, canonMap_0, Option.map_some, ren_slF, slO_some, h0, HsC_ren]
    · exact cN_same (1, 0) rfl (by simp only [upd_at, Prod.mk.injEq, and_false, if_false, Nat.zero_ne_one, h1]) (aB_ren _ _ _)
    · rw [outP_succ]; exact cN_same (1, 1) rfl (by simp only [upd_at, if_true]) (aB_ren _ _ _)
    · rw [cN_zero]; simp (disch := first | omega | decide | simp only [nms_B8, nms_B32, nms_B64, nms_I, nms_N, nms_Bo, nms_Un, nms_undef, nms_Hf, nms_ptr, nms_sl, aB_agg_nms, aW_agg_nms, aD_agg_nms, aO_agg_nms, List.flatMap_cons, List.flatMap_nil, List.nil_append, List.append_nil, ren_B8, ren_B32, ren_B64, ren_I, ren_N, ren_Bo, ren_Un, ren_undef, ren_Hf, aB_agg_ren, aW_agg_ren, aD_agg_ren, aO_agg_ren, List.map_cons, List.map_nil, ren7_I, ren7_N, ren7_Bo, ren7_B8, ren7_B32, ren7_B64, nms7_I, nms7_N, nms7_Bo, nms7_B8, nms7_B32, nms7_B64, nms_tup, ren_tup, implies_true, l17, l18, l19, l20, l36, l37, l38, l39, l43, l21, l22, l24, l25, l33, l35, l40, l42, l14, l27, bs_isCell, bs_nms, bs_ren, ibs_nms, ibs_ren, bs_length, aW_isCell, aB_isCell, isCell_sl, isCell_isl, isCell_nil, isCell_ptr, isCell_N]) only [Option.map_some, upd_at, Prod.mk.injEq, and_true, if_false, Nat.zero_ne_one, Option.map_some, bs_ren, h01]

set_option maxRecDepth 10000 in
theorem sumC (k : Nat) (s : Nat → BitVec 32) (n : Nat) (l : List (BitVec 8)) (hn : n ≤ 4611686018427387000) (hl : l = []):
    F C (k + (fb n 8).length / 64 + 101) 24 [.ptr (0, 0) 0] [HsC s (.sl (0, 1) 0 0 (some 0) 1) n, bs l] = some (.agg (aB 32 (outB (absN (fb n 8) s ((fb n 8).length / 64)))), [some (HsC s (.sl (0, 1) 0 0 (some 0) 1) n), some (bs l)], []) := by
  have hz := zs_lt n
  have hfl := fb_length n 8
  obtain ⟨m, hm⟩ : ∃ m, m = fb n 8 := ⟨_, rfl⟩
  rw [← hm]
  rw [F_succ f24]
  have hfork := ptr_callG (k + m.length / 64 + 100) 7 22 l22 (upd (upd (inHeap [HsC s (.sl (0, 1) 0 0 (some 0) 1) n, bs l]) (2, 0) (some (aB 32 fun _ => 0#8))) (3, 0) (some (aB 32 fun _ => 0#8))) (0, 0) (0, 1) s n 0 (some 0) l rfl rfl (by decide)
    (.ptr (1, 0) 0) (.ptr (7, 0) 0) [HsC s (.sl (1, 1) 0 0 (some 0) 1) n, bs []] [HsC s (.sl (7, 1) 0 0 (some 0) 1) n, bs []] (forkG (k + m.length / 64 + 98) s n 0 0 (some 0) (some 0) l [] (by subst hl; exact clone_C _)) rfl (by
      simp only [List.map_cons, List.map_nil, HsC_ren, bs_ren]; rfl)
  have hzs : (119 - n % 64) % 64 = zs n := rfl
  have hst : ∀ nm : Nm, stK 1 0 nm (some [B8 128#8]) (some (bs (List.replicate (zs n + 1) 0#8))) = some ⟨Un, [], [(nm, some (bs (fb n 0)))]⟩ := by
    intro nm; rw [bs_st _ _ _ _ (by simp), ← fb_zero]
  simp (disch := first | omega | decide | simp only [nms_B8, nms_B32, nms_B64, nms_I, nms_N, nms_Bo, nms_Un, nms_undef, nms_Hf, nms_ptr, nms_sl, aB_agg_nms, aW_agg_nms, aD_agg_nms, aO_agg_nms, List.flatMap_cons, List.flatMap_nil, List.nil_append, List.append_nil, ren_B8, ren_B32, ren_B64, ren_I, ren_N, ren_Bo, ren_Un, ren_undef, ren_Hf, aB_agg_ren, aW_agg_ren, aD_agg_ren, aO_agg_ren, List.map_cons, List.map_nil, ren7_I, ren7_N, ren7_Bo, ren7_B8, ren7_B32, ren7_B64, nms7_I, nms7_N, nms7_Bo, nms7_B8, nms7_B32, nms7_B64, nms_tup, ren_tup, implies_true, l17, l18, l19, l20, l36, l37, l38, l39, l43, l21, l22, l24, l25, l33, l35, l40, l42, l14, l27, bs_isCell, bs_nms, bs_ren, ibs_nms, ibs_ren, bs_length, aW_isCell, aB_isCell, isCell_sl, isCell_isl, isCell_nil, isCell_ptr, isCell_N]) only [funSem_eq, ev_skip, ev_seq, ev_block, ev_region, regK_some, evOpers_nil, evOpers_cons, stepK_pure, put_some, put_none, evX_t, evX_c, outR_some, op_mv, op_bin, op_call, callV_fn, andThen_normal, ev_cond, condK_false, List.set_cons_zero, List.set_cons_succ, List.getD_cons_zero, List.getD_cons_succ, List.map_cons, List.map_nil, List.nil_append, List.cons_append, repUn_succ, List.replicate_zero, List.length_cons, List.length_nil, ev_loop, Nat.reduceAdd, Nat.reduceSub, upd_at, stepK_new, stepK_mod, cellsOf_B8, cellAt_ptr, ld1K_some, op_ld1, op_new, op_st, stV_ptr, op_fa, faV_ptr, Prod.mk.injEq, Nat.reduceEqDiff, and_true, and_false, and_self, if_true, if_false, Nat.zero_add, Nat.add_zero, Nat.zero_ne_one, aB_rep, Nat.mul_one, Nat.add_zero, Nat.zero_add, N_add, N_sub, N_rem, N_nat, Nat.reduceEqDiff, Nat.reduceAdd, op_chk, chkV_ptr, eqp_ptr, op_iaS, iaSV_sl, op_mkslice, Nat.mul_one, inHeap_at, inHeap_none, List.getElem?_cons_zero, stepK_n2m2, L24, Hs_n, hfork, mk_bytes, hzs, hst]
  generalize hL : loopN L24k1 _ _ _ = r
  refine loop_use hL (fJC s n l) 8 (by omega) (fun i st hi hI => f_roundC _ _ s n l (by omega) i hi st hI) ?_ ?_ ?_
  · refine canon_inv [(2, 0), (3, 0), (7, 0), (7, 1), (17, 0)] rfl (by simp only [canonNames, FUEL, reach_cons, reachK_some, reach_nil, nms_ptr, nms_sl, nms_undef, List.flatMap_cons, List.flatMap_nil, List.nil_append, List.cons_append, List.append_nil, List.map_nil, List.map_cons, List.contains_nil, List.contains_cons, Prod.mk.injEq, beq_iff_eq, Bool.or_eq_true, Bool.false_eq_true, Nat.reduceEqDiff, and_true, and_false, or_false, or_true, if_true, if_false, Nat.one_ne_zero, Nat.zero_ne_one, List.filter_cons, List.filter_nil, bne_iff_ne, ne_eq, not_false_eq_true, not_true_eq_false, upd_at, mask_nil, mask_true, mask_false, inHeap_at, inHeap_none, range_two, List.getElem?_cons_zero, List.getElem?_cons_succ, nms_N, L24k1, aB_nms, HsC_nms, bs_nms]) rfl ⟨some (zs n + 1), _, rfl, .inr ⟨rfl, rfl⟩, ?_, ?_, ?_, ?_, ?_, ?_, ?_⟩
    · rw [cN_zero]; simp (disch := first | omega | decide | simp only [nms_B8, nms_B32, nms_B64, nms_I, nms_N, nms_Bo, nms_Un, nms_undef, nms_Hf, nms_ptr, nms_sl, aB_agg_nms, aW_agg_nms, aD_agg_nms, aO_agg_nms, List.flatMap_cons, List.flatMap_nil, List.nil_append, List.append_nil, ren_B8, ren_B32, ren_B64, ren_I, ren_N, ren_Bo, ren_Un, ren_undef, ren_Hf, aB_agg_ren, aW_agg_ren, aD_agg_ren, aO_agg_ren, List.map_cons, List.map_nil, ren7_I, ren7_N, ren7_Bo, ren7_B8, ren7_B32, ren7_B64, nms7_I, nms7_N, nms7_Bo, nms7_B8, nms7_B32, nms7_B64, nms_tup, ren_tup, implies_true, l17, l18, l19, l20, l36, l37, l38, l39, l43, l21, l22, l24, l25, l33, l35, l40, l42, l14, l27, bs_isCell, bs_nms, bs_ren, ibs_nms, ibs_ren, bs_length, aW_isCell, aB_isCell, isCell_sl, isCell_isl, isCell_nil, isCell_ptr, isCell_N]) only [Option.map_some, upd_at, Prod.mk.injEq, Nat.reduceEqDiff, and_true, and_false, and_self, if_true, if_false, Nat.zero_ne_one, canonMap_0, Option.map_some, inHeap_at, List.getElem?_cons_zero, ren_slF, slO_some, HsC_ren]
    · exact cN_same (2, 0) rfl (by simp only [upd_at, Prod.mk.injEq, Nat.reduceEqDiff, and_true, and_self, if_true, if_false, Nat.zero_ne_one]) (aB_ren _ _ _)
    · exact cN_same (3, 0) rfl (by simp only [upd_at, Prod.mk.injEq, Nat.reduceEqDiff, and_true, and_self, if_true, if_false, Nat.zero_ne_one]) (aB_ren _ _ _)
    · rw [cN_one _ _ _ (7, 0) (HsC s (.sl (7, 1) 0 0 (some 0) 1) n) rfl (by simp only [upd_at, Prod.mk.injEq, Nat.reduceEqDiff, and_true, and_false, and_self, if_true, if_false, Nat.zero_ne_one]), HsC_ren]; rfl
    · exact cN_same (17, 0) rfl (by simp only [upd_at, Prod.mk.injEq, Nat.reduceEqDiff, and_true, and_self, if_true, if_false, Nat.zero_ne_one]) (bs_ren _ _)
    · exact cN_same (7, 1) rfl (by simp only [upd_at, Prod.mk.injEq, Nat.reduceEqDiff, and_true, and_false, and_self, if_true, if_false, Nat.one_ne_zero]) (bs_ren _ _)
    · rw [cN_zero]; simp (disch := first | omega | decide | simp only [nms_B8, nms_B32, nms_B64, nms_I, nms_N, nms_Bo, nms_Un, nms_undef, nms_Hf, nms_ptr, nms_sl, aB_agg_nms, aW_agg_nms, aD_agg_nms, aO_agg_nms, List.flatMap_cons, List.flatMap_nil, List.nil_append, List.append_nil, ren_B8, ren_B32, ren_B64, ren_I, ren_N, ren_Bo, ren_Un, ren_undef, ren_Hf, aB_agg_ren, aW_agg_ren, aD_agg_ren, aO_agg_ren, List.map_cons, List.map_nil, ren7_I, ren7_N, ren7_Bo, ren7_B8, ren7_B32, ren7_B64, nms7_I, nms7_N, nms7_Bo, nms7_B8, nms7_B32, nms7_B64, nms_tup, ren_tup, implies_true, l17, l18, l19, l20, l36, l37, l38, l39, l43, l21, l22, l24, l25, l33, l35, l40, l42, l14, l27, bs_isCell, bs_nms, bs_ren, ibs_nms, ibs_ren, bs_length, aW_isCell, aB_isCell, isCell_sl, isCell_isl, isCell_nil, isCell_ptr, isCell_N]) only [Option.map_some, upd_at, Prod.mk.injEq, Nat.reduceEqDiff, and_true, and_false, and_self, if_true, if_false, Nat.one_ne_zero, Option.map_some, bs_ren, inHeap_at, List.getElem?_cons_zero, List.getElem?_cons_succ, bs_ren]
  · rintro st ⟨c, H, rfl, hc, h0, h1, h2, h3, hF, h13, h01⟩
    apply stop_exit
    simp (disch := first | omega | decide | simp only [nms_B8, nms_B32, nms_B64, nms_I, nms_N, nms_Bo, nms_Un, nms_undef, nms_Hf, nms_ptr, nms_sl, aB_agg_nms, aW_agg_nms, aD_agg_nms, aO_agg_nms, List.flatMap_cons, List.flatMap_nil, List.nil_append, List.append_nil, ren_B8, ren_B32, ren_B64, ren_I, ren_N, ren_Bo, ren_Un, ren_undef, ren_Hf, aB_agg_ren, aW_agg_ren, aD_agg_ren, aO_agg_ren, List.map_cons, List.map_nil, ren7_I, ren7_N, ren7_Bo, ren7_B8, ren7_B32, ren7_B64, nms7_I, nms7_N, nms7_Bo, nms7_B8, nms7_B32, nms7_B64, nms_tup, ren_tup, implies_true, l17, l18, l19, l20, l36, l37, l38, l39, l43, l21, l22, l24, l25, l33, l35, l40, l42, l14, l27, bs_isCell, bs_nms, bs_ren, ibs_nms, ibs_ren, bs_length, aW_isCell, aB_isCell, isCell_sl, isCell_isl, isCell_nil, isCell_ptr, isCell_N]) only [ev_exit, ev_seq, ev_region, regK_some, evOpers_nil, evOpers_cons, stepK_pure, put_some, evX_t, evX_c, outR_some, op_bin, andThen_normal, andThen_exit, ev_cond, condK_false, List.set_cons_zero, List.set_cons_succ, List.getD_cons_zero, List.getD_cons_succ, List.length_cons, List.length_nil, Nat.reduceAdd, Nat.zero_add, Nat.add_zero, decide_false, N_lss, Nat.reduceAdd, Nat.lt_irrefl, decide_false, L24b1]
    rfl
  · rintro st ⟨c, H, rfl, hc, h0, h1, h2, h3, hF, h13, h01⟩ rfl
    clear hL
    obtain ⟨l', hw, _, _⟩ := writeC k s n (fb n 8) m hm (by simp [fb]) (by rw [hm]; omega) (by omega)
    have hB := lent_sl H (1, 4) 0 (zs n + 1 + 8) c (fb n 8) [(1, 2), (1, 3)] hF (by omega) rfl
    rw [List.drop_zero, List.take_of_length_le (by omega)] at hB
    have hcall := fun b => write_callG _ b H (1, 2) (1, 3) s _ n _ _ 0 (some 0) _ (fb n 8) [] l' (some []) h3 h13 (by decide) hB hw
    obtain ⟨s', hs'⟩ : ∃ s', s' = absN m s (m.length / 64) := ⟨_, rfl⟩
    rw [← hs'] at hcall ⊢
    simp (disch := first | omega | decide | simp only [nms_B8, nms_B32, nms_B64, nms_I, nms_N, nms_Bo, nms_Un, nms_undef, nms_Hf, nms_ptr, nms_sl, aB_agg_nms, aW_agg_nms, aD_agg_nms, aO_agg_nms, List.flatMap_cons, List.flatMap_nil, List.nil_append, List.append_nil, ren_B8, ren_B32, ren_B64, ren_I, ren_N, ren_Bo, ren_Un, ren_undef, ren_Hf, aB_agg_ren, aW_agg_ren, aD_agg_ren, aO_agg_ren, List.map_cons, List.map_nil, ren7_I, ren7_N, ren7_Bo, ren7_B8, ren7_B32, ren7_B64, nms7_I, nms7_N, nms7_Bo, nms7_B8, nms7_B32, nms7_B64, nms_tup, ren_tup, implies_true, l17, l18, l19, l20, l36, l37, l38, l39, l43, l21, l22, l24, l25, l33, l35, l40, l42, l14, l27, bs_isCell, bs_nms, bs_ren, ibs_nms, ibs_ren, bs_length, aW_isCell, aB_isCell, isCell_sl, isCell_isl, isCell_nil, isCell_ptr, isCell_N]) only [ev_exit, ev_seq, ev_block, ev_region, regK_some, evOpers_nil, evOpers_cons, stepK_pure, put_some, evX_t, evX_c, outR_some, op_mv, op_bin, op_call, callV_fn, andThen_normal, andThen_exit, inBlock_exit, ev_cond, condK_false, List.set_cons_zero, List.set_cons_succ, List.getD_cons_zero, List.getD_cons_succ, List.map_cons, List.map_nil, List.length_cons, List.length_nil, Option.map_some, ev_loop, Nat.reduceAdd, upd_at, cellAt_ptr, ldK_some, op_ld, op_fa, faV_ptr, Prod.mk.injEq, Nat.reduceEqDiff, and_false, and_self, if_true, if_false, Nat.zero_add, Nat.add_zero, decide_false, Nat.add_zero, Nat.zero_add, N_lss, Nat.reduceEqDiff, Nat.reduceAdd, Nat.lt_irrefl, decide_false, op_chk, chkV_ptr, Option.map_some, stepK_nm2, L24b1, hcall, Hs_state]
    generalize hL : loopN L24k0 _ _ _ = r
    refine loop_use hL (gJC s s' n l) 8 (by omega) (fun i st hi hI => g_roundC _ _ s s' n l i hi st hI) ?_ ?_ ?_
    · refine canon_inv [(1, 0), (1, 1)] rfl (by simp only [canonNames, FUEL, reach_cons, reachK_some, reach_nil, nms_ptr, nms_sl, nms_undef, List.flatMap_cons, List.flatMap_nil, List.nil_append, List.cons_append, List.append_nil, List.map_nil, List.map_cons, List.contains_nil, List.contains_cons, Prod.mk.injEq, beq_iff_eq, Bool.or_eq_true, Bool.false_eq_true, Nat.reduceEqDiff, and_true, and_false, or_false, or_true, if_true, if_false, Nat.one_ne_zero, Nat.zero_ne_one, List.filter_cons, List.filter_nil, bne_iff_ne, ne_eq, not_false_eq_true, not_true_eq_false, upd_at, mask_nil, mask_true, mask_false, range_two, nms_N, L24k0, h0, h1, h2, h01, aB_nms, HsC_nms, bs_nms, aW_agg_nms]) rfl ⟨_, rfl, ?_, ?_, ?_, ?_⟩
      · rw [cN_zero]; simp (disch := first | omega | decide | simp only [nms_B8, nms_B32, nms_B64, nms_I, nms_N, nms_Bo, nms_Un, nms_undef, nms_Hf, nms_ptr, nms_sl, aB_agg_nms, aW_agg_nms, aD_agg_nms, aO_agg_nms, List.flatMap_cons, List.flatMap_nil, List.nil_append, List.append_nil, ren_B8, ren_B32, ren_B64, ren_I, ren_N, ren_Bo, ren_Un, ren_undef, ren_Hf, aB_agg_ren, aW_agg_ren, aD_agg_ren, aO_agg_ren, List.map_cons, List.map_nil, ren7_I, ren7_N, ren7_Bo, ren7_B8, ren7_B32, ren7_B64, nms7_I, nms7_N, nms7_Bo, nms7_B8, nms7_B32, nms7_B64, nms_tup, ren_tup, implies_true, l17, l18, l19, l20, l36, l37, l38, l39, l43, l21, l22, l24, l25, l33, l35, l40, l42, l14, l27, bs_isCell, bs_nms, bs_ren, ibs_nms, ibs_ren, bs_length, aW_isCell, aB_isCell, isCell_sl, isCell_isl, isCell_nil, isCell_ptr, isCell_N]) only [Option.map_some, upd_at, Prod.mk.injEq, Nat.reduceEqDiff, and_true, and_self, if_false, Nat.zero_ne_one, canonMap_0, Option.map_some, ren_slF, slO_some, h0, HsC_ren]
      · exact cN_same (1, 0) rfl (by simp only [upd_at, Prod.mk.injEq, Nat.reduceEqDiff, and_true, and_false, if_false, h1]) (aB_ren _ _ _)
      · rw [show outP s' 0 = fun _ => 0#8 by funext j; simp [outP]]
        exact cN_same (1, 1) rfl (by simp only [upd_at, Prod.mk.injEq, Nat.reduceEqDiff, and_false, and_self, if_false, Nat.one_ne_zero, h2]) (aB_ren _ _ _)
      · rw [cN_zero]; simp (disch := first | omega | decide | simp only [nms_B8, nms_B32, nms_B64, nms_I, nms_N, nms_Bo, nms_Un, nms_undef, nms_Hf, nms_ptr, nms_sl, aB_agg_nms, aW_agg_nms, aD_agg_nms, aO_agg_nms, List.flatMap_cons, List.flatMap_nil, List.nil_append, List.append_nil, ren_B8, ren_B32, ren_B64, ren_I, ren_N, ren_Bo, ren_Un, ren_undef, ren_Hf, aB_agg_ren, aW_agg_ren, aD_agg_ren, aO_agg_ren, List.map_cons, List.map_nil, ren7_I, ren7_N, ren7_Bo, ren7_B8, ren7_B32, ren7_B64, nms7_I, nms7_N, nms7_Bo, nms7_B8, nms7_B32, nms7_B64, nms_tup, ren_tup, implies_true, l17, l18, l19, l20, l36, l37, l38, l39, l43, l21, l22, l24, l25, l33, l35, l40, l42, l14, l27, bs_isCell, bs_nms, bs_ren, ibs_nms, ibs_ren, bs_length, aW_isCell, aB_isCell, isCell_sl, isCell_isl, isCell_nil, isCell_ptr, isCell_N]) only [Option.map_some, upd_at, Prod.mk.injEq, Nat.reduceEqDiff, and_self, if_false, Nat.one_ne_zero, Nat.zero_ne_one, Option.map_some, bs_ren, h01, bs_ren]
    · rintro st ⟨H, rfl, h0, h1, h2, h01⟩
      apply stop_exit
      simp (disch := first | omega | decide | simp only [nms_B8, nms_B32, nms_B64, nms_I, nms_N, nms_Bo, nms_Un, nms_undef, nms_Hf, nms_ptr, nms_sl, aB_agg_nms, aW_agg_nms, aD_agg_nms, aO_agg_nms, List.flatMap_cons, List.flatMap_nil, List.nil_append, List.append_nil, ren_B8, ren_B32, ren_B64, ren_I, ren_N, ren_Bo, ren_Un, ren_undef, ren_Hf, aB_agg_ren, aW_agg_ren, aD_agg_ren, aO_agg_ren, List.map_cons, List.map_nil, ren7_I, ren7_N, ren7_Bo, ren7_B8, ren7_B32, ren7_B64, nms7_I, nms7_N, nms7_Bo, nms7_B8, nms7_B32, nms7_B64, nms_tup, ren_tup, implies_true, l17, l18, l19, l20, l36, l37, l38, l39, l43, l21, l22, l24, l25, l33, l35, l40, l42, l14, l27, bs_isCell, bs_nms, bs_ren, ibs_nms, ibs_ren, bs_length, aW_isCell, aB_isCell, isCell_sl, isCell_isl, isCell_nil, isCell_ptr, isCell_N]) only [ev_exit, ev_seq, ev_region, regK_some, evOpers_nil, evOpers_cons, stepK_pure, put_some, evX_t, evX_c, outR_some, op_bin, andThen_normal, andThen_exit, ev_cond, condK_false, List.set_cons_zero, List.set_cons_succ, List.getD_cons_zero, List.getD_cons_succ, List.length_cons, List.length_nil, Nat.reduceAdd, Nat.zero_add, Nat.add_zero, decide_false, N_lss, Nat.reduceAdd, Nat.lt_irrefl, decide_false, L24b0]
      rfl
    · rintro st ⟨H, rfl, h0, h1, h2, h01⟩ rfl
      have e : aB 32 (outP s' 8) = aB 32 (outB s') := aB_ext 32 fun j hj => by simp only [outP]; rw [if_pos (by omega)]
      rw [e] at h2
      simp (disch := first | omega | decide | simp only [nms_B8, nms_B32, nms_B64, nms_I, nms_N, nms_Bo, nms_Un, nms_undef, nms_Hf, nms_ptr, nms_sl, aB_agg_nms, aW_agg_nms, aD_agg_nms, aO_agg_nms, List.flatMap_cons, List.flatMap_nil, List.nil_append, List.append_nil, ren_B8, ren_B32, ren_B64, ren_I, ren_N, ren_Bo, ren_Un, ren_undef, ren_Hf, aB_agg_ren, aW_agg_ren, aD_agg_ren, aO_agg_ren, List.map_cons, List.map_nil, ren7_I, ren7_N, ren7_Bo, ren7_B8, ren7_B32, ren7_B64, nms7_I, nms7_N, nms7_Bo, nms7_B8, nms7_B32, nms7_B64, nms_tup, ren_tup, implies_true, l17, l18, l19, l20, l36, l37, l38, l39, l43, l21, l22, l24, l25, l33, l35, l40, l42, l14, l27, bs_isCell, bs_nms, bs_ren, ibs_nms, ibs_ren, bs_length, aW_isCell, aB_isCell, isCell_sl, isCell_isl, isCell_nil, isCell_ptr, isCell_N]) only [ev_ret, ev_exit, ev_seq, ev_region, regK_some, evOpers_nil, evOpers_cons, stepK_pure, put_some, put_none, evX_t, evX_c, outR_some, op_bin, andThen_normal, andThen_exit, inBlock_exit, ev_cond, condK_false, retK_ret, List.set_cons_zero, List.set_cons_succ, List.getD_cons_zero, List.getD_cons_succ, List.length_cons, List.length_nil, Option.map_some, Nat.reduceAdd, upd_at, stepK_mod, cellsOf_agg, cellAt_ptr, ldK_some, op_ld, op_st, stV_ptr, if_true, Nat.zero_add, Nat.add_zero, decide_false, resVal_agg, aggV_some, aB_cells, aB_st_all, Nat.add_zero, Nat.zero_add, N_lss, Nat.reduceAdd, Nat.lt_irrefl, decide_false, Option.map_some, L24b0, h1, h2]
      rw [outOf_mem 2 _ _ [] (by simp only [canonNames, FUEL, reach_cons, reachK_some, reach_nil, nms_sl, List.flatMap_cons, List.flatMap_nil, List.nil_append, List.cons_append, List.append_nil, List.map_nil, List.map_cons, List.contains_nil, List.contains_cons, Prod.mk.injEq, beq_iff_eq, Bool.or_eq_true, Bool.false_eq_true, and_true, and_false, or_false, or_true, if_true, if_false, Nat.one_ne_zero, Nat.zero_ne_one, List.filter_cons, List.filter_nil, bne_iff_ne, ne_eq, not_true_eq_false, upd_at, range_two, h0, h01, aB_agg_nms, HsC_nms, bs_nms])]
      simp (disch := first | omega | decide | simp only [nms_B8, nms_B32, nms_B64, nms_I, nms_N, nms_Bo, nms_Un, nms_undef, nms_Hf, nms_ptr, nms_sl, aB_agg_nms, aW_agg_nms, aD_agg_nms, aO_agg_nms, List.flatMap_cons, List.flatMap_nil, List.nil_append, List.append_nil, ren_B8, ren_B32, ren_B64, ren_I, ren_N, ren_Bo, ren_Un, ren_undef, ren_Hf, aB_agg_ren, aW_agg_ren, aD_agg_ren, aO_agg_ren, List.map_cons, List.map_nil, ren7_I, ren7_N, ren7_Bo, ren7_B8, ren7_B32, ren7_B64, nms7_I, nms7_N, nms7_Bo, nms7_B8, nms7_B32, nms7_B64, nms_tup, ren_tup, implies_true, l17, l18, l19, l20, l36, l37, l38, l39, l43, l21, l22, l24, l25, l33, l35, l40, l42, l14, l27, bs_isCell, bs_nms, bs_ren, ibs_nms, ibs_ren, bs_length, aW_isCell, aB_isCell, isCell_sl, isCell_isl, isCell_nil, isCell_ptr, isCell_N]) only [List.map_cons, List.map_nil, Option.map_some, upd_at, Prod.mk.injEq, false_and, if_false, Nat.zero_ne_one, aB_agg_ren, canonMap_0, List.filterMap_nil, Option.map_some, bs_ren, range_two, ren_slF, slO_some, h0, h01, HsC_ren]

end Sha

namespace Sha
open Go Go.LE

def pad (b : List (BitVec 8)) : List (BitVec 8) := b ++ fb b.length 8
/-- the digest -/
def dig (b : List (BitVec 8)) : Nat → BitVec 8 := outB (absN (pad b) ini ((pad b).length / 64))

theorem chunk_front (b f : List (BitVec 8)) (i : Nat) (h : 64 * i + 64 ≤ b.length) : chunk (b ++ f) i = chunk b i := by
  funext j
  simp only [chunk]
  split
  · rw [List.getD_eq_getElem?_getD, List.getD_eq_getElem?_getD, List.getElem?_append_left (by omega)]
  · rfl
theorem chunk_drop (m : List (BitVec 8)) (q i : Nat) : chunk (m.drop (64 * q)) i = chunk m (q + i) := by
  funext j
  simp only [chunk]
  split
  · rw [List.getD_eq_getElem?_getD, List.getD_eq_getElem?_getD, List.getElem?_drop]
    congr 2; omega
  · rfl
theorem absN_front (b f : List (BitVec 8)) (s : Nat → BitVec 32) : ∀ i, 64 * i ≤ b.length → absN (b ++ f) s i = absN b s i := by
  intro i
  induction i with
  | zero => intro _; rfl
  | succ i ih => intro h; rw [absN, absN, ih (by omega), chunk_front b f i (by omega)]
theorem absN_add (m : List (BitVec 8)) (s : Nat → BitVec 32) (q : Nat) : ∀ i, absN m s (q + i) = absN (m.drop (64 * q)) (absN m s q) i := by
  intro i
  induction i with
  | zero => rfl
  | succ i ih => rw [← Nat.add_assoc, absN, absN, ih, chunk_drop]
/-- pieces first, then the rest -/
theorem absN_two (b f : List (BitVec 8)) (s : Nat → BitVec 32) (q : Nat) (hq : 64 * q ≤ b.length) :
    absN (b.drop (64 * q) ++ f) (absN b s q) ((b.drop (64 * q) ++ f).length / 64) = absN (b ++ f) s ((b ++ f).length / 64) := by
  have e1 : (b ++ f).drop (64 * q) = b.drop (64 * q) ++ f := List.drop_append_of_le_length hq
  have e2 : (b ++ f).length / 64 = q + (b.drop (64 * q) ++ f).length / 64 := by
    rw [List.length_append, List.length_append, List.length_drop]; omega
  rw [e2, absN_add, e1, absN_front b f s q hq]

theorem new_call (k b : Nat) (H : Heap) : callOp (envC C (k + 2)) H b 21 [] = some ⟨.ptr (b, 0) 0, [HsC ini Nil 0], []⟩ := by
  rw [callOp_C l21 rfl rfl, new_F]
  exact calK_ptr_new b _ 0 (by rw [HsC_ren, ren_nil])

theorem write_call0 (k b : Nat) (H : Heap) (fN : Nm) (s : Nat → BitVec 32) (n : Nat) (hn : n ≤ 4611686018427387904) (B : LV) (h : H fN = some (HsC s Nil n)) (hB : Lent H B [] [fN]) :
    callOp (envC C (k + 3)) H b 23 [.ptr fN 0, B] = some ⟨.tup [], [], [(fN, some (HsC s Nil n))]⟩ := by
  obtain ⟨lent, hs, hl⟩ := hB.snap
  have hr : reach H FUEL [] [fN] = [fN] := by
    simp only [FUEL, reach_cons, List.contains_nil, Bool.false_eq_true, if_false, h, reachK_some, HsC_nms, nms_nil, List.nil_append, reach_nil]
  rw [callOp_L, lend_w (k + 3) H fN B [] lent hs, callL_some]
  have hn' : ([.ptr fN 0, .isl (bs []) ([] : List (BitVec 8)).length] : List LV).flatMap (nms D) = [fN] := by
    simp only [List.flatMap_cons, List.flatMap_nil, nms_ptr, ibs_nms, List.append_nil]
  rw [hn', hr, callN_eq _ _ _ _ _ hl, show ([fN] : List Nm).filterMap H = [HsC s Nil n] by simp [h]]
  have ha : ([.ptr fN 0, .isl (bs []) ([] : List (BitVec 8)).length] : List LV).map (ren D (toCallee [fN])) = [.ptr (0, 0) 0, .isl (bs []) 0] := by
    simp only [List.map_cons, List.map_nil, ren_ptrF, toCallee_eq, idx0, Option.map_some, ptrO_some, ibs_ren, List.length_nil]
  have hp : plainRes (.tup [], [some (HsC s Nil n)], []) = true := by
    have h1 : (HsC s Nil n).all (noImm D) = true := by
      have h1 : (aW 8 s).all (noImm D) = true := by
        rw [List.all_eq_true]; intro x hx
        simp only [aW, arr, List.mem_map, List.mem_range] at hx
        obtain ⟨i, _, rfl⟩ := hx; rfl
      simp only [HsC, List.all_append, List.all_cons, List.all_nil, Bool.and_true, h1]; rfl
    simp [plainRes, h1]; rfl
  rw [ha, List.map_cons, List.map_nil, HsC_ren, ren_nil, envC_cal, write0A k s n hn, resK_any _ _ _ _ hp, backTo_eq]
  simp only [ren_tup0, HsC_ren, ren_nil, List.map_nil, List.zipWith_cons_cons, List.zipWith_nil_left, Option.map_some]

set_option maxRecDepth 10000 in
theorem sum_F (k : Nat) (b : List (BitVec 8)) (hb : b.length ≤ 211106232000000) : F C (k + b.length / 64 + 301) 15 [.isl (bs b) b.length] [] = some (.agg (aB 32 (dig b)), [], []) := by
  rw [F_succ f15]
  have hz := zs_lt b.length
  have hfl := fb_length b.length 8
  obtain ⟨K, hK⟩ : ∃ K, K = k + b.length / 64 + 300 := ⟨_, rfl⟩
  rw [← hK]
  have hnew := fun b H => new_call (K - 2) b H
  rw [show K - 2 + 2 = K by omega] at hnew
  by_cases h0 : b = []
  · subst h0
    have hw := fun bb H h => write_call0 (K - 3) bb H (3, 0) ini 0 (by omega) (.isl (bs []) 0) h (lent_isl H [] [(3, 0)])
    rw [show K - 3 + 3 = K by omega] at hw
    have hz0 := zs_lt 0
    have hf0 := fb_length 0 8
    have hs := sumA (K - (fb 0 8).length / 64 - 101) ini 0 (by omega)
    rw [show K - (fb 0 8).length / 64 - 101 + (fb 0 8).length / 64 + 101 = K by omega] at hs
    have hsum := fun bb H h => ptr_callA K bb 24 l24 H (3, 0) ini 0 h _ _ [] [] hs (aB_agg_ren _ _ _) rfl
    have hw' := hw 7 (upd (upd (inHeap []) (2, 0) (some (aB 32 fun _ => 0#8))) (3, 0) (some (HsC ini Nil 0))) rfl
    have hsum' := hsum 9 (upd (upd (upd (inHeap []) (2, 0) (some (aB 32 fun _ => 0#8))) (3, 0) (some (HsC ini Nil 0))) (3, 0) (some (HsC ini Nil 0))) rfl
    simp (disch := first | omega | decide | simp only [nms_B8, nms_B32, nms_B64, nms_I, nms_N, nms_Bo, nms_Un, nms_undef, nms_Hf, nms_ptr, nms_sl, aB_agg_nms, aW_agg_nms, aD_agg_nms, aO_agg_nms, List.flatMap_cons, List.flatMap_nil, List.nil_append, List.append_nil, ren_B8, ren_B32, ren_B64, ren_I, ren_N, ren_Bo, ren_Un, ren_undef, ren_Hf, aB_agg_ren, aW_agg_ren, aD_agg_ren, aO_agg_ren, List.map_cons, List.map_nil, ren7_I, ren7_N, ren7_Bo, ren7_B8, ren7_B32, ren7_B64, nms7_I, nms7_N, nms7_Bo, nms7_B8, nms7_B32, nms7_B64, nms_tup, ren_tup, implies_true, l17, l18, l19, l20, l36, l37, l38, l39, l43, l21, l22, l24, l25, l33, l35, l40, l42, l14, l27, bs_isCell, bs_nms, bs_ren, ibs_nms, ibs_ren, bs_length, aW_isCell, aB_isCell, isCell_sl, isCell_isl, isCell_nil, isCell_ptr, isCell_N]) only [funSem_eq, ev_ret, ev_seq, ev_region, regK_some, evOpers_nil, evOpers_cons, stepK_pure, put_some, put_none, evX_t, evX_c, op_mv, op_call, callV_fn, andThen_normal, retK_ret, List.set_cons_zero, List.set_cons_succ, List.getD_cons_zero, List.getD_cons_succ, List.map_cons, List.map_nil, List.nil_append, List.cons_append, repUn_succ, List.replicate_zero, List.length_cons, List.length_nil, Option.map_some, Nat.reduceAdd, Nat.reduceSub, upd_at, stepK_new, stepK_mod, cellsOf_agg, cellAt_ptr, op_new, op_st, stV_ptr, Prod.mk.injEq, Nat.reduceEqDiff, and_true, if_true, if_false, Nat.zero_add, Nat.add_zero, resVal_agg, aggV_some, aB_rep, aB_cells, aB_st_all, aB_outOf, Nat.add_zero, Nat.zero_add, Nat.reduceEqDiff, Nat.reduceAdd, Option.map_some, inHeap_none, L15, hnew, hw', hsum']
    rfl
  · obtain ⟨l', hw, ht1, ht2⟩ := writeA (k + 200) ini 0 b b rfl h0 (by omega) (by omega)
    rw [show k + 200 + b.length / 64 + 100 = K by omega] at hw
    simp only [Nat.zero_add] at hw
    obtain ⟨left, hleft⟩ : ∃ left, left = b.length - 64 * (b.length / 64) := ⟨_, rfl⟩
    rw [← hleft] at hw ht1 ht2
    have hw' := write_callA K 7 (upd (upd (inHeap []) (2, 0) (some (aB 32 fun _ => 0#8))) (3, 0) (some (HsC ini Nil 0))) (3, 0) ini _ 0 _ left (.isl (bs b) b.length) b l' rfl (lent_isl _ b _) hw
    have h2 := absN_two b (fb b.length 8) ini (b.length / 64) (by omega)
    have hdl : (b.drop (64 * (b.length / 64))).length = left := by rw [List.length_drop]; omega
    have hs : F C K 24 [.ptr (0, 0) 0] [HsC (absN b ini (b.length / 64)) (.sl (0, 1) 0 left none 1) b.length, bs l'] =
        some (.agg (aB 32 (dig b)), [some (HsC (absN b ini (b.length / 64)) (.sl (0, 1) 0 left none 1) b.length), some (bs l')], []) := by
      have hd : dig b = outB (absN (b.drop (64 * (b.length / 64)) ++ fb b.length 8) (absN b ini (b.length / 64)) ((b.drop (64 * (b.length / 64)) ++ fb b.length 8).length / 64)) := by
        rw [h2]; rfl
      have hlen : (b.drop (64 * (b.length / 64)) ++ fb b.length 8).length = left + (zs b.length + 1 + 8) := by rw [List.length_append, hdl, hfl]
      rw [hd]
      by_cases hz0 : left = 0
      · have he : b.drop (64 * (b.length / 64)) = [] := List.eq_nil_of_length_eq_zero (by omega)
        rw [he, List.nil_append] at hlen ⊢
        have := sumZ (K - (fb b.length 8).length / 64 - 101) (absN b ini (b.length / 64)) b.length l' (by omega)
        rw [show K - (fb b.length 8).length / 64 - 101 + (fb b.length 8).length / 64 + 101 = K by omega] at this
        rw [hz0]
        exact this
      · rw [← ht1] at hlen ⊢
        have := sumB (K - (l'.take left ++ fb b.length 8).length / 64 - 101) (absN b ini (b.length / 64)) b.length left l' (by omega) ht2 (by omega) (by omega)
        rw [show K - (l'.take left ++ fb b.length 8).length / 64 - 101 + (l'.take left ++ fb b.length 8).length / 64 + 101 = K by omega] at this
        exact this
    have hsum := fun bb H h h2 => ptr_callG K bb 24 l24 H (3, 0) (7, 0) (absN b ini (b.length / 64)) b.length left none l' h h2 (by decide) _ _ [] [] hs (aB_agg_ren _ _ _) rfl
    have hsum' := hsum 9 (upd (upd (upd (upd (inHeap []) (2, 0) (some (aB 32 fun _ => 0#8))) (3, 0) (some (HsC ini Nil 0))) (3, 0) (some (HsC (absN b ini (b.length / 64)) (.sl (7, 0) 0 left none 1) b.length))) (7, 0) (some (bs l'))) rfl rfl
    simp (disch := first | omega | decide | simp only [nms_B8, nms_B32, nms_B64, nms_I, nms_N, nms_Bo, nms_Un, nms_undef, nms_Hf, nms_ptr, nms_sl, aB_agg_nms, aW_agg_nms, aD_agg_nms, aO_agg_nms, List.flatMap_cons, List.flatMap_nil, List.nil_append, List.append_nil, ren_B8, ren_B32, ren_B64, ren_I, ren_N, ren_Bo, ren_Un, ren_undef, ren_Hf, aB_agg_ren, aW_agg_ren, aD_agg_ren, aO_agg_ren, List.map_cons, List.map_nil, ren7_I, ren7_N, ren7_Bo, ren7_B8, ren7_B32, ren7_B64, nms7_I, nms7_N, nms7_Bo, nms7_B8, nms7_B32, nms7_B64, nms_tup, ren_tup, implies_true, l17, l18, l19, l20, l36, l37, l38, l39, l43, l21, l22, l24, l25, l33, l35, l40, l42, l14, l27, bs_isCell, bs_nms, bs_ren, ibs_nms, ibs_ren, bs_length, aW_isCell, aB_isCell, isCell_sl, isCell_isl, isCell_nil, isCell_ptr, isCell_N]) only [funSem_eq, ev_ret, ev_seq, ev_region, regK_some, evOpers_nil, evOpers_cons, stepK_pure, put_some, put_none, evX_t, evX_c, op_mv, op_call, callV_fn, andThen_normal, retK_ret, List.set_cons_zero, List.set_cons_succ, List.getD_cons_zero, List.getD_cons_succ, List.map_cons, List.map_nil, List.nil_append, List.cons_append, repUn_succ, List.replicate_zero, List.length_cons, List.length_nil, Option.map_some, Nat.reduceAdd, Nat.reduceSub, upd_at, stepK_new, stepK_mod, cellsOf_agg, cellAt_ptr, op_new, op_st, stV_ptr, Prod.mk.injEq, Nat.reduceEqDiff, and_true, if_true, if_false, Nat.zero_add, Nat.add_zero, resVal_agg, aggV_some, aB_rep, aB_cells, aB_st_all, aB_outOf, Nat.add_zero, Nat.zero_add, Nat.reduceEqDiff, Nat.reduceAdd, Option.map_some, inHeap_none, stepK_nm, stepK_m2, L15, hnew, hw', hsum']

end Sha

namespace Sha
open Go Go.LE

def zb (b : List (BitVec 8)) (i : Nat) : List (BitVec 8) := b ++ 128#8 :: List.replicate i 0#8
theorem zb_length (b : List (BitVec 8)) (i : Nat) : (zb b i).length = b.length + 1 + i := by simp [zb]; omega
theorem zb_succ (b : List (BitVec 8)) (i : Nat) : zb b (i + 1) = zb b i ++ [0#8] := by simp [zb, List.replicate_succ']
def lb (b : List (BitVec 8)) (i : Nat) : List (BitVec 8) := b ++ fb b.length i
theorem lb_length (b : List (BitVec 8)) (i : Nat) : (lb b i).length = b.length + (zs b.length + 1 + i) := by simp [lb, fb_length]
theorem lb_succ (b : List (BitVec 8)) (i : Nat) : lb b (i + 1) = lb b i ++ [lenb b.length i] := by simp [lb, fb_succ]
theorem lb_zero (b : List (BitVec 8)) : lb b 0 = zb b (zs b.length) := by simp [lb, zb, fb]

/-- one byte behind bytes -/
theorem app_one (bn : Nat) (H : Heap) (m : Nm) (x : BitVec 8) (l : List (BitVec 8)) (len : Nat) (hl : len = l.length) (h : H m = some (bs l)) (hb : len ≤ 211106232532000) :
    appX bn 1 1 1 H [] (bs [x]) (.sl m 0 len none 1) = some ⟨.sl (bn, 0) 0 (len + 1) none 1, [bs (l ++ [x])], [(m, none)]⟩ := by
  rw [appX_none 1 1 _ _ _ _ _ (by omega), h, appN_bytes _ _ _ _ _ _ (by omega), List.drop_zero, List.take_of_length_le (by omega)]

def u4 (b : List (BitVec 8)) (i : Nat) (st : St) : Prop := ∃ (H : Heap), st = ⟨[.isl (bs b) b.length, .undef, .ptr (1, 0) 0, .sl (1, 1) 0 (b.length + 1 + i) none 1, .undef, .undef, .undef, .undef, .undef, .undef, .undef, .undef, .undef, .undef, .undef, .undef, .undef, .undef, .undef, .undef, .undef, .undef, .undef, .undef, .undef, .undef, .undef, .undef, .undef, .undef, .undef, .undef, .undef, .undef, .undef, .undef, .undef, .undef, .undef, .undef, .undef, .undef, .undef, .undef, .undef, .undef, .undef, .undef, .undef, .undef, .undef, .undef, .undef, .undef, .undef, .undef, .undef, .undef, .undef, .undef, .undef, .undef, .undef, .undef, .undef, .undef, .undef, .undef, .undef, .undef, .undef, .undef, .undef, .undef, .undef, .undef, .undef, .undef, .undef, .undef], H, 2, 0⟩ ∧
  H (1, 0) = some (aB 32 fun _ => 0#8) ∧ H (1, 1) = some (bs (zb b i))

set_option maxRecDepth 10000 in
theorem u4_round (K k0 : Nat) (b : List (BitVec 8)) (hb : b.length ≤ 211106232000000) (i : Nat) (hi : i < zs b.length) (st : St) (hI : u4 b i st) :
    ∃ st1, ev (envC C k0) K L16b4 st = some (.normal, st1) ∧ u4 b (i + 1) (canon L16k4 st1) := by
  obtain ⟨H, rfl, h0, h1⟩ := hI
  have e1 : (b.length + 1 + i) % 64 ≠ 56 := by unfold zs at hi; omega
  have hz := zs_lt b.length
  have hl := zb_length b i
  have hfr : front (upd H (7, 0) (some (bs [0#8]))) 1 1 (.sl (7, 0) 0 1 (some 1) 1) = some (bs [0#8]) := front_bytes (7, 0) 0 1 (some 1) [0#8] (by simp only [upd_at, if_true]) (by simp)
  have ha := app_one 8 (upd H (7, 0) (some (bs [0#8]))) (1, 1) 0#8 (zb b i) (b.length + 1 + i) (by omega) (by simp only [upd_at, Prod.mk.injEq, Nat.reduceEqDiff, and_self, if_false, Nat.one_ne_zero, h1]) (by omega)
  rw [← zb_succ] at ha
  apply Exists.intro
  apply And.intro
  · simp (disch := first | omega | decide | simp only [nms_B8, nms_B32, nms_B64, nms_I, nms_N, nms_Bo, nms_Un, nms_undef, nms_Hf, nms_ptr, nms_sl, aB_agg_nms, aW_agg_nms, aD_agg_nms, aO_agg_nms, List.flatMap_cons, List.flatMap_nil, List.nil_append, List.append_nil, ren_B8, ren_B32, ren_B64, ren_I, ren_N, ren_Bo, ren_Un, ren_undef, ren_Hf, aB_agg_ren, aW_agg_ren, aD_agg_ren, aO_agg_ren, List.map_cons, List.map_nil, ren7_I, ren7_N, ren7_Bo, ren7_B8, ren7_B32, ren7_B64, nms7_I, nms7_N, nms7_Bo, nms7_B8, nms7_B32, nms7_B64, nms_tup, ren_tup, implies_true, l17, l18, l19, l20, l36, l37, l38, l39, l43, l21, l22, l24, l25, l33, l35, l40, l42, l14, l27, bs_isCell, bs_nms, bs_ren, ibs_nms, ibs_ren, bs_length, aW_isCell, aB_isCell, isCell_sl, isCell_isl, isCell_nil, isCell_ptr, isCell_N]) only [ev_skip, ev_seq, ev_block, ev_region, regK_some, evOpers_nil, evOpers_cons, stepK_pure, put_some, evX_t, evX_c, outR_some, op_mv, op_bin, andThen_normal, inBlock_normal, ev_cond, condK_true, List.set_cons_zero, List.set_cons_succ, List.getD_cons_zero, List.getD_cons_succ, List.map_cons, List.map_nil, List.length_cons, List.length_nil, Nat.reduceAdd, stepK_new, Nat.zero_add, Nat.add_zero, decide_false, Nat.add_zero, Nat.zero_add, N_rem, N_neq, decide_not, Nat.reduceAdd, decide_false, Bool.not_false, op_len, lenV_some, lenS_sl, lenOf_sl, op_append, appK_some, appF_some, op_mkrow, rowK_some, stepK_nm, L16b4, e1, fill1, hfr, ha]
    rfl
  · refine canon_inv [(1, 0), (8, 0)] rfl (by simp only [canonNames, FUEL, reach_cons, reachK_some, reach_nil, nms_ptr, nms_sl, nms_undef, List.flatMap_cons, List.flatMap_nil, List.nil_append, List.cons_append, List.append_nil, List.range_zero, List.map_nil, List.contains_nil, List.contains_cons, Prod.mk.injEq, beq_iff_eq, Bool.or_eq_true, Bool.false_eq_true, Nat.reduceEqDiff, and_true, and_false, or_false, if_true, if_false, Nat.one_ne_zero, Nat.zero_ne_one, List.filter_cons, List.filter_nil, bne_iff_ne, ne_eq, not_false_eq_true, upd_at, mask_nil, mask_true, mask_false, L16k4, h0, ibs_nms, aB_nms, bs_nms]) ?_ ⟨_, rfl, ?_, ?_⟩
    · simp only [L16k4, List.map_cons, List.map_nil, ibs_ren, ren_ptrF, ren_slF, mask_true, mask_false, mask_nil, ren_undef]
      rfl
    · exact cN_same (1, 0) rfl (by simp only [upd_at, Prod.mk.injEq, Nat.reduceEqDiff, and_true, and_false, if_false, Nat.zero_ne_one, h0]) (aB_ren _ _ _)
    · exact cN_same (8, 0) rfl (by simp only [upd_at, Prod.mk.injEq, Nat.reduceEqDiff, and_true, and_self, if_true, if_false, Nat.zero_ne_one]) (bs_ren _ _)

def u3 (b : List (BitVec 8)) (i : Nat) (st : St) : Prop := ∃ (H : Heap), st = ⟨[.undef, .undef, .ptr (1, 0) 0, .sl (1, 1) 0 (b.length + (zs b.length + 1 + i)) none 1, B64 (BitVec.ofNat 64 b.length * 8#64), N i, .undef, .undef, .undef, .undef, .undef, .undef, .undef, .undef, .undef, .undef, .undef, .undef, .undef, .undef, .undef, .undef, .undef, .undef, .undef, .undef, .undef, .undef, .undef, .undef, .undef, .undef, .undef, .undef, .undef, .undef, .undef, .undef, .undef, .undef, .undef, .undef, .undef, .undef, .undef, .undef, .undef, .undef, .undef, .undef, .undef, .undef, .undef, .undef, .undef, .undef, .undef, .undef, .undef, .undef, .undef, .undef, .undef, .undef, .undef, .undef, .undef, .undef, .undef, .undef, .undef, .undef, .undef, .undef, .undef, .undef, .undef, .undef, .undef, .undef], H, 2, 0⟩ ∧
  H (1, 0) = some (aB 32 fun _ => 0#8) ∧ H (1, 1) = some (bs (lb b i))

set_option maxRecDepth 10000 in
theorem u3_round (K k0 : Nat) (b : List (BitVec 8)) (hb : b.length ≤ 211106232000000) (i : Nat) (hi : i < 8) (st : St) (hI : u3 b i st) :
    ∃ st1, ev (envC C k0) K L16b3 st = some (.normal, st1) ∧ u3 b (i + 1) (canon L16k3 st1) := by
  obtain ⟨H, rfl, h0, h1⟩ := hI
  have hz := zs_lt b.length
  have hl := lb_length b i
  have hlen : ((BitVec.ofNat 64 b.length * 8#64) >>> (56 - 8 * i)).setWidth 8 = lenb b.length i := rfl
  have hfr : front (upd H (11, 0) (some (bs [lenb b.length i]))) 1 1 (.sl (11, 0) 0 1 (some 1) 1) = some (bs [lenb b.length i]) := front_bytes (11, 0) 0 1 (some 1) [lenb b.length i] (by simp only [upd_at, if_true]) (by simp)
  have ha := app_one 12 (upd H (11, 0) (some (bs [lenb b.length i]))) (1, 1) (lenb b.length i) (lb b i) (b.length + (zs b.length + 1 + i)) (by omega) (by simp only [upd_at, Prod.mk.injEq, Nat.reduceEqDiff, and_self, if_false, Nat.one_ne_zero, h1]) (by omega)
  rw [← lb_succ] at ha
  apply Exists.intro
  apply And.intro
  · simp (disch := first | omega | decide | simp only [nms_B8, nms_B32, nms_B64, nms_I, nms_N, nms_Bo, nms_Un, nms_undef, nms_Hf, nms_ptr, nms_sl, aB_agg_nms, aW_agg_nms, aD_agg_nms, aO_agg_nms, List.flatMap_cons, List.flatMap_nil, List.nil_append, List.append_nil, ren_B8, ren_B32, ren_B64, ren_I, ren_N, ren_Bo, ren_Un, ren_undef, ren_Hf, aB_agg_ren, aW_agg_ren, aD_agg_ren, aO_agg_ren, List.map_cons, List.map_nil, ren7_I, ren7_N, ren7_Bo, ren7_B8, ren7_B32, ren7_B64, nms7_I, nms7_N, nms7_Bo, nms7_B8, nms7_B32, nms7_B64, nms_tup, ren_tup, implies_true, l17, l18, l19, l20, l36, l37, l38, l39, l43, l21, l22, l24, l25, l33, l35, l40, l42, l14, l27, bs_isCell, bs_nms, bs_ren, ibs_nms, ibs_ren, bs_length, aW_isCell, aB_isCell, isCell_sl, isCell_isl, isCell_nil, isCell_ptr, isCell_N]) only [ev_skip, ev_seq, ev_block, ev_region, regK_some, evOpers_nil, evOpers_cons, stepK_pure, put_some, evX_t, evX_c, outR_some, op_mv, op_bin, op_cvt, andThen_normal, inBlock_normal, ev_cond, condK_true, List.set_cons_zero, List.set_cons_succ, List.getD_cons_zero, List.getD_cons_succ, List.map_cons, List.map_nil, List.length_cons, List.length_nil, cvt_64_8, Nat.reduceAdd, stepK_new, Nat.zero_add, Nat.add_zero, decide_true, Nat.add_zero, Nat.zero_add, N_add, N_sub, N_mul, N_lss, B64_shrN, Nat.reduceAdd, decide_true, lenOf_sl, op_append, appK_some, appF_some, op_mkrow, rowK_some, stepK_nm, L16b3, hi, hlen, fill1, hfr, ha]
    rfl
  · refine canon_inv [(1, 0), (12, 0)] rfl (by simp only [canonNames, FUEL, reach_cons, reachK_some, reach_nil, nms_ptr, nms_sl, nms_B64, nms_undef, List.flatMap_cons, List.flatMap_nil, List.nil_append, List.cons_append, List.append_nil, List.range_zero, List.map_nil, List.contains_nil, List.contains_cons, Prod.mk.injEq, beq_iff_eq, Bool.or_eq_true, Bool.false_eq_true, Nat.reduceEqDiff, and_true, and_false, or_false, if_true, if_false, Nat.one_ne_zero, Nat.zero_ne_one, List.filter_cons, List.filter_nil, bne_iff_ne, ne_eq, not_false_eq_true, upd_at, mask_nil, mask_true, mask_false, nms_N, L16k3, h0, aB_nms, bs_nms]) rfl ⟨_, rfl, ?_, ?_⟩
    · exact cN_same (1, 0) rfl (by simp only [upd_at, Prod.mk.injEq, Nat.reduceEqDiff, and_true, and_false, if_false, Nat.zero_ne_one, h0]) (aB_ren _ _ _)
    · exact cN_same (12, 0) rfl (by simp only [upd_at, Prod.mk.injEq, Nat.reduceEqDiff, and_true, and_self, if_true, if_false, Nat.zero_ne_one]) (bs_ren _ _)

/-! ### the pieces -/

def cutP (c : Nat → BitVec 8) (j : Nat) : Nat → BitVec 8 := fun x => if x < j then c x else 0#8
theorem cutP_succ (c : Nat → BitVec 8) (j : Nat) : cutP c (j + 1) = set1 (cutP c j) j (c j) := by
  funext x
  simp only [cutP, set1]
  by_cases h : x = j
  · subst h; simp
  · rw [if_neg h]
    have : (x < j + 1) ↔ (x < j) := by omega
    simp only [this]

def u1 (M : List (BitVec 8)) (s : Nat → BitVec 32) (i j : Nat) (st : St) : Prop := ∃ (H : Heap), st = ⟨[.undef, .undef, .ptr (1, 0) 0, .sl (1, 1) 0 M.length none 1, .undef, .undef, .ptr (1, 2) 0, N (64 * i), .ptr (1, 3) 0, N j, .undef, .undef, .undef, .undef, .undef, .undef, .undef, .undef, .undef, .undef, .undef, .undef, .undef, .undef, .undef, .undef, .undef, .undef, .undef, .undef, .undef, .undef, .undef, .undef, .undef, .undef, .undef, .undef, .undef, .undef, .undef, .undef, .undef, .undef, .undef, .undef, .undef, .undef, .undef, .undef, .undef, .undef, .undef, .undef, .undef, .undef, .undef, .undef, .undef, .undef, .undef, .undef, .undef, .undef, .undef, .undef, .undef, .undef, .undef, .undef, .undef, .undef, .undef, .undef, .undef, .undef, .undef, .undef, .undef, .undef], H, 2, 0⟩ ∧
  H (1, 0) = some (aB 32 fun _ => 0#8) ∧ H (1, 1) = some (bs M) ∧ H (1, 2) = some (aW 8 s) ∧ H (1, 3) = some (aB 64 (cutP (chunk M i) j))

set_option maxRecDepth 10000 in
theorem u1_round (K k0 : Nat) (M : List (BitVec 8)) (hM : M.length ≤ 211106232532992) (s : Nat → BitVec 32) (i : Nat) (hi : 64 * i + 64 ≤ M.length) (j : Nat) (hj : j < 64) (st : St) (hI : u1 M s i j st) :
    ∃ st1, ev (envC C k0) K L16b1 st = some (.normal, st1) ∧ u1 M s i (j + 1) (canon L16k1 st1) := by
  obtain ⟨H, rfl, h0, h1, h2, h3⟩ := hI
  have hc : cellK (64 * i + j) 1 (some (bs M)) = some [B8 (chunk M i j)] := by
    rw [bs_cell _ _ (by omega)]; simp only [chunk, if_pos hj]
  have e1 : 64 * i + j < M.length := by omega
  apply Exists.intro
  apply And.intro
  · simp (disch := first | omega | decide | simp only [nms_B8, nms_B32, nms_B64, nms_I, nms_N, nms_Bo, nms_Un, nms_undef, nms_Hf, nms_ptr, nms_sl, aB_agg_nms, aW_agg_nms, aD_agg_nms, aO_agg_nms, List.flatMap_cons, List.flatMap_nil, List.nil_append, List.append_nil, ren_B8, ren_B32, ren_B64, ren_I, ren_N, ren_Bo, ren_Un, ren_undef, ren_Hf, aB_agg_ren, aW_agg_ren, aD_agg_ren, aO_agg_ren, List.map_cons, List.map_nil, ren7_I, ren7_N, ren7_Bo, ren7_B8, ren7_B32, ren7_B64, nms7_I, nms7_N, nms7_Bo, nms7_B8, nms7_B32, nms7_B64, nms_tup, ren_tup, implies_true, l17, l18, l19, l20, l36, l37, l38, l39, l43, l21, l22, l24, l25, l33, l35, l40, l42, l14, l27, bs_isCell, bs_nms, bs_ren, ibs_nms, ibs_ren, bs_length, aW_isCell, aB_isCell, isCell_sl, isCell_isl, isCell_nil, isCell_ptr, isCell_N]) only [ev_skip, ev_seq, ev_block, ev_region, regK_some, evOpers_nil, evOpers_cons, stepK_pure, put_some, put_none, evX_t, evX_c, outR_some, op_mv, op_bin, andThen_normal, inBlock_normal, ev_cond, condK_true, List.set_cons_zero, List.set_cons_succ, List.getD_cons_zero, List.getD_cons_succ, List.length_cons, List.length_nil, Nat.reduceAdd, stepK_mod, cellsOf_B8, cellAt_ptr, ld1K_some, op_ld1, op_st, stV_ptr, op_iaA, iaV_lt, Nat.zero_add, Nat.add_zero, decide_true, aB_st, Nat.mul_one, Nat.add_zero, Nat.zero_add, N_add, N_lss, N_nat, Nat.reduceAdd, decide_true, op_iaS, iaSV_sl, Nat.mul_one, L16b1, hj, h1, h3, hc]
    rfl
  · refine canon_inv [(1, 0), (1, 1), (1, 2), (1, 3)] rfl (by simp only [canonNames, FUEL, reach_cons, reachK_some, reach_nil, nms_ptr, nms_sl, nms_undef, List.flatMap_cons, List.flatMap_nil, List.nil_append, List.cons_append, List.append_nil, List.range_zero, List.map_nil, List.contains_nil, List.contains_cons, Prod.mk.injEq, beq_iff_eq, Bool.or_eq_true, Bool.false_eq_true, Nat.reduceEqDiff, and_false, or_false, if_true, if_false, Nat.one_ne_zero, List.filter_cons, List.filter_nil, bne_iff_ne, ne_eq, not_false_eq_true, upd_at, mask_nil, mask_true, mask_false, nms_N, L16k1, h0, h1, h2, h3, aB_nms, aW_nms, bs_nms]) rfl ⟨_, rfl, ?_, ?_, ?_, ?_⟩
    · exact cN_same (1, 0) rfl (by simp only [upd_at, Prod.mk.injEq, Nat.reduceEqDiff, and_false, if_false, h0]) (aB_ren _ _ _)
    · exact cN_same (1, 1) rfl (by simp only [upd_at, Prod.mk.injEq, Nat.reduceEqDiff, and_false, if_false, h1]) (bs_ren _ _)
    · exact cN_same (1, 2) rfl (by simp only [upd_at, Prod.mk.injEq, Nat.reduceEqDiff, and_false, if_false, h2]) (aW_ren _ _ _)
    · rw [cutP_succ]; exact cN_same (1, 3) rfl (by simp only [upd_at, if_true]) (aB_ren _ _ _)

def u2 (M : List (BitVec 8)) (i : Nat) (st : St) : Prop := ∃ (H : Heap), st = ⟨[.undef, .undef, .ptr (1, 0) 0, .sl (1, 1) 0 M.length none 1, .undef, .undef, .ptr (1, 2) 0, N (64 * i), .undef, .undef, .undef, .undef, .undef, .undef, .undef, .undef, .undef, .undef, .undef, .undef, .undef, .undef, .undef, .undef, .undef, .undef, .undef, .undef, .undef, .undef, .undef, .undef, .undef, .undef, .undef, .undef, .undef, .undef, .undef, .undef, .undef, .undef, .undef, .undef, .undef, .undef, .undef, .undef, .undef, .undef, .undef, .undef, .undef, .undef, .undef, .undef, .undef, .undef, .undef, .undef, .undef, .undef, .undef, .undef, .undef, .undef, .undef, .undef, .undef, .undef, .undef, .undef, .undef, .undef, .undef, .undef, .undef, .undef, .undef, .undef], H, 2, 0⟩ ∧
  H (1, 0) = some (aB 32 fun _ => 0#8) ∧ H (1, 1) = some (bs M) ∧ H (1, 2) = some (aW 8 (absN M ini i))

set_option maxRecDepth 10000 in
theorem u2_round (K k0 : Nat) (hK : 64 < K) (hblk : ∀ s p, F C k0 18 [.agg (aW 8 s), .agg (aB 64 p)] [] = some (.agg (aW 8 (blk s p)), [], [])) (M : List (BitVec 8)) (hM : M.length ≤ 211106232532992) (i : Nat) (hi : 64 * i + 64 ≤ M.length) (st : St) (hI : u2 M i st) :
    ∃ st1, ev (envC C k0) K L16b2 st = some (.normal, st1) ∧ u2 M (i + 1) (canon L16k2 st1) := by
  obtain ⟨H, rfl, h0, h1, h2⟩ := hI
  have e1 : 64 * i < M.length := by omega
  obtain ⟨s, hs⟩ : ∃ s, s = absN M ini i := ⟨_, rfl⟩
  rw [← hs] at h2
  simp (disch := first | omega | decide | simp only [nms_B8, nms_B32, nms_B64, nms_I, nms_N, nms_Bo, nms_Un, nms_undef, nms_Hf, nms_ptr, nms_sl, aB_agg_nms, aW_agg_nms, aD_agg_nms, aO_agg_nms, List.flatMap_cons, List.flatMap_nil, List.nil_append, List.append_nil, ren_B8, ren_B32, ren_B64, ren_I, ren_N, ren_Bo, ren_Un, ren_undef, ren_Hf, aB_agg_ren, aW_agg_ren, aD_agg_ren, aO_agg_ren, List.map_cons, List.map_nil, ren7_I, ren7_N, ren7_Bo, ren7_B8, ren7_B32, ren7_B64, nms7_I, nms7_N, nms7_Bo, nms7_B8, nms7_B32, nms7_B64, nms_tup, ren_tup, implies_true, l17, l18, l19, l20, l36, l37, l38, l39, l43, l21, l22, l24, l25, l33, l35, l40, l42, l14, l27, bs_isCell, bs_nms, bs_ren, ibs_nms, ibs_ren, bs_length, aW_isCell, aB_isCell, isCell_sl, isCell_isl, isCell_nil, isCell_ptr, isCell_N]) only [ev_skip, ev_seq, ev_block, ev_region, regK_some, evOpers_nil, evOpers_cons, stepK_pure, put_some, evX_t, evX_c, outR_some, op_mv, op_bin, andThen_normal, ev_cond, condK_true, List.set_cons_zero, List.set_cons_succ, List.getD_cons_zero, List.getD_cons_succ, List.length_cons, List.length_nil, ev_loop, Nat.reduceAdd, stepK_new, op_new, Nat.zero_add, Nat.add_zero, decide_true, aB_rep, Nat.add_zero, Nat.zero_add, N_lss, Nat.reduceAdd, decide_true, op_len, lenV_some, lenS_sl, L16b2, e1]
  generalize hL : loopN L16k1 _ _ _ = r
  refine loop_use hL (u1 M s i) 64 hK (fun j st hj hI => u1_round _ _ M hM s i hi j hj st hI) ?_ ?_ ?_
  · refine canon_inv [(1, 0), (1, 1), (1, 2), (6, 0)] rfl (by simp only [canonNames, FUEL, reach_cons, reachK_some, reach_nil, nms_ptr, nms_sl, nms_undef, List.flatMap_cons, List.flatMap_nil, List.nil_append, List.cons_append, List.append_nil, List.range_zero, List.map_nil, List.contains_nil, List.contains_cons, Prod.mk.injEq, beq_iff_eq, Bool.or_eq_true, Bool.false_eq_true, Nat.reduceEqDiff, and_true, and_false, or_false, if_true, if_false, Nat.one_ne_zero, Nat.zero_ne_one, List.filter_cons, List.filter_nil, bne_iff_ne, ne_eq, not_false_eq_true, upd_at, mask_nil, mask_true, mask_false, nms_N, L16k1, h0, h1, h2, aB_nms, aW_nms, bs_nms]) rfl ⟨_, rfl, ?_, ?_, ?_, ?_⟩
    · exact cN_same (1, 0) rfl (by simp only [upd_at, Prod.mk.injEq, Nat.reduceEqDiff, and_true, if_false, h0]) (aB_ren _ _ _)
    · exact cN_same (1, 1) rfl (by simp only [upd_at, Prod.mk.injEq, Nat.reduceEqDiff, and_self, if_false, Nat.one_ne_zero, h1]) (bs_ren _ _)
    · exact cN_same (1, 2) rfl (by simp only [upd_at, Prod.mk.injEq, Nat.reduceEqDiff, and_self, if_false, h2]) (aW_ren _ _ _)
    · rw [show cutP (chunk M i) 0 = fun _ => 0#8 by funext x; simp [cutP]]
      exact cN_same (6, 0) rfl (by simp only [upd_at, if_true]) (aB_ren _ _ _)
  · rintro st ⟨H, rfl, h0, h1, h2, h3⟩
    apply stop_exit
    simp (disch := first | omega | decide | simp only [nms_B8, nms_B32, nms_B64, nms_I, nms_N, nms_Bo, nms_Un, nms_undef, nms_Hf, nms_ptr, nms_sl, aB_agg_nms, aW_agg_nms, aD_agg_nms, aO_agg_nms, List.flatMap_cons, List.flatMap_nil, List.nil_append, List.append_nil, ren_B8, ren_B32, ren_B64, ren_I, ren_N, ren_Bo, ren_Un, ren_undef, ren_Hf, aB_agg_ren, aW_agg_ren, aD_agg_ren, aO_agg_ren, List.map_cons, List.map_nil, ren7_I, ren7_N, ren7_Bo, ren7_B8, ren7_B32, ren7_B64, nms7_I, nms7_N, nms7_Bo, nms7_B8, nms7_B32, nms7_B64, nms_tup, ren_tup, implies_true, l17, l18, l19, l20, l36, l37, l38, l39, l43, l21, l22, l24, l25, l33, l35, l40, l42, l14, l27, bs_isCell, bs_nms, bs_ren, ibs_nms, ibs_ren, bs_length, aW_isCell, aB_isCell, isCell_sl, isCell_isl, isCell_nil, isCell_ptr, isCell_N]) only [ev_exit, ev_seq, ev_region, regK_some, evOpers_nil, evOpers_cons, stepK_pure, put_some, evX_t, evX_c, outR_some, op_mv, op_bin, andThen_normal, andThen_exit, ev_cond, condK_false, List.set_cons_zero, List.set_cons_succ, List.getD_cons_zero, List.getD_cons_succ, List.length_cons, List.length_nil, Nat.reduceAdd, Nat.zero_add, Nat.add_zero, decide_false, N_lss, Nat.reduceAdd, Nat.lt_irrefl, decide_false, L16b1]
    rfl
  · clear h0 h1 h2 hL
    rintro st ⟨H, rfl, h0, h1, h2, h3⟩ rfl
    have e : aB 64 (cutP (chunk M i) 64) = aB 64 (chunk M i) := aB_ext 64 fun j hj => by simp only [cutP, if_pos hj]
    rw [e] at h3
    apply Exists.intro
    apply And.intro
    · simp (disch := first | omega | decide | simp only [nms_B8, nms_B32, nms_B64, nms_I, nms_N, nms_Bo, nms_Un, nms_undef, nms_Hf, nms_ptr, nms_sl, aB_agg_nms, aW_agg_nms, aD_agg_nms, aO_agg_nms, List.flatMap_cons, List.flatMap_nil, List.nil_append, List.append_nil, ren_B8, ren_B32, ren_B64, ren_I, ren_N, ren_Bo, ren_Un, ren_undef, ren_Hf, aB_agg_ren, aW_agg_ren, aD_agg_ren, aO_agg_ren, List.map_cons, List.map_nil, ren7_I, ren7_N, ren7_Bo, ren7_B8, ren7_B32, ren7_B64, nms7_I, nms7_N, nms7_Bo, nms7_B8, nms7_B32, nms7_B64, nms_tup, ren_tup, implies_true, l17, l18, l19, l20, l36, l37, l38, l39, l43, l21, l22, l24, l25, l33, l35, l40, l42, l14, l27, bs_isCell, bs_nms, bs_ren, ibs_nms, ibs_ren, bs_length, aW_isCell, aB_isCell, isCell_sl, isCell_isl, isCell_nil, isCell_ptr, isCell_N]) only [ev_exit, ev_seq, ev_region, regK_some, evOpers_nil, evOpers_cons, stepK_pure, put_some, put_none, evX_t, evX_c, outR_some, op_mv, op_bin, op_call, callV_fn, andThen_normal, andThen_exit, inBlock_normal, inBlock_exit, ev_cond, condK_false, List.set_cons_zero, List.set_cons_succ, List.getD_cons_zero, List.getD_cons_succ, List.map_cons, List.map_nil, List.length_cons, List.length_nil, callOp_C, Nat.reduceAdd, stepK_mod, cellsOf_agg, cellAt_ptr, ldK_some, op_ld, op_st, stV_ptr, if_true, Nat.zero_add, Nat.add_zero, decide_false, aB_cells, aW_cells, aW_st_all, aW_calK, Nat.add_zero, Nat.zero_add, N_add, N_lss, Nat.reduceAdd, Nat.lt_irrefl, decide_false, L16b1, h2, h3, hblk, aW_st_all]
      rfl
    · refine canon_inv [(1, 0), (1, 1), (1, 2)] rfl (by simp only [canonNames, FUEL, reach_cons, reachK_some, reach_nil, nms_ptr, nms_sl, nms_undef, List.flatMap_cons, List.flatMap_nil, List.nil_append, List.cons_append, List.append_nil, List.range_zero, List.map_nil, List.contains_nil, List.contains_cons, Prod.mk.injEq, beq_iff_eq, Bool.or_eq_true, Bool.false_eq_true, Nat.reduceEqDiff, and_false, or_false, if_true, if_false, Nat.one_ne_zero, List.filter_cons, List.filter_nil, bne_iff_ne, ne_eq, not_false_eq_true, upd_at, mask_nil, mask_true, mask_false, nms_N, L16k2, h0, h1, h2, aB_nms, aW_nms, bs_nms]) rfl ⟨_, rfl, ?_, ?_, ?_⟩
      · exact cN_same (1, 0) rfl (by simp only [upd_at, Prod.mk.injEq, Nat.reduceEqDiff, and_false, if_false, h0]) (aB_ren _ _ _)
      · exact cN_same (1, 1) rfl (by simp only [upd_at, Prod.mk.injEq, Nat.reduceEqDiff, and_false, if_false, h1]) (bs_ren _ _)
      · rw [absN, ← hs]; exact cN_same (1, 2) rfl (by simp only [upd_at, if_true]) (aW_ren _ _ _)

def u0 (s : Nat → BitVec 32) (i : Nat) (st : St) : Prop := ∃ (H : Heap), st = ⟨[.undef, .undef, .ptr (1, 0) 0, .undef, .undef, .undef, .ptr (1, 1) 0, .undef, .undef, .undef, .ptr (1, 2) 0, N i, .undef, .undef, .undef, .undef, .undef, .undef, .undef, .undef, .undef, .undef, .undef, .undef, .undef, .undef, .undef, .undef, .undef, .undef, .undef, .undef, .undef, .undef, .undef, .undef, .undef, .undef, .undef, .undef, .undef, .undef, .undef, .undef, .undef, .undef, .undef, .undef, .undef, .undef, .undef, .undef, .undef, .undef, .undef, .undef, .undef, .undef, .undef, .undef, .undef, .undef, .undef, .undef, .undef, .undef, .undef, .undef, .undef, .undef, .undef, .undef, .undef, .undef, .undef, .undef, .undef, .undef, .undef, .undef], H, 2, 0⟩ ∧
  H (1, 0) = some (aB 32 fun _ => 0#8) ∧ H (1, 1) = some (aW 8 s) ∧ H (1, 2) = some (aB 32 (cutP (outB s) i))

set_option maxRecDepth 10000 in
theorem u0_round (K k0 : Nat) (s : Nat → BitVec 32) (i : Nat) (hi : i < 32) (st : St) (hI : u0 s i st) :
    ∃ st1, ev (envC C k0) K L16b0 st = some (.normal, st1) ∧ u0 s (i + 1) (canon L16k0 st1) := by
  obtain ⟨H, rfl, h0, h1, h2⟩ := hI
  have ho : (s (i / 4) >>> (24 - 8 * (i % 4))).setWidth 8 = outB s i := rfl
  apply Exists.intro
  apply And.intro
  · simp (disch := first | omega | decide | simp only [nms_B8, nms_B32, nms_B64, nms_I, nms_N, nms_Bo, nms_Un, nms_undef, nms_Hf, nms_ptr, nms_sl, aB_agg_nms, aW_agg_nms, aD_agg_nms, aO_agg_nms, List.flatMap_cons, List.flatMap_nil, List.nil_append, List.append_nil, ren_B8, ren_B32, ren_B64, ren_I, ren_N, ren_Bo, ren_Un, ren_undef, ren_Hf, aB_agg_ren, aW_agg_ren, aD_agg_ren, aO_agg_ren, List.map_cons, List.map_nil, ren7_I, ren7_N, ren7_Bo, ren7_B8, ren7_B32, ren7_B64, nms7_I, nms7_N, nms7_Bo, nms7_B8, nms7_B32, nms7_B64, nms_tup, ren_tup, implies_true, l17, l18, l19, l20, l36, l37, l38, l39, l43, l21, l22, l24, l25, l33, l35, l40, l42, l14, l27, bs_isCell, bs_nms, bs_ren, ibs_nms, ibs_ren, bs_length, aW_isCell, aB_isCell, isCell_sl, isCell_isl, isCell_nil, isCell_ptr, isCell_N]) only [ev_skip, ev_seq, ev_block, ev_region, regK_some, evOpers_nil, evOpers_cons, stepK_pure, put_some, put_none, evX_t, evX_c, outR_some, op_mv, op_bin, op_cvt, andThen_normal, inBlock_normal, ev_cond, condK_true, List.set_cons_zero, List.set_cons_succ, List.getD_cons_zero, List.getD_cons_succ, List.length_cons, List.length_nil, cvt_32_8, Nat.reduceAdd, stepK_mod, cellsOf_B8, cellAt_ptr, ld1K_some, op_ld1, op_st, stV_ptr, op_iaA, iaV_lt, Nat.zero_add, Nat.add_zero, decide_true, aB_st, aW_cell, Nat.mul_one, Nat.add_zero, Nat.zero_add, N_add, N_sub, N_mul, N_quo, N_rem, N_lss, N_nat, B32_shrN, Nat.reduceAdd, decide_true, L16b0, hi, h1, h2, ho]
    rfl
  · refine canon_inv [(1, 0), (1, 1), (1, 2)] rfl (by simp only [canonNames, FUEL, reach_cons, reachK_some, reach_nil, nms_ptr, nms_undef, List.flatMap_cons, List.flatMap_nil, List.nil_append, List.cons_append, List.append_nil, List.range_zero, List.map_nil, List.contains_nil, List.contains_cons, Prod.mk.injEq, beq_iff_eq, Bool.or_eq_true, Bool.false_eq_true, Nat.reduceEqDiff, and_false, or_false, if_true, if_false, Nat.one_ne_zero, List.filter_cons, List.filter_nil, bne_iff_ne, ne_eq, not_false_eq_true, upd_at, mask_nil, mask_true, mask_false, nms_N, L16k0, h0, h1, h2, aB_nms, aW_nms]) rfl ⟨_, rfl, ?_, ?_, ?_⟩
    · exact cN_same (1, 0) rfl (by simp only [upd_at, Prod.mk.injEq, Nat.reduceEqDiff, and_false, if_false, h0]) (aB_ren _ _ _)
    · exact cN_same (1, 1) rfl (by simp only [upd_at, Prod.mk.injEq, Nat.reduceEqDiff, and_false, if_false, h1]) (aW_ren _ _ _)
    · rw [cutP_succ]; exact cN_same (1, 2) rfl (by simp only [upd_at, if_true]) (aB_ren _ _ _)

set_option maxRecDepth 10000 in
theorem rsum_F (k : Nat) (b : List (BitVec 8)) (hb : b.length ≤ 211106232000000) : F C (k + b.length / 64 + 301) 16 [.isl (bs b) b.length] [] = some (.agg (aB 32 (dig b)), [], []) := by
  rw [F_succ f16]
  have hz := zs_lt b.length
  obtain ⟨K, hK⟩ : ∃ K, K = k + b.length / 64 + 300 := ⟨_, rfl⟩
  rw [← hK]
  have hblk : ∀ s p, F C K 18 [.agg (aW 8 s), .agg (aB 64 p)] [] = some (.agg (aW 8 (blk s p)), [], []) := fun s p => by
    have := rblock_F (K - 80) s p
    rw [show K - 80 + 80 = K by omega] at this
    exact this
  have hfirst : F C K 20 [] [] = some (.agg (aW 8 ini), [], []) := by
    have := firstB (K - 1)
    rw [show K - 1 + 1 = K by omega] at this
    exact this
  have hfr : ∀ H : Heap, front H 1 b.length (.isl (bs b) b.length) = some (bs b) := fun H => front_ibytes b b.length rfl
  have hzb : zb b 0 = b ++ [128#8] := rfl
  have key : ∃ (n1 : Nm) (c : Option Nat) (news : List Cells) (ms ms2 : List (Nm × Option Cells)), (n1 = (3, 0) ∧ c = some 0 ∧ news = [] ∧ ms = [((3, 0), some (bs b))] ∧ ms2 = [] ∨ n1 = (5, 0) ∧ c = none ∧ news = [bs b] ∧ ms = [] ∧ ms2 = [((5, 0), none)]) ∧
      (∀ H : Heap, H (3, 0) = some [] → appX 5 1 1 b.length H [] (bs b) (.sl (3, 0) 0 0 (some 0) 1) = some ⟨.sl n1 0 b.length c 1, news, ms⟩) ∧
      (∀ H : Heap, H n1 = some (bs b) → appX 7 1 1 1 H [] (bs [128#8]) (.sl n1 0 b.length c 1) = some ⟨.sl (7, 0) 0 (b.length + 1) none 1, [bs (zb b 0)], ms2⟩) := by
    by_cases h0 : b = []
    · refine ⟨(3, 0), some 0, _, _, _, .inl ⟨rfl, rfl, rfl, rfl, rfl⟩, ?_, ?_⟩
      · intro H h; subst h0; simp only [appX, h, splice]; rfl
      · intro H h; subst h0
        rw [appX_full 1 (3, 0) 0 _ 0 [] [128#8] h (by simp) (by simp) (by simp)]; rfl
    · have hl : 0 < b.length := List.length_pos_iff.2 h0
      refine ⟨(5, 0), none, _, _, _, .inr ⟨rfl, rfl, rfl, rfl, rfl⟩, ?_, ?_⟩
      · intro H h
        rw [appX_full b.length (3, 0) 0 0 0 [] b h (by simp) (by omega) (by omega)]
        simp only [List.drop_nil, List.take_nil, List.nil_append, Nat.zero_add]
      · intro H h
        rw [app_one 7 H (5, 0) 128#8 b b.length rfl h (by omega), hzb]
  obtain ⟨n1, c, news, ms, ms2, hcase, ha1, ha2⟩ := key
  have ha1' := ha1 (upd (upd (inHeap []) (2, 0) (some (aB 32 fun _ => 0#8))) (3, 0) (some [])) rfl
  have e1 : (b.length + 1 + zs b.length) % 64 = 56 := by unfold zs; omega
  have hz64 : (b.length + (zs b.length + 1 + 8)) % 64 = 0 := by unfold zs; omega
  rcases hcase with ⟨rfl, rfl, rfl, rfl, rfl⟩ | ⟨rfl, rfl, rfl, rfl, rfl⟩
  · have hfr2 := front_bytes (H := upd (upd (upd (upd (inHeap []) (2, 0) (some (aB 32 fun _ => 0#8))) (3, 0) (some [])) (3, 0) (some (bs b))) (6, 0) (some (bs [128#8]))) (6, 0) 0 1 (some 1) [128#8] rfl (by simp)
    have ha2' := ha2 (upd (upd (upd (upd (inHeap []) (2, 0) (some (aB 32 fun _ => 0#8))) (3, 0) (some [])) (3, 0) (some (bs b))) (6, 0) (some (bs [128#8]))) rfl
    simp only [List.drop_zero, List.take_succ_cons, List.take_zero] at hfr2
    simp (disch := first | omega | decide | simp only [nms_B8, nms_B32, nms_B64, nms_I, nms_N, nms_Bo, nms_Un, nms_undef, nms_Hf, nms_ptr, nms_sl, aB_agg_nms, aW_agg_nms, aD_agg_nms, aO_agg_nms, List.flatMap_cons, List.flatMap_nil, List.nil_append, List.append_nil, ren_B8, ren_B32, ren_B64, ren_I, ren_N, ren_Bo, ren_Un, ren_undef, ren_Hf, aB_agg_ren, aW_agg_ren, aD_agg_ren, aO_agg_ren, List.map_cons, List.map_nil, ren7_I, ren7_N, ren7_Bo, ren7_B8, ren7_B32, ren7_B64, nms7_I, nms7_N, nms7_Bo, nms7_B8, nms7_B32, nms7_B64, nms_tup, ren_tup, implies_true, l17, l18, l19, l20, l36, l37, l38, l39, l43, l21, l22, l24, l25, l33, l35, l40, l42, l14, l27, bs_isCell, bs_nms, bs_ren, ibs_nms, ibs_ren, bs_length, aW_isCell, aB_isCell, isCell_sl, isCell_isl, isCell_nil, isCell_ptr, isCell_N]) only [funSem_eq, ev_seq, ev_block, ev_region, regK_some, evOpers_nil, evOpers_cons, stepK_pure, put_some, evX_t, evX_c, op_mv, andThen_normal, List.set_cons_zero, List.set_cons_succ, List.getD_cons_zero, List.getD_cons_succ, List.map_cons, List.map_nil, List.nil_append, List.cons_append, repUn_succ, List.replicate_zero, List.length_cons, List.length_nil, ev_loop, Nat.reduceAdd, Nat.reduceSub, stepK_new, stepK_mod, op_new, fill_nil, Nat.zero_add, Nat.add_zero, aB_rep, aW_rep, Nat.add_zero, Nat.zero_add, Nat.reduceAdd, lenOf_sl, lenOf_isl, op_append, appK_some, appF_some, op_mkrow, rowK_some, L16, fill1, hfr, ha1', hfr2, ha2']
    generalize hL : loopN L16k4 _ _ _ = r
    refine loop_use hL (u4 b) (zs b.length) (by omega) (fun i st hi hI => u4_round _ _ b hb i hi st hI) ?_ ?_ ?_
    · refine canon_inv [(2, 0), (7, 0)] rfl (by simp only [canonNames, FUEL, reach_cons, reachK_some, reach_nil, nms_ptr, nms_sl, nms_undef, List.flatMap_cons, List.flatMap_nil, List.nil_append, List.cons_append, List.append_nil, List.range_zero, List.map_nil, List.contains_nil, List.contains_cons, Prod.mk.injEq, beq_iff_eq, Bool.or_eq_true, Bool.false_eq_true, Nat.reduceEqDiff, and_true, or_false, if_true, if_false, List.filter_cons, List.filter_nil, bne_iff_ne, ne_eq, not_false_eq_true, upd_at, mask_nil, mask_true, mask_false, inHeap_none, L16k4, ibs_nms, aB_nms, bs_nms]) ?_ ⟨_, rfl, ?_, ?_⟩
      · simp only [L16k4, List.map_cons, List.map_nil, Nat.add_zero, ibs_ren, ren_ptrF, ren_slF, mask_true, mask_false, mask_nil, ren_undef]
        rfl
      · exact cN_same (2, 0) rfl (by simp only [upd_at, Prod.mk.injEq, Nat.reduceEqDiff, and_true, if_true, if_false]) (aB_ren _ _ _)
      · exact cN_same (7, 0) rfl (by simp only [upd_at, Prod.mk.injEq, Nat.reduceEqDiff, and_true, if_true, if_false]) (bs_ren _ _)
    · rintro st ⟨H, rfl, h0, h1⟩
      apply stop_exit
      simp (disch := first | omega | decide | simp only [nms_B8, nms_B32, nms_B64, nms_I, nms_N, nms_Bo, nms_Un, nms_undef, nms_Hf, nms_ptr, nms_sl, aB_agg_nms, aW_agg_nms, aD_agg_nms, aO_agg_nms, List.flatMap_cons, List.flatMap_nil, List.nil_append, List.append_nil, ren_B8, ren_B32, ren_B64, ren_I, ren_N, ren_Bo, ren_Un, ren_undef, ren_Hf, aB_agg_ren, aW_agg_ren, aD_agg_ren, aO_agg_ren, List.map_cons, List.map_nil, ren7_I, ren7_N, ren7_Bo, ren7_B8, ren7_B32, ren7_B64, nms7_I, nms7_N, nms7_Bo, nms7_B8, nms7_B32, nms7_B64, nms_tup, ren_tup, implies_true, l17, l18, l19, l20, l36, l37, l38, l39, l43, l21, l22, l24, l25, l33, l35, l40, l42, l14, l27, bs_isCell, bs_nms, bs_ren, ibs_nms, ibs_ren, bs_length, aW_isCell, aB_isCell, isCell_sl, isCell_isl, isCell_nil, isCell_ptr, isCell_N]) only [ev_exit, ev_seq, ev_region, regK_some, evOpers_nil, evOpers_cons, stepK_pure, put_some, evX_t, evX_c, outR_some, op_mv, op_bin, andThen_normal, andThen_exit, ev_cond, condK_false, List.set_cons_zero, List.set_cons_succ, List.getD_cons_zero, List.getD_cons_succ, List.length_cons, List.length_nil, Nat.reduceAdd, Nat.zero_add, Nat.add_zero, decide_true, N_rem, N_neq, decide_not, Nat.reduceAdd, decide_true, Bool.not_true, op_len, lenV_some, lenS_sl, L16b4, e1]
      rfl
    · clear hL
      rintro st ⟨H, rfl, h0, h1⟩ rfl
      rw [← lb_zero] at h1
      simp (disch := first | omega | decide | simp only [nms_B8, nms_B32, nms_B64, nms_I, nms_N, nms_Bo, nms_Un, nms_undef, nms_Hf, nms_ptr, nms_sl, aB_agg_nms, aW_agg_nms, aD_agg_nms, aO_agg_nms, List.flatMap_cons, List.flatMap_nil, List.nil_append, List.append_nil, ren_B8, ren_B32, ren_B64, ren_I, ren_N, ren_Bo, ren_Un, ren_undef, ren_Hf, aB_agg_ren, aW_agg_ren, aD_agg_ren, aO_agg_ren, List.map_cons, List.map_nil, ren7_I, ren7_N, ren7_Bo, ren7_B8, ren7_B32, ren7_B64, nms7_I, nms7_N, nms7_Bo, nms7_B8, nms7_B32, nms7_B64, nms_tup, ren_tup, implies_true, l17, l18, l19, l20, l36, l37, l38, l39, l43, l21, l22, l24, l25, l33, l35, l40, l42, l14, l27, bs_isCell, bs_nms, bs_ren, ibs_nms, ibs_ren, bs_length, aW_isCell, aB_isCell, isCell_sl, isCell_isl, isCell_nil, isCell_ptr, isCell_N]) only [ev_exit, ev_seq, ev_block, ev_region, regK_some, evOpers_nil, evOpers_cons, stepK_pure, put_some, evX_t, evX_c, outR_some, op_mv, op_bin, op_cvt, andThen_normal, andThen_exit, inBlock_exit, ev_cond, condK_false, List.set_cons_zero, List.set_cons_succ, List.getD_cons_zero, List.getD_cons_succ, List.length_cons, List.length_nil, B64_mul, ev_loop, Nat.reduceAdd, if_true, Nat.zero_add, Nat.add_zero, decide_true, Nat.add_zero, Nat.zero_add, N_rem, N_neq, cvt_N_64, decide_not, Nat.reduceAdd, decide_true, Bool.not_true, op_len, lenV_some, lenS_sl, lenS_isl, L16b4, e1]
      generalize hL : loopN L16k3 _ _ _ = r
      refine loop_use hL (u3 b) 8 (by omega) (fun i st hi hI => u3_round _ _ b hb i hi st hI) ?_ ?_ ?_
      · refine canon_inv [(1, 0), (1, 1)] rfl (by simp only [canonNames, FUEL, reach_cons, reachK_some, reach_nil, nms_ptr, nms_sl, nms_B64, nms_undef, List.flatMap_cons, List.flatMap_nil, List.nil_append, List.cons_append, List.append_nil, List.range_zero, List.map_nil, List.contains_nil, List.contains_cons, Prod.mk.injEq, beq_iff_eq, Bool.or_eq_true, Bool.false_eq_true, and_false, or_false, if_true, if_false, Nat.one_ne_zero, List.filter_cons, List.filter_nil, bne_iff_ne, ne_eq, not_false_eq_true, mask_nil, mask_true, mask_false, nms_N, L16k3, h0, h1, aB_nms, bs_nms]) rfl ⟨_, by rw [show b.length + (zs b.length + 1 + 0) = b.length + 1 + zs b.length by omega]; rfl, ?_, ?_⟩
        · exact cN_same (1, 0) rfl (by simp only [h0]) (aB_ren _ _ _)
        · exact cN_same (1, 1) rfl (by simp only [h1]) (bs_ren _ _)
      · rintro st ⟨H, rfl, h0, h1⟩
        apply stop_exit
        simp (disch := first | omega | decide | simp only [nms_B8, nms_B32, nms_B64, nms_I, nms_N, nms_Bo, nms_Un, nms_undef, nms_Hf, nms_ptr, nms_sl, aB_agg_nms, aW_agg_nms, aD_agg_nms, aO_agg_nms, List.flatMap_cons, List.flatMap_nil, List.nil_append, List.append_nil, ren_B8, ren_B32, ren_B64, ren_I, ren_N, ren_Bo, ren_Un, ren_undef, ren_Hf, aB_agg_ren, aW_agg_ren, aD_agg_ren, aO_agg_ren, List.map_cons, List.map_nil, ren7_I, ren7_N, ren7_Bo, ren7_B8, ren7_B32, ren7_B64, nms7_I, nms7_N, nms7_Bo, nms7_B8, nms7_B32, nms7_B64, nms_tup, ren_tup, implies_true, l17, l18, l19, l20, l36, l37, l38, l39, l43, l21, l22, l24, l25, l33, l35, l40, l42, l14, l27, bs_isCell, bs_nms, bs_ren, ibs_nms, ibs_ren, bs_length, aW_isCell, aB_isCell, isCell_sl, isCell_isl, isCell_nil, isCell_ptr, isCell_N]) only [ev_exit, ev_seq, ev_region, regK_some, evOpers_nil, evOpers_cons, stepK_pure, put_some, evX_t, evX_c, outR_some, op_mv, op_bin, andThen_normal, andThen_exit, ev_cond, condK_false, List.set_cons_zero, List.set_cons_succ, List.getD_cons_zero, List.getD_cons_succ, List.length_cons, List.length_nil, Nat.reduceAdd, Nat.zero_add, Nat.add_zero, decide_false, N_lss, Nat.reduceAdd, Nat.lt_irrefl, decide_false, L16b3]
        rfl
      · clear hL h0 h1
        rintro st ⟨H, rfl, h0, h1⟩ rfl
        have hl8 := lb_length b 8
        obtain ⟨M, hM⟩ : ∃ M, M = lb b 8 := ⟨_, rfl⟩
        rw [← hM] at h1 hl8
        have hMd : dig b = outB (absN M ini (M.length / 64)) := by rw [hM]; rfl
        rw [← hl8]
        simp (disch := first | omega | decide | simp only [nms_B8, nms_B32, nms_B64, nms_I, nms_N, nms_Bo, nms_Un, nms_undef, nms_Hf, nms_ptr, nms_sl, aB_agg_nms, aW_agg_nms, aD_agg_nms, aO_agg_nms, List.flatMap_cons, List.flatMap_nil, List.nil_append, List.append_nil, ren_B8, ren_B32, ren_B64, ren_I, ren_N, ren_Bo, ren_Un, ren_undef, ren_Hf, aB_agg_ren, aW_agg_ren, aD_agg_ren, aO_agg_ren, List.map_cons, List.map_nil, ren7_I, ren7_N, ren7_Bo, ren7_B8, ren7_B32, ren7_B64, nms7_I, nms7_N, nms7_Bo, nms7_B8, nms7_B32, nms7_B64, nms_tup, ren_tup, implies_true, l17, l18, l19, l20, l36, l37, l38, l39, l43, l21, l22, l24, l25, l33, l35, l40, l42, l14, l27, bs_isCell, bs_nms, bs_ren, ibs_nms, ibs_ren, bs_length, aW_isCell, aB_isCell, isCell_sl, isCell_isl, isCell_nil, isCell_ptr, isCell_N]) only [ev_exit, ev_seq, ev_block, ev_region, regK_some, evOpers_nil, evOpers_cons, stepK_pure, put_some, put_none, evX_t, evX_c, outR_some, op_mv, op_bin, op_call, callV_fn, andThen_normal, andThen_exit, inBlock_exit, ev_cond, condK_false, List.set_cons_zero, List.set_cons_succ, List.getD_cons_zero, List.getD_cons_succ, List.map_nil, List.length_cons, List.length_nil, callOp_C, ev_loop, Nat.reduceAdd, upd_at, stepK_new, stepK_mod, cellsOf_agg, op_new, op_st, stV_ptr, if_true, Nat.zero_add, Nat.add_zero, decide_false, aW_st_all, aW_calK, Nat.add_zero, Nat.zero_add, N_lss, Nat.reduceAdd, Nat.lt_irrefl, decide_false, L16b3, hfirst, aW_st_all]
        generalize hL : loopN L16k2 _ _ _ = r
        refine loop_use hL (u2 M) (M.length / 64) (by omega) (fun i st hi hI => u2_round _ _ (by omega) hblk M (by omega) i (by omega) st hI) ?_ ?_ ?_
        · refine canon_inv [(1, 0), (1, 1), (5, 0)] rfl (by simp only [canonNames, FUEL, reach_cons, reachK_some, reach_nil, nms_ptr, nms_sl, nms_undef, List.flatMap_cons, List.flatMap_nil, List.nil_append, List.cons_append, List.append_nil, List.range_zero, List.map_nil, List.contains_nil, List.contains_cons, Prod.mk.injEq, beq_iff_eq, Bool.or_eq_true, Bool.false_eq_true, Nat.reduceEqDiff, and_true, and_false, or_false, if_true, if_false, Nat.one_ne_zero, Nat.zero_ne_one, List.filter_cons, List.filter_nil, bne_iff_ne, ne_eq, not_false_eq_true, upd_at, mask_nil, mask_true, mask_false, nms_N, L16k2, h0, h1, aB_nms, aW_nms, bs_nms]) rfl ⟨_, rfl, ?_, ?_, ?_⟩
          · exact cN_same (1, 0) rfl (by simp only [upd_at, Prod.mk.injEq, Nat.reduceEqDiff, and_true, if_false, h0]) (aB_ren _ _ _)
          · exact cN_same (1, 1) rfl (by simp only [upd_at, Prod.mk.injEq, Nat.reduceEqDiff, and_self, if_false, Nat.one_ne_zero, h1]) (bs_ren _ _)
          · exact cN_same (5, 0) rfl (by simp only [upd_at, if_true, absN]) (aW_ren _ _ _)
        · rintro st ⟨H, rfl, h0, h1, h2⟩
          have e2 : ¬ 64 * (M.length / 64) < M.length := by omega
          apply stop_exit
          simp (disch := first | omega | decide | simp only [nms_B8, nms_B32, nms_B64, nms_I, nms_N, nms_Bo, nms_Un, nms_undef, nms_Hf, nms_ptr, nms_sl, aB_agg_nms, aW_agg_nms, aD_agg_nms, aO_agg_nms, List.flatMap_cons, List.flatMap_nil, List.nil_append, List.append_nil, ren_B8, ren_B32, ren_B64, ren_I, ren_N, ren_Bo, ren_Un, ren_undef, ren_Hf, aB_agg_ren, aW_agg_ren, aD_agg_ren, aO_agg_ren, List.map_cons, List.map_nil, ren7_I, ren7_N, ren7_Bo, ren7_B8, ren7_B32, ren7_B64, nms7_I, nms7_N, nms7_Bo, nms7_B8, nms7_B32, nms7_B64, nms_tup, ren_tup, implies_true, l17, l18, l19, l20, l36, l37, l38, l39, l43, l21, l22, l24, l25, l33, l35, l40, l42, l14, l27, bs_isCell, bs_nms, bs_ren, ibs_nms, ibs_ren, bs_length, aW_isCell, aB_isCell, isCell_sl, isCell_isl, isCell_nil, isCell_ptr, isCell_N]) only [ev_exit, ev_seq, ev_region, regK_some, evOpers_nil, evOpers_cons, stepK_pure, put_some, evX_t, outR_some, op_mv, op_bin, andThen_normal, andThen_exit, ev_cond, condK_false, List.set_cons_zero, List.set_cons_succ, List.getD_cons_zero, List.getD_cons_succ, List.length_cons, List.length_nil, Nat.reduceAdd, Nat.zero_add, Nat.add_zero, decide_false, N_lss, Nat.reduceAdd, decide_false, op_len, lenV_some, lenS_sl, L16b2, e2]
          rfl
        · clear hL h0 h1
          rintro st ⟨H, rfl, h0, h1, h2⟩ rfl
          have e2 : ¬ 64 * (M.length / 64) < M.length := by omega
          rw [hMd]
          generalize absN M ini (M.length / 64) = s at *
          simp (disch := first | omega | decide | simp only [nms_B8, nms_B32, nms_B64, nms_I, nms_N, nms_Bo, nms_Un, nms_undef, nms_Hf, nms_ptr, nms_sl, aB_agg_nms, aW_agg_nms, aD_agg_nms, aO_agg_nms, List.flatMap_cons, List.flatMap_nil, List.nil_append, List.append_nil, ren_B8, ren_B32, ren_B64, ren_I, ren_N, ren_Bo, ren_Un, ren_undef, ren_Hf, aB_agg_ren, aW_agg_ren, aD_agg_ren, aO_agg_ren, List.map_cons, List.map_nil, ren7_I, ren7_N, ren7_Bo, ren7_B8, ren7_B32, ren7_B64, nms7_I, nms7_N, nms7_Bo, nms7_B8, nms7_B32, nms7_B64, nms_tup, ren_tup, implies_true, l17, l18, l19, l20, l36, l37, l38, l39, l43, l21, l22, l24, l25, l33, l35, l40, l42, l14, l27, bs_isCell, bs_nms, bs_ren, ibs_nms, ibs_ren, bs_length, aW_isCell, aB_isCell, isCell_sl, isCell_isl, isCell_nil, isCell_ptr, isCell_N]) only [ev_exit, ev_seq, ev_block, ev_region, regK_some, evOpers_nil, evOpers_cons, stepK_pure, put_some, evX_t, evX_c, outR_some, op_mv, op_bin, andThen_normal, andThen_exit, inBlock_exit, ev_cond, condK_false, List.set_cons_zero, List.set_cons_succ, List.getD_cons_zero, List.getD_cons_succ, List.length_cons, List.length_nil, ev_loop, Nat.reduceAdd, stepK_new, op_new, if_true, Nat.zero_add, Nat.add_zero, decide_false, aB_rep, Nat.add_zero, Nat.zero_add, N_lss, Nat.reduceAdd, decide_false, op_len, lenV_some, lenS_sl, L16b2, e2]
          generalize hL : loopN L16k0 _ _ _ = r
          refine loop_use hL (u0 s) 32 (by omega) (fun i st hi hI => u0_round _ _ s i hi st hI) ?_ ?_ ?_
          · refine canon_inv [(1, 0), (1, 2), (6, 0)] rfl (by simp only [canonNames, FUEL, reach_cons, reachK_some, reach_nil, nms_ptr, nms_undef, List.flatMap_cons, List.flatMap_nil, List.nil_append, List.cons_append, List.append_nil, List.range_zero, List.map_nil, List.contains_nil, List.contains_cons, Prod.mk.injEq, beq_iff_eq, Bool.or_eq_true, Bool.false_eq_true, Nat.reduceEqDiff, and_true, and_false, or_false, if_true, if_false, Nat.one_ne_zero, List.filter_cons, List.filter_nil, bne_iff_ne, ne_eq, not_false_eq_true, upd_at, mask_nil, mask_true, mask_false, nms_N, L16k0, h0, h2, aB_nms, aW_nms]) rfl ⟨_, rfl, ?_, ?_, ?_⟩
            · exact cN_same (1, 0) rfl (by simp only [upd_at, Prod.mk.injEq, Nat.reduceEqDiff, and_true, if_false, h0]) (aB_ren _ _ _)
            · exact cN_same (1, 2) rfl (by simp only [upd_at, Prod.mk.injEq, Nat.reduceEqDiff, and_self, if_false, h2]) (aW_ren _ _ _)
            · rw [show cutP (outB s) 0 = fun _ => 0#8 by funext x; simp [cutP]]
              exact cN_same (6, 0) rfl (by simp only [upd_at, if_true]) (aB_ren _ _ _)
          · rintro st ⟨H, rfl, h0, h1, h2⟩
            apply stop_exit
            simp (disch := first | omega | decide | simp only [nms_B8, nms_B32, nms_B64, nms_I, nms_N, nms_Bo, nms_Un, nms_undef, nms_Hf, nms_ptr, nms_sl, aB_agg_nms, aW_agg_nms, aD_agg_nms, aO_agg_nms, List.flatMap_cons, List.flatMap_nil, List.nil_append, List.append_nil, ren_B8, ren_B32, ren_B64, ren_I, ren_N, ren_Bo, ren_Un, ren_undef, ren_Hf, aB_agg_ren, aW_agg_ren, aD_agg_ren, aO_agg_ren, List.map_cons, List.map_nil, ren7_I, ren7_N, ren7_Bo, ren7_B8, ren7_B32, ren7_B64, nms7_I, nms7_N, nms7_Bo, nms7_B8, nms7_B32, nms7_B64, nms_tup, ren_tup, implies_true, l17, l18, l19, l20, l36, l37, l38, l39, l43, l21, l22, l24, l25, l33, l35, l40, l42, l14, l27, bs_isCell, bs_nms, bs_ren, ibs_nms, ibs_ren, bs_length, aW_isCell, aB_isCell, isCell_sl, isCell_isl, isCell_nil, isCell_ptr, isCell_N]) only [ev_exit, ev_seq, ev_region, regK_some, evOpers_nil, evOpers_cons, stepK_pure, put_some, evX_t, evX_c, outR_some, op_mv, op_bin, andThen_normal, andThen_exit, ev_cond, condK_false, List.set_cons_zero, List.set_cons_succ, List.getD_cons_zero, List.getD_cons_succ, List.length_cons, List.length_nil, Nat.reduceAdd, Nat.zero_add, Nat.add_zero, decide_false, N_lss, Nat.reduceAdd, Nat.lt_irrefl, decide_false, L16b0]
            rfl
          · rintro st ⟨H, rfl, h0, h1, h2⟩ rfl
            have e : aB 32 (cutP (outB s) 32) = aB 32 (outB s) := aB_ext 32 fun j hj => by simp only [cutP, if_pos hj]
            rw [e] at h2
            simp (disch := first | omega | decide | simp only [nms_B8, nms_B32, nms_B64, nms_I, nms_N, nms_Bo, nms_Un, nms_undef, nms_Hf, nms_ptr, nms_sl, aB_agg_nms, aW_agg_nms, aD_agg_nms, aO_agg_nms, List.flatMap_cons, List.flatMap_nil, List.nil_append, List.append_nil, ren_B8, ren_B32, ren_B64, ren_I, ren_N, ren_Bo, ren_Un, ren_undef, ren_Hf, aB_agg_ren, aW_agg_ren, aD_agg_ren, aO_agg_ren, List.map_cons, List.map_nil, ren7_I, ren7_N, ren7_Bo, ren7_B8, ren7_B32, ren7_B64, nms7_I, nms7_N, nms7_Bo, nms7_B8, nms7_B32, nms7_B64, nms_tup, ren_tup, implies_true, l17, l18, l19, l20, l36, l37, l38, l39, l43, l21, l22, l24, l25, l33, l35, l40, l42, l14, l27, bs_isCell, bs_nms, bs_ren, ibs_nms, ibs_ren, bs_length, aW_isCell, aB_isCell, isCell_sl, isCell_isl, isCell_nil, isCell_ptr, isCell_N]) only [ev_ret, ev_exit, ev_seq, ev_region, regK_some, evOpers_nil, evOpers_cons, stepK_pure, put_some, put_none, evX_t, evX_c, outR_some, op_mv, op_bin, andThen_normal, andThen_exit, inBlock_exit, ev_cond, condK_false, retK_ret, List.set_cons_zero, List.set_cons_succ, List.getD_cons_zero, List.getD_cons_succ, List.length_cons, List.length_nil, Option.map_some, Nat.reduceAdd, upd_at, stepK_mod, cellsOf_agg, cellAt_ptr, ldK_some, op_ld, op_st, stV_ptr, if_true, Nat.zero_add, Nat.add_zero, decide_false, resVal_agg, aggV_some, aB_cells, aB_st_all, aB_outOf, Nat.add_zero, Nat.zero_add, N_lss, Nat.reduceAdd, Nat.lt_irrefl, decide_false, Option.map_some, L16b0, h0, h2]
  · have hfr2 := front_bytes (H := upd (upd (upd (upd (inHeap []) (2, 0) (some (aB 32 fun _ => 0#8))) (3, 0) (some [])) (5, 0) (some (bs b))) (6, 0) (some (bs [128#8]))) (6, 0) 0 1 (some 1) [128#8] rfl (by simp)
    have ha2' := ha2 (upd (upd (upd (upd (inHeap []) (2, 0) (some (aB 32 fun _ => 0#8))) (3, 0) (some [])) (5, 0) (some (bs b))) (6, 0) (some (bs [128#8]))) rfl
    simp only [List.drop_zero, List.take_succ_cons, List.take_zero] at hfr2
    simp (disch := first | omega | decide | simp only [nms_B8, nms_B32, nms_B64, nms_I, nms_N, nms_Bo, nms_Un, nms_undef, nms_Hf, nms_ptr, nms_sl, aB_agg_nms, aW_agg_nms, aD_agg_nms, aO_agg_nms, List.flatMap_cons, List.flatMap_nil, List.nil_append, List.append_nil, ren_B8, ren_B32, ren_B64, ren_I, ren_N, ren_Bo, ren_Un, ren_undef, ren_Hf, aB_agg_ren, aW_agg_ren, aD_agg_ren, aO_agg_ren, List.map_cons, List.map_nil, ren7_I, ren7_N, ren7_Bo, ren7_B8, ren7_B32, ren7_B64, nms7_I, nms7_N, nms7_Bo, nms7_B8, nms7_B32, nms7_B64, nms_tup, ren_tup, implies_true, l17, l18, l19, l20, l36, l37, l38, l39, l43, l21, l22, l24, l25, l33, l35, l40, l42, l14, l27, bs_isCell, bs_nms, bs_ren, ibs_nms, ibs_ren, bs_length, aW_isCell, aB_isCell, isCell_sl, isCell_isl, isCell_nil, isCell_ptr, isCell_N]) only [funSem_eq, ev_seq, ev_block, ev_region, regK_some, evOpers_nil, evOpers_cons, stepK_pure, put_some, evX_t, evX_c, op_mv, andThen_normal, List.set_cons_zero, List.set_cons_succ, List.getD_cons_zero, List.getD_cons_succ, List.map_cons, List.map_nil, List.nil_append, List.cons_append, repUn_succ, List.replicate_zero, List.length_cons, List.length_nil, ev_loop, Nat.reduceAdd, Nat.reduceSub, stepK_new, op_new, fill_nil, Nat.zero_add, Nat.add_zero, aB_rep, aW_rep, Nat.add_zero, Nat.zero_add, Nat.reduceAdd, lenOf_sl, lenOf_isl, op_append, appK_some, appF_some, op_mkrow, rowK_some, stepK_nm, L16, fill1, hfr, ha1', hfr2, ha2']
    generalize hL : loopN L16k4 _ _ _ = r
    refine loop_use hL (u4 b) (zs b.length) (by omega) (fun i st hi hI => u4_round _ _ b hb i hi st hI) ?_ ?_ ?_
    · refine canon_inv [(2, 0), (7, 0)] rfl (by simp only [canonNames, FUEL, reach_cons, reachK_some, reach_nil, nms_ptr, nms_sl, nms_undef, List.flatMap_cons, List.flatMap_nil, List.nil_append, List.cons_append, List.append_nil, List.range_zero, List.map_nil, List.contains_nil, List.contains_cons, Prod.mk.injEq, beq_iff_eq, Bool.or_eq_true, Bool.false_eq_true, Nat.reduceEqDiff, and_true, or_false, if_true, if_false, List.filter_cons, List.filter_nil, bne_iff_ne, ne_eq, not_false_eq_true, upd_at, mask_nil, mask_true, mask_false, inHeap_none, L16k4, ibs_nms, aB_nms, bs_nms]) ?_ ⟨_, rfl, ?_, ?_⟩
      · simp only [L16k4, List.map_cons, List.map_nil, Nat.add_zero, ibs_ren, ren_ptrF, ren_slF, mask_true, mask_false, mask_nil, ren_undef]
        rfl
      · exact cN_same (2, 0) rfl (by simp only [upd_at, Prod.mk.injEq, Nat.reduceEqDiff, and_true, if_true, if_false]) (aB_ren _ _ _)
      · exact cN_same (7, 0) rfl (by simp only [upd_at, Prod.mk.injEq, Nat.reduceEqDiff, and_true, if_true, if_false]) (bs_ren _ _)
    · rintro st ⟨H, rfl, h0, h1⟩
      apply stop_exit
      simp (disch := first | omega | decide | simp only [nms_B8, nms_B32, nms_B64, nms_I, nms_N, nms_Bo, nms_Un, nms_undef, nms_Hf, nms_ptr, nms_sl, aB_agg_nms, aW_agg_nms, aD_agg_nms, aO_agg_nms, List.flatMap_cons, List.flatMap_nil, List.nil_append, List.append_nil, ren_B8, ren_B32, ren_B64, ren_I, ren_N, ren_Bo, ren_Un, ren_undef, ren_Hf, aB_agg_ren, aW_agg_ren, aD_agg_ren, aO_agg_ren, List.map_cons, List.map_nil, ren7_I, ren7_N, ren7_Bo, ren7_B8, ren7_B32, ren7_B64, nms7_I, nms7_N, nms7_Bo, nms7_B8, nms7_B32, nms7_B64, nms_tup, ren_tup, implies_true, l17, l18, l19, l20, l36, l37, l38, l39, l43, l21, l22, l24, l25, l33, l35, l40, l42, l14, l27, bs_isCell, bs_nms, bs_ren, ibs_nms, ibs_ren, bs_length, aW_isCell, aB_isCell, isCell_sl, isCell_isl, isCell_nil, isCell_ptr, isCell_N]) only [ev_exit, ev_seq, ev_region, regK_some, evOpers_nil, evOpers_cons, stepK_pure, put_some, evX_t, evX_c, outR_some, op_mv, op_bin, andThen_normal, andThen_exit, ev_cond, condK_false, List.set_cons_zero, List.set_cons_succ, List.getD_cons_zero, List.getD_cons_succ, List.length_cons, List.length_nil, Nat.reduceAdd, Nat.zero_add, Nat.add_zero, decide_true, N_rem, N_neq, decide_not, Nat.reduceAdd, decide_true, Bool.not_true, op_len, lenV_some, lenS_sl, L16b4, e1]
      rfl
    · clear hL
      rintro st ⟨H, rfl, h0, h1⟩ rfl
      rw [← lb_zero] at h1
      simp (disch := first | omega | decide | simp only [nms_B8, nms_B32, nms_B64, nms_I, nms_N, nms_Bo, nms_Un, nms_undef, nms_Hf, nms_ptr, nms_sl, aB_agg_nms, aW_agg_nms, aD_agg_nms, aO_agg_nms, List.flatMap_cons, List.flatMap_nil, List.nil_append, List.append_nil, ren_B8, ren_B32, ren_B64, ren_I, ren_N, ren_Bo, ren_Un, ren_undef, ren_Hf, aB_agg_ren, aW_agg_ren, aD_agg_ren, aO_agg_ren, List.map_cons, List.map_nil, ren7_I, ren7_N, ren7_Bo, ren7_B8, ren7_B32, ren7_B64, nms7_I, nms7_N, nms7_Bo, nms7_B8, nms7_B32, nms7_B64, nms_tup, ren_tup, implies_true, l17, l18, l19, l20, l36, l37, l38, l39, l43, l21, l22, l24, l25, l33, l35, l40, l42, l14, l27, bs_isCell, bs_nms, bs_ren, ibs_nms, ibs_ren, bs_length, aW_isCell, aB_isCell, isCell_sl, isCell_isl, isCell_nil, isCell_ptr, isCell_N]) only [ev_exit, ev_seq, ev_block, ev_region, regK_some, evOpers_nil, evOpers_cons, stepK_pure, put_some, evX_t, evX_c, outR_some, op_mv, op_bin, op_cvt, andThen_normal, andThen_exit, inBlock_exit, ev_cond, condK_false, List.set_cons_zero, List.set_cons_succ, List.getD_cons_zero, List.getD_cons_succ, List.length_cons, List.length_nil, B64_mul, ev_loop, Nat.reduceAdd, if_true, Nat.zero_add, Nat.add_zero, decide_true, Nat.add_zero, Nat.zero_add, N_rem, N_neq, cvt_N_64, decide_not, Nat.reduceAdd, decide_true, Bool.not_true, op_len, lenV_some, lenS_sl, lenS_isl, L16b4, e1]
      generalize hL : loopN L16k3 _ _ _ = r
      refine loop_use hL (u3 b) 8 (by omega) (fun i st hi hI => u3_round _ _ b hb i hi st hI) ?_ ?_ ?_
      · refine canon_inv [(1, 0), (1, 1)] rfl (by simp only [canonNames, FUEL, reach_cons, reachK_some, reach_nil, nms_ptr, nms_sl, nms_B64, nms_undef, List.flatMap_cons, List.flatMap_nil, List.nil_append, List.cons_append, List.append_nil, List.range_zero, List.map_nil, List.contains_nil, List.contains_cons, Prod.mk.injEq, beq_iff_eq, Bool.or_eq_true, Bool.false_eq_true, and_false, or_false, if_true, if_false, Nat.one_ne_zero, List.filter_cons, List.filter_nil, bne_iff_ne, ne_eq, not_false_eq_true, mask_nil, mask_true, mask_false, nms_N, L16k3, h0, h1, aB_nms, bs_nms]) rfl ⟨_, by rw [show b.length + (zs b.length + 1 + 0) = b.length + 1 + zs b.length by omega]; rfl, ?_, ?_⟩
        · exact cN_same (1, 0) rfl (by simp only [h0]) (aB_ren _ _ _)
        · exact cN_same (1, 1) rfl (by simp only [h1]) (bs_ren _ _)
      · rintro st ⟨H, rfl, h0, h1⟩
        apply stop_exit
        simp (disch := first | omega | decide | simp only [nms_B8, nms_B32, nms_B64, nms_I, nms_N, nms_Bo, nms_Un, nms_undef, nms_Hf, nms_ptr, nms_sl, aB_agg_nms, aW_agg_nms, aD_agg_nms, aO_agg_nms, List.flatMap_cons, List.flatMap_nil, List.nil_append, List.append_nil, ren_B8, ren_B32, ren_B64, ren_I, ren_N, ren_Bo, ren_Un, ren_undef, ren_Hf, aB_agg_ren, aW_agg_ren, aD_agg_ren, aO_agg_ren, List.map_cons, List.map_nil, ren7_I, ren7_N, ren7_Bo, ren7_B8, ren7_B32, ren7_B64, nms7_I, nms7_N, nms7_Bo, nms7_B8, nms7_B32, nms7_B64, nms_tup, ren_tup, implies_true, l17, l18, l19, l20, l36, l37, l38, l39, l43, l21, l22, l24, l25, l33, l35, l40, l42, l14, l27, bs_isCell, bs_nms, bs_ren, ibs_nms, ibs_ren, bs_length, aW_isCell, aB_isCell, isCell_sl, isCell_isl, isCell_nil, isCell_ptr, isCell_N]) only [ev_exit, ev_seq, ev_region, regK_some, evOpers_nil, evOpers_cons, stepK_pure, put_some, evX_t, evX_c, outR_some, op_mv, op_bin, andThen_normal, andThen_exit, ev_cond, condK_false, List.set_cons_zero, List.set_cons_succ, List.getD_cons_zero, List.getD_cons_succ, List.length_cons, List.length_nil, Nat.reduceAdd, Nat.zero_add, Nat.add_zero, decide_false, N_lss, Nat.reduceAdd, Nat.lt_irrefl, decide_false, L16b3]
        rfl
      · clear hL h0 h1
        rintro st ⟨H, rfl, h0, h1⟩ rfl
        have hl8 := lb_length b 8
        obtain ⟨M, hM⟩ : ∃ M, M = lb b 8 := ⟨_, rfl⟩
        rw [← hM] at h1 hl8
        have hMd : dig b = outB (absN M ini (M.length / 64)) := by rw [hM]; rfl
        rw [← hl8]
        simp (disch := first | omega | decide | simp only [nms_B8, nms_B32, nms_B64, nms_I, nms_N, nms_Bo, nms_Un, nms_undef, nms_Hf, nms_ptr, nms_sl, aB_agg_nms, aW_agg_nms, aD_agg_nms, aO_agg_nms, List.flatMap_cons, List.flatMap_nil, List.nil_append, List.append_nil, ren_B8, ren_B32, ren_B64, ren_I, ren_N, ren_Bo, ren_Un, ren_undef, ren_Hf, aB_agg_ren, aW_agg_ren, aD_agg_ren, aO_agg_ren, List.map_cons, List.map_nil, ren7_I, ren7_N, ren7_Bo, ren7_B8, ren7_B32, ren7_B64, nms7_I, nms7_N, nms7_Bo, nms7_B8, nms7_B32, nms7_B64, nms_tup, ren_tup, implies_true, l17, l18, l19, l20, l36, l37, l38, l39, l43, l21, l22, l24, l25, l33, l35, l40, l42, l14, l27, bs_isCell, bs_nms, bs_ren, ibs_nms, ibs_ren, bs_length, aW_isCell, aB_isCell, isCell_sl, isCell_isl, isCell_nil, isCell_ptr, isCell_N]) only [ev_exit, ev_seq, ev_block, ev_region, regK_some, evOpers_nil, evOpers_cons, stepK_pure, put_some, put_none, evX_t, evX_c, outR_some, op_mv, op_bin, op_call, callV_fn, andThen_normal, andThen_exit, inBlock_exit, ev_cond, condK_false, List.set_cons_zero, List.set_cons_succ, List.getD_cons_zero, List.getD_cons_succ, List.map_nil, List.length_cons, List.length_nil, callOp_C, ev_loop, Nat.reduceAdd, upd_at, stepK_new, stepK_mod, cellsOf_agg, op_new, op_st, stV_ptr, if_true, Nat.zero_add, Nat.add_zero, decide_false, aW_st_all, aW_calK, Nat.add_zero, Nat.zero_add, N_lss, Nat.reduceAdd, Nat.lt_irrefl, decide_false, L16b3, hfirst, aW_st_all]
        generalize hL : loopN L16k2 _ _ _ = r
        refine loop_use hL (u2 M) (M.length / 64) (by omega) (fun i st hi hI => u2_round _ _ (by omega) hblk M (by omega) i (by omega) st hI) ?_ ?_ ?_
        · refine canon_inv [(1, 0), (1, 1), (5, 0)] rfl (by simp only [canonNames, FUEL, reach_cons, reachK_some, reach_nil, nms_ptr, nms_sl, nms_undef, List.flatMap_cons, List.flatMap_nil, List.nil_append, List.cons_append, List.append_nil, List.range_zero, List.map_nil, List.contains_nil, List.contains_cons, Prod.mk.injEq, beq_iff_eq, Bool.or_eq_true, Bool.false_eq_true, Nat.reduceEqDiff, and_true, and_false, or_false, if_true, if_false, Nat.one_ne_zero, Nat.zero_ne_one, List.filter_cons, List.filter_nil, bne_iff_ne, ne_eq, not_false_eq_true, upd_at, mask_nil, mask_true, mask_false, nms_N, L16k2, h0, h1, aB_nms, aW_nms, bs_nms]) rfl ⟨_, rfl, ?_, ?_, ?_⟩
          · exact cN_same (1, 0) rfl (by simp only [upd_at, Prod.mk.injEq, Nat.reduceEqDiff, and_true, if_false, h0]) (aB_ren _ _ _)
          · exact cN_same (1, 1) rfl (by simp only [upd_at, Prod.mk.injEq, Nat.reduceEqDiff, and_self, if_false, Nat.one_ne_zero, h1]) (bs_ren _ _)
          · exact cN_same (5, 0) rfl (by simp only [upd_at, if_true, absN]) (aW_ren _ _ _)
        · rintro st ⟨H, rfl, h0, h1, h2⟩
          have e2 : ¬ 64 * (M.length / 64) < M.length := by omega
          apply stop_exit
          simp (disch := first | omega | decide | simp only [nms_B8, nms_B32, nms_B64, nms_I, nms_N, nms_Bo, nms_Un, nms_undef, nms_Hf, nms_ptr, nms_sl, aB_agg_nms, aW_agg_nms, aD_agg_nms, aO_agg_nms, List.flatMap_cons, List.flatMap_nil, List.nil_append, List.append_nil, ren_B8, ren_B32, ren_B64, ren_I, ren_N, ren_Bo, ren_Un, ren_undef, ren_Hf, aB_agg_ren, aW_agg_ren, aD_agg_ren, aO_agg_ren, List.map_cons, List.map_nil, ren7_I, ren7_N, ren7_Bo, ren7_B8, ren7_B32, ren7_B64, nms7_I, nms7_N, nms7_Bo, nms7_B8, nms7_B32, nms7_B64, nms_tup, ren_tup, implies_true, l17, l18, l19, l20, l36, l37, l38, l39, l43, l21, l22, l24, l25, l33, l35, l40, l42, l14, l27, bs_isCell, bs_nms, bs_ren, ibs_nms, ibs_ren, bs_length, aW_isCell, aB_isCell, isCell_sl, isCell_isl, isCell_nil, isCell_ptr, isCell_N]) only [ev_exit, ev_seq, ev_region, regK_some, evOpers_nil, evOpers_cons, stepK_pure, put_some, evX_t, outR_some, op_mv, op_bin, andThen_normal, andThen_exit, ev_cond, condK_false, List.set_cons_zero, List.set_cons_succ, List.getD_cons_zero, List.getD_cons_succ, List.length_cons, List.length_nil, Nat.reduceAdd, Nat.zero_add, Nat.add_zero, decide_false, N_lss, Nat.reduceAdd, decide_false, op_len, lenV_some, lenS_sl, L16b2, e2]
          rfl
        · clear hL h0 h1
          rintro st ⟨H, rfl, h0, h1, h2⟩ rfl
          have e2 : ¬ 64 * (M.length / 64) < M.length := by omega
          rw [hMd]
          generalize absN M ini (M.length / 64) = s at *
          simp (disch := first | omega | decide | simp only [nms_B8, nms_B32, nms_B64, nms_I, nms_N, nms_Bo, nms_Un, nms_undef, nms_Hf, nms_ptr, nms_sl, aB_agg_nms, aW_agg_nms, aD_agg_nms, aO_agg_nms, List.flatMap_cons, List.flatMap_nil, List.nil_append, List.append_nil, ren_B8, ren_B32, ren_B64, ren_I, ren_N, ren_Bo, ren_Un, ren_undef, ren_Hf, aB_agg_ren, aW_agg_ren, aD_agg_ren, aO_agg_ren, List.map_cons, List.map_nil, ren7_I, ren7_N, ren7_Bo, ren7_B8, ren7_B32, ren7_B64, nms7_I, nms7_N, nms7_Bo, nms7_B8, nms7_B32, nms7_B64, nms_tup, ren_tup, implies_true, l17, l18, l19, l20, l36, l37, l38, l39, l43, l21, l22, l24, l25, l33, l35, l40, l42, l14, l27, bs_isCell, bs_nms, bs_ren, ibs_nms, ibs_ren, bs_length, aW_isCell, aB_isCell, isCell_sl, isCell_isl, isCell_nil, isCell_ptr, isCell_N]) only [ev_exit, ev_seq, ev_block, ev_region, regK_some, evOpers_nil, evOpers_cons, stepK_pure, put_some, evX_t, evX_c, outR_some, op_mv, op_bin, andThen_normal, andThen_exit, inBlock_exit, ev_cond, condK_false, List.set_cons_zero, List.set_cons_succ, List.getD_cons_zero, List.getD_cons_succ, List.length_cons, List.length_nil, ev_loop, Nat.reduceAdd, stepK_new, op_new, if_true, Nat.zero_add, Nat.add_zero, decide_false, aB_rep, Nat.add_zero, Nat.zero_add, N_lss, Nat.reduceAdd, decide_false, op_len, lenV_some, lenS_sl, L16b2, e2]
          generalize hL : loopN L16k0 _ _ _ = r
          refine loop_use hL (u0 s) 32 (by omega) (fun i st hi hI => u0_round _ _ s i hi st hI) ?_ ?_ ?_
          · refine canon_inv [(1, 0), (1, 2), (6, 0)] rfl (by simp only [canonNames, FUEL, reach_cons, reachK_some, reach_nil, nms_ptr, nms_undef, List.flatMap_cons, List.flatMap_nil, List.nil_append, List.cons_append, List.append_nil, List.range_zero, List.map_nil, List.contains_nil, List.contains_cons, Prod.mk.injEq, beq_iff_eq, Bool.or_eq_true, Bool.false_eq_true, Nat.reduceEqDiff, and_true, and_false, or_false, if_true, if_false, Nat.one_ne_zero, List.filter_cons, List.filter_nil, bne_iff_ne, ne_eq, not_false_eq_true, upd_at, mask_nil, mask_true, mask_false, nms_N, L16k0, h0, h2, aB_nms, aW_nms]) rfl ⟨_, rfl, ?_, ?_, ?_⟩
            · exact cN_same (1, 0) rfl (by simp only [upd_at, Prod.mk.injEq, Nat.reduceEqDiff, and_true, if_false, h0]) (aB_ren _ _ _)
            · exact cN_same (1, 2) rfl (by simp only [upd_at, Prod.mk.injEq, Nat.reduceEqDiff, and_self, if_false, h2]) (aW_ren _ _ _)
            · rw [show cutP (outB s) 0 = fun _ => 0#8 by funext x; simp [cutP]]
              exact cN_same (6, 0) rfl (by simp only [upd_at, if_true]) (aB_ren _ _ _)
          · rintro st ⟨H, rfl, h0, h1, h2⟩
            apply stop_exit
            simp (disch := first | omega | decide | simp only [nms_B8, nms_B32, nms_B64, nms_I, nms_N, nms_Bo, nms_Un, nms_undef, nms_Hf, nms_ptr, nms_sl, aB_agg_nms, aW_agg_nms, aD_agg_nms, aO_agg_nms, List.flatMap_cons, List.flatMap_nil, List.nil_append, List.append_nil, ren_B8, ren_B32, ren_B64, ren_I, ren_N, ren_Bo, ren_Un, ren_undef, ren_Hf, aB_agg_ren, aW_agg_ren, aD_agg_ren, aO_agg_ren, List.map_cons, List.map_nil, ren7_I, ren7_N, ren7_Bo, ren7_B8, ren7_B32, ren7_B64, nms7_I, nms7_N, nms7_Bo, nms7_B8, nms7_B32, nms7_B64, nms_tup, ren_tup, implies_true, l17, l18, l19, l20, l36, l37, l38, l39, l43, l21, l22, l24, l25, l33, l35, l40, l42, l14, l27, bs_isCell, bs_nms, bs_ren, ibs_nms, ibs_ren, bs_length, aW_isCell, aB_isCell, isCell_sl, isCell_isl, isCell_nil, isCell_ptr, isCell_N]) only [ev_exit, ev_seq, ev_region, regK_some, evOpers_nil, evOpers_cons, stepK_pure, put_some, evX_t, evX_c, outR_some, op_mv, op_bin, andThen_normal, andThen_exit, ev_cond, condK_false, List.set_cons_zero, List.set_cons_succ, List.getD_cons_zero, List.getD_cons_succ, List.length_cons, List.length_nil, Nat.reduceAdd, Nat.zero_add, Nat.add_zero, decide_false, N_lss, Nat.reduceAdd, Nat.lt_irrefl, decide_false, L16b0]
            rfl
          · rintro st ⟨H, rfl, h0, h1, h2⟩ rfl
            have e : aB 32 (cutP (outB s) 32) = aB 32 (outB s) := aB_ext 32 fun j hj => by simp only [cutP, if_pos hj]
            rw [e] at h2
            simp (disch := first | omega | decide | simp only [nms_B8, nms_B32, nms_B64, nms_I, nms_N, nms_Bo, nms_Un, nms_undef, nms_Hf, nms_ptr, nms_sl, aB_agg_nms, aW_agg_nms, aD_agg_nms, aO_agg_nms, List.flatMap_cons, List.flatMap_nil, List.nil_append, List.append_nil, ren_B8, ren_B32, ren_B64, ren_I, ren_N, ren_Bo, ren_Un, ren_undef, ren_Hf, aB_agg_ren, aW_agg_ren, aD_agg_ren, aO_agg_ren, List.map_cons, List.map_nil, ren7_I, ren7_N, ren7_Bo, ren7_B8, ren7_B32, ren7_B64, nms7_I, nms7_N, nms7_Bo, nms7_B8, nms7_B32, nms7_B64, nms_tup, ren_tup, implies_true, l17, l18, l19, l20, l36, l37, l38, l39, l43, l21, l22, l24, l25, l33, l35, l40, l42, l14, l27, bs_isCell, bs_nms, bs_ren, ibs_nms, ibs_ren, bs_length, aW_isCell, aB_isCell, isCell_sl, isCell_isl, isCell_nil, isCell_ptr, isCell_N]) only [ev_ret, ev_exit, ev_seq, ev_region, regK_some, evOpers_nil, evOpers_cons, stepK_pure, put_some, put_none, evX_t, evX_c, outR_some, op_mv, op_bin, andThen_normal, andThen_exit, inBlock_exit, ev_cond, condK_false, retK_ret, List.set_cons_zero, List.set_cons_succ, List.getD_cons_zero, List.getD_cons_succ, List.length_cons, List.length_nil, Option.map_some, Nat.reduceAdd, upd_at, stepK_mod, cellsOf_agg, cellAt_ptr, ldK_some, op_ld, op_st, stV_ptr, if_true, Nat.zero_add, Nat.add_zero, decide_false, resVal_agg, aggV_some, aB_cells, aB_st_all, aB_outOf, Nat.add_zero, Nat.zero_add, N_lss, Nat.reduceAdd, Nat.lt_irrefl, decide_false, Option.map_some, L16b0, h0, h2]

end Sha

namespace Sha
open Go Go.LE

def toV (l : List (BitVec 32)) : Nat → BitVec 32 := vec8 (l.getD 0 0#32) (l.getD 1 0#32) (l.getD 2 0#32) (l.getD 3 0#32) (l.getD 4 0#32) (l.getD 5 0#32) (l.getD 6 0#32) (l.getD 7 0#32)
def stepL (l : List (BitVec 32)) (k w : BitVec 32) : List (BitVec 32) := let s := toV l
  [one s k w + two s, s 0, s 1, s 2, s 3 + one s k w, s 4, s 5, s 6]
theorem set_take (L : List (BitVec 32)) (i : Nat) (h : i < L.length) : set1 (fun j => (L.take i).getD j 0#32) i (L.getD i 0#32) = fun j => (L.take (i + 1)).getD j 0#32 := by
  funext j
  simp only [set1, List.getD_eq_getElem?_getD, List.getElem?_take]
  by_cases hj : j = i
  · subst hj; simp
  · rw [if_neg hj]
    by_cases h2 : j < i
    · rw [if_pos h2, if_pos (by omega)]
    · rw [if_neg h2, if_neg (by omega)]

theorem W_list (p : Nat → BitVec 8) (L : List (BitVec 32)) (hl : L.length = 64) (h : ∀ i, i < 64 → wstep p (fun j => (L.take i).getD j 0#32) i = L.getD i 0#32) :
    ∀ i, i ≤ 64 → W p i = fun j => (L.take i).getD j 0#32 := by
  intro i
  induction i with
  | zero => intro _; funext j; simp [W]
  | succ i ih => intro hi; rw [W, ih (by omega), h i (by omega), set_take L i (by omega)]

theorem R_list (w : Nat → BitVec 32) (S : List (List (BitVec 32))) (h : ∀ i, i < 64 → stepL (S.getD i []) (kc i) (w i) = S.getD (i + 1) []) :
    ∀ i, i ≤ 64 → R (toV (S.getD 0 [])) w i = toV (S.getD i []) := by
  intro i
  induction i with
  | zero => intro _; rfl
  | succ i ih => intro hi; rw [R, ih (by omega), ← h i (by omega)]; rfl

theorem add_toV (a b c : List (BitVec 32)) (h : ∀ j, j < 8 → toV a j + toV b j = toV c j) : addW (toV a) (toV b) = toV c := by
  funext j
  by_cases hj : j < 8
  · exact h j hj
  · obtain ⟨d, rfl⟩ : ∃ d, j = d + 8 := ⟨j - 8, by omega⟩
    show (0#32 : BitVec 32) + 0#32 = 0#32
    decide

theorem blk_list (p : Nat → BitVec 8) (L : List (BitVec 32)) (S : List (List (BitVec 32))) (c : List (BitVec 32)) (hl : L.length = 64) (h1 : ∀ i, i < 64 → wstep p (fun j => (L.take i).getD j 0#32) i = L.getD i 0#32)
    (h2 : ∀ i, i < 64 → stepL (S.getD i []) (kc i) (L.getD i 0#32) = S.getD (i + 1) []) (h3 : ∀ j, j < 8 → toV (S.getD 0 []) j + toV (S.getD 64 []) j = toV c j) : blk (toV (S.getD 0 [])) p = toV c := by
  have e : W p 64 = fun j => L.getD j 0#32 := by
    rw [W_list p L hl h1 64 (Nat.le_refl _), List.take_of_length_le (by omega)]
  rw [blk, e, R_list _ S h2 64 (Nat.le_refl _), add_toV _ _ c h3]

end Sha

namespace Sha
open Go Go.LE

theorem noImm_aB (n : Nat) (g : Nat → BitVec 8) : noImm D (.agg (aB n g)) = true := by
  show (aB n g).all (noImm 7) = true
  rw [List.all_eq_true]; intro x hx
  simp only [aB, arr, List.mem_map, List.mem_range] at hx
  obtain ⟨i, _, rfl⟩ := hx; rfl

/-- a function of lent bytes alone that gives bytes -/
theorem bytes_call (k b g n : Nat) (hg : lentF g 0 = true) (r : Nat → BitVec 8) (H : Heap) (B : LV) (bb : List (BitVec 8)) (hB : Lent H B bb [])
    (hw : F C k g [.isl (bs bb) bb.length] [] = some (.agg (aB n r), [], [])) : callOp (envC C k) H b g [B] = some ⟨.agg (aB n r), [], []⟩ := by
  obtain ⟨lent, hs, hl⟩ := hB.snap
  have hlend : lend H ((envC C k).borrow g) 0 [B] = some ([.isl (bs bb) bb.length], lent) := by
    rw [lend_cons, lend_nil, envC_borrow, C_bor, if_pos hg, hs, lendC_some, List.append_nil]
  rw [callOp_L, hlend, callL_some]
  have hn : ([.isl (bs bb) bb.length] : List LV).flatMap (nms D) = [] := by
    simp only [List.flatMap_cons, List.flatMap_nil, ibs_nms, List.append_nil]
  rw [hn, show reach H FUEL [] [] = [] from rfl, callN_eq _ _ _ _ _ hl]
  have ha : ([.isl (bs bb) bb.length] : List LV).map (ren D (toCallee [])) = [.isl (bs bb) bb.length] := by
    simp only [List.map_cons, List.map_nil, ibs_ren]
  rw [ha, List.filterMap_nil, List.map_nil, envC_cal, hw, resK_any _ _ _ _ (by simp [plainRes, noImm_aB]), backTo_eq]
  simp only [aB_agg_ren, List.map_nil, List.zipWith_nil_left]

theorem sum_call (k b : Nat) (H : Heap) (B : LV) (bb : List (BitVec 8)) (hb : bb.length ≤ 211106232000000) (hB : Lent H B bb []) (hk : bb.length / 64 + 301 ≤ k) :
    callOp (envC C k) H b 15 [B] = some ⟨.agg (aB 32 (dig bb)), [], []⟩ := by
  have := sum_F (k - bb.length / 64 - 301) bb hb
  rw [show k - bb.length / 64 - 301 + bb.length / 64 + 301 = k by omega] at this
  exact bytes_call k b 15 32 rfl _ H B bb hB this
theorem rsum_call (k b : Nat) (H : Heap) (B : LV) (bb : List (BitVec 8)) (hb : bb.length ≤ 211106232000000) (hB : Lent H B bb []) (hk : bb.length / 64 + 301 ≤ k) :
    callOp (envC C k) H b 16 [B] = some ⟨.agg (aB 32 (dig bb)), [], []⟩ := by
  have := rsum_F (k - bb.length / 64 - 301) bb hb
  rw [show k - bb.length / 64 - 301 + bb.length / 64 + 301 = k by omega] at this
  exact bytes_call k b 16 32 rfl _ H B bb hB this

theorem aB_self (n : Nat) (f : Nat → BitVec 8) : aB_same n f f = true := (aB_same_iff _ _ _).2 fun _ _ => rfl

end Sha

namespace Sha
open Go Go.LE

end Sha
