/- Digests on their way, as they lie in a caller's memory: what calls of Write, Sum, Fork and Len do to them. -/
/- ShaPieces, evaluated. (Printed by wip/tools/mkpieces.py.) -/
/- Macs on their way, as they lie in memory: Write, Sum, Fork. -/
/- Calls of a mac's functions, on one that lies in a caller's memory. -/
/- hmac: begin, New, Tag. -/
import Derived.Test.YtpkifhjlmkbdpaaDoorLeU
import Derived.Test.YtpkifhjlmkbdpaaDoorLeE
set_option linter.unusedVariables false
set_option linter.unusedSimpArgs false

namespace Sha
open Go Go.LE

/-! ### two forms that were lacking -/

def w0C (s : Nat → BitVec 32) (n : Nat) (i : Nat) (st : St) : Prop := ∃ (H : Heap), st = ⟨[.ptr (0, 0) 0, .undef, .undef, .undef, N 0, .undef, .undef, .undef, .undef, .undef, .undef, .undef, .undef, .undef, .undef, .undef, .undef, .undef, .undef, .undef, .undef, .undef, .undef, .undef, .undef, .undef, .undef, .undef, .undef, .undef, .undef, .undef, .undef, .undef, .undef, .undef, .undef, .undef, .undef, .undef, .undef, .undef, .undef, .undef, .undef, .undef, .undef, .undef, .undef, .undef, .undef, .undef, .undef, .undef, .undef, .undef, .undef, .undef, .undef, .undef, .undef, .undef, .undef, .undef, .undef, .undef, .undef, .undef, .undef, .undef, .undef, .undef, .undef, .undef], H, 2, 2⟩ ∧ H (0, 0) = some (HsC s (.sl (0, 1) 0 0 (some 0) 1) n) ∧ H (0, 1) = some (bs [])
theorem write0C (k : Nat) (s : Nat → BitVec 32) (n : Nat) (hn : n ≤ 4611686018427387904) : F C (k + 3) 23 [.ptr (0, 0) 0, .isl (bs []) 0] [HsC s (.sl (0, 1) 0 0 (some 0) 1) n, bs []] = some (.tup [], [some (HsC s (.sl (0, 1) 0 0 (some 0) 1) n), some (bs [])], []) := by
  rw [F_succ f23]
  have hfr : ∀ H : Heap, front H 1 0 (.isl (bs []) 0) = some (bs []) := fun H => front_ibytes [] 0 rfl
  have ha : ∀ (bn : Nat) (H : Heap), H (0, 1) = some (bs []) → appX bn 1 1 0 H [] (bs []) (.sl (0, 1) 0 0 (some 0) 1) = some ⟨.sl (0, 1) 0 0 (some 0) 1, [], [((0, 1), some (bs []))]⟩ := by
    intro bn H h
    simp only [appX, h, splice]
    rfl
  have ha' := fun (bn : Nat) (x : Cells) => ha bn (upd (inHeap [HsC s (.sl (0, 1) 0 0 (some 0) 1) n, bs []]) (0, 0) (some x)) rfl
  simp (disch := first | omega | decide | simp only [nms_B8, nms_B32, nms_B64, nms_I, nms_N, nms_Bo, nms_Un, nms_undef, nms_Hf, nms_ptr, nms_sl, aB_agg_nms, aW_agg_nms, aD_agg_nms, aO_agg_nms, List.flatMap_cons, List.flatMap_nil, List.nil_append, List.append_nil, ren_B8, ren_B32, ren_B64, ren_I, ren_N, ren_Bo, ren_Un, ren_undef, ren_Hf, aB_agg_ren, aW_agg_ren, aD_agg_ren, aO_agg_ren, List.map_cons, List.map_nil, ren7_I, ren7_N, ren7_Bo, ren7_B8, ren7_B32, ren7_B64, nms7_I, nms7_N, nms7_Bo, nms7_B8, nms7_B32, nms7_B64, nms_tup, ren_tup, implies_true, l17, l18, l19, l20, l36, l37, l38, l39, l43, l21, l22, l24, l25, l33, l35, l40, l42, l14, l27, bs_isCell, bs_nms, bs_ren, ibs_nms, ibs_ren, bs_length, aW_isCell, aB_isCell, isCell_sl, isCell_isl, isCell_nil, isCell_ptr, isCell_N]) only [funSem_eq, ev_skip, ev_seq, ev_block, ev_region, regK_some, evOpers_nil, evOpers_cons, stepK_pure, put_some, put_none, evX_t, evX_c, outR_some, op_mv, op_bin, andThen_normal, ev_cond, condK_false, List.set_cons_zero, List.set_cons_succ, List.getD_cons_zero, List.getD_cons_succ, List.nil_append, List.cons_append, repUn_succ, List.replicate_zero, List.length_cons, List.length_nil, ev_loop, Nat.reduceAdd, Nat.reduceSub, upd_at, stepK_mod, cellAt_ptr, ld1K_some, op_ld1, op_st, stV_ptr, op_fa, faV_ptr, Prod.mk.injEq, and_false, if_true, if_false, Nat.zero_add, Nat.add_zero, Nat.zero_ne_one, Nat.add_zero, Nat.zero_add, N_add, cellsOf_N, Nat.reduceAdd, op_chk, chkV_ptr, eqp_ptr, op_len, lenV_some, lenS_isl, lenOf_isl, cellsOf_sl, op_append, appK_some, appF_some, inHeap_at, List.getElem?_cons_zero, L23, Hs_n, Hs_rest, Hs_st9, Hs_st8, hfr, ha']
  generalize hL : loopN L23k0 _ _ _ = r
  refine loop_use hL (w0C s n) 0 (by omega) (fun i st hi hI => by omega) ?_ ?_ ?_
  · refine canon_inv [] rfl (by simp only [canonNames, FUEL, reach_cons, reachK_some, reach_nil, nms_ptr, nms_sl, nms_undef, List.flatMap_cons, List.flatMap_nil, List.nil_append, List.cons_append, List.append_nil, List.map_nil, List.map_cons, List.contains_nil, List.contains_cons, Prod.mk.injEq, beq_iff_eq, Bool.or_eq_true, Bool.false_eq_true, and_false, or_false, or_true, if_true, if_false, Nat.one_ne_zero, Nat.zero_ne_one, List.filter_cons, List.filter_nil, bne_iff_ne, ne_eq, not_true_eq_false, upd_at, mask_nil, mask_true, mask_false, inHeap_at, range_two, List.getElem?_cons_zero, List.getElem?_cons_succ, nms_N, L23k0, HsC_nms, bs_nms]) rfl ⟨_, rfl, ?_, ?_⟩
    · rw [cN_zero]
      simp (disch := first | omega | decide | simp only [nms_B8, nms_B32, nms_B64, nms_I, nms_N, nms_Bo, nms_Un, nms_undef, nms_Hf, nms_ptr, nms_sl, aB_agg_nms, aW_agg_nms, aD_agg_nms, aO_agg_nms, List.flatMap_cons, List.flatMap_nil, List.nil_append, List.append_nil, ren_B8, ren_B32, ren_B64, ren_I, ren_N, ren_Bo, ren_Un, ren_undef, ren_Hf, aB_agg_ren, aW_agg_ren, aD_agg_ren, aO_agg_ren, List.map_cons, List.map_nil, ren7_I, ren7_N, ren7_Bo, ren7_B8, ren7_B32, ren7_B64, nms7_I, nms7_N, nms7_Bo, nms7_B8, nms7_B32, nms7_B64, nms_tup, ren_tup, implies_true, l17, l18, l19, l20, l36, l37, l38, l39, l43, l21, l22, l24, l25, l33, l35, l40, l42, l14, l27, bs_isCell, bs_nms, bs_ren, ibs_nms, ibs_ren, bs_length, aW_isCell, aB_isCell, isCell_sl, isCell_isl, isCell_nil, isCell_ptr, isCell_N]) only [Option.map_some, upd_at, Prod.mk.injEq, and_false, if_true, if_false, Nat.zero_ne_one, canonMap_0, Option.map_some, inHeap_at, List.getElem?_cons_zero, ren_slF, slO_some, HsC_ren]
    · rw [cN_zero]
      simp (disch := first | omega | decide | simp only [nms_B8, nms_B32, nms_B64, nms_I, nms_N, nms_Bo, nms_Un, nms_undef, nms_Hf, nms_ptr, nms_sl, aB_agg_nms, aW_agg_nms, aD_agg_nms, aO_agg_nms, List.flatMap_cons, List.flatMap_nil, List.nil_append, List.append_nil, ren_B8, ren_B32, ren_B64, ren_I, ren_N, ren_Bo, ren_Un, ren_undef, ren_Hf, aB_agg_ren, aW_agg_ren, aD_agg_ren, aO_agg_ren, List.map_cons, List.map_nil, ren7_I, ren7_N, ren7_Bo, ren7_B8, ren7_B32, ren7_B64, nms7_I, nms7_N, nms7_Bo, nms7_B8, nms7_B32, nms7_B64, nms_tup, ren_tup, implies_true, l17, l18, l19, l20, l36, l37, l38, l39, l43, l21, l22, l24, l25, l33, l35, l40, l42, l14, l27, bs_isCell, bs_nms, bs_ren, ibs_nms, ibs_ren, bs_length, aW_isCell, aB_isCell, isCell_sl, isCell_isl, isCell_nil, isCell_ptr, isCell_N]) only [Option.map_some, upd_at, Prod.mk.injEq, and_false, if_true, if_false, Nat.one_ne_zero, Option.map_some, bs_ren, inHeap_at, List.getElem?_cons_zero, List.getElem?_cons_succ]
  · rintro st ⟨H, rfl, h0, h1⟩
    apply stop_exit
    simp (disch := first | omega | decide | simp only [nms_B8, nms_B32, nms_B64, nms_I, nms_N, nms_Bo, nms_Un, nms_undef, nms_Hf, nms_ptr, nms_sl, aB_agg_nms, aW_agg_nms, aD_agg_nms, aO_agg_nms, List.flatMap_cons, List.flatMap_nil, List.nil_append, List.append_nil, ren_B8, ren_B32, ren_B64, ren_I, ren_N, ren_Bo, ren_Un, ren_undef, ren_Hf, aB_agg_ren, aW_agg_ren, aD_agg_ren, aO_agg_ren, List.map_cons, List.map_nil, ren7_I, ren7_N, ren7_Bo, ren7_B8, ren7_B32, ren7_B64, nms7_I, nms7_N, nms7_Bo, nms7_B8, nms7_B32, nms7_B64, nms_tup, ren_tup, implies_true, l17, l18, l19, l20, l36, l37, l38, l39, l43, l21, l22, l24, l25, l33, l35, l40, l42, l14, l27, bs_isCell, bs_nms, bs_ren, ibs_nms, ibs_ren, bs_length, aW_isCell, aB_isCell, isCell_sl, isCell_isl, isCell_nil, isCell_ptr, isCell_N]) only [ev_exit, ev_seq, ev_region, regK_some, evOpers_nil, evOpers_cons, stepK_pure, put_some, evX_t, evX_c, outR_some, op_mv, op_bin, andThen_normal, andThen_exit, ev_cond, condK_false, List.set_cons_zero, List.set_cons_succ, List.getD_cons_zero, List.getD_cons_succ, List.length_cons, List.length_nil, Nat.reduceAdd, cellAt_ptr, ld1K_some, op_ld1, op_fa, faV_ptr, Nat.reduceLeDiff, Nat.zero_add, Nat.add_zero, decide_false, N_sub, N_geq, Nat.reduceLeDiff, Nat.reduceAdd, decide_false, op_chk, chkV_ptr, op_len, lenV_some, lenS_sl, Nat.sub_zero, L23b0, h0, Hs_rest]
    rfl
  · rintro st ⟨H, rfl, h0, h1⟩ rfl
    have hcp : ∀ H : Heap, cpK 1 H (.sl (0, 1) 0 0 (some 0) 1) (.sl (0, 1) 0 0 (some 0) 1) (some 0) = some ⟨N 0, [], []⟩ := fun H => rfl
    simp (disch := first | omega | decide | simp only [nms_B8, nms_B32, nms_B64, nms_I, nms_N, nms_Bo, nms_Un, nms_undef, nms_Hf, nms_ptr, nms_sl, aB_agg_nms, aW_agg_nms, aD_agg_nms, aO_agg_nms, List.flatMap_cons, List.flatMap_nil, List.nil_append, List.append_nil, ren_B8, ren_B32, ren_B64, ren_I, ren_N, ren_Bo, ren_Un, ren_undef, ren_Hf, aB_agg_ren, aW_agg_ren, aD_agg_ren, aO_agg_ren, List.map_cons, List.map_nil, ren7_I, ren7_N, ren7_Bo, ren7_B8, ren7_B32, ren7_B64, nms7_I, nms7_N, nms7_Bo, nms7_B8, nms7_B32, nms7_B64, nms_tup, ren_tup, implies_true, l17, l18, l19, l20, l36, l37, l38, l39, l43, l21, l22, l24, l25, l33, l35, l40, l42, l14, l27, bs_isCell, bs_nms, bs_ren, ibs_nms, ibs_ren, bs_length, aW_isCell, aB_isCell, isCell_sl, isCell_isl, isCell_nil, isCell_ptr, isCell_N]) only [ev_exit, ev_seq, ev_region, regK_some, evOpers_nil, evOpers_cons, stepK_pure, put_some, put_none, evX_t, evX_c, outR_some, op_mv, op_bin, andThen_normal, andThen_exit, inBlock_exit, ev_cond, condK_false, retK_normal, List.set_cons_zero, List.set_cons_succ, List.getD_cons_zero, List.getD_cons_succ, List.nil_append, List.cons_append, List.length_cons, List.length_nil, Option.map_some, Nat.reduceAdd, Nat.reduceSub, stepK_mod, cellAt_ptr, ld1K_some, op_ld1, op_st, stV_ptr, op_fa, faV_ptr, List.all_cons, List.all_nil, Bool.and_true, Nat.reduceLeDiff, Nat.reduceLT, if_true, Nat.zero_add, Nat.add_zero, decide_true, decide_false, Nat.mul_one, Nat.add_zero, Nat.zero_add, N_sub, N_geq, N_nat, Nat.reduceLT, Nat.reduceLeDiff, Nat.reduceAdd, decide_false, decide_true, Bool.not_false, Bool.not_true, op_chk, chkV_ptr, op_len, lenV_some, lenS_sl, lenOf_sl, cellsOf_sl, op_copy, optNat_none, optNat_some, op_slcS, slcV_cap, getD_some, Option.map_some, Nat.sub_zero, Nat.mul_one, resVal_none, evOpers_ord, stepO_eq, ordK_pure, only_at, touch_ld1, touch_copy, nms_ptr, List.contains_cons, List.contains_nil, beq_self_eq_true, Bool.or_true, Bool.or_false, ordOk, apartFrom, List.all_cons, List.all_nil, Nat.testBit, Nat.reduceShiftRight, Nat.reduceAnd, Nat.reduceBEq, Bool.not_true, Bool.not_false, Bool.and_self, Bool.and_true, Nat.reduceSub, Nat.reduceLT, bne, L23b0, h0, Hs_rest, Hs_st8, hcp, nms_sl]
    rw [outOf_mem 2 _ _ [] (by simp only [canonNames, FUEL, reach_cons, reachK_some, reach_nil, nms_sl, List.flatMap_cons, List.flatMap_nil, List.nil_append, List.cons_append, List.append_nil, List.map_nil, List.map_cons, List.contains_nil, List.contains_cons, Prod.mk.injEq, beq_iff_eq, Bool.or_eq_true, Bool.false_eq_true, and_false, or_false, or_true, if_true, if_false, Nat.one_ne_zero, List.filter_cons, List.filter_nil, bne_iff_ne, ne_eq, not_true_eq_false, upd_at, range_two, HsC_nms, bs_nms, nms_tup0, h0, h1])]
    simp (disch := first | omega | decide | simp only [nms_B8, nms_B32, nms_B64, nms_I, nms_N, nms_Bo, nms_Un, nms_undef, nms_Hf, nms_ptr, nms_sl, aB_agg_nms, aW_agg_nms, aD_agg_nms, aO_agg_nms, List.flatMap_cons, List.flatMap_nil, List.nil_append, List.append_nil, ren_B8, ren_B32, ren_B64, ren_I, ren_N, ren_Bo, ren_Un, ren_undef, ren_Hf, aB_agg_ren, aW_agg_ren, aD_agg_ren, aO_agg_ren, List.map_cons, List.map_nil, ren7_I, ren7_N, ren7_Bo, ren7_B8, ren7_B32, ren7_B64, nms7_I, nms7_N, nms7_Bo, nms7_B8, nms7_B32, nms7_B64, nms_tup, ren_tup, implies_true, l17, l18, l19, l20, l36, l37, l38, l39, l43, l21, l22, l24, l25, l33, l35, l40, l42, l14, l27, bs_isCell, bs_nms, bs_ren, ibs_nms, ibs_ren, bs_length, aW_isCell, aB_isCell, isCell_sl, isCell_isl, isCell_nil, isCell_ptr, isCell_N]) only [List.map_cons, List.map_nil, Option.map_some, upd_at, Prod.mk.injEq, true_and, if_true, if_false, Nat.one_ne_zero, canonMap_0, List.filterMap_nil, Option.map_some, bs_ren, range_two, ren_slF, slO_some, ren_tup0, HsC_ren, h1]
/-! ### a digest on its way -/

/-- what lies behind the last piece, in a row of the digest's own -/
structure RF (len : Nat) (c : Option Nat) (l rest : List (BitVec 8)) : Prop where
  le : len ≤ l.length
  tk : l.take len = rest
  cap : c = none ∨ (c = some 0 ∧ l = [])

def stN (b : List (BitVec 8)) : Nat → BitVec 32 := absN b ini (b.length / 64)
def rsN (b : List (BitVec 8)) : List (BitVec 8) := b.drop (64 * (b.length / 64))
theorem rsN_length (b : List (BitVec 8)) : (rsN b).length = b.length - 64 * (b.length / 64) := List.length_drop
theorem stN_append (b f : List (BitVec 8)) : absN (rsN b ++ f) (stN b) ((rsN b ++ f).length / 64) = stN (b ++ f) := absN_two b f ini (b.length / 64) (by omega)
theorem rsN_append (b f : List (BitVec 8)) : (rsN b ++ f).drop (64 * ((rsN b ++ f).length / 64)) = rsN (b ++ f) := by
  have e1 : (b ++ f).drop (64 * (b.length / 64)) = rsN b ++ f := List.drop_append_of_le_length (by omega)
  have e2 : (b ++ f).length / 64 = b.length / 64 + (rsN b ++ f).length / 64 := by
    rw [List.length_append, List.length_append, rsN_length]; omega
  show _ = (b ++ f).drop (64 * ((b ++ f).length / 64))
  rw [e2, Nat.mul_add, ← List.drop_drop, e1]
theorem dig_rs (b : List (BitVec 8)) : dig b = outB (absN (rsN b ++ fb b.length 8) (stN b) ((rsN b ++ fb b.length 8).length / 64)) := by
  rw [stN_append]; rfl

/-- it has taken the bytes b; its object, and that of its rest -/
structure HG (H : Heap) (fN rN : Nm) (b : List (BitVec 8)) : Prop where
  ne : fN ≠ rN
  ex : ∃ c l, RF (rsN b).length c l (rsN b) ∧ H fN = some (HsC (stN b) (.sl rN 0 (rsN b).length c 1) b.length) ∧ H rN = some (bs l)

theorem HG.congr {H H' : Heap} {fN rN : Nm} {b : List (BitVec 8)} (h : HG H fN rN b) (h1 : H' fN = H fN) (h2 : H' rN = H rN) : HG H' fN rN b := by
  obtain ⟨hne, c, l, hr, e1, e2⟩ := h
  exact ⟨hne, c, l, hr, h1.trans e1, h2.trans e2⟩
theorem HG.upd {H : Heap} {fN rN n : Nm} {b : List (BitVec 8)} {x : Option Cells} (h : HG H fN rN b) (h1 : fN ≠ n) (h2 : rN ≠ n) : HG (upd H n x) fN rN b :=
  h.congr (by rw [upd_at, if_neg h1]) (by rw [upd_at, if_neg h2])

/-- one that has taken nothing yet -/
def H0 (H : Heap) (fN : Nm) : Prop := H fN = some (HsC ini Nil 0)
theorem upd_id {H : Heap} {n : Nm} {x : Option Cells} (h : H n = x) : upd H n x = H := by
  funext m
  rw [upd_at]
  split
  · rename_i e; subst e; exact h.symm
  · rfl

theorem write_Z {K b : Nat} {H : Heap} {fN rN : Nm} {B : LV} {bb all : List (BitVec 8)} {r : Option Out} (hc : callOp (envC C K) H b 23 [.ptr fN 0, B] = r) (h : HG H fN rN all) (hB : Lent H B bb [fN, rN])
    (hlen : all.length + bb.length ≤ 211106232000000) (hK : (all.length + bb.length) / 64 + 200 ≤ K) (hf : fN.1 ≠ b) (hr : rN.1 ≠ b) :
    ∃ rN' news ms H2, r = some ⟨.tup [], news, ms⟩ ∧ updN b 0 news (modN ms H) = H2 ∧ HG H2 fN rN' (all ++ bb) ∧ (rN' = (b, 0) ∨ (rN' = rN ∧ bb = [])) ∧ (∃ z : Option (List (BitVec 8)), H2 rN = z.map bs) ∧ ∀ m, m ≠ fN → m ≠ rN → m.1 ≠ b → H2 m = H m := by
  subst hc
  obtain ⟨hne, c, l, ⟨hle, htk, hcap⟩, h1, h2⟩ := h
  have hrl := rsN_length all
  have hal : (rsN all ++ bb).length = (rsN all).length + bb.length := List.length_append
  have fin : ∀ (z : Option (List (BitVec 8))) (l' : List (BitVec 8)), l'.take ((rsN all ++ bb).length - 64 * ((rsN all ++ bb).length / 64)) = (rsN all ++ bb).drop (64 * ((rsN all ++ bb).length / 64)) → (rsN all ++ bb).length - 64 * ((rsN all ++ bb).length / 64) ≤ l'.length →
      F C K 23 [.ptr (0, 0) 0, .isl (bs bb) bb.length] [HsC (stN all) (.sl (0, 1) 0 (rsN all).length c 1) all.length, bs l] =
        some (.tup [], [some (HsC (absN (rsN all ++ bb) (stN all) ((rsN all ++ bb).length / 64)) (.sl (1, 0) 0 ((rsN all ++ bb).length - 64 * ((rsN all ++ bb).length / 64)) none 1) (all.length + bb.length)), z.map bs], [bs l']) →
      ∃ rN' news ms H2, callOp (envC C K) H b 23 [.ptr fN 0, B] = some ⟨.tup [], news, ms⟩ ∧ updN b 0 news (modN ms H) = H2 ∧ HG H2 fN rN' (all ++ bb) ∧ (rN' = (b, 0) ∨ (rN' = rN ∧ bb = [])) ∧ (∃ z : Option (List (BitVec 8)), H2 rN = z.map bs) ∧ ∀ m, m ≠ fN → m ≠ rN → m.1 ≠ b → H2 m = H m := by
    intro z l' ht hl hw
    have hcall := write_callG K b H fN rN _ _ _ _ _ _ c B bb l l' z h1 h2 hne hB hw
    refine ⟨(b, 0), _, _, _, hcall, rfl, ⟨?_, none, l', ?_, ?_, ?_⟩, .inl rfl, ⟨z, ?_⟩, ?_⟩
    · intro e; exact hf (by rw [e])
    · rw [← rsN_append, List.length_drop]; exact ⟨hl, ht, .inl rfl⟩
    · simp only [updN_cons, updN_nil, modN_cons, modN_nil, upd_at, if_neg (show fN ≠ (b, 0) by intro e; exact hf (by rw [e])), if_true]
      rw [← stN_append, ← rsN_append, List.length_drop]
      simp only [List.length_append]
    · simp only [updN_cons, updN_nil, upd_at, if_true]
    · simp only [updN_cons, updN_nil, modN_cons, modN_nil, upd_at, if_neg (show rN ≠ (b, 0) by intro e; exact hr (by rw [e])), if_neg (show rN ≠ fN from fun e => hne e.symm), if_true]
    · intro m a1 a2 a3
      simp only [updN_cons, updN_nil, modN_cons, modN_nil, upd_at, if_neg a1, if_neg a2, if_neg (show m ≠ (b, 0) by intro e; exact a3 (by rw [e]))]
  rcases hcap with rfl | ⟨rfl, rfl⟩
  · obtain ⟨l', hw, ht, hl⟩ := writeB (K - (rsN all ++ bb).length / 64 - 100) (stN all) all.length (rsN all).length l hle bb (rsN all ++ bb) (by rw [htk]) (by omega) (by omega)
    rw [show K - (rsN all ++ bb).length / 64 - 100 + (rsN all ++ bb).length / 64 + 100 = K by omega] at hw
    exact fin none l' ht hl hw
  · have hr0 : rsN all = [] := by rw [← htk]; simp
    have hl0 : (rsN all).length = 0 := by rw [hr0]; rfl
    by_cases hb0 : bb = []
    · subst hb0
      have hw := write0C (K - 3) (stN all) all.length (by omega)
      rw [show K - 3 + 3 = K by omega] at hw
      obtain ⟨lent, hs, hln⟩ := hB.snap
      have hcc : ([fN] : List Nm).contains rN = false := by simp; exact fun e => hne e.symm
      rw [hl0] at h1
      have hre : reach H FUEL [] [fN] = [fN, rN] := by
        simp only [FUEL, reach_cons, List.contains_nil, Bool.false_eq_true, if_false, h1, reachK_some, HsC_nms, nms_sl, List.nil_append, List.cons_append, hcc, h2, bs_nms, reach_nil]
      have hcall : callOp (envC C K) H b 23 [.ptr fN 0, B] = some ⟨.tup [], [], [(fN, some (HsC (stN all) (.sl rN 0 0 (some 0) 1) all.length)), (rN, some (bs []))]⟩ := by
        rw [callOp_L, lend_w K H fN B [] lent hs, callL_some]
        have hn : ([.ptr fN 0, .isl (bs []) ([] : List (BitVec 8)).length] : List LV).flatMap (nms D) = [fN] := by
          simp only [List.flatMap_cons, List.flatMap_nil, nms_ptr, ibs_nms, List.append_nil]
        rw [hn, hre, callN_eq _ _ _ _ _ hln, show ([fN, rN] : List Nm).filterMap H = [HsC (stN all) (.sl rN 0 0 (some 0) 1) all.length, bs []] by simp [h1, h2]]
        have ha : ([.ptr fN 0, .isl (bs []) ([] : List (BitVec 8)).length] : List LV).map (ren D (toCallee [fN, rN])) = [.ptr (0, 0) 0, .isl (bs []) 0] := by
          simp only [List.map_cons, List.map_nil, ren_ptrF, toCallee_eq, idx0, Option.map_some, ptrO_some, ibs_ren, List.length_nil]
        have hp : plainRes (.tup [], [some (HsC (stN all) (.sl (0, 1) 0 0 (some 0) 1) all.length), some (bs [])], []) = true := by
          simp [plainRes, noImm_HsC, noImm_bs]; rfl
        rw [ha, List.map_cons, List.map_cons, List.map_nil, HsC_ren, ren_slF, toCallee_eq, idx1 _ _ _ hne, Option.map_some, slO_some, bs_ren, envC_cal, hw, resK_any _ _ _ _ hp, backTo_eq]
        simp only [ren_tup0, HsC_ren, ren_slF, toCaller_0, List.getElem?_cons_succ, List.getElem?_cons_zero, slO_some, List.map_nil, bs_ren, List.zipWith_cons_cons, List.zipWith_nil_left, Option.map_some]
      refine ⟨rN, _, _, H, hcall, ?_, ⟨hne, some 0, [], ?_, ?_, ?_⟩, .inr ⟨rfl, rfl⟩, ⟨some [], h2⟩, fun _ _ _ _ => rfl⟩
      · simp only [updN_nil, modN_cons, modN_nil]
        rw [upd_id h2, upd_id h1]
      · rw [List.append_nil, hr0]; exact ⟨Nat.le_refl _, rfl, .inr ⟨rfl, rfl⟩⟩
      · rw [List.append_nil, hl0]; exact h1
      · exact h2
    · obtain ⟨l', hw, ht, hl⟩ := writeC (K - (rsN all ++ bb).length / 64 - 100) (stN all) all.length bb (rsN all ++ bb) (by rw [hr0, List.nil_append]) hb0 (by omega) (by omega)
      rw [show K - (rsN all ++ bb).length / 64 - 100 + (rsN all ++ bb).length / 64 + 100 = K by omega] at hw
      refine fin (some []) l' ht hl ?_
      rw [hl0]
      exact hw

theorem write_G {K b : Nat} {H : Heap} {fN rN : Nm} {B : LV} {bb all : List (BitVec 8)} {r : Option Out} (hc : callOp (envC C K) H b 23 [.ptr fN 0, B] = r) (h : HG H fN rN all) (hB : Lent H B bb [fN, rN])
    (hlen : all.length + bb.length ≤ 211106232000000) (hK : (all.length + bb.length) / 64 + 200 ≤ K) (hf : fN.1 ≠ b) (hr : rN.1 ≠ b) :
    ∃ rN' news ms H2, r = some ⟨.tup [], news, ms⟩ ∧ updN b 0 news (modN ms H) = H2 ∧ HG H2 fN rN' (all ++ bb) ∧ (rN' = (b, 0) ∨ (rN' = rN ∧ bb = [])) ∧ ∀ m, m ≠ fN → m ≠ rN → m.1 ≠ b → H2 m = H m := by
  obtain ⟨rN', news, ms, H2, e1, e2, e3, e4, _, e5⟩ := write_Z hc h hB hlen hK hf hr
  exact ⟨rN', news, ms, H2, e1, e2, e3, e4, e5⟩

theorem write_1 {K b : Nat} {H : Heap} {fN : Nm} {B : LV} {bb : List (BitVec 8)} {r : Option Out} (hc : callOp (envC C K) H b 23 [.ptr fN 0, B] = r) (h : H0 H fN) (hB : Lent H B bb [fN]) (hb : bb ≠ [])
    (hlen : bb.length ≤ 211106232000000) (hK : bb.length / 64 + 200 ≤ K) (hf : fN.1 ≠ b) :
    ∃ news ms H2, r = some ⟨.tup [], news, ms⟩ ∧ updN b 0 news (modN ms H) = H2 ∧ HG H2 fN (b, 0) bb ∧ ∀ m, m ≠ fN → m.1 ≠ b → H2 m = H m := by
  subst hc
  obtain ⟨l', hw, ht, hl⟩ := writeA (K - bb.length / 64 - 100) ini 0 bb bb rfl hb (by omega) (by omega)
  rw [show K - bb.length / 64 - 100 + bb.length / 64 + 100 = K by omega] at hw
  simp only [Nat.zero_add] at hw
  have hcall := write_callA K b H fN _ _ _ _ _ B bb l' h hB hw
  have hne : fN ≠ (b, 0) := by intro e; exact hf (by rw [e])
  refine ⟨_, _, _, hcall, rfl, ⟨hne, none, l', ?_, ?_, ?_⟩, ?_⟩
  · rw [rsN_length]; exact ⟨hl, ht, .inl rfl⟩
  · simp only [updN_cons, updN_nil, modN_cons, modN_nil, upd_at, if_neg hne, if_true]
    rw [rsN_length]; rfl
  · simp only [updN_cons, updN_nil, upd_at, if_true]
  · intro m a1 a3
    simp only [updN_cons, updN_nil, modN_cons, modN_nil, upd_at, if_neg a1, if_neg (show m ≠ (b, 0) by intro e; exact a3 (by rw [e]))]

/-- the digest of what came; nothing is changed -/
theorem sum_G {K b : Nat} {H : Heap} {fN rN : Nm} {all : List (BitVec 8)} {r : Option Out} (hc : callOp (envC C K) H b 24 [.ptr fN 0] = r) (h : HG H fN rN all) (hlen : all.length ≤ 211106232000000) (hK : 300 ≤ K) :
    ∃ x y, r = some ⟨.agg (aB 32 (dig all)), [], [(fN, x), (rN, y)]⟩ ∧ H fN = x ∧ H rN = y := by
  subst hc
  obtain ⟨hne, c, l, ⟨hle, htk, hcap⟩, h1, h2⟩ := h
  have hrl := rsN_length all
  have hz := zs_lt all.length
  have hfl := fb_length all.length 8
  have hal : (rsN all ++ fb all.length 8).length = (rsN all).length + (zs all.length + 1 + 8) := by rw [List.length_append, hfl]
  have hs : F C K 24 [.ptr (0, 0) 0] [HsC (stN all) (.sl (0, 1) 0 (rsN all).length c 1) all.length, bs l] = some (.agg (aB 32 (dig all)), [some (HsC (stN all) (.sl (0, 1) 0 (rsN all).length c 1) all.length), some (bs l)], []) := by
    rw [dig_rs]
    by_cases h0 : rsN all = []
    · rw [h0, List.nil_append, List.length_nil]
      have e : K - (fb all.length 8).length / 64 - 101 + (fb all.length 8).length / 64 + 101 = K := by omega
      rcases hcap with rfl | ⟨rfl, rfl⟩
      · have := sumZ (K - (fb all.length 8).length / 64 - 101) (stN all) all.length l (by omega)
        rw [e] at this; exact this
      · have := sumC (K - (fb all.length 8).length / 64 - 101) (stN all) all.length [] (by omega) rfl
        rw [e] at this; exact this
    · rcases hcap with rfl | ⟨rfl, rfl⟩
      · have hp : 0 < (rsN all).length := List.length_pos_iff.2 h0
        have := sumB (K - (rsN all ++ fb all.length 8).length / 64 - 101) (stN all) all.length (rsN all).length l (by omega) hle hp (by omega)
        rw [htk, show K - (rsN all ++ fb all.length 8).length / 64 - 101 + (rsN all ++ fb all.length 8).length / 64 + 101 = K by omega] at this
        exact this
      · exact absurd (by rw [← htk]; simp) h0
  exact ⟨_, _, ptr_callG K b 24 l24 H fN rN _ _ _ _ l h1 h2 hne _ _ [] [] hs (aB_agg_ren _ _ _) rfl, h1, h2⟩
/-- a copy, told outright -/
theorem fork_X {K b : Nat} {H : Heap} {fN rN : Nm} {all : List (BitVec 8)} {r : Option Out} (hc : callOp (envC C K) H b 22 [.ptr fN 0] = r) (h : HG H fN rN all) (hlen : all.length ≤ 211106232000000) (hK : 2 ≤ K) (hf : fN.1 ≠ b) (hr : rN.1 ≠ b) :
    ∃ c' l' x y, RF (rsN all).length c' l' (rsN all) ∧ r = some ⟨.ptr (b, 0) 0, [HsC (stN all) (.sl (b, 1) 0 (rsN all).length c' 1) all.length, bs l'], [(fN, x), (rN, y)]⟩ ∧ H fN = x ∧ H rN = y := by
  subst hc
  have hG := h
  obtain ⟨hne, c, l, ⟨hle, htk, hcap⟩, h1, h2⟩ := h
  have hrl := rsN_length all
  have hcl : ∃ c' l', RF (rsN all).length c' l' (rsN all) ∧ F C (K - 2 + 1) 40 [.sl (0, 0) 0 (rsN all).length c 1] [bs l] = some (.sl (1, 0) 0 (rsN all).length c' 1, [some (bs l)], [bs l']) := by
    by_cases h0 : rsN all = []
    · rw [h0, List.length_nil]
      rcases hcap with rfl | ⟨rfl, rfl⟩
      · exact ⟨some 0, [], ⟨Nat.le_refl _, rfl, .inr ⟨rfl, rfl⟩⟩, clone_0 _ l⟩
      · exact ⟨some 0, [], ⟨Nat.le_refl _, rfl, .inr ⟨rfl, rfl⟩⟩, clone_C _⟩
    · rcases hcap with rfl | ⟨rfl, rfl⟩
      · have hp : 0 < (rsN all).length := List.length_pos_iff.2 h0
        exact ⟨none, _, ⟨by rw [List.length_take]; omega, by rw [htk, List.take_of_length_le (Nat.le_refl _)], .inl rfl⟩, clone_F _ _ l hle hp (by omega)⟩
      · exact absurd (by rw [← htk]; simp) h0
  obtain ⟨c', l', hrf, hcl⟩ := hcl
  have hs := forkG (K - 2) (stN all) all.length _ _ c c' l l' hcl
  rw [show K - 2 + 2 = K by omega] at hs
  have hcall := ptr_callG K b 22 l22 H fN rN _ _ _ _ l h1 h2 hne (.ptr (1, 0) 0) (.ptr (b, 0) 0) _ [HsC (stN all) (.sl (b, 1) 0 (rsN all).length c' 1) all.length, bs l'] hs
    (by simp only [ren_ptrF, toCaller_1, List.length_cons, List.length_nil, Nat.zero_add, Nat.reduceAdd, Nat.reduceLT, ptrO_some]) (by simp only [List.map_cons, List.map_nil, HsC_ren, bs_ren, ren_slF, toCaller_1, List.length_cons, List.length_nil, Nat.zero_add, Nat.reduceAdd, Nat.reduceLT, slO_some])
  exact ⟨c', l', _, _, hrf, hcall, h1, h2⟩
/-- a copy -/
theorem fork_G {K b : Nat} {H : Heap} {fN rN : Nm} {all : List (BitVec 8)} {r : Option Out} (hc : callOp (envC C K) H b 22 [.ptr fN 0] = r) (h : HG H fN rN all) (hlen : all.length ≤ 211106232000000) (hK : 2 ≤ K) (hf : fN.1 ≠ b) (hr : rN.1 ≠ b) :
    ∃ c1 c2 x y H2, r = some ⟨.ptr (b, 0) 0, [c1, c2], [(fN, x), (rN, y)]⟩ ∧ H fN = x ∧ H rN = y ∧ upd (upd H (b, 0) (some c1)) (b, 1) (some c2) = H2 ∧ HG H2 (b, 0) (b, 1) all ∧ HG H2 fN rN all ∧ ∀ m, m.1 ≠ b → H2 m = H m := by
  subst hc
  have hG := h
  obtain ⟨hne, c, l, ⟨hle, htk, hcap⟩, h1, h2⟩ := h
  have hrl := rsN_length all
  have hcl : ∃ c' l', RF (rsN all).length c' l' (rsN all) ∧ F C (K - 2 + 1) 40 [.sl (0, 0) 0 (rsN all).length c 1] [bs l] = some (.sl (1, 0) 0 (rsN all).length c' 1, [some (bs l)], [bs l']) := by
    by_cases h0 : rsN all = []
    · rw [h0, List.length_nil]
      rcases hcap with rfl | ⟨rfl, rfl⟩
      · exact ⟨some 0, [], ⟨Nat.le_refl _, rfl, .inr ⟨rfl, rfl⟩⟩, clone_0 _ l⟩
      · exact ⟨some 0, [], ⟨Nat.le_refl _, rfl, .inr ⟨rfl, rfl⟩⟩, clone_C _⟩
    · rcases hcap with rfl | ⟨rfl, rfl⟩
      · have hp : 0 < (rsN all).length := List.length_pos_iff.2 h0
        exact ⟨none, _, ⟨by rw [List.length_take]; omega, by rw [htk, List.take_of_length_le (Nat.le_refl _)], .inl rfl⟩, clone_F _ _ l hle hp (by omega)⟩
      · exact absurd (by rw [← htk]; simp) h0
  obtain ⟨c', l', hrf, hcl⟩ := hcl
  have hs := forkG (K - 2) (stN all) all.length _ _ c c' l l' hcl
  rw [show K - 2 + 2 = K by omega] at hs
  have hcall := ptr_callG K b 22 l22 H fN rN _ _ _ _ l h1 h2 hne (.ptr (1, 0) 0) (.ptr (b, 0) 0) _ [HsC (stN all) (.sl (b, 1) 0 (rsN all).length c' 1) all.length, bs l'] hs
    (by simp only [ren_ptrF, toCaller_1, List.length_cons, List.length_nil, Nat.zero_add, Nat.reduceAdd, Nat.reduceLT, ptrO_some]) (by simp only [List.map_cons, List.map_nil, HsC_ren, bs_ren, ren_slF, toCaller_1, List.length_cons, List.length_nil, Nat.zero_add, Nat.reduceAdd, Nat.reduceLT, slO_some])
  have e0 : ∀ m : Nm, m.1 ≠ b → m ≠ (b, 0) := fun m hm e => hm (by rw [e])
  have e1 : ∀ m : Nm, m.1 ≠ b → m ≠ (b, 1) := fun m hm e => hm (by rw [e])
  refine ⟨_, _, _, _, _, hcall, h1, h2, rfl, ⟨by simp, c', l', hrf, ?_, ?_⟩, hG.congr ?_ ?_, ?_⟩
  · simp [upd_at]
  · simp [upd_at]
  · simp only [upd_at, if_neg (e0 fN hf), if_neg (e1 fN hf)]
  · simp only [upd_at, if_neg (e0 rN hr), if_neg (e1 rN hr)]
  · intro m hm
    simp only [upd_at, if_neg (e0 m hm), if_neg (e1 m hm)]
end Sha

namespace Sha
open Go Go.LE

def al (L : List (List (BitVec 8))) (i : Nat) : List (BitVec 8) := (L.take i).flatten
theorem al_succ (L : List (List (BitVec 8))) (i : Nat) (h : i < L.length) : al L (i + 1) = al L i ++ L.getD i [] := by
  rw [al, al, List.take_succ_eq_append_getElem h, List.flatten_append]
  simp [h]
theorem al_le (L : List (List (BitVec 8))) (i : Nat) : (al L i).length ≤ L.flatten.length := by
  have : L.flatten = al L i ++ (L.drop i).flatten := by rw [al, ← List.flatten_append, List.take_append_drop]
  rw [this, List.length_append]; omega
theorem al_full (L : List (List (BitVec 8))) : al L L.length = L.flatten := by rw [al, List.take_length]
theorem upd_self {H H3 : Heap} {n : Nm} {x : Option Cells} (h : upd H n x = H3) : H3 n = x := by rw [← h, upd_at, if_pos rfl]
theorem HG.upd' {H H3 : Heap} {fN rN n : Nm} {b : List (BitVec 8)} {x : Option Cells} (h : HG H fN rN b) (e : LE.upd H n x = H3) (h1 : fN ≠ n) (h2 : rN ≠ n) : HG H3 fN rN b := by
  rw [← e]; exact h.upd h1 h2
theorem lent_all (H : Heap) (m : Nm) (c : Option Nat) (l : List (BitVec 8)) (names : List Nm) (h : H m = some (bs l)) (hn : names.contains m = false) : Lent H (.sl m 0 l.length c 1) l names := by
  have := lent_sl H m 0 l.length c l names h (by omega) hn
  rw [List.drop_zero, List.take_length] at this
  exact this
def oth : List (BitVec 8) := [111#8, 116#8, 104#8, 101#8, 114#8]

end Sha

namespace Sha
open Go Go.LE

theorem idx_get : ∀ {l : List Nm} (k : Nat), l.Nodup → ∀ {i : Nat} {n : Nm}, l[i]? = some n → idx n l k = some (k + i) := by
  intro l
  induction l with
  | nil => intro k _ i n h; simp at h
  | cons x l ih =>
    intro k hnd i n h
    rw [List.nodup_cons] at hnd
    cases i with
    | zero => simp at h; subst h; simp [idx]
    | succ i =>
      rw [List.getElem?_cons_succ] at h
      have hne : x ≠ n := by intro e; subst e; exact hnd.1 (List.mem_of_getElem? h)
      rw [idx, if_neg hne, ih (k + 1) hnd.2 h]
      congr 1; omega

abbrev mC : Cells := [.ptr (0, 1) 0, .ptr (0, 3) 0]
abbrev hC (a : List (BitVec 8)) (r : Nm) (c : Option Nat) : Cells := HsC (stN a) (.sl r 0 (rsN a).length c 1) a.length
/-- the objects of a mac, as a function is handed them -/
def mO (a : List (BitVec 8)) (c : Option Nat) (l o : List (BitVec 8)) (c2 : Option Nat) (l2 : List (BitVec 8)) : List Cells :=
  [mC, hC a (0, 2) c, bs l, hC o (0, 4) c2, bs l2]
abbrev RFN (a : List (BitVec 8)) (c : Option Nat) (l : List (BitVec 8)) : Prop := RF (rsN a).length c l (rsN a)

theorem HG_h {a : List (BitVec 8)} {c : Option Nat} {l o : List (BitVec 8)} {c2 : Option Nat} {l2 : List (BitVec 8)} (h : RFN a c l) : HG (inHeap (mO a c l o c2 l2)) (0, 1) (0, 2) a :=
  ⟨by decide, c, l, h, rfl, rfl⟩
theorem HG_o {a : List (BitVec 8)} {c : Option Nat} {l o : List (BitVec 8)} {c2 : Option Nat} {l2 : List (BitVec 8)} (h : RFN o c2 l2) : HG (inHeap (mO a c l o c2 l2)) (0, 3) (0, 4) o :=
  ⟨by decide, c2, l2, h, rfl, rfl⟩

set_option maxRecDepth 10000 in
theorem mwrite_F (K : Nat) (a : List (BitVec 8)) (c : Option Nat) (l o : List (BitVec 8)) (c2 : Option Nat) (l2 : List (BitVec 8)) (h : RFN a c l) (h2 : RFN o c2 l2) (bb : List (BitVec 8))
    (hlen : a.length + bb.length ≤ 211106232000000) (hK : (a.length + bb.length) / 64 + 200 ≤ K) :
    ∃ (x : Nm) (cx : Option Nat) (z : Option (List (BitVec 8))) (news : List Cells), F C (K + 1) 34 [.ptr (0, 0) 0, .isl (bs bb) bb.length] (mO a c l o c2 l2) =
      some (.tup [], [some mC, some (hC (a ++ bb) x cx), z.map bs, some (hC o (0, 4) c2), some (bs l2)], news) ∧
      ((x = (1, 0) ∧ ∃ l', news = [bs l'] ∧ RFN (a ++ bb) cx l') ∨ (x = (0, 2) ∧ news = [] ∧ ∃ l', z = some l' ∧ RFN (a ++ bb) cx l')) := by
  obtain ⟨O, hO⟩ : ∃ O, O = mO a c l o c2 l2 := ⟨_, rfl⟩
  have hg := HG_h (o := o) (c2 := c2) (l2 := l2) h
  rw [← hO] at hg ⊢
  have g0 : inHeap O (0, 0) = some mC := by rw [hO]; rfl
  have g3 : inHeap O (0, 3) = some (hC o (0, 4) c2) := by rw [hO]; rfl
  have g4 : inHeap O (0, 4) = some (bs l2) := by rw [hO]; rfl
  have hOl : O.length = 5 := by rw [hO]; rfl
  rw [F_succ f34]
  simp (disch := first | omega | decide | simp only [nms_B8, nms_B32, nms_B64, nms_I, nms_N, nms_Bo, nms_Un, nms_undef, nms_Hf, nms_ptr, nms_sl, aB_agg_nms, aW_agg_nms, aD_agg_nms, aO_agg_nms, List.flatMap_cons, List.flatMap_nil, List.nil_append, List.append_nil, ren_B8, ren_B32, ren_B64, ren_I, ren_N, ren_Bo, ren_Un, ren_undef, ren_Hf, aB_agg_ren, aW_agg_ren, aD_agg_ren, aO_agg_ren, List.map_cons, List.map_nil, ren7_I, ren7_N, ren7_Bo, ren7_B8, ren7_B32, ren7_B64, nms7_I, nms7_N, nms7_Bo, nms7_B8, nms7_B32, nms7_B64, nms_tup, ren_tup, implies_true, l17, l18, l19, l20, l36, l37, l38, l39, l43, l21, l22, l24, l25, l33, l35, l40, l42, l14, l27, bs_isCell, bs_nms, bs_ren, ibs_nms, ibs_ren, bs_length, aW_isCell, aB_isCell, isCell_sl, isCell_isl, isCell_nil, isCell_ptr, isCell_N]) only [funSem_eq, ev_seq, ev_region, regK_some, evOpers_nil, evOpers_cons, stepK_pure, put_some, evX_t, evX_c, outR_some, op_mv, op_bin, op_call, callV_fn, andThen_normal, ev_cond, condK_true, List.set_cons_zero, List.set_cons_succ, List.getD_cons_zero, List.getD_cons_succ, List.map_cons, List.map_nil, List.nil_append, List.cons_append, repUn_succ, List.replicate_zero, List.length_cons, List.length_nil, Nat.reduceAdd, Nat.reduceSub, cellAt_ptr, cellK_cons, ld1K_some, op_ld1, op_fa, faV_ptr, List.take_succ_cons, List.take_zero, List.drop_zero, Nat.reduceLeDiff, if_true, Nat.zero_add, Nat.add_zero, Nat.add_zero, Nat.zero_add, Nat.reduceLeDiff, Nat.reduceAdd, op_chk, chkV_ptr, nep_ptr, L34, g0, hOl]
  generalize hc : callOp _ _ _ _ _ = r
  obtain ⟨rN, news, ms, H2, rfl, hH2, hg2, hr, ⟨z, hz⟩, hfr⟩ := write_Z hc hg (lent_isl _ bb _) hlen hK (by decide) (by decide)
  have k0 : H2 (0, 0) = some mC := by rw [hfr _ (by decide) (by decide) (by decide), g0]
  have k3 : H2 (0, 3) = some (hC o (0, 4) c2) := by rw [hfr _ (by decide) (by decide) (by decide), g3]
  have k4 : H2 (0, 4) = some (bs l2) := by rw [hfr _ (by decide) (by decide) (by decide), g4]
  obtain ⟨hne, cx, l', hrf, e1, e2⟩ := hg2
  simp (disch := first | omega | decide | simp only [nms_B8, nms_B32, nms_B64, nms_I, nms_N, nms_Bo, nms_Un, nms_undef, nms_Hf, nms_ptr, nms_sl, aB_agg_nms, aW_agg_nms, aD_agg_nms, aO_agg_nms, List.flatMap_cons, List.flatMap_nil, List.nil_append, List.append_nil, ren_B8, ren_B32, ren_B64, ren_I, ren_N, ren_Bo, ren_Un, ren_undef, ren_Hf, aB_agg_ren, aW_agg_ren, aD_agg_ren, aO_agg_ren, List.map_cons, List.map_nil, ren7_I, ren7_N, ren7_Bo, ren7_B8, ren7_B32, ren7_B64, nms7_I, nms7_N, nms7_Bo, nms7_B8, nms7_B32, nms7_B64, nms_tup, ren_tup, implies_true, l17, l18, l19, l20, l36, l37, l38, l39, l43, l21, l22, l24, l25, l33, l35, l40, l42, l14, l27, bs_isCell, bs_nms, bs_ren, ibs_nms, ibs_ren, bs_length, aW_isCell, aB_isCell, isCell_sl, isCell_isl, isCell_nil, isCell_ptr, isCell_N]) only [regK_some, evOpers_nil, put_some, retK_normal, List.set_cons_zero, List.set_cons_succ, Option.map_some, Nat.reduceAdd, Nat.reduceAdd, Option.map_some, resVal_none, stepK_gen, hH2]
  rcases hr with rfl | ⟨rfl, hb0⟩
  · refine ⟨(1, 0), cx, z, [bs l'], ?_, .inl ⟨rfl, l', rfl, hrf⟩⟩
    cases z with
    | none =>
      rw [outOf_mem 5 _ _ [(9, 0)] (by simp only [canonNames, FUEL, reach_cons, reachK_some, reach_nil, nms_ptr, nms_sl, List.flatMap_cons, List.flatMap_nil, List.nil_append, List.cons_append, List.append_nil, List.map_nil, List.map_cons, List.contains_nil, List.contains_cons, Prod.mk.injEq, beq_iff_eq, Bool.or_eq_true, Bool.false_eq_true, Nat.reduceEqDiff, and_true, and_false, or_false, or_true, if_true, if_false, Nat.one_ne_zero, Nat.zero_ne_one, List.filter_cons, List.filter_nil, bne_iff_ne, ne_eq, not_false_eq_true, not_true_eq_false, HsC_nms, bs_nms, nms_tup0, reachK_gone, k0, e1, hz, e2, k3, k4, Option.map_none, show List.range 5 = [0, 1, 2, 3, 4] from rfl])]
      simp (disch := first | omega | decide | simp only [nms_B8, nms_B32, nms_B64, nms_I, nms_N, nms_Bo, nms_Un, nms_undef, nms_Hf, nms_ptr, nms_sl, aB_agg_nms, aW_agg_nms, aD_agg_nms, aO_agg_nms, List.flatMap_cons, List.flatMap_nil, List.nil_append, List.append_nil, ren_B8, ren_B32, ren_B64, ren_I, ren_N, ren_Bo, ren_Un, ren_undef, ren_Hf, aB_agg_ren, aW_agg_ren, aD_agg_ren, aO_agg_ren, List.map_cons, List.map_nil, ren7_I, ren7_N, ren7_Bo, ren7_B8, ren7_B32, ren7_B64, nms7_I, nms7_N, nms7_Bo, nms7_B8, nms7_B32, nms7_B64, nms_tup, ren_tup, implies_true, l17, l18, l19, l20, l36, l37, l38, l39, l43, l21, l22, l24, l25, l33, l35, l40, l42, l14, l27, bs_isCell, bs_nms, bs_ren, ibs_nms, ibs_ren, bs_length, aW_isCell, aB_isCell, isCell_sl, isCell_isl, isCell_nil, isCell_ptr, isCell_N]) only [List.map_cons, List.map_nil, Option.map_some, if_true, Nat.zero_add, idx_cons, canonMap_0, canonMap_ne, List.filterMap_nil, Option.map_some, Option.map_none, bs_ren, List.filterMap_cons, ren_ptrF, ren_slF, ptrO_some, slO_some, ren_tup0, HsC_ren, k0, e1, hz, e2, k3, k4, show List.range 5 = [0, 1, 2, 3, 4] from rfl]
    | some z =>
      rw [outOf_mem 5 _ _ [(9, 0)] (by simp only [canonNames, FUEL, reach_cons, reachK_some, reach_nil, nms_ptr, nms_sl, List.flatMap_cons, List.flatMap_nil, List.nil_append, List.cons_append, List.append_nil, List.map_nil, List.map_cons, List.contains_nil, List.contains_cons, Prod.mk.injEq, beq_iff_eq, Bool.or_eq_true, Bool.false_eq_true, Nat.reduceEqDiff, and_true, and_false, or_false, or_true, if_true, if_false, Nat.one_ne_zero, Nat.zero_ne_one, List.filter_cons, List.filter_nil, bne_iff_ne, ne_eq, not_false_eq_true, not_true_eq_false, HsC_nms, bs_nms, nms_tup0, k0, e1, hz, e2, k3, k4, Option.map_some, show List.range 5 = [0, 1, 2, 3, 4] from rfl])]
      simp (disch := first | omega | decide | simp only [nms_B8, nms_B32, nms_B64, nms_I, nms_N, nms_Bo, nms_Un, nms_undef, nms_Hf, nms_ptr, nms_sl, aB_agg_nms, aW_agg_nms, aD_agg_nms, aO_agg_nms, List.flatMap_cons, List.flatMap_nil, List.nil_append, List.append_nil, ren_B8, ren_B32, ren_B64, ren_I, ren_N, ren_Bo, ren_Un, ren_undef, ren_Hf, aB_agg_ren, aW_agg_ren, aD_agg_ren, aO_agg_ren, List.map_cons, List.map_nil, ren7_I, ren7_N, ren7_Bo, ren7_B8, ren7_B32, ren7_B64, nms7_I, nms7_N, nms7_Bo, nms7_B8, nms7_B32, nms7_B64, nms_tup, ren_tup, implies_true, l17, l18, l19, l20, l36, l37, l38, l39, l43, l21, l22, l24, l25, l33, l35, l40, l42, l14, l27, bs_isCell, bs_nms, bs_ren, ibs_nms, ibs_ren, bs_length, aW_isCell, aB_isCell, isCell_sl, isCell_isl, isCell_nil, isCell_ptr, isCell_N]) only [List.map_cons, List.map_nil, Option.map_some, if_true, Nat.zero_add, idx_cons, canonMap_0, canonMap_ne, List.filterMap_nil, Option.map_some, bs_ren, List.filterMap_cons, ren_ptrF, ren_slF, ptrO_some, slO_some, ren_tup0, HsC_ren, k0, e1, hz, e2, k3, k4, show List.range 5 = [0, 1, 2, 3, 4] from rfl]
  · refine ⟨(0, 2), cx, some l', [], ?_, .inr ⟨rfl, rfl, l', rfl, hrf⟩⟩
    rw [outOf_mem 5 _ _ [] (by simp only [canonNames, FUEL, reach_cons, reachK_some, reach_nil, nms_ptr, nms_sl, List.flatMap_cons, List.flatMap_nil, List.nil_append, List.cons_append, List.append_nil, List.map_nil, List.map_cons, List.contains_nil, List.contains_cons, Prod.mk.injEq, beq_iff_eq, Bool.or_eq_true, Bool.false_eq_true, Nat.reduceEqDiff, and_false, or_false, or_true, if_true, if_false, Nat.one_ne_zero, List.filter_cons, List.filter_nil, bne_iff_ne, ne_eq, not_true_eq_false, HsC_nms, bs_nms, nms_tup0, k0, e1, e2, k3, k4, show List.range 5 = [0, 1, 2, 3, 4] from rfl])]
    simp (disch := first | omega | decide | simp only [nms_B8, nms_B32, nms_B64, nms_I, nms_N, nms_Bo, nms_Un, nms_undef, nms_Hf, nms_ptr, nms_sl, aB_agg_nms, aW_agg_nms, aD_agg_nms, aO_agg_nms, List.flatMap_cons, List.flatMap_nil, List.nil_append, List.append_nil, ren_B8, ren_B32, ren_B64, ren_I, ren_N, ren_Bo, ren_Un, ren_undef, ren_Hf, aB_agg_ren, aW_agg_ren, aD_agg_ren, aO_agg_ren, List.map_cons, List.map_nil, ren7_I, ren7_N, ren7_Bo, ren7_B8, ren7_B32, ren7_B64, nms7_I, nms7_N, nms7_Bo, nms7_B8, nms7_B32, nms7_B64, nms_tup, ren_tup, implies_true, l17, l18, l19, l20, l36, l37, l38, l39, l43, l21, l22, l24, l25, l33, l35, l40, l42, l14, l27, bs_isCell, bs_nms, bs_ren, ibs_nms, ibs_ren, bs_length, aW_isCell, aB_isCell, isCell_sl, isCell_isl, isCell_nil, isCell_ptr, isCell_N]) only [List.map_cons, List.map_nil, Option.map_some, canonMap_0, List.filterMap_nil, Option.map_some, bs_ren, ren_ptrF, ren_slF, ptrO_some, slO_some, ren_tup0, HsC_ren, k0, e1, e2, k3, k4, show List.range 5 = [0, 1, 2, 3, 4] from rfl]

/-- a digest's bytes -/
def dl (b : List (BitVec 8)) : List (BitVec 8) := (List.range 32).map (dig b)
theorem dl_length (b : List (BitVec 8)) : (dl b).length = 32 := by simp [dl]
theorem aB_dl (b : List (BitVec 8)) : aB 32 (dig b) = bs (dl b) := aB_bs 32 _
def mOs (a : List (BitVec 8)) (c : Option Nat) (l o : List (BitVec 8)) (c2 : Option Nat) (l2 : List (BitVec 8)) : List (Option Cells) :=
  [some mC, some (hC a (0, 2) c), some (bs l), some (hC o (0, 4) c2), some (bs l2)]
theorem upd_self2 {H H3 : Heap} {n : Nm} {x : Option Cells} (h : LE.upd H n x = H3) : H3 n = x := by rw [← h, upd_at, if_pos rfl]

set_option maxRecDepth 10000 in
theorem msum_F (K : Nat) (a : List (BitVec 8)) (c : Option Nat) (l o : List (BitVec 8)) (c2 : Option Nat) (l2 : List (BitVec 8)) (h : RFN a c l) (h2 : RFN o c2 l2)
    (hlen : a.length ≤ 211106232000000) (hlen2 : o.length ≤ 1000) (hK : 1000 ≤ K) :
    F C (K + 1) 35 [.ptr (0, 0) 0] (mO a c l o c2 l2) = some (.agg (aB 32 (dig (o ++ dl a))), mOs a c l o c2 l2, []) := by
  obtain ⟨O, hO⟩ : ∃ O, O = mO a c l o c2 l2 := ⟨_, rfl⟩
  have hg := HG_h (o := o) (c2 := c2) (l2 := l2) h
  have hgo := HG_o (a := a) (c := c) (l := l) h2
  rw [← hO] at hg hgo ⊢
  have g0 : inHeap O (0, 0) = some mC := by rw [hO]; rfl
  have g1 : inHeap O (0, 1) = some (hC a (0, 2) c) := by rw [hO]; rfl
  have g2 : inHeap O (0, 2) = some (bs l) := by rw [hO]; rfl
  have g3 : inHeap O (0, 3) = some (hC o (0, 4) c2) := by rw [hO]; rfl
  have g4 : inHeap O (0, 4) = some (bs l2) := by rw [hO]; rfl
  have hOl : O.length = 5 := by rw [hO]; rfl
  have hdl := dl_length a
  rw [F_succ f35]
  simp (disch := first | omega | decide | simp only [nms_B8, nms_B32, nms_B64, nms_I, nms_N, nms_Bo, nms_Un, nms_undef, nms_Hf, nms_ptr, nms_sl, aB_agg_nms, aW_agg_nms, aD_agg_nms, aO_agg_nms, List.flatMap_cons, List.flatMap_nil, List.nil_append, List.append_nil, ren_B8, ren_B32, ren_B64, ren_I, ren_N, ren_Bo, ren_Un, ren_undef, ren_Hf, aB_agg_ren, aW_agg_ren, aD_agg_ren, aO_agg_ren, List.map_cons, List.map_nil, ren7_I, ren7_N, ren7_Bo, ren7_B8, ren7_B32, ren7_B64, nms7_I, nms7_N, nms7_Bo, nms7_B8, nms7_B32, nms7_B64, nms_tup, ren_tup, implies_true, l17, l18, l19, l20, l36, l37, l38, l39, l43, l21, l22, l24, l25, l33, l35, l40, l42, l14, l27, bs_isCell, bs_nms, bs_ren, ibs_nms, ibs_ren, bs_length, aW_isCell, aB_isCell, isCell_sl, isCell_isl, isCell_nil, isCell_ptr, isCell_N]) only [funSem_eq, ev_skip, ev_seq, ev_region, regK_some, evOpers_nil, evOpers_cons, evOpers_cons_g, stepK_pure, guardK_true', put_some, evX_t, evX_c, outR_some, pickV_false, op_mv, op_pick, op_bin, op_call, callV_fn, andThen_normal, ev_cond, condK_false, List.set_cons_zero, List.set_cons_succ, List.getD_cons_zero, List.getD_cons_succ, List.map_cons, List.map_nil, List.nil_append, List.cons_append, repUn_succ, List.replicate_zero, List.length_cons, List.length_nil, Nat.reduceAdd, Nat.reduceSub, upd_at, stepK_new, cellAt_ptr, cellK_cons, ld1K_some, op_ld1, op_new, op_fa, faV_ptr, List.take_succ_cons, List.take_zero, List.drop_succ_cons, List.drop_zero, List.take_nil, Prod.mk.injEq, Nat.reduceEqDiff, Nat.reduceLeDiff, and_true, if_true, if_false, Nat.zero_add, Nat.add_zero, Nat.le_refl, aB_rep, Nat.add_zero, Nat.zero_add, Nat.reduceLeDiff, Nat.reduceEqDiff, Nat.reduceAdd, op_chk, chkV_ptr, eqp_ptr, L35, g0, hOl]
  generalize hc : callOp _ _ _ _ _ = r
  obtain ⟨x, y, rfl, hx, hy⟩ := sum_G hc (hg.upd (by decide) (by decide)) hlen (by omega)
  simp (disch := first | omega | decide | simp only [nms_B8, nms_B32, nms_B64, nms_I, nms_N, nms_Bo, nms_Un, nms_undef, nms_Hf, nms_ptr, nms_sl, aB_agg_nms, aW_agg_nms, aD_agg_nms, aO_agg_nms, List.flatMap_cons, List.flatMap_nil, List.nil_append, List.append_nil, ren_B8, ren_B32, ren_B64, ren_I, ren_N, ren_Bo, ren_Un, ren_undef, ren_Hf, aB_agg_ren, aW_agg_ren, aD_agg_ren, aO_agg_ren, List.map_cons, List.map_nil, ren7_I, ren7_N, ren7_Bo, ren7_B8, ren7_B32, ren7_B64, nms7_I, nms7_N, nms7_Bo, nms7_B8, nms7_B32, nms7_B64, nms_tup, ren_tup, implies_true, l17, l18, l19, l20, l36, l37, l38, l39, l43, l21, l22, l24, l25, l33, l35, l40, l42, l14, l27, bs_isCell, bs_nms, bs_ren, ibs_nms, ibs_ren, bs_length, aW_isCell, aB_isCell, isCell_sl, isCell_isl, isCell_nil, isCell_ptr, isCell_N]) only [ev_seq, ev_region, regK_some, evOpers_nil, evOpers_cons, put_some, put_none, evX_t, evX_c, outR_some, op_mv, op_call, callV_fn, andThen_normal, List.set_cons_zero, List.set_cons_succ, List.getD_cons_zero, List.getD_cons_succ, List.map_cons, List.map_nil, List.length_cons, List.length_nil, Nat.reduceAdd, upd_at, cellsOf_agg, cellAt_ptr, cellK_cons, ld1K_some, op_ld1, op_new, op_st, stV_ptr, op_fa, faV_ptr, List.take_succ_cons, List.drop_succ_cons, List.drop_zero, List.take_nil, Prod.mk.injEq, Nat.reduceEqDiff, and_true, if_true, if_false, Nat.zero_add, Nat.add_zero, Nat.le_refl, aB_st_all, Nat.add_zero, Nat.zero_add, Nat.reduceEqDiff, Nat.reduceAdd, op_chk, chkV_ptr, updN_nil, updN_cons, modN_nil, modN_cons, stepK_gen, upd_id hx, upd_id hy, g0]
  generalize hc3 : callOp _ _ _ _ _ = r3
  generalize hH3 : upd _ _ (some (aB 32 (dig a))) = H3 at hc3 ⊢
  have hgo3 : HG H3 (0, 3) (0, 4) o := by rw [← hH3]; exact ((hgo.upd (by decide) (by decide)).upd (by decide) (by decide)).upd (by decide) (by decide)
  have hx3 := upd_self2 hH3
  have k0 : H3 (0, 0) = some mC := by rw [← hH3]; simp only [upd_at, Prod.mk.injEq, Nat.reduceEqDiff, and_true, if_false, g0]
  have k1 : H3 (0, 1) = some (hC a (0, 2) c) := by rw [← hH3]; simp only [upd_at, Prod.mk.injEq, Nat.reduceEqDiff, and_self, if_false, Nat.one_ne_zero, g1]
  have k2 : H3 (0, 2) = some (bs l) := by rw [← hH3]; simp only [upd_at, Prod.mk.injEq, Nat.reduceEqDiff, and_self, if_false, g2]
  have k3 : H3 (0, 3) = some (hC o (0, 4) c2) := by rw [← hH3]; simp only [upd_at, Prod.mk.injEq, Nat.reduceEqDiff, and_self, if_false, g3]
  have k4 : H3 (0, 4) = some (bs l2) := by rw [← hH3]; simp only [upd_at, Prod.mk.injEq, Nat.reduceEqDiff, and_self, if_false, g4]
  have hz2 : H3 (2, 0) = some (aB 32 fun _ => 0#8) := by rw [← hH3]; simp only [upd_at, Prod.mk.injEq, Nat.reduceEqDiff, and_true, if_true, if_false]
  obtain ⟨c1, c2', x4, y4, H4, rfl, hx4, hy4, hH4, hgf, _, hfr4⟩ := fork_G hc3 hgo3 (by omega) (by omega) (by decide) (by decide)
  simp (disch := first | omega | decide | simp only [nms_B8, nms_B32, nms_B64, nms_I, nms_N, nms_Bo, nms_Un, nms_undef, nms_Hf, nms_ptr, nms_sl, aB_agg_nms, aW_agg_nms, aD_agg_nms, aO_agg_nms, List.flatMap_cons, List.flatMap_nil, List.nil_append, List.append_nil, ren_B8, ren_B32, ren_B64, ren_I, ren_N, ren_Bo, ren_Un, ren_undef, ren_Hf, aB_agg_ren, aW_agg_ren, aD_agg_ren, aO_agg_ren, List.map_cons, List.map_nil, ren7_I, ren7_N, ren7_Bo, ren7_B8, ren7_B32, ren7_B64, nms7_I, nms7_N, nms7_Bo, nms7_B8, nms7_B32, nms7_B64, nms_tup, ren_tup, implies_true, l17, l18, l19, l20, l36, l37, l38, l39, l43, l21, l22, l24, l25, l33, l35, l40, l42, l14, l27, bs_isCell, bs_nms, bs_ren, ibs_nms, ibs_ren, bs_length, aW_isCell, aB_isCell, isCell_sl, isCell_isl, isCell_nil, isCell_ptr, isCell_N]) only [ev_seq, ev_region, regK_some, evOpers_nil, evOpers_cons, put_some, evX_t, evX_c, outR_some, op_mv, op_call, callV_fn, andThen_normal, List.set_cons_zero, List.set_cons_succ, List.getD_cons_zero, List.getD_cons_succ, List.map_cons, List.map_nil, List.length_cons, List.length_nil, Nat.reduceAdd, Nat.zero_add, Nat.add_zero, Nat.mul_one, Nat.add_zero, Nat.zero_add, Nat.reduceAdd, optNat_none, op_slcAV, slcAV_ptr, updN_nil, updN_cons, modN_nil, modN_cons, Nat.sub_zero, Nat.mul_one, stepK_gen, upd_id hx4, upd_id hy4, hH4]
  generalize hc5 : callOp _ _ _ _ _ = r5
  rw [aB_dl] at hx3
  have hx4' := hx3
  rw [← hfr4 _ (by decide)] at hx4'
  have hB := lent_sl H4 _ 0 32 (some 32) _ [(23, 0), (23, 1)] hx4' (by omega) (by decide)
  rw [List.drop_zero, List.take_of_length_le (by omega)] at hB
  obtain ⟨rN, news, ms, H5, rfl, hH5, hg5, hr, hfr5⟩ := write_G (bb := dl a) hc5 hgf hB (by omega) (by omega) (by decide) (by decide)
  simp (disch := first | omega | decide | simp only [nms_B8, nms_B32, nms_B64, nms_I, nms_N, nms_Bo, nms_Un, nms_undef, nms_Hf, nms_ptr, nms_sl, aB_agg_nms, aW_agg_nms, aD_agg_nms, aO_agg_nms, List.flatMap_cons, List.flatMap_nil, List.nil_append, List.append_nil, ren_B8, ren_B32, ren_B64, ren_I, ren_N, ren_Bo, ren_Un, ren_undef, ren_Hf, aB_agg_ren, aW_agg_ren, aD_agg_ren, aO_agg_ren, List.map_cons, List.map_nil, ren7_I, ren7_N, ren7_Bo, ren7_B8, ren7_B32, ren7_B64, nms7_I, nms7_N, nms7_Bo, nms7_B8, nms7_B32, nms7_B64, nms_tup, ren_tup, implies_true, l17, l18, l19, l20, l36, l37, l38, l39, l43, l21, l22, l24, l25, l33, l35, l40, l42, l14, l27, bs_isCell, bs_nms, bs_ren, ibs_nms, ibs_ren, bs_length, aW_isCell, aB_isCell, isCell_sl, isCell_isl, isCell_nil, isCell_ptr, isCell_N]) only [ev_seq, ev_region, regK_some, evOpers_nil, evOpers_cons, put_some, evX_t, evX_c, op_mv, op_call, callV_fn, andThen_normal, List.set_cons_zero, List.set_cons_succ, List.getD_cons_zero, List.getD_cons_succ, List.map_cons, List.map_nil, List.length_cons, List.length_nil, Nat.reduceAdd, Nat.zero_add, Nat.add_zero, Nat.add_zero, Nat.zero_add, Nat.reduceAdd, updN_nil, modN_nil, stepK_gen, hH5]
  generalize hc6 : callOp _ _ _ _ _ = r6
  obtain ⟨x6, y6, rfl, hx6, hy6⟩ := sum_G hc6 hg5 (by rw [List.length_append]; omega) (by omega)
  have f5 : ∀ m : Nm, m.1 ≠ 23 → m.1 ≠ 27 → H5 m = H3 m := fun m h1 h2 => by
    rw [hfr5 m (fun e => h1 (by rw [e])) (fun e => h1 (by rw [e])) h2, hfr4 m h1]
  have m20 := (f5 (2, 0) (by decide) (by decide)).trans hz2
  have m0 := (f5 (0, 0) (by decide) (by decide)).trans k0
  have m1 := (f5 (0, 1) (by decide) (by decide)).trans k1
  have m2 := (f5 (0, 2) (by decide) (by decide)).trans k2
  have m3 := (f5 (0, 3) (by decide) (by decide)).trans k3
  have m4 := (f5 (0, 4) (by decide) (by decide)).trans k4
  simp (disch := first | omega | decide | simp only [nms_B8, nms_B32, nms_B64, nms_I, nms_N, nms_Bo, nms_Un, nms_undef, nms_Hf, nms_ptr, nms_sl, aB_agg_nms, aW_agg_nms, aD_agg_nms, aO_agg_nms, List.flatMap_cons, List.flatMap_nil, List.nil_append, List.append_nil, ren_B8, ren_B32, ren_B64, ren_I, ren_N, ren_Bo, ren_Un, ren_undef, ren_Hf, aB_agg_ren, aW_agg_ren, aD_agg_ren, aO_agg_ren, List.map_cons, List.map_nil, ren7_I, ren7_N, ren7_Bo, ren7_B8, ren7_B32, ren7_B64, nms7_I, nms7_N, nms7_Bo, nms7_B8, nms7_B32, nms7_B64, nms_tup, ren_tup, implies_true, l17, l18, l19, l20, l36, l37, l38, l39, l43, l21, l22, l24, l25, l33, l35, l40, l42, l14, l27, bs_isCell, bs_nms, bs_ren, ibs_nms, ibs_ren, bs_length, aW_isCell, aB_isCell, isCell_sl, isCell_isl, isCell_nil, isCell_ptr, isCell_N]) only [ev_ret, regK_some, evOpers_nil, evOpers_cons, put_some, put_none, evX_t, andThen_normal, retK_ret, List.set_cons_zero, List.set_cons_succ, List.getD_cons_zero, List.getD_cons_succ, Option.map_some, Nat.reduceAdd, upd_at, cellsOf_agg, cellAt_ptr, op_st, stV_ptr, if_true, resVal_agg, aggV_some, aB_cells, aB_st_all, Nat.reduceAdd, updN_nil, modN_nil, modN_cons, Option.map_some, stepK_gen, upd_id hx6, upd_id hy6, m20]
  rw [outOf_mem 5 _ _ [] (by simp only [canonNames, FUEL, reach_cons, reachK_some, reach_nil, nms_ptr, nms_sl, List.flatMap_cons, List.flatMap_nil, List.nil_append, List.cons_append, List.append_nil, List.map_nil, List.map_cons, List.contains_nil, List.contains_cons, Prod.mk.injEq, beq_iff_eq, Bool.or_eq_true, Bool.false_eq_true, Nat.reduceEqDiff, and_true, and_false, or_false, or_true, if_true, if_false, Nat.one_ne_zero, List.filter_cons, List.filter_nil, bne_iff_ne, ne_eq, not_true_eq_false, upd_at, HsC_nms, bs_nms, aB_agg_nms, m0, m1, m2, m3, m4, show List.range 5 = [0, 1, 2, 3, 4] from rfl])]
  simp (disch := first | omega | decide | simp only [nms_B8, nms_B32, nms_B64, nms_I, nms_N, nms_Bo, nms_Un, nms_undef, nms_Hf, nms_ptr, nms_sl, aB_agg_nms, aW_agg_nms, aD_agg_nms, aO_agg_nms, List.flatMap_cons, List.flatMap_nil, List.nil_append, List.append_nil, ren_B8, ren_B32, ren_B64, ren_I, ren_N, ren_Bo, ren_Un, ren_undef, ren_Hf, aB_agg_ren, aW_agg_ren, aD_agg_ren, aO_agg_ren, List.map_cons, List.map_nil, ren7_I, ren7_N, ren7_Bo, ren7_B8, ren7_B32, ren7_B64, nms7_I, nms7_N, nms7_Bo, nms7_B8, nms7_B32, nms7_B64, nms_tup, ren_tup, implies_true, l17, l18, l19, l20, l36, l37, l38, l39, l43, l21, l22, l24, l25, l33, l35, l40, l42, l14, l27, bs_isCell, bs_nms, bs_ren, ibs_nms, ibs_ren, bs_length, aW_isCell, aB_isCell, isCell_sl, isCell_isl, isCell_nil, isCell_ptr, isCell_N]) only [List.map_cons, List.map_nil, Option.map_some, upd_at, Prod.mk.injEq, Nat.reduceEqDiff, false_and, if_false, aB_agg_ren, canonMap_0, List.filterMap_nil, Option.map_some, bs_ren, ren_ptrF, ren_slF, ptrO_some, slO_some, HsC_ren, m0, m1, m2, m3, m4, mOs, show List.range 5 = [0, 1, 2, 3, 4] from rfl]

def mN (a : List (BitVec 8)) (c : Option Nat) (l o : List (BitVec 8)) (c2 : Option Nat) (l2 : List (BitVec 8)) : List Cells :=
  [[.ptr (1, 1) 0, .ptr (1, 3) 0], hC a (1, 2) c, bs l, hC o (1, 4) c2, bs l2]

set_option maxRecDepth 10000 in
theorem mfork_F (K : Nat) (a : List (BitVec 8)) (c : Option Nat) (l o : List (BitVec 8)) (c2 : Option Nat) (l2 : List (BitVec 8)) (h : RFN a c l) (h2 : RFN o c2 l2)
    (hlen : a.length ≤ 211106232000000) (hlen2 : o.length ≤ 1000) (hK : 1000 ≤ K) :
    ∃ c' l' c2' l2', RFN a c' l' ∧ RFN o c2' l2' ∧ F C (K + 1) 33 [.ptr (0, 0) 0] (mO a c l o c2 l2) = some (.ptr (1, 0) 0, mOs a c l o c2 l2, mN a c' l' o c2' l2') := by
  obtain ⟨O, hO⟩ : ∃ O, O = mO a c l o c2 l2 := ⟨_, rfl⟩
  have hg := HG_h (o := o) (c2 := c2) (l2 := l2) h
  have hgo := HG_o (a := a) (c := c) (l := l) h2
  rw [← hO] at hg hgo ⊢
  have g0 : inHeap O (0, 0) = some mC := by rw [hO]; rfl
  have g1 : inHeap O (0, 1) = some (hC a (0, 2) c) := by rw [hO]; rfl
  have g2 : inHeap O (0, 2) = some (bs l) := by rw [hO]; rfl
  have g3 : inHeap O (0, 3) = some (hC o (0, 4) c2) := by rw [hO]; rfl
  have g4 : inHeap O (0, 4) = some (bs l2) := by rw [hO]; rfl
  have hOl : O.length = 5 := by rw [hO]; rfl
  rw [F_succ f33]
  simp (disch := first | omega | decide | simp only [nms_B8, nms_B32, nms_B64, nms_I, nms_N, nms_Bo, nms_Un, nms_undef, nms_Hf, nms_ptr, nms_sl, aB_agg_nms, aW_agg_nms, aD_agg_nms, aO_agg_nms, List.flatMap_cons, List.flatMap_nil, List.nil_append, List.append_nil, ren_B8, ren_B32, ren_B64, ren_I, ren_N, ren_Bo, ren_Un, ren_undef, ren_Hf, aB_agg_ren, aW_agg_ren, aD_agg_ren, aO_agg_ren, List.map_cons, List.map_nil, ren7_I, ren7_N, ren7_Bo, ren7_B8, ren7_B32, ren7_B64, nms7_I, nms7_N, nms7_Bo, nms7_B8, nms7_B32, nms7_B64, nms_tup, ren_tup, implies_true, l17, l18, l19, l20, l36, l37, l38, l39, l43, l21, l22, l24, l25, l33, l35, l40, l42, l14, l27, bs_isCell, bs_nms, bs_ren, ibs_nms, ibs_ren, bs_length, aW_isCell, aB_isCell, isCell_sl, isCell_isl, isCell_nil, isCell_ptr, isCell_N]) only [funSem_eq, ev_skip, ev_seq, ev_region, regK_some, evOpers_nil, evOpers_cons, stepK_pure, put_some, evX_t, evX_c, outR_some, op_mv, op_bin, op_call, callV_fn, andThen_normal, ev_cond, condK_false, List.set_cons_zero, List.set_cons_succ, List.getD_cons_zero, List.getD_cons_succ, List.map_cons, List.map_nil, List.flatMap_cons, List.flatMap_nil, List.nil_append, List.cons_append, List.append_nil, repUn_succ, List.replicate_zero, List.length_cons, List.length_nil, Nat.reduceAdd, Nat.reduceSub, cellAt_ptr, cellK_cons, ld1K_some, op_ld1, op_fa, faV_ptr, List.take_succ_cons, List.take_zero, List.drop_zero, List.all_cons, List.all_nil, Bool.and_true, Nat.reduceLeDiff, Nat.reduceLT, if_true, if_false, Nat.zero_add, Nat.add_zero, decide_true, Nat.add_zero, Nat.zero_add, Nat.reduceLT, Nat.reduceLeDiff, Nat.reduceAdd, decide_true, nm_beq, Bool.not_false, op_chk, chkV_ptr, eqp_ptr, bs_nms, evOpers_ord, stepO_eq, ordK_pure, only_at, touch_ld1, touch_call, nms_fn, nms_ptr, List.contains_cons, List.contains_nil, beq_self_eq_true, Bool.or_true, Bool.or_false, ordOk, apartFrom, List.all_cons, List.all_nil, Nat.testBit, Nat.reduceShiftRight, Nat.reduceAnd, Nat.reduceBEq, Bool.not_false, Bool.and_self, Bool.and_true, Bool.and_false, Nat.reduceSub, Nat.reduceLT, bne, FUEL, reach_cons, reachK_some, reach_nil, nms_ptr, nms_sl, List.flatMap_cons, List.flatMap_nil, List.nil_append, List.cons_append, List.append_nil, List.map_nil, List.map_cons, List.contains_nil, List.contains_cons, Bool.false_eq_true, Nat.reduceBEq, if_true, if_false, Nat.reduceAdd, L33, g0, g1, g2, hOl, HsC_nms, bs_nms]
  generalize hc : callOp _ _ _ _ _ = r
  obtain ⟨c', l', x, y, hrf, rfl, hx, hy⟩ := fork_X hc (hg.congr (by simp only [only_at, List.contains_cons, List.contains_nil, beq_self_eq_true, Bool.true_or, Bool.or_false]; rfl) (by simp only [only_at, List.contains_cons, List.contains_nil, beq_self_eq_true, Bool.or_true, Bool.or_false]; rfl)) hlen (by omega) (by decide) (by decide)
  have hx' : inHeap O (0, 1) = x := hx
  have hy' : inHeap O (0, 2) = y := hy
  simp (disch := first | omega | decide | simp only [nms_B8, nms_B32, nms_B64, nms_I, nms_N, nms_Bo, nms_Un, nms_undef, nms_Hf, nms_ptr, nms_sl, aB_agg_nms, aW_agg_nms, aD_agg_nms, aO_agg_nms, List.flatMap_cons, List.flatMap_nil, List.nil_append, List.append_nil, ren_B8, ren_B32, ren_B64, ren_I, ren_N, ren_Bo, ren_Un, ren_undef, ren_Hf, aB_agg_ren, aW_agg_ren, aD_agg_ren, aO_agg_ren, List.map_cons, List.map_nil, ren7_I, ren7_N, ren7_Bo, ren7_B8, ren7_B32, ren7_B64, nms7_I, nms7_N, nms7_Bo, nms7_B8, nms7_B32, nms7_B64, nms_tup, ren_tup, implies_true, l17, l18, l19, l20, l36, l37, l38, l39, l43, l21, l22, l24, l25, l33, l35, l40, l42, l14, l27, bs_isCell, bs_nms, bs_ren, ibs_nms, ibs_ren, bs_length, aW_isCell, aB_isCell, isCell_sl, isCell_isl, isCell_nil, isCell_ptr, isCell_N]) only [evOpers_cons, stepK_pure, put_some, evX_t, evX_c, outR_some, op_mv, op_call, callV_fn, List.set_cons_zero, List.set_cons_succ, List.getD_cons_zero, List.getD_cons_succ, List.map_cons, List.map_nil, List.flatMap_cons, List.flatMap_nil, List.nil_append, List.cons_append, List.append_nil, List.length_cons, List.length_nil, Nat.reduceAdd, Nat.reduceSub, upd_at, cellAt_ptr, cellK_cons, ld1K_some, op_ld1, op_fa, faV_ptr, List.take_succ_cons, List.drop_succ_cons, List.drop_zero, List.take_nil, List.all_cons, List.all_nil, Bool.and_true, Prod.mk.injEq, Nat.reduceEqDiff, Nat.reduceLT, and_true, and_self, if_true, if_false, Nat.zero_add, Nat.le_refl, decide_true, Nat.zero_ne_one, Nat.zero_add, Nat.reduceLT, Nat.reduceEqDiff, Nat.reduceAdd, decide_true, nm_beq, Bool.not_false, Bool.not_true, op_chk, chkV_ptr, updN_nil, updN_cons, modN_nil, modN_cons, bs_nms, evOpers_ord, stepO_eq, only_at, touch_ld1, touch_call, nms_fn, nms_ptr, List.contains_cons, List.contains_nil, beq_self_eq_true, Bool.or_true, Bool.or_false, ordOk, apartFrom, List.all_cons, List.all_nil, Nat.testBit, Nat.reduceShiftRight, Nat.reduceAnd, Nat.reduceBEq, Bool.not_true, Bool.not_false, Bool.and_self, Bool.and_true, Bool.and_false, Nat.reduceSub, Nat.reduceLT, bne, FUEL, reach_cons, reachK_some, reach_nil, nms_ptr, nms_sl, List.flatMap_cons, List.flatMap_nil, List.nil_append, List.cons_append, List.append_nil, List.map_nil, List.map_cons, List.contains_nil, List.contains_cons, Prod.mk.injEq, Bool.false_eq_true, Nat.reduceEqDiff, Nat.reduceBEq, and_true, if_true, if_false, Nat.zero_ne_one, upd_at, Nat.reduceAdd, ordK_gen, upd_id hx', upd_id hy', g0, g3, g4, HsC_nms, bs_nms]
  generalize hc3 : callOp _ _ _ _ _ = r3
  obtain ⟨c3, l3, x3, y3, hrf3, rfl, hx3, hy3⟩ := fork_X hc3 (hgo.congr (by simp only [only_at, List.contains_cons, List.contains_nil, beq_self_eq_true, Bool.true_or, Bool.or_false]; rfl) (by simp only [only_at, List.contains_cons, List.contains_nil, beq_self_eq_true, Bool.or_true, Bool.or_false]; rfl)) (by omega) (by omega) (by decide) (by decide)
  have hx3' : inHeap O (0, 3) = x3 := hx3
  have hy3' : inHeap O (0, 4) = y3 := hy3
  simp (disch := first | omega | decide | simp only [nms_B8, nms_B32, nms_B64, nms_I, nms_N, nms_Bo, nms_Un, nms_undef, nms_Hf, nms_ptr, nms_sl, aB_agg_nms, aW_agg_nms, aD_agg_nms, aO_agg_nms, List.flatMap_cons, List.flatMap_nil, List.nil_append, List.append_nil, ren_B8, ren_B32, ren_B64, ren_I, ren_N, ren_Bo, ren_Un, ren_undef, ren_Hf, aB_agg_ren, aW_agg_ren, aD_agg_ren, aO_agg_ren, List.map_cons, List.map_nil, ren7_I, ren7_N, ren7_Bo, ren7_B8, ren7_B32, ren7_B64, nms7_I, nms7_N, nms7_Bo, nms7_B8, nms7_B32, nms7_B64, nms_tup, ren_tup, implies_true, l17, l18, l19, l20, l36, l37, l38, l39, l43, l21, l22, l24, l25, l33, l35, l40, l42, l14, l27, bs_isCell, bs_nms, bs_ren, ibs_nms, ibs_ren, bs_length, aW_isCell, aB_isCell, isCell_sl, isCell_isl, isCell_nil, isCell_ptr, isCell_N]) only [ev_ret, regK_some, evOpers_nil, evOpers_cons, stepK_pure, put_some, evX_t, op_mv, andThen_normal, retK_ret, resVal_tmp, List.set_cons_zero, List.set_cons_succ, List.getD_cons_zero, List.getD_cons_succ, List.map_cons, List.map_nil, List.nil_append, List.cons_append, List.append_nil, List.length_cons, List.length_nil, Option.map_some, Nat.reduceAdd, Nat.reduceSub, stepK_new, cellsOf_agg, op_box, boxK_some, fill_nil, fill_cons, fillK_some, aggR_some, op_build, splice, List.take_succ_cons, List.take_zero, List.drop_succ_cons, List.drop_zero, List.drop_nil, List.all_cons, List.all_nil, Bool.and_true, Nat.reduceLeDiff, Nat.reduceLT, and_self, if_true, Nat.zero_add, Nat.le_refl, decide_true, Nat.zero_add, Nat.reduceLT, Nat.reduceLeDiff, Nat.reduceAdd, decide_true, nm_beq, Bool.not_false, cellsOf_ptr, updN_nil, updN_cons, modN_nil, modN_cons, Option.map_some, List.contains_cons, List.contains_nil, beq_self_eq_true, Bool.or_true, Bool.or_false, ordOk, apartFrom, List.all_cons, List.all_nil, Nat.testBit, Nat.reduceShiftRight, Nat.reduceAnd, Nat.reduceBEq, Bool.not_false, Bool.and_self, Bool.and_true, Bool.and_false, Nat.reduceSub, Nat.reduceLT, bne, List.nil_append, List.cons_append, List.append_nil, List.map_nil, List.map_cons, List.contains_nil, List.contains_cons, Nat.reduceBEq, if_true, Nat.reduceAdd, ordK_gen]
  refine ⟨c', l', c3, l3, hrf, hrf3, ?_⟩
  have hx3'' : x3 = some (hC o (0, 4) c2) := by rw [← hx3', g3]
  have hy3'' : y3 = some (bs l2) := by rw [← hy3', g4]
  rw [outOf_mem 5 _ _ [(16, 0), (9, 0), (9, 1), (14, 0), (14, 1)] (by simp only [canonNames, FUEL, reach_cons, reachK_some, reach_nil, nms_ptr, nms_sl, List.flatMap_cons, List.flatMap_nil, List.nil_append, List.cons_append, List.append_nil, List.map_nil, List.map_cons, List.contains_nil, List.contains_cons, Prod.mk.injEq, beq_iff_eq, Bool.or_eq_true, Bool.false_eq_true, Nat.reduceEqDiff, and_true, and_false, or_false, or_true, if_true, if_false, Nat.one_ne_zero, Nat.zero_ne_one, List.filter_cons, List.filter_nil, bne_iff_ne, ne_eq, not_false_eq_true, not_true_eq_false, upd_at, HsC_nms, bs_nms, g0, g1, g2, hx3'', hy3'', show List.range 5 = [0, 1, 2, 3, 4] from rfl])]
  simp (disch := first | omega | decide | simp only [nms_B8, nms_B32, nms_B64, nms_I, nms_N, nms_Bo, nms_Un, nms_undef, nms_Hf, nms_ptr, nms_sl, aB_agg_nms, aW_agg_nms, aD_agg_nms, aO_agg_nms, List.flatMap_cons, List.flatMap_nil, List.nil_append, List.append_nil, ren_B8, ren_B32, ren_B64, ren_I, ren_N, ren_Bo, ren_Un, ren_undef, ren_Hf, aB_agg_ren, aW_agg_ren, aD_agg_ren, aO_agg_ren, List.map_cons, List.map_nil, ren7_I, ren7_N, ren7_Bo, ren7_B8, ren7_B32, ren7_B64, nms7_I, nms7_N, nms7_Bo, nms7_B8, nms7_B32, nms7_B64, nms_tup, ren_tup, implies_true, l17, l18, l19, l20, l36, l37, l38, l39, l43, l21, l22, l24, l25, l33, l35, l40, l42, l14, l27, bs_isCell, bs_nms, bs_ren, ibs_nms, ibs_ren, bs_length, aW_isCell, aB_isCell, isCell_sl, isCell_isl, isCell_nil, isCell_ptr, isCell_N]) only [List.map_cons, List.map_nil, Option.map_some, Nat.reduceAdd, upd_at, Prod.mk.injEq, Nat.reduceEqDiff, and_true, true_and, and_false, false_and, and_self, if_true, if_false, Nat.zero_add, Nat.one_ne_zero, Nat.zero_ne_one, Nat.zero_add, idx_cons, canonMap_0, canonMap_ne, List.filterMap_nil, Option.map_some, bs_ren, List.filterMap_cons, ren_ptrF, ren_slF, ptrO_some, slO_some, HsC_ren, g0, g1, g2, hx3'', hy3'', mOs, mN, show List.range 5 = [0, 1, 2, 3, 4] from rfl]

end Sha

namespace Sha
open Go Go.LE

/-- a mac on its way: its inner digest has taken a, its outer one o -/
structure MG (H : Heap) (mN hN rN oN qN : Nm) (a o : List (BitVec 8)) : Prop where
  nd : [mN, hN, rN, oN, qN].Nodup
  m : H mN = some [.ptr hN 0, .ptr oN 0]
  h : ∃ c l, RFN a c l ∧ H hN = some (hC a rN c) ∧ H rN = some (bs l)
  o : ∃ c l, RFN o c l ∧ H oN = some (hC o qN c) ∧ H qN = some (bs l)

theorem MG.congr {H H' : Heap} {mN hN rN oN qN : Nm} {a o : List (BitVec 8)} (M : MG H mN hN rN oN qN a o) (e : ∀ n ∈ [mN, hN, rN, oN, qN], H' n = H n) : MG H' mN hN rN oN qN a o := by
  obtain ⟨nd, m, ⟨c, l, h1, h2, h3⟩, ⟨c2, l2, o1, o2, o3⟩⟩ := M
  exact ⟨nd, (e _ (by simp)).trans m, ⟨c, l, h1, (e _ (by simp)).trans h2, (e _ (by simp)).trans h3⟩, ⟨c2, l2, o1, (e _ (by simp)).trans o2, (e _ (by simp)).trans o3⟩⟩
theorem MG.upd' {H H3 : Heap} {mN hN rN oN qN n : Nm} {a o : List (BitVec 8)} {x : Option Cells} (M : MG H mN hN rN oN qN a o) (e : LE.upd H n x = H3) (hn : n ∉ [mN, hN, rN, oN, qN]) : MG H3 mN hN rN oN qN a o := by
  subst e
  refine M.congr fun k hk => ?_
  rw [upd_at, if_neg]
  intro e; subst e; exact hn hk

theorem toC (names : List Nm) (hnd : names.Nodup) (i : Nat) (n : Nm) (h : names[i]? = some n) : toCallee names n = some (0, i) := by
  rw [toCallee, idx_get 0 hnd h]; simp

theorem mac_pre {H : Heap} {mN hN rN oN qN : Nm} {a o : List (BitVec 8)} (M : MG H mN hN rN oN qN a o) :
    ∃ c l c2 l2, RFN a c l ∧ RFN o c2 l2 ∧ reach H FUEL [] [mN] = [mN, hN, rN, oN, qN] ∧ ([mN, hN, rN, oN, qN].filterMap H).map (fun cs => cs.map (ren D (toCallee [mN, hN, rN, oN, qN]))) = mO a c l o c2 l2 ∧
      H mN = some [.ptr hN 0, .ptr oN 0] ∧ H hN = some (hC a rN c) ∧ H rN = some (bs l) ∧ H oN = some (hC o qN c2) ∧ H qN = some (bs l2) := by
  obtain ⟨nd, m, ⟨c, l, h1, h2, h3⟩, ⟨c2, l2, o1, o2, o3⟩⟩ := M
  have hnd := nd
  simp only [List.nodup_cons, List.mem_cons, List.not_mem_nil, or_false, not_or, List.nodup_nil, and_true, not_false_eq_true] at nd
  obtain ⟨⟨a1, a2, a3, a4⟩, ⟨b1, b2, b3⟩, ⟨d1, d2⟩, e1⟩ := nd
  refine ⟨c, l, c2, l2, h1, o1, ?_, ?_, m, h2, h3, o2, o3⟩
  · have q1 : (mN == hN) = false := by simpa using a1
    have q2 : ∀ {x y : Nm}, ¬ x = y → (y == x) = false := fun h => by simpa using fun e => h e.symm
    simp only [FUEL, reach_cons, List.contains_nil, Bool.false_eq_true, if_false, m, reachK_some, List.flatMap_cons, List.flatMap_nil, nms_ptr, List.nil_append, List.cons_append, List.append_nil, List.contains_cons, q2 a1, q2 a2, q2 a3, q2 a4, q2 b1, q2 b2, q2 b3, q2 d1, q2 d2, q2 e1,
      Bool.or_false, h2, h3, o2, o3, HsC_nms, nms_sl, bs_nms, reach_nil]
  · have t0 := toC _ hnd 0 mN rfl
    have t1 := toC _ hnd 1 hN rfl
    have t2 := toC _ hnd 2 rN rfl
    have t3 := toC _ hnd 3 oN rfl
    have t4 := toC _ hnd 4 qN rfl
    simp only [List.filterMap_cons, m, h2, h3, o2, o3, List.filterMap_nil, List.map_cons, List.map_nil, ren_ptrF, ptrO_some, HsC_ren, ren_slF, slO_some, bs_ren, t1, t2, t3, t4, mO]

theorem mac_write {K b : Nat} {H : Heap} {mN hN rN oN qN : Nm} {a o bb : List (BitVec 8)} {B : LV} {r : Option Out} (hc : callOp (envC C (K + 1)) H b 34 [.ptr mN 0, B] = r) (M : MG H mN hN rN oN qN a o)
    (hB : Lent H B bb [mN, hN, rN, oN, qN]) (hlen : a.length + bb.length ≤ 211106232000000) (hK : (a.length + bb.length) / 64 + 200 ≤ K) (hb : ∀ n ∈ [mN, hN, rN, oN, qN], n.1 ≠ b) :
    ∃ rN' news ms H2, r = some ⟨.tup [], news, ms⟩ ∧ updN b 0 news (modN ms H) = H2 ∧ MG H2 mN hN rN' oN qN (a ++ bb) o ∧ (rN' = (b, 0) ∨ rN' = rN) ∧ (∃ z : Option (List (BitVec 8)), H2 rN = z.map bs) ∧ ∀ m, m ∉ [mN, hN, rN, oN, qN] → m.1 ≠ b → H2 m = H m := by
  subst hc
  obtain ⟨c, l, c2, l2, h1, o1, hre, hob, g0, g1, g2, g3, g4⟩ := mac_pre M
  obtain ⟨x, cx, z, news, hF, hcase⟩ := mwrite_F K a c l o c2 l2 h1 o1 bb hlen hK
  obtain ⟨lent, hs, hl⟩ := hB.snap
  have hnd := M.nd
  have t0 := toC _ hnd 0 mN rfl
  have hlend : lend H ((envC C (K + 1)).borrow 34) 0 [.ptr mN 0, B] = some ([.ptr mN 0, .isl (bs bb) bb.length], lent) := by
    rw [lend_cons, lend_cons, lend_nil, envC_borrow, C_bor]
    rw [if_neg (show ¬ lentF 34 0 = true by decide), if_pos (show lentF 34 (0 + 1) = true by decide), hs, lendC_some, lendC_some]
    simp
  have hn : ([.ptr mN 0, .isl (bs bb) bb.length] : List LV).flatMap (nms D) = [mN] := by
    simp only [List.flatMap_cons, List.flatMap_nil, nms_ptr, ibs_nms, List.append_nil]
  have ha : ([.ptr mN 0, .isl (bs bb) bb.length] : List LV).map (ren D (toCallee [mN, hN, rN, oN, qN])) = [.ptr (0, 0) 0, .isl (bs bb) bb.length] := by
    simp only [List.map_cons, List.map_nil, ren_ptrF, t0, ptrO_some, ibs_ren]
  have hz : ∀ π, (z.map bs).map (fun cs => List.map (ren D π) cs) = z.map bs := by intro π; cases z <;> simp [bs_ren]
  have hp : plainRes (.tup [], [some mC, some (hC (a ++ bb) x cx), z.map bs, some (hC o (0, 4) c2), some (bs l2)], news) = true := by
    rcases hcase with ⟨_, l', rfl, _⟩ | ⟨_, rfl, _⟩ <;> cases z <;> simp [plainRes, noImm_HsC, noImm_bs] <;> exact ⟨rfl, rfl, rfl⟩
  have hcall : callOp (envC C (K + 1)) H b 34 [.ptr mN 0, B] = some (backTo [mN, hN, rN, oN, qN] b (.tup [], [some mC, some (hC (a ++ bb) x cx), z.map bs, some (hC o (0, 4) c2), some (bs l2)], news)) := by
    rw [callOp_L, hlend, callL_some, hn, hre, callN_eq _ _ _ _ _ hl, ha, hob, envC_cal, hF, resK_any _ _ _ _ hp]
  simp only [List.nodup_cons, List.mem_cons, List.not_mem_nil, or_false, not_or, List.nodup_nil, and_true, not_false_eq_true] at hnd
  obtain ⟨⟨a1, a2, a3, a4⟩, ⟨b1, b2, b3⟩, ⟨d1, d2⟩, e1⟩ := hnd
  rw [backTo_eq, ren_tup0] at hcall
  have hb0 : ∀ n ∈ [mN, hN, rN, oN, qN], n ≠ (b, 0) := fun n hn e => hb n hn (by rw [e])
  have f0 := hb0 mN (by simp)
  have f1 := hb0 hN (by simp)
  have f2 := hb0 rN (by simp)
  have f3 := hb0 oN (by simp)
  have f4 := hb0 qN (by simp)
  rcases hcase with ⟨rfl, l', rfl, hrf⟩ | ⟨rfl, rfl, l', rfl, hrf⟩
  · refine ⟨(b, 0), _, _, _, hcall, rfl, ⟨?_, ?_, ⟨cx, l', hrf, ?_, ?_⟩, ⟨c2, l2, o1, ?_, ?_⟩⟩, .inl rfl, ⟨z, ?_⟩, ?_⟩
    · simp only [List.nodup_cons, List.mem_cons, List.not_mem_nil, or_false, not_or, List.nodup_nil, and_true, not_false_eq_true]
      exact ⟨⟨a1, f0, a3, a4⟩, ⟨f1, b2, b3⟩, ⟨fun e => f3 e.symm, fun e => f4 e.symm⟩, e1⟩
    all_goals simp only [List.zipWith_cons_cons, List.zipWith_nil_left, Option.map_some, List.map_cons, List.map_nil, ren_ptrF, HsC_ren, ren_slF, bs_ren, hz, toCaller_0, toCaller_1, List.length_cons, List.length_nil, Nat.zero_add, Nat.lt_one_iff, List.getElem?_cons_succ, List.getElem?_cons_zero, slO_some, ptrO_some, modN_cons, modN_nil, updN_cons, updN_nil, upd_at]
    · rw [if_neg f0, if_pos trivial]
    · rw [if_neg f1, if_neg (fun e => a1 e.symm), if_pos trivial]
    · rw [if_pos trivial]
    · rw [if_neg f3, if_neg (fun e => a3 e.symm), if_neg (fun e => b2 e.symm), if_neg (fun e => d1 e.symm), if_pos trivial]
    · rw [if_neg f4, if_neg (fun e => a4 e.symm), if_neg (fun e => b3 e.symm), if_neg (fun e => d2 e.symm), if_neg (fun e => e1 e.symm), if_pos trivial]
    · rw [if_neg f2, if_neg (fun e => a2 e.symm), if_neg (fun e => b1 e.symm), if_pos trivial]
    · intro m hm hmb
      simp only [List.mem_cons, List.not_mem_nil, or_false, not_or] at hm
      rw [if_neg (fun e => hmb (by rw [e])), if_neg hm.1, if_neg hm.2.1, if_neg hm.2.2.1, if_neg hm.2.2.2.1, if_neg hm.2.2.2.2]
  · refine ⟨rN, _, _, _, hcall, rfl, ⟨?_, ?_, ⟨cx, l', hrf, ?_, ?_⟩, ⟨c2, l2, o1, ?_, ?_⟩⟩, .inr rfl, ⟨some l', ?_⟩, ?_⟩
    · exact M.nd
    all_goals simp only [List.zipWith_cons_cons, List.zipWith_nil_left, Option.map_some, List.map_cons, List.map_nil, ren_ptrF, HsC_ren, ren_slF, bs_ren, hz, toCaller_0, toCaller_1, List.length_cons, List.length_nil, Nat.zero_add, Nat.lt_one_iff, List.getElem?_cons_succ, List.getElem?_cons_zero, slO_some, ptrO_some, modN_cons, modN_nil, updN_cons, updN_nil, upd_at]
    · rw [if_pos trivial]
    · rw [if_neg (fun e => a1 e.symm), if_pos trivial]
    · rw [if_neg (fun e => a2 e.symm), if_neg (fun e => b1 e.symm), if_pos trivial]
    · rw [if_neg (fun e => a3 e.symm), if_neg (fun e => b2 e.symm), if_neg (fun e => d1 e.symm), if_pos trivial]
    · rw [if_neg (fun e => a4 e.symm), if_neg (fun e => b3 e.symm), if_neg (fun e => d2 e.symm), if_neg (fun e => e1 e.symm), if_pos trivial]
    · rw [if_neg (fun e => a2 e.symm), if_neg (fun e => b1 e.symm), if_pos trivial]
    · intro m hm hmb
      simp only [List.mem_cons, List.not_mem_nil, or_false, not_or] at hm
      rw [if_neg hm.1, if_neg hm.2.1, if_neg hm.2.2.1, if_neg hm.2.2.2.1, if_neg hm.2.2.2.2]

theorem lend_m (K : Nat) (g : Nat) (hg : lentF g = fun _ => false) (H : Heap) (mN : Nm) : lend H ((envC C K).borrow g) 0 [.ptr mN 0] = some ([.ptr mN 0], []) := by
  rw [envC_borrow, C_bor, hg, lend_none]

theorem mod5 {H : Heap} {mN hN rN oN qN : Nm} {x0 x1 x2 x3 x4 : Option Cells} (g0 : H mN = x0) (g1 : H hN = x1) (g2 : H rN = x2) (g3 : H oN = x3) (g4 : H qN = x4) :
    modN [(mN, x0), (hN, x1), (rN, x2), (oN, x3), (qN, x4)] H = H := by
  simp only [modN_cons, modN_nil]
  rw [upd_id g4, upd_id g3, upd_id g2, upd_id g1, upd_id g0]

theorem mac_sum {K b : Nat} {H : Heap} {mN hN rN oN qN : Nm} {a o : List (BitVec 8)} {r : Option Out} (hc : callOp (envC C (K + 1)) H b 35 [.ptr mN 0] = r) (M : MG H mN hN rN oN qN a o)
    (hlen : a.length ≤ 211106232000000) (hlen2 : o.length ≤ 1000) (hK : 1000 ≤ K) :
    ∃ ms, r = some ⟨.agg (aB 32 (dig (o ++ dl a))), [], ms⟩ ∧ modN ms H = H := by
  subst hc
  obtain ⟨c, l, c2, l2, h1, o1, hre, hob, g0, g1, g2, g3, g4⟩ := mac_pre M
  have hF := msum_F K a c l o c2 l2 h1 o1 hlen hlen2 hK
  have t0 := toC _ M.nd 0 mN rfl
  have hn : ([.ptr mN 0] : List LV).flatMap (nms D) = [mN] := rfl
  have ha : ([.ptr mN 0] : List LV).map (ren D (toCallee [mN, hN, rN, oN, qN])) = [.ptr (0, 0) 0] := by
    simp only [List.map_cons, List.map_nil, ren_ptrF, t0, ptrO_some]
  refine ⟨_, ?_, mod5 g0 g1 g2 g3 g4⟩
  rw [callOp_L, lend_m (K + 1) 35 rfl, callL_some, hn, hre, callN_eq _ _ _ _ _ rfl, ha, hob, envC_cal, hF, show ([] : List Nm).isEmpty = true from rfl, resK_sc, backTo_eq, mOs]
  simp only [List.zipWith_cons_cons, List.zipWith_nil_left, Option.map_some, List.map_cons, List.map_nil, ren_ptrF, HsC_ren, ren_slF, bs_ren, toCaller_0, List.getElem?_cons_succ, List.getElem?_cons_zero, slO_some, ptrO_some, aB_agg_ren]

theorem mac_fork {K b : Nat} {H : Heap} {mN hN rN oN qN : Nm} {a o : List (BitVec 8)} {r : Option Out} (hc : callOp (envC C (K + 1)) H b 33 [.ptr mN 0] = r) (M : MG H mN hN rN oN qN a o)
    (hlen : a.length ≤ 211106232000000) (hlen2 : o.length ≤ 1000) (hK : 1000 ≤ K) (hb : ∀ n ∈ [mN, hN, rN, oN, qN], n.1 ≠ b) :
    ∃ news ms H2, r = some ⟨.ptr (b, 0) 0, news, ms⟩ ∧ updN b 0 news (modN ms H) = H2 ∧ MG H2 (b, 0) (b, 1) (b, 2) (b, 3) (b, 4) a o ∧ MG H2 mN hN rN oN qN a o ∧ ∀ m, m.1 ≠ b → H2 m = H m := by
  subst hc
  have M0 := M
  obtain ⟨c, l, c2, l2, h1, o1, hre, hob, g0, g1, g2, g3, g4⟩ := mac_pre M
  obtain ⟨c', l', c2', l2', hr1, hr2, hF⟩ := mfork_F K a c l o c2 l2 h1 o1 hlen hlen2 hK
  have t0 := toC _ M.nd 0 mN rfl
  have hn : ([.ptr mN 0] : List LV).flatMap (nms D) = [mN] := rfl
  have ha : ([.ptr mN 0] : List LV).map (ren D (toCallee [mN, hN, rN, oN, qN])) = [.ptr (0, 0) 0] := by
    simp only [List.map_cons, List.map_nil, ren_ptrF, t0, ptrO_some]
  have hcall : callOp (envC C (K + 1)) H b 33 [.ptr mN 0] = some ⟨.ptr (b, 0) 0, [[.ptr (b, 1) 0, .ptr (b, 3) 0], hC a (b, 2) c', bs l', hC o (b, 4) c2', bs l2'], [(mN, some [.ptr hN 0, .ptr oN 0]), (hN, some (hC a rN c)), (rN, some (bs l)), (oN, some (hC o qN c2)), (qN, some (bs l2))]⟩ := by
    rw [callOp_L, lend_m (K + 1) 33 rfl, callL_some, hn, hre, callN_eq _ _ _ _ _ rfl, ha, hob, envC_cal, hF, show ([] : List Nm).isEmpty = true from rfl, resK_sc, backTo_eq, mOs, Sha.mN]
    simp only [List.zipWith_cons_cons, List.zipWith_nil_left, Option.map_some, List.map_cons, List.map_nil, ren_ptrF, HsC_ren, ren_slF, bs_ren, toCaller_0, toCaller_1, List.getElem?_cons_succ, List.getElem?_cons_zero, slO_some, ptrO_some, List.length_cons, List.length_nil, Nat.zero_add, Nat.reduceAdd, Nat.reduceLT]
  have hfr : ∀ m : Nm, m.1 ≠ b → updN b 0 [[.ptr (b, 1) 0, .ptr (b, 3) 0], hC a (b, 2) c', bs l', hC o (b, 4) c2', bs l2'] H m = H m := by
    intro m hm
    rw [updN_at, if_neg (fun h => hm h.1)]
  refine ⟨_, _, _, hcall, rfl, ?_, ?_, ?_⟩
  all_goals rw [mod5 g0 g1 g2 g3 g4]
  · refine ⟨by simp, ?_, ⟨c', l', hr1, ?_, ?_⟩, ⟨c2', l2', hr2, ?_, ?_⟩⟩ <;> (rw [updN_at]; simp)
  · exact M0.congr fun n hn => hfr n (hb n hn)
  · exact hfr

end Sha

namespace Sha
open Go Go.LE

def xr (g : Nat → BitVec 8) (x : BitVec 8) (i j : Nat) : BitVec 8 := if j < i then g j ^^^ x else g j
theorem xr_succ (g : Nat → BitVec 8) (x : BitVec 8) (i : Nat) : set1 (xr g x i) i (g i ^^^ x) = xr g x (i + 1) := by
  funext j
  simp only [set1, xr]
  by_cases h : j = i
  · subst h; simp
  · rw [if_neg h]
    have : (j < i + 1) ↔ (j < i) := by omega
    simp only [this]
theorem xr_at (g : Nat → BitVec 8) (x : BitVec 8) (i : Nat) : xr g x i i = g i := by simp [xr]
def xl (g : Nat → BitVec 8) (x : BitVec 8) : List (BitVec 8) := (List.range 64).map fun j => g j ^^^ x
theorem xl_length (g : Nat → BitVec 8) (x : BitVec 8) : (xl g x).length = 64 := by simp [xl]
theorem aB_xr (g : Nat → BitVec 8) (x : BitVec 8) : aB 64 (xr g x 64) = bs (xl g x) := by
  rw [xl, ← aB_bs]; exact aB_ext 64 fun i h => by simp [xr, h]

def begJ (g : Nat → BitVec 8) (x : BitVec 8) (i : Nat) (st : St) : Prop := ∃ (H : Heap), st = ⟨[.undef, B8 x, .ptr (1, 0) 0, .undef, .undef, .undef, .undef, N i, .undef, .undef, .undef, .undef, .undef, .undef, .undef, .undef, .undef, .undef, .undef, .undef, .undef, .undef], H, 2, 0⟩ ∧ H (1, 0) = some (aB 64 (xr g x i))

set_option maxRecDepth 10000 in
theorem beg_round (K k0 : Nat) (g : Nat → BitVec 8) (x : BitVec 8) (i : Nat) (hi : i < 64) (st : St) (hI : begJ g x i st) :
    ∃ st1, ev (envC C k0) K L42b0 st = some (.normal, st1) ∧ begJ g x (i + 1) (canon L42k0 st1) := by
  obtain ⟨H, rfl, h1⟩ := hI
  apply Exists.intro
  apply And.intro
  · simp (disch := first | omega | decide | simp only [nms_B8, nms_B32, nms_B64, nms_I, nms_N, nms_Bo, nms_Un, nms_undef, nms_Hf, nms_ptr, nms_sl, aB_agg_nms, aW_agg_nms, aD_agg_nms, aO_agg_nms, List.flatMap_cons, List.flatMap_nil, List.nil_append, List.append_nil, ren_B8, ren_B32, ren_B64, ren_I, ren_N, ren_Bo, ren_Un, ren_undef, ren_Hf, aB_agg_ren, aW_agg_ren, aD_agg_ren, aO_agg_ren, List.map_cons, List.map_nil, ren7_I, ren7_N, ren7_Bo, ren7_B8, ren7_B32, ren7_B64, nms7_I, nms7_N, nms7_Bo, nms7_B8, nms7_B32, nms7_B64, nms_tup, ren_tup, implies_true, l17, l18, l19, l20, l36, l37, l38, l39, l43, l21, l22, l24, l25, l33, l35, l40, l42, l14, l27, bs_isCell, bs_nms, bs_ren, ibs_nms, ibs_ren, bs_length, aW_isCell, aB_isCell, isCell_sl, isCell_isl, isCell_nil, isCell_ptr, isCell_N]) only [ev_skip, ev_seq, ev_block, ev_region, regK_some, evOpers_nil, evOpers_cons, stepK_pure, put_some, put_none, evX_t, evX_c, outR_some, op_mv, op_bin, andThen_normal, inBlock_normal, ev_cond, condK_true, List.set_cons_zero, List.set_cons_succ, List.getD_cons_zero, List.getD_cons_succ, List.length_cons, List.length_nil, B8_xor, Nat.reduceAdd, stepK_mod, cellsOf_B8, cellAt_ptr, ld1K_some, op_ld1, op_st, stV_ptr, op_iaA, iaV_lt, Nat.zero_add, Nat.add_zero, decide_true, aB_cell, aB_st, Nat.mul_one, Nat.add_zero, Nat.zero_add, N_add, N_lss, N_nat, Nat.reduceAdd, decide_true, Nat.mul_one, L42b0, hi, h1, xr_at]
    rfl
  · refine canon_inv [(1, 0)] rfl (by simp only [canonNames, FUEL, reach_cons, reachK_some, reach_nil, nms_ptr, nms_B8, nms_undef, List.flatMap_cons, List.flatMap_nil, List.nil_append, List.append_nil, List.range_zero, List.map_nil, List.contains_nil, Bool.false_eq_true, if_true, if_false, Nat.one_ne_zero, List.filter_cons, List.filter_nil, bne_iff_ne, ne_eq, not_false_eq_true, upd_at, mask_nil, mask_true, mask_false, nms_N, L42k0, h1, aB_nms]) rfl ⟨_, rfl, ?_⟩
    rw [← xr_succ]
    exact cN_same (1, 0) rfl (by simp only [upd_at, if_true]) (aB_ren _ _ _)

set_option maxRecDepth 10000 in
theorem begin_F (K : Nat) (hK : 1000 ≤ K) (g : Nat → BitVec 8) (x : BitVec 8) : ∃ c l', RFN (xl g x) c l' ∧ F C (K + 1) 42 [.agg (aB 64 g), B8 x] [] = some (.ptr (1, 0) 0, [], [hC (xl g x) (1, 1) c, bs l']) := by
  have hnew := fun b H => new_call (K - 2) b H
  rw [show K - 2 + 2 = K by omega] at hnew
  have hxl := xl_length g x
  rw [F_succ f42]
  simp (disch := first | omega | decide | simp only [nms_B8, nms_B32, nms_B64, nms_I, nms_N, nms_Bo, nms_Un, nms_undef, nms_Hf, nms_ptr, nms_sl, aB_agg_nms, aW_agg_nms, aD_agg_nms, aO_agg_nms, List.flatMap_cons, List.flatMap_nil, List.nil_append, List.append_nil, ren_B8, ren_B32, ren_B64, ren_I, ren_N, ren_Bo, ren_Un, ren_undef, ren_Hf, aB_agg_ren, aW_agg_ren, aD_agg_ren, aO_agg_ren, List.map_cons, List.map_nil, ren7_I, ren7_N, ren7_Bo, ren7_B8, ren7_B32, ren7_B64, nms7_I, nms7_N, nms7_Bo, nms7_B8, nms7_B32, nms7_B64, nms_tup, ren_tup, implies_true, l17, l18, l19, l20, l36, l37, l38, l39, l43, l21, l22, l24, l25, l33, l35, l40, l42, l14, l27, bs_isCell, bs_nms, bs_ren, ibs_nms, ibs_ren, bs_length, aW_isCell, aB_isCell, isCell_sl, isCell_isl, isCell_nil, isCell_ptr, isCell_N]) only [funSem_eq, ev_seq, ev_block, ev_region, regK_some, evOpers_nil, evOpers_cons, stepK_pure, put_some, evX_t, evX_c, op_mv, andThen_normal, List.set_cons_zero, List.set_cons_succ, List.getD_cons_zero, List.nil_append, List.cons_append, repUn_succ, List.replicate_zero, List.length_cons, List.length_nil, ev_loop, Nat.reduceAdd, Nat.reduceSub, stepK_new, cellsOf_agg, op_box, boxK_some, Nat.zero_add, Nat.add_zero, Nat.add_zero, Nat.zero_add, Nat.reduceAdd, L42]
  generalize hL : loopN L42k0 _ _ _ = r
  refine loop_use hL (begJ g x) 64 (by omega) (fun i st hi hI => beg_round _ _ g x i hi st hI) ?_ ?_ ?_
  · refine canon_inv [(2, 0)] rfl (by simp only [canonNames, FUEL, reach_cons, reachK_some, reach_nil, nms_ptr, nms_B8, nms_undef, List.flatMap_cons, List.flatMap_nil, List.nil_append, List.append_nil, List.range_zero, List.map_nil, List.contains_nil, Bool.false_eq_true, Nat.reduceEqDiff, if_true, if_false, List.filter_cons, List.filter_nil, bne_iff_ne, ne_eq, not_false_eq_true, upd_at, mask_nil, mask_true, mask_false, inHeap_none, nms_N, L42k0, aB_nms]) rfl ⟨_, rfl, ?_⟩
    rw [show xr g x 0 = g by funext j; simp [xr]]
    exact cN_same (2, 0) rfl (by simp only [upd_at, if_true]) (aB_ren _ _ _)
  · rintro st ⟨H, rfl, h1⟩
    apply stop_exit
    simp (disch := first | omega | decide | simp only [nms_B8, nms_B32, nms_B64, nms_I, nms_N, nms_Bo, nms_Un, nms_undef, nms_Hf, nms_ptr, nms_sl, aB_agg_nms, aW_agg_nms, aD_agg_nms, aO_agg_nms, List.flatMap_cons, List.flatMap_nil, List.nil_append, List.append_nil, ren_B8, ren_B32, ren_B64, ren_I, ren_N, ren_Bo, ren_Un, ren_undef, ren_Hf, aB_agg_ren, aW_agg_ren, aD_agg_ren, aO_agg_ren, List.map_cons, List.map_nil, ren7_I, ren7_N, ren7_Bo, ren7_B8, ren7_B32, ren7_B64, nms7_I, nms7_N, nms7_Bo, nms7_B8, nms7_B32, nms7_B64, nms_tup, ren_tup, implies_true, l17, l18, l19, l20, l36, l37, l38, l39, l43, l21, l22, l24, l25, l33, l35, l40, l42, l14, l27, bs_isCell, bs_nms, bs_ren, ibs_nms, ibs_ren, bs_length, aW_isCell, aB_isCell, isCell_sl, isCell_isl, isCell_nil, isCell_ptr, isCell_N]) only [ev_exit, ev_seq, ev_region, regK_some, evOpers_nil, evOpers_cons, stepK_pure, put_some, evX_t, evX_c, outR_some, op_bin, andThen_normal, andThen_exit, ev_cond, condK_false, List.set_cons_zero, List.set_cons_succ, List.getD_cons_zero, List.getD_cons_succ, List.length_cons, List.length_nil, Nat.reduceAdd, Nat.zero_add, Nat.add_zero, decide_false, N_lss, Nat.reduceAdd, Nat.lt_irrefl, decide_false, L42b0]
    rfl
  · clear hL
    rintro st ⟨H, rfl, h1⟩ rfl
    rw [aB_xr] at h1
    simp (disch := first | omega | decide | simp only [nms_B8, nms_B32, nms_B64, nms_I, nms_N, nms_Bo, nms_Un, nms_undef, nms_Hf, nms_ptr, nms_sl, aB_agg_nms, aW_agg_nms, aD_agg_nms, aO_agg_nms, List.flatMap_cons, List.flatMap_nil, List.nil_append, List.append_nil, ren_B8, ren_B32, ren_B64, ren_I, ren_N, ren_Bo, ren_Un, ren_undef, ren_Hf, aB_agg_ren, aW_agg_ren, aD_agg_ren, aO_agg_ren, List.map_cons, List.map_nil, ren7_I, ren7_N, ren7_Bo, ren7_B8, ren7_B32, ren7_B64, nms7_I, nms7_N, nms7_Bo, nms7_B8, nms7_B32, nms7_B64, nms_tup, ren_tup, implies_true, l17, l18, l19, l20, l36, l37, l38, l39, l43, l21, l22, l24, l25, l33, l35, l40, l42, l14, l27, bs_isCell, bs_nms, bs_ren, ibs_nms, ibs_ren, bs_length, aW_isCell, aB_isCell, isCell_sl, isCell_isl, isCell_nil, isCell_ptr, isCell_N]) only [ev_exit, ev_seq, ev_region, regK_some, evOpers_nil, evOpers_cons, stepK_pure, put_some, evX_t, evX_c, outR_some, op_mv, op_bin, op_call, callV_fn, andThen_normal, andThen_exit, inBlock_exit, ev_cond, condK_false, List.set_cons_zero, List.set_cons_succ, List.getD_cons_zero, List.getD_cons_succ, List.map_cons, List.map_nil, List.length_cons, List.length_nil, Nat.reduceAdd, stepK_new, if_true, Nat.zero_add, Nat.add_zero, decide_false, Nat.mul_one, Nat.add_zero, Nat.zero_add, N_lss, Nat.reduceAdd, Nat.lt_irrefl, decide_false, optNat_none, op_slcAV, slcAV_ptr, Nat.sub_zero, Nat.mul_one, L42b0, hnew]
    generalize hc : callOp _ _ _ _ _ = r
    generalize hH2 : upd _ _ _ = H2 at hc ⊢
    have h12 : H2 (1, 0) = some (bs (xl g x)) := by rw [← hH2]; simp only [upd_at, Prod.mk.injEq, Nat.reduceEqDiff, and_true, if_false, h1]
    have hB := lent_sl H2 (1, 0) 0 64 (some 64) _ [(3, 0)] h12 (by omega) (by decide)
    rw [List.drop_zero, List.take_of_length_le (by omega)] at hB
    have h0 : H0 H2 (3, 0) := by rw [H0, ← hH2]; simp only [upd_at, if_true]
    obtain ⟨news, ms, H3, rfl, hH3, ⟨hne, c, l', hrf, e1, e2⟩, hfr⟩ := write_1 (bb := xl g x) hc h0 hB (by intro e; rw [e] at hxl; simp at hxl) (by omega) (by omega) (by decide)
    refine ⟨c, l', hrf, ?_⟩
    simp (disch := first | omega | decide | simp only [nms_B8, nms_B32, nms_B64, nms_I, nms_N, nms_Bo, nms_Un, nms_undef, nms_Hf, nms_ptr, nms_sl, aB_agg_nms, aW_agg_nms, aD_agg_nms, aO_agg_nms, List.flatMap_cons, List.flatMap_nil, List.nil_append, List.append_nil, ren_B8, ren_B32, ren_B64, ren_I, ren_N, ren_Bo, ren_Un, ren_undef, ren_Hf, aB_agg_ren, aW_agg_ren, aD_agg_ren, aO_agg_ren, List.map_cons, List.map_nil, ren7_I, ren7_N, ren7_Bo, ren7_B8, ren7_B32, ren7_B64, nms7_I, nms7_N, nms7_Bo, nms7_B8, nms7_B32, nms7_B64, nms_tup, ren_tup, implies_true, l17, l18, l19, l20, l36, l37, l38, l39, l43, l21, l22, l24, l25, l33, l35, l40, l42, l14, l27, bs_isCell, bs_nms, bs_ren, ibs_nms, ibs_ren, bs_length, aW_isCell, aB_isCell, isCell_sl, isCell_isl, isCell_nil, isCell_ptr, isCell_N]) only [ev_ret, ev_seq, ev_region, regK_some, evOpers_nil, evOpers_cons, put_some, evX_t, op_mv, andThen_normal, retK_ret, resVal_tmp, List.set_cons_zero, List.set_cons_succ, List.getD_cons_zero, List.getD_cons_succ, List.length_cons, List.length_nil, Option.map_some, Nat.reduceAdd, Nat.zero_add, Nat.add_zero, Nat.add_zero, Nat.zero_add, Nat.reduceAdd, updN_nil, modN_nil, Option.map_some, stepK_gen, hH3]
    rw [outOf_mem 0 _ _ [_, _] (by simp only [canonNames, FUEL, reach_cons, reachK_some, reach_nil, nms_ptr, nms_sl, List.flatMap_cons, List.flatMap_nil, List.nil_append, List.cons_append, List.append_nil, List.range_zero, List.map_nil, List.contains_nil, List.contains_cons, Prod.mk.injEq, beq_iff_eq, Bool.or_eq_true, Bool.false_eq_true, Nat.reduceEqDiff, and_true, or_false, if_true, if_false, List.filter_cons, List.filter_nil, bne_iff_ne, ne_eq, not_false_eq_true, HsC_nms, bs_nms, e1, e2]; rfl)]
    simp (disch := first | omega | decide | simp only [nms_B8, nms_B32, nms_B64, nms_I, nms_N, nms_Bo, nms_Un, nms_undef, nms_Hf, nms_ptr, nms_sl, aB_agg_nms, aW_agg_nms, aD_agg_nms, aO_agg_nms, List.flatMap_cons, List.flatMap_nil, List.nil_append, List.append_nil, ren_B8, ren_B32, ren_B64, ren_I, ren_N, ren_Bo, ren_Un, ren_undef, ren_Hf, aB_agg_ren, aW_agg_ren, aD_agg_ren, aO_agg_ren, List.map_cons, List.map_nil, ren7_I, ren7_N, ren7_Bo, ren7_B8, ren7_B32, ren7_B64, nms7_I, nms7_N, nms7_Bo, nms7_B8, nms7_B32, nms7_B64, nms_tup, ren_tup, implies_true, l17, l18, l19, l20, l36, l37, l38, l39, l43, l21, l22, l24, l25, l33, l35, l40, l42, l14, l27, bs_isCell, bs_nms, bs_ren, ibs_nms, ibs_ren, bs_length, aW_isCell, aB_isCell, isCell_sl, isCell_isl, isCell_nil, isCell_ptr, isCell_N]) only [List.map_cons, List.map_nil, Option.map_some, Nat.reduceAdd, Prod.mk.injEq, Nat.reduceEqDiff, and_true, if_true, if_false, Nat.zero_add, idx_cons, canonMap_ne, List.filterMap_nil, Option.map_some, bs_ren, List.filterMap_cons, List.range_zero, ren_ptrF, ren_slF, ptrO_some, slO_some, HsC_ren, e1, e2]

theorem begin_call (K : Nat) (hK : 1000 ≤ K) (g : Nat → BitVec 8) (x : BitVec 8) : ∃ c l', RFN (xl g x) c l' ∧ ∀ (b : Nat) (H : Heap), callOp (envC C (K + 1)) H b 42 [.agg (aB 64 g), B8 x] = some ⟨.ptr (b, 0) 0, [hC (xl g x) (b, 1) c, bs l'], []⟩ := by
  obtain ⟨c, l', h, hF⟩ := begin_F K hK g x
  refine ⟨c, l', h, fun b H => ?_⟩
  rw [callOp_C l42 (by simp only [List.flatMap_cons, List.flatMap_nil, aB_agg_nms, nms_B8, List.append_nil]) (by simp only [List.map_cons, List.map_nil, aB_agg_ren, ren_B8]), hF]
  simp only [calK, backTo_eq, List.length_cons, List.length_nil, List.map_cons, List.map_nil, List.zipWith_nil_left, Nat.zero_add, Nat.reduceAdd, ren_ptrF, toCaller_1, Nat.reduceLT, ptrO_some, HsC_ren, ren_slF, slO_some, bs_ren]

/-- a key made ready -/
def rk (key : List (BitVec 8)) : List (BitVec 8) := if 64 < key.length then dl key else key
def rdy (key : List (BitVec 8)) : Nat → BitVec 8 := fun i => (rk key).getD i 0#8
theorem rk_length (key : List (BitVec 8)) : (rk key).length ≤ 64 := by
  unfold rk; split
  · rw [dl_length]; omega
  · omega
def ik (key : List (BitVec 8)) : List (BitVec 8) := xl (rdy key) 54#8
def ok (key : List (BitVec 8)) : List (BitVec 8) := xl (rdy key) 92#8
theorem ik_length (key : List (BitVec 8)) : (ik key).length = 64 := xl_length _ _
theorem ok_length (key : List (BitVec 8)) : (ok key).length = 64 := xl_length _ _
/-- the tag of a message -/
def tagv (key msg : List (BitVec 8)) : Nat → BitVec 8 := dig (ok key ++ dl (ik key ++ msg))
theorem rdy_row (k : List (BitVec 8)) (h : k.length ≤ 64) : bs (k ++ List.replicate (64 - k.length) 0#8) = aB 64 fun i => k.getD i 0#8 := by
  rw [bs_aB _ 64 (by simp; omega)]
  apply aB_ext
  intro i hi
  rw [List.getD_eq_getElem?_getD, List.getD_eq_getElem?_getD]
  by_cases h1 : i < k.length
  · rw [List.getElem?_append_left h1]
  · rw [List.getElem?_append_right (by omega), List.getElem?_eq_none (by omega : k.length ≤ i)]
    rw [List.getElem?_replicate]; split <;> rfl

theorem cp_key (H : Heap) (m : Nm) (y : LV) (k : List (BitVec 8)) (hk : k.length ≤ 64) (hm : H m = some (aB 64 fun _ => 0#8)) (hf : front H 1 k.length y = some (bs k)) :
    ∃ ms, cpK 1 H (.sl m 0 64 (some 64) 1) y (some k.length) = some ⟨N k.length, [], ms⟩ ∧ modN ms H = upd H m (some (aB 64 fun i => k.getD i 0#8)) := by
  by_cases h0 : k.length = 0
  · refine ⟨[], ?_, ?_⟩
    · rw [cp_zero _ _ _ _ _ _ _ _ (by omega), h0]
    · have : k = [] := List.length_eq_zero_iff.1 h0
      subst this
      rw [modN_nil]
      exact (upd_id hm).symm
  · have hm' : H m = some (bs (List.replicate 64 0#8)) := by rw [hm, ← aB_rep, ← bs_rep]
    have hmin : min k.length 64 = k.length := by omega
    refine ⟨_, cp_bytes k.length m 0 64 (some 64) y (List.replicate 64 0#8) k (by omega) (by rw [hmin]; exact hf) hm' (by simp; omega) |>.trans (by rw [hmin]), ?_⟩
    rw [modN_cons, modN_nil]
    congr 1
    rw [List.take_zero, List.nil_append, Nat.zero_add, List.drop_replicate, rdy_row k hk]

def mNew (b : Nat) (a : List (BitVec 8)) (c : Option Nat) (l o : List (BitVec 8)) (c2 : Option Nat) (l2 : List (BitVec 8)) : List Cells :=
  [[.ptr (b, 1) 0, .ptr (b, 3) 0], hC a (b, 2) c, bs l, hC o (b, 4) c2, bs l2]

set_option maxRecDepth 10000 in
theorem mnew_F (K : Nat) (key : List (BitVec 8)) (hb : key.length ≤ 211106232000000) (hK : key.length / 64 + 1100 ≤ K) :
    ∃ c l c2 l2, RFN (ik key) c l ∧ RFN (ok key) c2 l2 ∧ F C (K + 1) 32 [.isl (bs key) key.length] [] = some (.ptr (1, 0) 0, [], mNew 1 (ik key) c l (ok key) c2 l2) := by
  obtain ⟨c, l, hrf, hb1⟩ := begin_call (K - 1) (by omega) (rdy key) 54#8
  obtain ⟨c2, l2, hrf2, hb2⟩ := begin_call (K - 1) (by omega) (rdy key) 92#8
  rw [show K - 1 + 1 = K by omega] at hb1 hb2
  refine ⟨c, l, c2, l2, hrf, hrf2, ?_⟩
  rw [F_succ f32]
  have hrl := rk_length key
  have hs := fun bn (H : Heap) => sum_call K bn H (.isl (bs key) key.length) key (by omega) (lent_isl H key []) (by omega)
  by_cases h64 : 64 < key.length
  · have hrk : rk key = dl key := by rw [rk, if_pos h64]
    have hdl := dl_length key
    simp (disch := first | omega | decide | simp only [nms_B8, nms_B32, nms_B64, nms_I, nms_N, nms_Bo, nms_Un, nms_undef, nms_Hf, nms_ptr, nms_sl, aB_agg_nms, aW_agg_nms, aD_agg_nms, aO_agg_nms, List.flatMap_cons, List.flatMap_nil, List.nil_append, List.append_nil, ren_B8, ren_B32, ren_B64, ren_I, ren_N, ren_Bo, ren_Un, ren_undef, ren_Hf, aB_agg_ren, aW_agg_ren, aD_agg_ren, aO_agg_ren, List.map_cons, List.map_nil, ren7_I, ren7_N, ren7_Bo, ren7_B8, ren7_B32, ren7_B64, nms7_I, nms7_N, nms7_Bo, nms7_B8, nms7_B32, nms7_B64, nms_tup, ren_tup, implies_true, l17, l18, l19, l20, l36, l37, l38, l39, l43, l21, l22, l24, l25, l33, l35, l40, l42, l14, l27, bs_isCell, bs_nms, bs_ren, ibs_nms, ibs_ren, bs_length, aW_isCell, aB_isCell, isCell_sl, isCell_isl, isCell_nil, isCell_ptr, isCell_N]) only [funSem_eq, ev_seq, ev_region, regK_some, evOpers_nil, evOpers_cons, stepK_pure, put_some, put_none, evX_t, evX_c, outR_some, op_mv, op_bin, op_call, callV_fn, andThen_normal, ev_cond, condK_true, List.set_cons_zero, List.set_cons_succ, List.getD_cons_zero, List.getD_cons_succ, List.map_cons, List.map_nil, List.nil_append, List.cons_append, repUn_succ, List.replicate_zero, List.length_cons, List.length_nil, Nat.reduceAdd, Nat.reduceSub, upd_at, stepK_new, stepK_mod, cellsOf_agg, op_new, op_st, stV_ptr, Prod.mk.injEq, Nat.reduceEqDiff, and_true, if_true, if_false, Nat.zero_add, Nat.add_zero, decide_true, aB_rep, aB_st_all, Nat.mul_one, Nat.add_zero, Nat.zero_add, N_gtr, Nat.reduceEqDiff, Nat.reduceAdd, decide_true, op_len, lenV_some, lenS_isl, lenOf_sl, op_copy, optNat_none, op_slcAV, slcAV_ptr, Nat.sub_zero, Nat.mul_one, inHeap_none, L32, h64, hs]
    generalize hH3 : upd _ _ (some (aB 32 (dig key))) = H3
    have h3 : H3 (3, 0) = some (aB 64 fun _ => 0#8) := by rw [← hH3]; simp only [upd_at, Prod.mk.injEq, Nat.reduceEqDiff, and_true, if_true, if_false]
    have h9 : H3 (9, 0) = some (bs (dl key)) := by rw [← hH3, ← aB_dl]; simp only [upd_at, Prod.mk.injEq, Nat.reduceEqDiff, and_true, if_true, if_false]
    have hf := front_bytes (9, 0) 0 32 (some 32) _ h9 (by omega)
    rw [List.drop_zero, List.take_of_length_le (by omega)] at hf
    obtain ⟨ms, hcp, hms⟩ := cp_key H3 (3, 0) (.sl (9, 0) 0 32 (some 32) 1) (dl key) (by omega) h3 (by rw [hdl]; exact hf)
    rw [hdl] at hcp
    rw [show (fun i => (dl key).getD i 0#8) = rdy key by funext i; rw [rdy, hrk]] at hms
    simp (disch := first | omega | decide | simp only [nms_B8, nms_B32, nms_B64, nms_I, nms_N, nms_Bo, nms_Un, nms_undef, nms_Hf, nms_ptr, nms_sl, aB_agg_nms, aW_agg_nms, aD_agg_nms, aO_agg_nms, List.flatMap_cons, List.flatMap_nil, List.nil_append, List.append_nil, ren_B8, ren_B32, ren_B64, ren_I, ren_N, ren_Bo, ren_Un, ren_undef, ren_Hf, aB_agg_ren, aW_agg_ren, aD_agg_ren, aO_agg_ren, List.map_cons, List.map_nil, ren7_I, ren7_N, ren7_Bo, ren7_B8, ren7_B32, ren7_B64, nms7_I, nms7_N, nms7_Bo, nms7_B8, nms7_B32, nms7_B64, nms_tup, ren_tup, implies_true, l17, l18, l19, l20, l36, l37, l38, l39, l43, l21, l22, l24, l25, l33, l35, l40, l42, l14, l27, bs_isCell, bs_nms, bs_ren, ibs_nms, ibs_ren, bs_length, aW_isCell, aB_isCell, isCell_sl, isCell_isl, isCell_nil, isCell_ptr, isCell_N]) only [ev_ret, ev_seq, ev_region, regK_some, evOpers_nil, evOpers_cons, put_some, evX_t, evX_c, op_mv, op_call, callV_fn, andThen_normal, retK_ret, resVal_tmp, nms_B8, List.set_cons_zero, List.set_cons_succ, List.getD_cons_zero, List.getD_cons_succ, List.map_cons, List.map_nil, List.flatMap_cons, List.flatMap_nil, List.nil_append, List.cons_append, List.append_nil, List.length_cons, List.length_nil, Option.map_some, Nat.reduceAdd, Nat.reduceSub, upd_at, cellsOf_agg, cellAt_ptr, ldK_some, op_ld, op_box, boxK_some, fill_nil, fill_cons, fillK_some, aggR_some, op_build, splice, List.take_succ_cons, List.take_zero, List.drop_succ_cons, List.drop_zero, List.drop_nil, List.all_cons, List.all_nil, Bool.and_true, Prod.mk.injEq, Nat.reduceEqDiff, Nat.reduceLeDiff, Nat.reduceLT, and_true, and_self, if_true, if_false, Nat.zero_add, Nat.add_zero, Nat.le_refl, decide_true, Nat.zero_ne_one, aB_cells, aB_agg_nms, Nat.add_zero, Nat.zero_add, Nat.reduceLT, Nat.reduceLeDiff, Nat.reduceEqDiff, Nat.reduceAdd, decide_true, Bool.not_false, Bool.not_true, cellsOf_ptr, updN_nil, updN_cons, modN_nil, Option.map_some, evOpers_ord, stepO_eq, only_at, touch_ld, touch_call, nms_fn, nms_ptr, List.contains_cons, List.contains_nil, beq_self_eq_true, Bool.or_true, Bool.or_false, ordOk, apartFrom, List.all_cons, List.all_nil, Nat.testBit, Nat.reduceShiftRight, Nat.reduceAnd, Nat.reduceBEq, Bool.not_true, Bool.not_false, Bool.and_self, Bool.and_true, Nat.reduceSub, Nat.reduceLT, bne, FUEL, reach_nil, nms_ptr, nms_B8, List.flatMap_cons, List.flatMap_nil, List.nil_append, List.cons_append, List.append_nil, List.map_nil, List.map_cons, List.contains_nil, List.contains_cons, Prod.mk.injEq, Nat.reduceEqDiff, Nat.reduceBEq, and_true, if_true, if_false, Nat.zero_ne_one, upd_at, Nat.reduceAdd, stepK_gen, hcp, hms, hb1, hb2, ordK_gen]
    rw [outOf_mem 0 _ _ [(21, 0), (17, 0), (17, 1), (19, 0), (19, 1)] (by simp only [canonNames, FUEL, reach_cons, reachK_some, reach_nil, nms_ptr, nms_sl, List.flatMap_cons, List.flatMap_nil, List.nil_append, List.cons_append, List.append_nil, List.range_zero, List.map_nil, List.contains_nil, List.contains_cons, Prod.mk.injEq, beq_iff_eq, Bool.or_eq_true, Bool.false_eq_true, Nat.reduceEqDiff, and_true, and_false, or_false, if_true, if_false, Nat.one_ne_zero, Nat.zero_ne_one, List.filter_cons, List.filter_nil, bne_iff_ne, ne_eq, not_false_eq_true, upd_at, HsC_nms, bs_nms])]
    simp (disch := first | omega | decide | simp only [nms_B8, nms_B32, nms_B64, nms_I, nms_N, nms_Bo, nms_Un, nms_undef, nms_Hf, nms_ptr, nms_sl, aB_agg_nms, aW_agg_nms, aD_agg_nms, aO_agg_nms, List.flatMap_cons, List.flatMap_nil, List.nil_append, List.append_nil, ren_B8, ren_B32, ren_B64, ren_I, ren_N, ren_Bo, ren_Un, ren_undef, ren_Hf, aB_agg_ren, aW_agg_ren, aD_agg_ren, aO_agg_ren, List.map_cons, List.map_nil, ren7_I, ren7_N, ren7_Bo, ren7_B8, ren7_B32, ren7_B64, nms7_I, nms7_N, nms7_Bo, nms7_B8, nms7_B32, nms7_B64, nms_tup, ren_tup, implies_true, l17, l18, l19, l20, l36, l37, l38, l39, l43, l21, l22, l24, l25, l33, l35, l40, l42, l14, l27, bs_isCell, bs_nms, bs_ren, ibs_nms, ibs_ren, bs_length, aW_isCell, aB_isCell, isCell_sl, isCell_isl, isCell_nil, isCell_ptr, isCell_N]) only [List.map_cons, List.map_nil, Option.map_some, Nat.reduceAdd, upd_at, Prod.mk.injEq, Nat.reduceEqDiff, and_true, and_false, false_and, and_self, if_true, if_false, Nat.zero_add, Nat.one_ne_zero, Nat.zero_ne_one, idx_cons, canonMap_ne, List.filterMap_nil, Option.map_some, bs_ren, List.filterMap_cons, List.range_zero, ren_ptrF, ren_slF, ptrO_some, slO_some, HsC_ren, mNew, ik, ok]
  · have hrk : rk key = key := by rw [rk, if_neg h64]
    simp (disch := first | omega | decide | simp only [nms_B8, nms_B32, nms_B64, nms_I, nms_N, nms_Bo, nms_Un, nms_undef, nms_Hf, nms_ptr, nms_sl, aB_agg_nms, aW_agg_nms, aD_agg_nms, aO_agg_nms, List.flatMap_cons, List.flatMap_nil, List.nil_append, List.append_nil, ren_B8, ren_B32, ren_B64, ren_I, ren_N, ren_Bo, ren_Un, ren_undef, ren_Hf, aB_agg_ren, aW_agg_ren, aD_agg_ren, aO_agg_ren, List.map_cons, List.map_nil, ren7_I, ren7_N, ren7_Bo, ren7_B8, ren7_B32, ren7_B64, nms7_I, nms7_N, nms7_Bo, nms7_B8, nms7_B32, nms7_B64, nms_tup, ren_tup, implies_true, l17, l18, l19, l20, l36, l37, l38, l39, l43, l21, l22, l24, l25, l33, l35, l40, l42, l14, l27, bs_isCell, bs_nms, bs_ren, ibs_nms, ibs_ren, bs_length, aW_isCell, aB_isCell, isCell_sl, isCell_isl, isCell_nil, isCell_ptr, isCell_N]) only [funSem_eq, ev_skip, ev_seq, ev_region, regK_some, evOpers_nil, evOpers_cons, stepK_pure, put_some, evX_t, evX_c, outR_some, op_mv, op_bin, andThen_normal, ev_cond, condK_false, List.set_cons_zero, List.set_cons_succ, List.getD_cons_zero, List.getD_cons_succ, List.nil_append, List.cons_append, repUn_succ, List.replicate_zero, List.length_cons, List.length_nil, Nat.reduceAdd, Nat.reduceSub, stepK_new, op_new, Nat.zero_add, Nat.add_zero, decide_false, aB_rep, Nat.mul_one, Nat.add_zero, Nat.zero_add, N_gtr, Nat.reduceAdd, decide_false, op_len, lenV_some, lenS_isl, lenOf_isl, op_copy, optNat_none, op_slcAV, slcAV_ptr, Nat.sub_zero, Nat.mul_one, L32, h64]
    generalize hH3 : upd _ _ (some (aB 64 fun _ => 0#8)) = H3
    have h3 : H3 (3, 0) = some (aB 64 fun _ => 0#8) := by rw [← hH3]; simp only [upd_at, if_true]
    obtain ⟨ms, hcp, hms⟩ := cp_key H3 (3, 0) (.isl (bs key) key.length) key (by omega) h3 (front_ibytes key key.length rfl)
    rw [show (fun i => key.getD i 0#8) = rdy key by funext i; rw [rdy, hrk]] at hms
    simp (disch := first | omega | decide | simp only [nms_B8, nms_B32, nms_B64, nms_I, nms_N, nms_Bo, nms_Un, nms_undef, nms_Hf, nms_ptr, nms_sl, aB_agg_nms, aW_agg_nms, aD_agg_nms, aO_agg_nms, List.flatMap_cons, List.flatMap_nil, List.nil_append, List.append_nil, ren_B8, ren_B32, ren_B64, ren_I, ren_N, ren_Bo, ren_Un, ren_undef, ren_Hf, aB_agg_ren, aW_agg_ren, aD_agg_ren, aO_agg_ren, List.map_cons, List.map_nil, ren7_I, ren7_N, ren7_Bo, ren7_B8, ren7_B32, ren7_B64, nms7_I, nms7_N, nms7_Bo, nms7_B8, nms7_B32, nms7_B64, nms_tup, ren_tup, implies_true, l17, l18, l19, l20, l36, l37, l38, l39, l43, l21, l22, l24, l25, l33, l35, l40, l42, l14, l27, bs_isCell, bs_nms, bs_ren, ibs_nms, ibs_ren, bs_length, aW_isCell, aB_isCell, isCell_sl, isCell_isl, isCell_nil, isCell_ptr, isCell_N]) only [ev_ret, ev_seq, ev_region, regK_some, evOpers_nil, evOpers_cons, put_some, evX_t, evX_c, op_mv, op_call, callV_fn, andThen_normal, retK_ret, resVal_tmp, nms_B8, List.set_cons_zero, List.set_cons_succ, List.getD_cons_zero, List.getD_cons_succ, List.map_cons, List.map_nil, List.flatMap_cons, List.flatMap_nil, List.nil_append, List.cons_append, List.append_nil, List.length_cons, List.length_nil, Option.map_some, Nat.reduceAdd, Nat.reduceSub, upd_at, cellsOf_agg, cellAt_ptr, ldK_some, op_ld, op_box, boxK_some, fill_nil, fill_cons, fillK_some, aggR_some, op_build, splice, List.take_succ_cons, List.take_zero, List.drop_succ_cons, List.drop_zero, List.drop_nil, List.all_cons, List.all_nil, Bool.and_true, Prod.mk.injEq, Nat.reduceEqDiff, Nat.reduceLeDiff, Nat.reduceLT, and_true, and_self, if_true, if_false, Nat.zero_add, Nat.add_zero, Nat.le_refl, decide_true, Nat.zero_ne_one, aB_cells, aB_agg_nms, Nat.add_zero, Nat.zero_add, Nat.reduceLT, Nat.reduceLeDiff, Nat.reduceEqDiff, Nat.reduceAdd, decide_true, Bool.not_false, Bool.not_true, cellsOf_ptr, updN_nil, updN_cons, modN_nil, Option.map_some, evOpers_ord, stepO_eq, only_at, touch_ld, touch_call, nms_fn, nms_ptr, List.contains_cons, List.contains_nil, beq_self_eq_true, Bool.or_true, Bool.or_false, ordOk, apartFrom, List.all_cons, List.all_nil, Nat.testBit, Nat.reduceShiftRight, Nat.reduceAnd, Nat.reduceBEq, Bool.not_true, Bool.not_false, Bool.and_self, Bool.and_true, Nat.reduceSub, Nat.reduceLT, bne, FUEL, reach_nil, nms_ptr, nms_B8, List.flatMap_cons, List.flatMap_nil, List.nil_append, List.cons_append, List.append_nil, List.map_nil, List.map_cons, List.contains_nil, List.contains_cons, Prod.mk.injEq, Nat.reduceEqDiff, Nat.reduceBEq, and_true, if_true, if_false, Nat.zero_ne_one, upd_at, Nat.reduceAdd, stepK_gen, hcp, hms, hb1, hb2, ordK_gen]
    rw [outOf_mem 0 _ _ [(15, 0), (11, 0), (11, 1), (13, 0), (13, 1)] (by simp only [canonNames, FUEL, reach_cons, reachK_some, reach_nil, nms_ptr, nms_sl, List.flatMap_cons, List.flatMap_nil, List.nil_append, List.cons_append, List.append_nil, List.range_zero, List.map_nil, List.contains_nil, List.contains_cons, Prod.mk.injEq, beq_iff_eq, Bool.or_eq_true, Bool.false_eq_true, Nat.reduceEqDiff, and_true, and_false, or_false, if_true, if_false, Nat.one_ne_zero, Nat.zero_ne_one, List.filter_cons, List.filter_nil, bne_iff_ne, ne_eq, not_false_eq_true, upd_at, HsC_nms, bs_nms])]
    simp (disch := first | omega | decide | simp only [nms_B8, nms_B32, nms_B64, nms_I, nms_N, nms_Bo, nms_Un, nms_undef, nms_Hf, nms_ptr, nms_sl, aB_agg_nms, aW_agg_nms, aD_agg_nms, aO_agg_nms, List.flatMap_cons, List.flatMap_nil, List.nil_append, List.append_nil, ren_B8, ren_B32, ren_B64, ren_I, ren_N, ren_Bo, ren_Un, ren_undef, ren_Hf, aB_agg_ren, aW_agg_ren, aD_agg_ren, aO_agg_ren, List.map_cons, List.map_nil, ren7_I, ren7_N, ren7_Bo, ren7_B8, ren7_B32, ren7_B64, nms7_I, nms7_N, nms7_Bo, nms7_B8, nms7_B32, nms7_B64, nms_tup, ren_tup, implies_true, l17, l18, l19, l20, l36, l37, l38, l39, l43, l21, l22, l24, l25, l33, l35, l40, l42, l14, l27, bs_isCell, bs_nms, bs_ren, ibs_nms, ibs_ren, bs_length, aW_isCell, aB_isCell, isCell_sl, isCell_isl, isCell_nil, isCell_ptr, isCell_N]) only [List.map_cons, List.map_nil, Option.map_some, Nat.reduceAdd, upd_at, Prod.mk.injEq, Nat.reduceEqDiff, and_true, and_false, false_and, and_self, if_true, if_false, Nat.zero_add, Nat.one_ne_zero, Nat.zero_ne_one, idx_cons, canonMap_ne, List.filterMap_nil, Option.map_some, bs_ren, List.filterMap_cons, List.range_zero, ren_ptrF, ren_slF, ptrO_some, slO_some, HsC_ren, mNew, ik, ok]

theorem ren_mNew (b : Nat) (a : List (BitVec 8)) (c : Option Nat) (l o : List (BitVec 8)) (c2 : Option Nat) (l2 : List (BitVec 8)) :
    (mNew 1 a c l o c2 l2).map (fun cs => cs.map (ren D (toCaller [] b 5))) = mNew b a c l o c2 l2 := by
  simp only [mNew, List.map_cons, List.map_nil, ren_ptrF, HsC_ren, ren_slF, bs_ren, toCaller_1, Nat.reduceLT, ptrO_some, slO_some]

theorem mnew_call {K b : Nat} {H : Heap} {B : LV} {key : List (BitVec 8)} {r : Option Out} (hc : callOp (envC C (K + 1)) H b 32 [B] = r) (hB : Lent H B key []) (hb : key.length ≤ 211106232000000) (hK : key.length / 64 + 1100 ≤ K) :
    ∃ news H2, r = some ⟨.ptr (b, 0) 0, news, []⟩ ∧ updN b 0 news H = H2 ∧ MG H2 (b, 0) (b, 1) (b, 2) (b, 3) (b, 4) (ik key) (ok key) ∧ ∀ m, m.1 ≠ b → H2 m = H m := by
  subst hc
  obtain ⟨c, l, c2, l2, h1, h2, hF⟩ := mnew_F K key hb hK
  obtain ⟨lent, hs, hl⟩ := hB.snap
  have hlend : lend H ((envC C (K + 1)).borrow 32) 0 [B] = some ([.isl (bs key) key.length], lent) := by
    rw [lend_cons, lend_nil, envC_borrow, C_bor, if_pos (show lentF 32 0 = true by decide), hs, lendC_some, List.append_nil]
  have hn : ([.isl (bs key) key.length] : List LV).flatMap (nms D) = [] := by
    simp only [List.flatMap_cons, List.flatMap_nil, ibs_nms, List.append_nil]
  have ha : ([.isl (bs key) key.length] : List LV).map (ren D (toCallee [])) = [.isl (bs key) key.length] := by
    simp only [List.map_cons, List.map_nil, ibs_ren]
  have hp : plainRes (.ptr (1, 0) 0, [], mNew 1 (ik key) c l (ok key) c2 l2) = true := by
    simp [plainRes, mNew, noImm_HsC, noImm_bs]; exact ⟨rfl, rfl, rfl⟩
  have hcall : callOp (envC C (K + 1)) H b 32 [B] = some ⟨.ptr (b, 0) 0, mNew b (ik key) c l (ok key) c2 l2, []⟩ := by
    rw [callOp_L, hlend, callL_some, hn, show reach H FUEL [] [] = [] from rfl, callN_eq _ _ _ _ _ hl, ha, List.filterMap_nil, List.map_nil, envC_cal, hF, resK_any _ _ _ _ hp, backTo_eq]
    rw [show (mNew 1 (ik key) c l (ok key) c2 l2).length = 5 from rfl, ren_mNew]
    simp only [ren_ptrF, toCaller_1, ptrO_some, List.zipWith_nil_left, Nat.zero_lt_succ]
  refine ⟨_, _, hcall, rfl, ⟨by simp, ?_, ⟨c, l, h1, ?_, ?_⟩, ⟨c2, l2, h2, ?_, ?_⟩⟩, ?_⟩
  all_goals try (rw [updN_at]; simp [mNew]; done)
  intro m hm
  rw [updN_at, if_neg (fun h => hm h.1)]

/-! ### Tag -/

def tJ (key : List (BitVec 8)) (L : List (List (BitVec 8))) (i : Nat) (st : St) : Prop := ∃ (H : Heap), st = ⟨[.undef, .undef, .undef, .undef, .ptr (1, 0) 0, .ptr (1, 1) 0, .undef, .undef, .undef, .undef, .isl (sls L) L.length, N L.length, N i, .undef, .undef, .undef, .undef, .undef, .undef, .undef, .undef, .undef], H, 2, 0⟩ ∧
  H (1, 0) = some (aB 32 fun _ => 0#8) ∧ MG H (1, 1) (1, 2) (1, 3) (1, 4) (1, 5) (ik key ++ al L i) (ok key)

set_option maxRecDepth 10000 in
theorem t_round (K k0 : Nat) (key : List (BitVec 8)) (L : List (List (BitVec 8))) (hL : L.flatten.length ≤ 211106231000000) (hLl : L.length ≤ 211106232000000) (hK : L.flatten.length / 64 + 300 ≤ k0) (i : Nat) (hi : i < L.length) (st : St) (hI : tJ key L i st) :
    ∃ st1, ev (envC C (k0 + 1)) K L28b0 st = some (.normal, st1) ∧ tJ key L (i + 1) (canon L28k0 st1) := by
  obtain ⟨H, rfl, h1, M⟩ := hI
  have ha := al_succ L i hi
  have hal := al_le L i
  have hal1 := al_le L (i + 1)
  have hik := ik_length key
  obtain ⟨b, hb⟩ : ∃ b, b = L.getD i [] := ⟨_, rfl⟩
  have hcell := fun H => sls_cell (H := H) L i hi
  rw [← hb] at ha hcell
  rw [ha, List.length_append] at hal1
  simp (disch := first | omega | decide | simp only [nms_B8, nms_B32, nms_B64, nms_I, nms_N, nms_Bo, nms_Un, nms_undef, nms_Hf, nms_ptr, nms_sl, aB_agg_nms, aW_agg_nms, aD_agg_nms, aO_agg_nms, List.flatMap_cons, List.flatMap_nil, List.nil_append, List.append_nil, ren_B8, ren_B32, ren_B64, ren_I, ren_N, ren_Bo, ren_Un, ren_undef, ren_Hf, aB_agg_ren, aW_agg_ren, aD_agg_ren, aO_agg_ren, List.map_cons, List.map_nil, ren7_I, ren7_N, ren7_Bo, ren7_B8, ren7_B32, ren7_B64, nms7_I, nms7_N, nms7_Bo, nms7_B8, nms7_B32, nms7_B64, nms_tup, ren_tup, implies_true, l17, l18, l19, l20, l36, l37, l38, l39, l43, l21, l22, l24, l25, l33, l35, l40, l42, l14, l27, bs_isCell, bs_nms, bs_ren, ibs_nms, ibs_ren, bs_length, aW_isCell, aB_isCell, isCell_sl, isCell_isl, isCell_nil, isCell_ptr, isCell_N]) only [ev_skip, ev_seq, ev_block, ev_region, regK_some, evOpers_nil, evOpers_cons, stepK_pure, put_some, evX_t, evX_c, outR_some, op_mv, op_bin, op_call, callV_fn, andThen_normal, ev_cond, condK_true, List.set_cons_zero, List.set_cons_succ, List.getD_cons_zero, List.getD_cons_succ, List.map_cons, List.map_nil, List.length_cons, List.length_nil, Nat.reduceAdd, ld1K_some, op_ld1, Nat.zero_add, Nat.add_zero, decide_true, Nat.mul_one, Nat.add_zero, Nat.zero_add, N_lss, N_nat, Nat.reduceAdd, decide_true, op_iaS, iaSV_isl, Nat.mul_one, L28b0, hi, hcell]
  generalize hc : callOp _ _ _ _ _ = r
  obtain ⟨rN, news, ms, H2, rfl, hH2, M2, hr, _, hfr⟩ := mac_write hc M (lent_isl H b _) (by rw [List.length_append]; omega) (by rw [List.length_append]; omega) (by decide)
  have h12 : H2 (1, 0) = some (aB 32 fun _ => 0#8) := by rw [hfr _ (by decide) (by decide), h1]
  obtain ⟨nd, m, ⟨c, l, q1, q2, q3⟩, ⟨c2, l2, o1, o2, o3⟩⟩ := M2
  rw [List.append_assoc, ← ha] at q1 q2
  apply Exists.intro
  apply And.intro
  · simp (disch := first | omega | decide | simp only [nms_B8, nms_B32, nms_B64, nms_I, nms_N, nms_Bo, nms_Un, nms_undef, nms_Hf, nms_ptr, nms_sl, aB_agg_nms, aW_agg_nms, aD_agg_nms, aO_agg_nms, List.flatMap_cons, List.flatMap_nil, List.nil_append, List.append_nil, ren_B8, ren_B32, ren_B64, ren_I, ren_N, ren_Bo, ren_Un, ren_undef, ren_Hf, aB_agg_ren, aW_agg_ren, aD_agg_ren, aO_agg_ren, List.map_cons, List.map_nil, ren7_I, ren7_N, ren7_Bo, ren7_B8, ren7_B32, ren7_B64, nms7_I, nms7_N, nms7_Bo, nms7_B8, nms7_B32, nms7_B64, nms_tup, ren_tup, implies_true, l17, l18, l19, l20, l36, l37, l38, l39, l43, l21, l22, l24, l25, l33, l35, l40, l42, l14, l27, bs_isCell, bs_nms, bs_ren, ibs_nms, ibs_ren, bs_length, aW_isCell, aB_isCell, isCell_sl, isCell_isl, isCell_nil, isCell_ptr, isCell_N]) only [ev_region, regK_some, evOpers_nil, evOpers_cons, put_some, evX_t, evX_c, outR_some, op_mv, op_bin, andThen_normal, inBlock_normal, List.set_cons_zero, List.set_cons_succ, List.getD_cons_zero, List.getD_cons_succ, List.length_cons, List.length_nil, Nat.reduceAdd, Nat.zero_add, Nat.add_zero, Nat.add_zero, Nat.zero_add, N_add, Nat.reduceAdd, updN_nil, modN_nil, stepK_gen, hH2]
    rfl
  · rcases hr with rfl | rfl
    all_goals
      refine canon_inv [(1, 0), (1, 1), (1, 2), _, (1, 4), (1, 5)] rfl (by simp only [canonNames, FUEL, reach_cons, reachK_some, reach_nil, nms_ptr, nms_sl, nms_undef, List.flatMap_cons, List.flatMap_nil, List.nil_append, List.cons_append, List.append_nil, List.range_zero, List.map_nil, List.contains_nil, List.contains_cons, Prod.mk.injEq, beq_iff_eq, Bool.or_eq_true, Bool.false_eq_true, Nat.reduceEqDiff, and_true, and_false, or_false, if_true, if_false, Nat.one_ne_zero, Nat.zero_ne_one, List.filter_cons, List.filter_nil, bne_iff_ne, ne_eq, not_false_eq_true, mask_nil, mask_true, mask_false, nms_N, L28k0, h12, m, q2, q3, o2, o3, HsC_nms, bs_nms, aB_nms, sls_nms]; rfl) ?_ ⟨_, rfl, ?_, ⟨by decide, ?_, ⟨c, l, q1, ?_, ?_⟩, ⟨c2, l2, o1, ?_, ?_⟩⟩⟩
      · simp only [L28k0, List.map_cons, List.map_nil, ren_ptrF, mask_true, mask_false, mask_nil, ren_undef, sls_ren, ren_N]
        rfl
      · exact cN_same _ rfl h12 (aB_ren _ _ _)
      · rw [cN_one _ _ 1 _ _ rfl m]; rfl
      · rw [cN_one _ _ 2 _ _ rfl q2, HsC_ren]; rfl
      · exact cN_same _ rfl q3 (bs_ren _ _)
      · rw [cN_one _ _ 4 _ _ rfl o2, HsC_ren]; rfl
      · exact cN_same _ rfl o3 (bs_ren _ _)

set_option maxRecDepth 10000 in
theorem tag_F (K : Nat) (key : List (BitVec 8)) (L : List (List (BitVec 8))) (hk : key.length ≤ 211106232000000) (hL : L.flatten.length ≤ 211106231000000) (hLl : L.length ≤ 211106232000000)
    (hK : key.length / 64 + L.flatten.length / 64 + L.length + 1200 ≤ K) : F C (K + 2) 28 [.isl (bs key) key.length, .isl (sls L) L.length] [] = some (.agg (aB 32 (tagv key L.flatten)), [], []) := by
  rw [F_succ f28]
  have hik := ik_length key
  have hok := ok_length key
  simp (disch := first | omega | decide | simp only [nms_B8, nms_B32, nms_B64, nms_I, nms_N, nms_Bo, nms_Un, nms_undef, nms_Hf, nms_ptr, nms_sl, aB_agg_nms, aW_agg_nms, aD_agg_nms, aO_agg_nms, List.flatMap_cons, List.flatMap_nil, List.nil_append, List.append_nil, ren_B8, ren_B32, ren_B64, ren_I, ren_N, ren_Bo, ren_Un, ren_undef, ren_Hf, aB_agg_ren, aW_agg_ren, aD_agg_ren, aO_agg_ren, List.map_cons, List.map_nil, ren7_I, ren7_N, ren7_Bo, ren7_B8, ren7_B32, ren7_B64, nms7_I, nms7_N, nms7_Bo, nms7_B8, nms7_B32, nms7_B64, nms_tup, ren_tup, implies_true, l17, l18, l19, l20, l36, l37, l38, l39, l43, l21, l22, l24, l25, l33, l35, l40, l42, l14, l27, bs_isCell, bs_nms, bs_ren, ibs_nms, ibs_ren, bs_length, aW_isCell, aB_isCell, isCell_sl, isCell_isl, isCell_nil, isCell_ptr, isCell_N]) only [funSem_eq, ev_seq, ev_region, regK_some, evOpers_nil, evOpers_cons, stepK_pure, put_some, evX_t, evX_c, op_mv, op_call, callV_fn, andThen_normal, List.set_cons_zero, List.set_cons_succ, List.getD_cons_zero, List.getD_cons_succ, List.map_cons, List.map_nil, List.nil_append, List.cons_append, repUn_succ, List.replicate_zero, List.length_cons, List.length_nil, Nat.reduceAdd, Nat.reduceSub, stepK_new, op_new, Nat.zero_add, Nat.add_zero, aB_rep, Nat.add_zero, Nat.zero_add, Nat.reduceAdd, L28]
  generalize hc : callOp _ _ _ _ _ = r
  obtain ⟨news, H2, rfl, hH2, M, hfr⟩ := mnew_call hc (lent_isl _ key []) hk (by omega)
  have h22 : H2 (2, 0) = some (aB 32 fun _ => 0#8) := by rw [hfr _ (by decide)]; simp only [upd_at, if_true]
  simp (disch := first | omega | decide | simp only [nms_B8, nms_B32, nms_B64, nms_I, nms_N, nms_Bo, nms_Un, nms_undef, nms_Hf, nms_ptr, nms_sl, aB_agg_nms, aW_agg_nms, aD_agg_nms, aO_agg_nms, List.flatMap_cons, List.flatMap_nil, List.nil_append, List.append_nil, ren_B8, ren_B32, ren_B64, ren_I, ren_N, ren_Bo, ren_Un, ren_undef, ren_Hf, aB_agg_ren, aW_agg_ren, aD_agg_ren, aO_agg_ren, List.map_cons, List.map_nil, ren7_I, ren7_N, ren7_Bo, ren7_B8, ren7_B32, ren7_B64, nms7_I, nms7_N, nms7_Bo, nms7_B8, nms7_B32, nms7_B64, nms_tup, ren_tup, implies_true, l17, l18, l19, l20, l36, l37, l38, l39, l43, l21, l22, l24, l25, l33, l35, l40, l42, l14, l27, bs_isCell, bs_nms, bs_ren, ibs_nms, ibs_ren, bs_length, aW_isCell, aB_isCell, isCell_sl, isCell_isl, isCell_nil, isCell_ptr, isCell_N]) only [ev_seq, ev_block, ev_region, regK_some, evOpers_nil, evOpers_cons, put_some, evX_t, evX_c, op_mv, andThen_normal, List.set_cons_zero, List.set_cons_succ, List.getD_cons_zero, List.getD_cons_succ, List.length_cons, List.length_nil, ev_loop, Nat.reduceAdd, Nat.zero_add, Nat.add_zero, Nat.add_zero, Nat.zero_add, Nat.reduceAdd, op_len, lenV_some, lenS_isl, updN_nil, modN_nil, stepK_gen, hH2]
  generalize hLp : loopN L28k0 _ _ _ = r
  refine loop_use hLp (tJ key L) L.length (by omega) (fun i st hi hI => t_round _ _ key L hL hLl (by omega) i hi st hI) ?_ ?_ ?_
  · obtain ⟨nd, m, ⟨c, l, q1, q2, q3⟩, ⟨c2, l2, o1, o2, o3⟩⟩ := M
    refine canon_inv [(2, 0), _, _, _, _, _] rfl (by simp only [canonNames, FUEL, reach_cons, reachK_some, reach_nil, nms_ptr, nms_sl, nms_undef, List.flatMap_cons, List.flatMap_nil, List.nil_append, List.cons_append, List.append_nil, List.range_zero, List.map_nil, List.contains_nil, List.contains_cons, Prod.mk.injEq, beq_iff_eq, Bool.or_eq_true, Bool.false_eq_true, Nat.reduceEqDiff, and_true, and_false, or_false, if_true, if_false, Nat.one_ne_zero, List.filter_cons, List.filter_nil, bne_iff_ne, ne_eq, not_false_eq_true, mask_nil, mask_true, mask_false, nms_N, L28k0, h22, m, q2, q3, o2, o3, HsC_nms, bs_nms, aB_nms, sls_nms]; rfl) ?_ ⟨_, rfl, ?_, ⟨by decide, ?_, ⟨c, l, ?_, ?_, ?_⟩, ⟨c2, l2, o1, ?_, ?_⟩⟩⟩
    · simp only [L28k0, List.map_cons, List.map_nil, ren_ptrF, mask_true, mask_false, mask_nil, ren_undef, sls_ren, ren_N]
      rfl
    · exact cN_same _ rfl h22 (aB_ren _ _ _)
    · rw [cN_one _ _ 1 _ _ rfl m]; rfl
    · rw [show al L 0 = [] from rfl, List.append_nil]; exact q1
    · rw [show al L 0 = [] from rfl, List.append_nil, cN_one _ _ 2 _ _ rfl q2, HsC_ren]; rfl
    · exact cN_same _ rfl q3 (bs_ren _ _)
    · rw [cN_one _ _ 4 _ _ rfl o2, HsC_ren]; rfl
    · exact cN_same _ rfl o3 (bs_ren _ _)
  · rintro st ⟨H, rfl, h1, M⟩
    apply stop_exit
    simp (disch := first | omega | decide | simp only [nms_B8, nms_B32, nms_B64, nms_I, nms_N, nms_Bo, nms_Un, nms_undef, nms_Hf, nms_ptr, nms_sl, aB_agg_nms, aW_agg_nms, aD_agg_nms, aO_agg_nms, List.flatMap_cons, List.flatMap_nil, List.nil_append, List.append_nil, ren_B8, ren_B32, ren_B64, ren_I, ren_N, ren_Bo, ren_Un, ren_undef, ren_Hf, aB_agg_ren, aW_agg_ren, aD_agg_ren, aO_agg_ren, List.map_cons, List.map_nil, ren7_I, ren7_N, ren7_Bo, ren7_B8, ren7_B32, ren7_B64, nms7_I, nms7_N, nms7_Bo, nms7_B8, nms7_B32, nms7_B64, nms_tup, ren_tup, implies_true, l17, l18, l19, l20, l36, l37, l38, l39, l43, l21, l22, l24, l25, l33, l35, l40, l42, l14, l27, bs_isCell, bs_nms, bs_ren, ibs_nms, ibs_ren, bs_length, aW_isCell, aB_isCell, isCell_sl, isCell_isl, isCell_nil, isCell_ptr, isCell_N]) only [ev_exit, ev_seq, ev_region, regK_some, evOpers_nil, evOpers_cons, stepK_pure, put_some, evX_t, outR_some, op_bin, andThen_normal, andThen_exit, ev_cond, condK_false, List.set_cons_zero, List.set_cons_succ, List.getD_cons_zero, List.getD_cons_succ, List.length_cons, List.length_nil, Nat.reduceAdd, Nat.zero_add, Nat.add_zero, decide_false, N_lss, Nat.reduceAdd, Nat.lt_irrefl, decide_false, L28b0]
    rfl
  · clear hLp
    rintro st ⟨H, rfl, h1, M⟩ rfl
    rw [al_full] at M
    simp (disch := first | omega | decide | simp only [nms_B8, nms_B32, nms_B64, nms_I, nms_N, nms_Bo, nms_Un, nms_undef, nms_Hf, nms_ptr, nms_sl, aB_agg_nms, aW_agg_nms, aD_agg_nms, aO_agg_nms, List.flatMap_cons, List.flatMap_nil, List.nil_append, List.append_nil, ren_B8, ren_B32, ren_B64, ren_I, ren_N, ren_Bo, ren_Un, ren_undef, ren_Hf, aB_agg_ren, aW_agg_ren, aD_agg_ren, aO_agg_ren, List.map_cons, List.map_nil, ren7_I, ren7_N, ren7_Bo, ren7_B8, ren7_B32, ren7_B64, nms7_I, nms7_N, nms7_Bo, nms7_B8, nms7_B32, nms7_B64, nms_tup, ren_tup, implies_true, l17, l18, l19, l20, l36, l37, l38, l39, l43, l21, l22, l24, l25, l33, l35, l40, l42, l14, l27, bs_isCell, bs_nms, bs_ren, ibs_nms, ibs_ren, bs_length, aW_isCell, aB_isCell, isCell_sl, isCell_isl, isCell_nil, isCell_ptr, isCell_N]) only [ev_exit, ev_seq, ev_region, regK_some, evOpers_nil, evOpers_cons, stepK_pure, put_some, evX_t, evX_c, outR_some, op_mv, op_bin, op_call, callV_fn, andThen_normal, andThen_exit, inBlock_exit, ev_cond, condK_false, List.set_cons_zero, List.set_cons_succ, List.getD_cons_zero, List.getD_cons_succ, List.map_cons, List.map_nil, List.length_cons, List.length_nil, Nat.reduceAdd, if_true, Nat.zero_add, Nat.add_zero, decide_false, Nat.add_zero, Nat.zero_add, N_lss, Nat.reduceAdd, Nat.lt_irrefl, decide_false, L28b0]
    generalize hc : callOp _ _ _ _ _ = r
    obtain ⟨ms, rfl, hms⟩ := mac_sum hc M (by rw [List.length_append]; omega) (by omega) (by omega)
    simp (disch := first | omega | decide | simp only [nms_B8, nms_B32, nms_B64, nms_I, nms_N, nms_Bo, nms_Un, nms_undef, nms_Hf, nms_ptr, nms_sl, aB_agg_nms, aW_agg_nms, aD_agg_nms, aO_agg_nms, List.flatMap_cons, List.flatMap_nil, List.nil_append, List.append_nil, ren_B8, ren_B32, ren_B64, ren_I, ren_N, ren_Bo, ren_Un, ren_undef, ren_Hf, aB_agg_ren, aW_agg_ren, aD_agg_ren, aO_agg_ren, List.map_cons, List.map_nil, ren7_I, ren7_N, ren7_Bo, ren7_B8, ren7_B32, ren7_B64, nms7_I, nms7_N, nms7_Bo, nms7_B8, nms7_B32, nms7_B64, nms_tup, ren_tup, implies_true, l17, l18, l19, l20, l36, l37, l38, l39, l43, l21, l22, l24, l25, l33, l35, l40, l42, l14, l27, bs_isCell, bs_nms, bs_ren, ibs_nms, ibs_ren, bs_length, aW_isCell, aB_isCell, isCell_sl, isCell_isl, isCell_nil, isCell_ptr, isCell_N]) only [ev_ret, regK_some, evOpers_nil, evOpers_cons, put_some, put_none, evX_t, andThen_normal, retK_ret, List.set_cons_zero, List.set_cons_succ, List.getD_cons_zero, List.getD_cons_succ, Option.map_some, Nat.reduceAdd, upd_at, cellsOf_agg, cellAt_ptr, op_st, stV_ptr, if_true, resVal_agg, aggV_some, aB_cells, aB_st_all, aB_outOf, Nat.reduceAdd, updN_nil, modN_nil, modN_cons, Option.map_some, stepK_gen, hms, h1]
    rfl

end Sha
