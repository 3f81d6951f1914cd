/- The document's functions over bytes: the same as the field's. -/
import Derived.Test.YtmaiodokoaffbaaLeRMul
import Derived.Test.YtmaiodokoaffbaaLeTurned
set_option linter.unusedVariables false
set_option linter.unusedSimpArgs false
namespace Field
open Go Go.LE

/-! ### the product -/

theorem bit_iff (p : BitVec 32) (m : Nat) : ((p >>> m) % 2#32 = 1#32) ↔ p.getLsbD m = true := by
  rw [← BitVec.toNat_inj, BitVec.toNat_umod, BitVec.toNat_ushiftRight, BitVec.getLsbD, Nat.testBit_eq_decide_div_mod_eq, Nat.shiftRight_eq_div_pow]
  simp

theorem bit8_iff (p : BitVec 8) (m : Nat) : ((p >>> m) % 2#8 = 1#8) ↔ p.getLsbD m = true := by
  rw [← BitVec.toNat_inj, BitVec.toNat_umod, BitVec.toNat_ushiftRight, BitVec.getLsbD, Nat.testBit_eq_decide_div_mod_eq, Nat.shiftRight_eq_div_pow]
  simp

theorem rmod_step (n : Nat) (p : BitVec 32) : rmod (n + 1) p = rmod n (p ^^^ (if p.getLsbD (n + 8) = true then 283#32 <<< n else 0#32)) := by
  rw [rmod]
  congr 1
  by_cases h : p.getLsbD (n + 8) = true
  · rw [if_pos h, if_pos ((bit_iff _ _).2 h)]
  · rw [if_neg h, if_neg (fun h' => h ((bit_iff _ _).1 h')), BitVec.xor_zero]

theorem ite_xor32 (x y : Bool) (c : BitVec 32) : (if (x ^^ y) = true then c else 0#32) = (if x = true then c else 0#32) ^^^ (if y = true then c else 0#32) := by
  cases x <;> cases y <;> simp

theorem rmod_xor : ∀ (n : Nat) (p q : BitVec 32), rmod n (p ^^^ q) = rmod n p ^^^ rmod n q := by
  intro n
  induction n with
  | zero => intro p q; rfl
  | succ n ih =>
    intro p q
    rw [rmod_step, rmod_step, rmod_step, ← ih, BitVec.getLsbD_xor, ite_xor32, GF.xor4]

def red (p : BitVec 32) : BitVec 8 := (rmod 7 p).setWidth 8
theorem red_xor (p q : BitVec 32) : red (p ^^^ q) = red p ^^^ red q := by
  unfold red; rw [rmod_xor, BitVec.setWidth_xor]
theorem red_zero : red 0#32 = 0#8 := by decide
theorem red_shift (a : BitVec 8) (i : Fin 8) : red (a.setWidth 32 <<< i.val) = GF.dblN 27#8 i.val a := by
  revert a i
  decide +kernel

def terms (a b : BitVec 8) : Nat → Nat → BitVec 8
  | 0, _ => 0#8
  | n + 1, i => (if b.getLsbD i = true then GF.dblN 27#8 i a else 0#8) ^^^ terms a b n (i + 1)

theorem red_rsum (a b : BitVec 8) : ∀ (n i : Nat) (p : BitVec 32), i + n ≤ 8 → red (rsum a b n i p) = red p ^^^ terms a b n i := by
  intro n
  induction n with
  | zero => intro i p _; simp [rsum, terms]
  | succ n ih =>
    intro i p hi
    rw [rsum, terms]
    by_cases h : b.getLsbD i = true
    · rw [if_pos ((bit8_iff _ _).2 h), if_pos h, ih _ _ (by omega), red_xor, red_shift a ⟨i, by omega⟩, BitVec.xor_assoc]
    · rw [if_neg (fun h' => h ((bit8_iff _ _).1 h')), if_neg h, ih _ _ (by omega), BitVec.zero_xor]

theorem rmul_eq (a b : BitVec 8) : rmul a b = GF.mul 27#8 a b := by
  have : rmul a b = red (rsum a b 8 0 0#32) := rfl
  rw [this, red_rsum a b 8 0 _ (by decide), red_zero]
  simp only [terms, GF.mul, GF.sumTo, BitVec.zero_xor, BitVec.xor_zero, BitVec.xor_assoc]

theorem rmul_F' (k : Nat) (a b : BitVec 8) : F C (k + 11) 12 [B8 a, B8 b] [] = some (B8 (GF.mul 27#8 a b), [], []) := by rw [rmul_F, rmul_eq]

/-! ### the inverse -/

def rist (a p : BitVec 8) (i : Nat) (H : Heap) : St := ⟨[B8 a, .undef, .undef, B8 p, I (i : Int), .undef, .undef, .undef, .undef, .undef, .undef, .undef, .undef, .undef, .undef, .undef], H, 2, 0⟩

theorem rinv_loop (k K : Nat) : ∀ (n m i : Nat) (st : St) (a p : BitVec 8) (H : Heap), canon L14k0 st = rist a p i H → i + n = 7 →
    ∃ y H', loopN L14k0 (ev (envC C (k + 11)) K L14b0) (m + n + 1) st =
      some (.exit 0, ⟨[B8 y, .undef, .undef, B8 (invL n a p), I 7, I 7, Bo false, .undef, .undef, .undef, .undef, .undef, .undef, .undef, .undef, .undef], H', 4, 0⟩) := by
  intro n
  induction n with
  | zero =>
    intro m i st a p H hc hi
    have hi : i = 7 := by omega
    subst hi
    refine ⟨a, H, loopN_stop hc ?_⟩
    simp only [funSem_eq, ev_skip, ev_ret, ev_exit, ev_seq, ev_block, ev_region, regK_some, evOpers_nil, evOpers_cons, evOpers_cons_g, stepK_pure, guardK_true, guardK_false, guardK_true', guardK_false', guardK_un, put_some, put_none, evX_t, evX_c, outR_some, pickV_true, pickV_false, op_mv, op_pick, op_bin, op_un, op_cvt, op_call, callV_fn, andThen_normal, andThen_ret, andThen_exit, inBlock_normal, inBlock_ret, inBlock_exit, ev_cond, condK_true, condK_false, retK_ret, retK_normal, resVal_tmp, nms_B8, nms_B32, nms_B64, nms_I, nms_Bo, nms_Un, ren_B8, ren_B32, ren_B64, ren_I, ren_Bo, ren_Un, envC_cal, envC_borrow, List.set_cons_zero, List.set_cons_succ, List.getD_cons_zero, List.getD_cons_succ, List.map_cons, List.map_nil, List.flatMap_cons, List.flatMap_nil, List.nil_append, List.cons_append, List.append_nil, repUn_succ, List.replicate_zero, List.length_cons, List.length_nil, B8_add, B8_mul, B8_sub, B8_and, B8_or, B8_xor, B8_andNot, B8_eql, B8_neq, B8_lss, B8_leq, B8_gtr, B8_geq, B8_not, B8_neg, B8_nat, B8_shl8, B8_shr8, B8_shl32, B8_shr32, B8_shl64, B8_shr64, cvt_8_8, cvt_8_32, cvt_8_64, B32_add, B32_mul, B32_sub, B32_and, B32_or, B32_xor, B32_andNot, B32_eql, B32_neq, B32_lss, B32_leq, B32_gtr, B32_geq, B32_not, B32_neg, B32_nat, B32_shl8, B32_shr8, B32_shl32, B32_shr32, B32_shl64, B32_shr64, cvt_32_8, cvt_32_32, cvt_32_64, B64_add, B64_mul, B64_sub, B64_and, B64_or, B64_xor, B64_andNot, B64_eql, B64_neq, B64_lss, B64_leq, B64_gtr, B64_geq, B64_not, B64_neg, B64_nat, B64_shl8, B64_shr8, B64_shl32, B64_shr32, B64_shl64, B64_shr64, cvt_64_8, cvt_64_32, cvt_64_64, cvt_I_8, cvt_I_32, cvt_I_64, cvt_8_I, cvt_32_I, cvt_I64, I_eql, I_neq, I_lss, I_leq, I_gtr, I_geq, Bo_eql, Bo_neq, Bo_not, callOp_C, calK_B8, calK_B32, calK_B64, calK_I, calK_Bo, outOf_B8, outOf_B32, outOf_B64, outOf_I, outOf_Bo, Option.map_some, BitVec.toNat_ofNat, ev_loop, Nat.reduceAdd, Nat.reduceSub, B8_rem, B32_rem, B64_rem, B8_quo, B32_quo, B64_quo, L14b0, rist, decide_false, if_false, reduceIte, invL, show ¬ (((7 : Nat) : Int) < 7) by decide]
    rfl
  | succ n ih =>
    intro m i st a p H hc hi
    have h : (i : Int) < 7 := by omega
    have hr : ∃ st1, ev (envC C (k + 11)) K L14b0 (rist a p i H) = some (.normal, st1) ∧ canon L14k0 st1 = rist (GF.mul 27#8 a a) (GF.mul 27#8 p (GF.mul 27#8 a a)) (i + 1) (cH H) := by
      apply Exists.intro
      apply And.intro
      · simp only [funSem_eq, ev_skip, ev_ret, ev_exit, ev_seq, ev_block, ev_region, regK_some, evOpers_nil, evOpers_cons, evOpers_cons_g, stepK_pure, guardK_true, guardK_false, guardK_true', guardK_false', guardK_un, put_some, put_none, evX_t, evX_c, outR_some, pickV_true, pickV_false, op_mv, op_pick, op_bin, op_un, op_cvt, op_call, callV_fn, andThen_normal, andThen_ret, andThen_exit, inBlock_normal, inBlock_ret, inBlock_exit, ev_cond, condK_true, condK_false, retK_ret, retK_normal, resVal_tmp, nms_B8, nms_B32, nms_B64, nms_I, nms_Bo, nms_Un, ren_B8, ren_B32, ren_B64, ren_I, ren_Bo, ren_Un, envC_cal, envC_borrow, List.set_cons_zero, List.set_cons_succ, List.getD_cons_zero, List.getD_cons_succ, List.map_cons, List.map_nil, List.flatMap_cons, List.flatMap_nil, List.nil_append, List.cons_append, List.append_nil, repUn_succ, List.replicate_zero, List.length_cons, List.length_nil, B8_add, B8_mul, B8_sub, B8_and, B8_or, B8_xor, B8_andNot, B8_eql, B8_neq, B8_lss, B8_leq, B8_gtr, B8_geq, B8_not, B8_neg, B8_nat, B8_shl8, B8_shr8, B8_shl32, B8_shr32, B8_shl64, B8_shr64, cvt_8_8, cvt_8_32, cvt_8_64, B32_add, B32_mul, B32_sub, B32_and, B32_or, B32_xor, B32_andNot, B32_eql, B32_neq, B32_lss, B32_leq, B32_gtr, B32_geq, B32_not, B32_neg, B32_nat, B32_shl8, B32_shr8, B32_shl32, B32_shr32, B32_shl64, B32_shr64, cvt_32_8, cvt_32_32, cvt_32_64, B64_add, B64_mul, B64_sub, B64_and, B64_or, B64_xor, B64_andNot, B64_eql, B64_neq, B64_lss, B64_leq, B64_gtr, B64_geq, B64_not, B64_neg, B64_nat, B64_shl8, B64_shr8, B64_shl32, B64_shr32, B64_shl64, B64_shr64, cvt_64_8, cvt_64_32, cvt_64_64, cvt_I_8, cvt_I_32, cvt_I_64, cvt_8_I, cvt_32_I, cvt_I64, I_eql, I_neq, I_lss, I_leq, I_gtr, I_geq, Bo_eql, Bo_neq, Bo_not, callOp_C, calK_B8, calK_B32, calK_B64, calK_I, calK_Bo, outOf_B8, outOf_B32, outOf_B64, outOf_I, outOf_Bo, Option.map_some, BitVec.toNat_ofNat, ev_loop, Nat.reduceAdd, Nat.reduceSub, B8_rem, B32_rem, B64_rem, B8_quo, B32_quo, B64_quo, L14b0, rist, h, decide_true, if_true, reduceIte, Nat.one_ne_zero, rmul_F', I_succ _ i (by omega)]
        rfl
      · exact canon_plain rfl rfl rfl
    obtain ⟨st1, hr1, hr2⟩ := hr
    obtain ⟨y, H', e⟩ := ih (m := m) (i + 1) st1 _ _ _ hr2 (by omega)
    refine ⟨y, H', ?_⟩
    rw [invL, ← e]
    exact loopN_next hc hr1

theorem rinv_F (k : Nat) (a : BitVec 8) : F C (k + 12) 14 [B8 a] [] = some (B8 (inv a), [], []) := by
  rw [F_succ f14]
  simp only [funSem_eq, ev_skip, ev_ret, ev_exit, ev_seq, ev_block, ev_region, regK_some, evOpers_nil, evOpers_cons, evOpers_cons_g, stepK_pure, guardK_true, guardK_false, guardK_true', guardK_false', guardK_un, put_some, put_none, evX_t, evX_c, outR_some, pickV_true, pickV_false, op_mv, op_pick, op_bin, op_un, op_cvt, op_call, callV_fn, andThen_normal, andThen_ret, andThen_exit, inBlock_normal, inBlock_ret, inBlock_exit, ev_cond, condK_true, condK_false, retK_ret, retK_normal, resVal_tmp, nms_B8, nms_B32, nms_B64, nms_I, nms_Bo, nms_Un, ren_B8, ren_B32, ren_B64, ren_I, ren_Bo, ren_Un, envC_cal, envC_borrow, List.set_cons_zero, List.set_cons_succ, List.getD_cons_zero, List.getD_cons_succ, List.map_cons, List.map_nil, List.flatMap_cons, List.flatMap_nil, List.nil_append, List.cons_append, List.append_nil, repUn_succ, List.replicate_zero, List.length_cons, List.length_nil, B8_add, B8_mul, B8_sub, B8_and, B8_or, B8_xor, B8_andNot, B8_eql, B8_neq, B8_lss, B8_leq, B8_gtr, B8_geq, B8_not, B8_neg, B8_nat, B8_shl8, B8_shr8, B8_shl32, B8_shr32, B8_shl64, B8_shr64, cvt_8_8, cvt_8_32, cvt_8_64, B32_add, B32_mul, B32_sub, B32_and, B32_or, B32_xor, B32_andNot, B32_eql, B32_neq, B32_lss, B32_leq, B32_gtr, B32_geq, B32_not, B32_neg, B32_nat, B32_shl8, B32_shr8, B32_shl32, B32_shr32, B32_shl64, B32_shr64, cvt_32_8, cvt_32_32, cvt_32_64, B64_add, B64_mul, B64_sub, B64_and, B64_or, B64_xor, B64_andNot, B64_eql, B64_neq, B64_lss, B64_leq, B64_gtr, B64_geq, B64_not, B64_neg, B64_nat, B64_shl8, B64_shr8, B64_shl32, B64_shr32, B64_shl64, B64_shr64, cvt_64_8, cvt_64_32, cvt_64_64, cvt_I_8, cvt_I_32, cvt_I_64, cvt_8_I, cvt_32_I, cvt_I64, I_eql, I_neq, I_lss, I_leq, I_gtr, I_geq, Bo_eql, Bo_neq, Bo_not, callOp_C, calK_B8, calK_B32, calK_B64, calK_I, calK_Bo, outOf_B8, outOf_B32, outOf_B64, outOf_I, outOf_Bo, Option.map_some, BitVec.toNat_ofNat, ev_loop, Nat.reduceAdd, Nat.reduceSub, B8_rem, B32_rem, B64_rem, B8_quo, B32_quo, B64_quo, L14]
  obtain ⟨y, H', e⟩ := rinv_loop k (k + 11) 7 (k + 3) 0 ⟨[B8 a, Un, B8 0#8, B8 1#8, I 0, Un, Un, Un, Un, Un, Un, Un, Un, Un, Un, Un], inHeap [], 5, 0⟩ a 1#8 (cH (inHeap [])) (canon_plain rfl rfl rfl) rfl
  rw [show k + 3 + 7 + 1 = k + 11 from rfl] at e
  rw [e]
  simp only [funSem_eq, ev_skip, ev_ret, ev_exit, ev_seq, ev_block, ev_region, regK_some, evOpers_nil, evOpers_cons, evOpers_cons_g, stepK_pure, guardK_true, guardK_false, guardK_true', guardK_false', guardK_un, put_some, put_none, evX_t, evX_c, outR_some, pickV_true, pickV_false, op_mv, op_pick, op_bin, op_un, op_cvt, op_call, callV_fn, andThen_normal, andThen_ret, andThen_exit, inBlock_normal, inBlock_ret, inBlock_exit, ev_cond, condK_true, condK_false, retK_ret, retK_normal, resVal_tmp, nms_B8, nms_B32, nms_B64, nms_I, nms_Bo, nms_Un, ren_B8, ren_B32, ren_B64, ren_I, ren_Bo, ren_Un, envC_cal, envC_borrow, List.set_cons_zero, List.set_cons_succ, List.getD_cons_zero, List.getD_cons_succ, List.map_cons, List.map_nil, List.flatMap_cons, List.flatMap_nil, List.nil_append, List.cons_append, List.append_nil, repUn_succ, List.replicate_zero, List.length_cons, List.length_nil, B8_add, B8_mul, B8_sub, B8_and, B8_or, B8_xor, B8_andNot, B8_eql, B8_neq, B8_lss, B8_leq, B8_gtr, B8_geq, B8_not, B8_neg, B8_nat, B8_shl8, B8_shr8, B8_shl32, B8_shr32, B8_shl64, B8_shr64, cvt_8_8, cvt_8_32, cvt_8_64, B32_add, B32_mul, B32_sub, B32_and, B32_or, B32_xor, B32_andNot, B32_eql, B32_neq, B32_lss, B32_leq, B32_gtr, B32_geq, B32_not, B32_neg, B32_nat, B32_shl8, B32_shr8, B32_shl32, B32_shr32, B32_shl64, B32_shr64, cvt_32_8, cvt_32_32, cvt_32_64, B64_add, B64_mul, B64_sub, B64_and, B64_or, B64_xor, B64_andNot, B64_eql, B64_neq, B64_lss, B64_leq, B64_gtr, B64_geq, B64_not, B64_neg, B64_nat, B64_shl8, B64_shr8, B64_shl32, B64_shr32, B64_shl64, B64_shr64, cvt_64_8, cvt_64_32, cvt_64_64, cvt_I_8, cvt_I_32, cvt_I_64, cvt_8_I, cvt_32_I, cvt_I64, I_eql, I_neq, I_lss, I_leq, I_gtr, I_geq, Bo_eql, Bo_neq, Bo_not, callOp_C, calK_B8, calK_B32, calK_B64, calK_I, calK_Bo, outOf_B8, outOf_B32, outOf_B64, outOf_I, outOf_Bo, Option.map_some, BitVec.toNat_ofNat, ev_loop, Nat.reduceAdd, Nat.reduceSub, B8_rem, B32_rem, B64_rem, B8_quo, B32_quo, B64_quo, reduceIte]
  rfl

theorem rbox_F (k : Nat) (a : BitVec 8) : F C (k + 21) 16 [B8 a] [] = some (B8 (box a), [], []) := by
  rw [F_succ f16]
  simp only [funSem_eq, ev_skip, ev_ret, ev_exit, ev_seq, ev_block, ev_region, regK_some, evOpers_nil, evOpers_cons, evOpers_cons_g, stepK_pure, guardK_true, guardK_false, guardK_true', guardK_false', guardK_un, put_some, put_none, evX_t, evX_c, outR_some, pickV_true, pickV_false, op_mv, op_pick, op_bin, op_un, op_cvt, op_call, callV_fn, andThen_normal, andThen_ret, andThen_exit, inBlock_normal, inBlock_ret, inBlock_exit, ev_cond, condK_true, condK_false, retK_ret, retK_normal, resVal_tmp, nms_B8, nms_B32, nms_B64, nms_I, nms_Bo, nms_Un, ren_B8, ren_B32, ren_B64, ren_I, ren_Bo, ren_Un, envC_cal, envC_borrow, List.set_cons_zero, List.set_cons_succ, List.getD_cons_zero, List.getD_cons_succ, List.map_cons, List.map_nil, List.flatMap_cons, List.flatMap_nil, List.nil_append, List.cons_append, List.append_nil, repUn_succ, List.replicate_zero, List.length_cons, List.length_nil, B8_add, B8_mul, B8_sub, B8_and, B8_or, B8_xor, B8_andNot, B8_eql, B8_neq, B8_lss, B8_leq, B8_gtr, B8_geq, B8_not, B8_neg, B8_nat, B8_shl8, B8_shr8, B8_shl32, B8_shr32, B8_shl64, B8_shr64, cvt_8_8, cvt_8_32, cvt_8_64, B32_add, B32_mul, B32_sub, B32_and, B32_or, B32_xor, B32_andNot, B32_eql, B32_neq, B32_lss, B32_leq, B32_gtr, B32_geq, B32_not, B32_neg, B32_nat, B32_shl8, B32_shr8, B32_shl32, B32_shr32, B32_shl64, B32_shr64, cvt_32_8, cvt_32_32, cvt_32_64, B64_add, B64_mul, B64_sub, B64_and, B64_or, B64_xor, B64_andNot, B64_eql, B64_neq, B64_lss, B64_leq, B64_gtr, B64_geq, B64_not, B64_neg, B64_nat, B64_shl8, B64_shr8, B64_shl32, B64_shr32, B64_shl64, B64_shr64, cvt_64_8, cvt_64_32, cvt_64_64, cvt_I_8, cvt_I_32, cvt_I_64, cvt_8_I, cvt_32_I, cvt_I64, I_eql, I_neq, I_lss, I_leq, I_gtr, I_geq, Bo_eql, Bo_neq, Bo_not, callOp_C, calK_B8, calK_B32, calK_B64, calK_I, calK_Bo, outOf_B8, outOf_B32, outOf_B64, outOf_I, outOf_Bo, Option.map_some, BitVec.toNat_ofNat, ev_loop, Nat.reduceAdd, Nat.reduceSub, B8_rem, B32_rem, B64_rem, B8_quo, B32_quo, B64_quo, L16, rinv_F, turned_F]
  rfl

/-! ### what is so of all bytes -/

theorem unbox_box (a : BitVec 8) : unbox (box a) = a := by
  revert a
  decide +kernel

theorem mul_inv (a : BitVec 8) : GF.mul 27#8 a (inv a) = if a = 0#8 then 0#8 else 1#8 := by
  revert a
  decide +kernel

end Field
