/- The document's product of bytes, evaluated. -/
import Derived.Test.YtmaiodokoaffbaaLeBox
set_option linter.unusedVariables false
set_option linter.unusedSimpArgs false
namespace Field
open Go Go.LE

/-- a number that is not negative, as bits -/
def IB (x : BitVec 32) : LV := I (x.toNat : Int)
theorem nms_IB (x : BitVec 32) : nms D (IB x) = [] := rfl
theorem ren_IB (π : Nm → Option Nm) (x : BitVec 32) : ren D π (IB x) = IB x := rfl

theorem IB_xor (e : EqT) (x y : BitVec 32) : binV .xor e (IB x) (IB y) = some (IB (x ^^^ y)) := by
  simp only [binV, IB, I, binI, if_true, bitI, Option.map_some]
  rw [BitVec.ofInt_natCast, BitVec.ofInt_natCast]
  have e1 : (BitVec.ofNat IntKind.i64.bits x.toNat ^^^ BitVec.ofNat IntKind.i64.bits y.toNat).toNat = (x ^^^ y).toNat := by
    have hx := x.isLt
    have hy := y.isLt
    have h2 : (2 : Nat) ^ 32 < 2 ^ IntKind.i64.bits := by decide
    rw [BitVec.toNat_xor, BitVec.toNat_xor, BitVec.toNat_ofNat, BitVec.toNat_ofNat, Nat.mod_eq_of_lt (by omega), Nat.mod_eq_of_lt (by omega)]
  rw [e1, w64]
  have := (x ^^^ y).isLt
  omega

theorem IB_shr (e : EqT) (x : BitVec 32) (i : Nat) (h : i < 64) : binV .shr e (IB x) (I (i : Int)) = some (IB (x >>> i)) := by
  unfold IB
  rw [I_shr _ _ _ (by omega) (by omega)]
  congr 2
  rw [BitVec.toNat_ushiftRight, Nat.shiftRight_eq_div_pow]
  simp

theorem IB_rem2 (e : EqT) (x : BitVec 32) : binV .rem e (IB x) (I 2) = some (IB (x % 2#32)) := by
  unfold IB
  rw [I_rem _ _ _ (by decide)]
  rfl

theorem IB_eq1 (e : EqT) (x : BitVec 32) : binV .eql e (IB x) (I 1) = some (Bo (x == 1#32)) := by
  unfold IB
  rw [I_eql]
  congr 2
  rw [Bool.eq_iff_iff]
  simp only [beq_iff_eq]
  constructor
  · intro h; apply BitVec.eq_of_toNat_eq; simp; omega
  · intro h; rw [h]; rfl

theorem IB_shl8 (e : EqT) (a : BitVec 8) (i : Nat) (h : i < 8) : binV .shl e (I (a.toNat : Int)) (I (i : Int)) = some (IB (a.setWidth 32 <<< i)) := by
  have ha := a.isLt
  have h2 : a.toNat * 2 ^ i < 2 ^ 8 * 2 ^ 8 := by
    have : 2 ^ i ≤ 2 ^ 8 := Nat.pow_le_pow_right (by decide) (by omega)
    calc a.toNat * 2 ^ i ≤ a.toNat * 2 ^ 8 := Nat.mul_le_mul_left _ this
      _ < 2 ^ 8 * 2 ^ 8 := Nat.mul_lt_mul_of_pos_right ha (by decide)
  have h3 : (a.toNat : Int) * 2 ^ ((i : Int)).toNat = ((a.toNat * 2 ^ i : Nat) : Int) := by simp
  rw [I_shl _ _ _ (by omega) (by omega) (by rw [h3]; omega), h3]
  unfold IB
  congr 3
  rw [BitVec.toNat_shiftLeft, BitVec.toNat_setWidth, Nat.shiftLeft_eq, Nat.mod_eq_of_lt (a := a.toNat) (by omega), Nat.mod_eq_of_lt (by omega)]

theorem IB_283 (e : EqT) (j : Nat) (h : j < 7) : binV .shl e (I 283) (I (j : Int)) = some (IB (283#32 <<< j)) := by
  have : j = 0 ∨ j = 1 ∨ j = 2 ∨ j = 3 ∨ j = 4 ∨ j = 5 ∨ j = 6 := by omega
  rcases this with rfl | rfl | rfl | rfl | rfl | rfl | rfl <;> rfl

/-! ### term by term -/

def rsum (a b : BitVec 8) : Nat → Nat → BitVec 32 → BitVec 32
  | 0, _, p => p
  | n + 1, i, p => rsum a b n (i + 1) (if (b >>> i) % 2#8 = 1#8 then p ^^^ (a.setWidth 32 <<< i) else p)

def rst1 (a b : BitVec 8) (p : BitVec 32) (i : Nat) (H : Heap) : St := ⟨[B8 a, B8 b, .undef, .undef, .undef, IB p, I (i : Int), .undef, .undef, .undef, .undef, .undef, .undef, .undef, .undef, .undef, .undef, .undef, .undef, .undef, .undef, .undef, .undef, .undef, .undef, .undef, .undef, .undef, .undef, .undef, .undef, .undef, .undef, .undef, .undef, .undef, .undef, .undef, .undef], H, 2, 0⟩

theorem r_loop1 (k K : Nat) (a b : BitVec 8) : ∀ (n m i : Nat) (st : St) (p : BitVec 32) (H : Heap), canon L12k1 st = rst1 a b p i H → i + n = 8 →
    ∃ H', loopN L12k1 (ev (envC C k) K L12b1) (m + n + 1) st =
      some (.exit 0, ⟨[B8 a, B8 b, .undef, .undef, .undef, IB (rsum a b n i p), I 8, .undef, I 8, Bo false, .undef, .undef, .undef, .undef, .undef, .undef, .undef, .undef, .undef, .undef, .undef, .undef, .undef, .undef, .undef, .undef, .undef, .undef, .undef, .undef, .undef, .undef, .undef, .undef, .undef, .undef, .undef, .undef, .undef], H', 4, 0⟩) := by
  intro n
  induction n with
  | zero =>
    intro m i st p H hc hi
    have hi : i = 8 := by omega
    subst hi
    refine ⟨H, loopN_stop hc ?_⟩
    simp only [funSem_eq, ev_skip, ev_ret, ev_exit, ev_seq, ev_block, ev_region, regK_some, evOpers_nil, evOpers_cons, evOpers_cons_g, stepK_pure, guardK_true, guardK_false, guardK_true', guardK_false', guardK_un, put_some, put_none, evX_t, evX_c, outR_some, pickV_true, pickV_false, op_mv, op_pick, op_bin, op_un, op_cvt, op_call, callV_fn, andThen_normal, andThen_ret, andThen_exit, inBlock_normal, inBlock_ret, inBlock_exit, ev_cond, condK_true, condK_false, retK_ret, retK_normal, resVal_tmp, nms_B8, nms_B32, nms_B64, nms_I, nms_Bo, nms_Un, ren_B8, ren_B32, ren_B64, ren_I, ren_Bo, ren_Un, envC_cal, envC_borrow, List.set_cons_zero, List.set_cons_succ, List.getD_cons_zero, List.getD_cons_succ, List.map_cons, List.map_nil, List.flatMap_cons, List.flatMap_nil, List.nil_append, List.cons_append, List.append_nil, repUn_succ, List.replicate_zero, List.length_cons, List.length_nil, B8_add, B8_mul, B8_sub, B8_and, B8_or, B8_xor, B8_andNot, B8_eql, B8_neq, B8_lss, B8_leq, B8_gtr, B8_geq, B8_not, B8_neg, B8_nat, B8_shl8, B8_shr8, B8_shl32, B8_shr32, B8_shl64, B8_shr64, cvt_8_8, cvt_8_32, cvt_8_64, B32_add, B32_mul, B32_sub, B32_and, B32_or, B32_xor, B32_andNot, B32_eql, B32_neq, B32_lss, B32_leq, B32_gtr, B32_geq, B32_not, B32_neg, B32_nat, B32_shl8, B32_shr8, B32_shl32, B32_shr32, B32_shl64, B32_shr64, cvt_32_8, cvt_32_32, cvt_32_64, B64_add, B64_mul, B64_sub, B64_and, B64_or, B64_xor, B64_andNot, B64_eql, B64_neq, B64_lss, B64_leq, B64_gtr, B64_geq, B64_not, B64_neg, B64_nat, B64_shl8, B64_shr8, B64_shl32, B64_shr32, B64_shl64, B64_shr64, cvt_64_8, cvt_64_32, cvt_64_64, cvt_I_8, cvt_I_32, cvt_I_64, cvt_8_I, cvt_32_I, cvt_I64, I_eql, I_neq, I_lss, I_leq, I_gtr, I_geq, Bo_eql, Bo_neq, Bo_not, callOp_C, calK_B8, calK_B32, calK_B64, calK_I, calK_Bo, outOf_B8, outOf_B32, outOf_B64, outOf_I, outOf_Bo, Option.map_some, BitVec.toNat_ofNat, ev_loop, Nat.reduceAdd, Nat.reduceSub, B8_rem, B32_rem, B64_rem, B8_quo, B32_quo, B64_quo, L12b1, rst1, decide_false, if_false, reduceIte, rsum, show ¬ (((8 : Nat) : Int) < 8) by decide]
    rfl
  | succ n ih =>
    intro m i st p H hc hi
    have h : (i : Int) < 8 := by omega
    have hsh : binV .shr EqT.none (B8 b) (I (i : Int)) = some (B8 (b >>> i)) := by
      have := B8_shrI EqT.none b (i : Int) (by omega)
      simpa using this
    by_cases hb : (b >>> i) % 2#8 = 1#8
    · have hr : ∃ st1, ev (envC C k) K L12b1 (rst1 a b p i H) = some (.normal, st1) ∧ canon L12k1 st1 = rst1 a b (p ^^^ (a.setWidth 32 <<< i)) (i + 1) (cH H) := by
        apply Exists.intro
        apply And.intro
        · simp only [funSem_eq, ev_skip, ev_ret, ev_exit, ev_seq, ev_block, ev_region, regK_some, evOpers_nil, evOpers_cons, evOpers_cons_g, stepK_pure, guardK_true, guardK_false, guardK_true', guardK_false', guardK_un, put_some, put_none, evX_t, evX_c, outR_some, pickV_true, pickV_false, op_mv, op_pick, op_bin, op_un, op_cvt, op_call, callV_fn, andThen_normal, andThen_ret, andThen_exit, inBlock_normal, inBlock_ret, inBlock_exit, ev_cond, condK_true, condK_false, retK_ret, retK_normal, resVal_tmp, nms_B8, nms_B32, nms_B64, nms_I, nms_Bo, nms_Un, ren_B8, ren_B32, ren_B64, ren_I, ren_Bo, ren_Un, envC_cal, envC_borrow, List.set_cons_zero, List.set_cons_succ, List.getD_cons_zero, List.getD_cons_succ, List.map_cons, List.map_nil, List.flatMap_cons, List.flatMap_nil, List.nil_append, List.cons_append, List.append_nil, repUn_succ, List.replicate_zero, List.length_cons, List.length_nil, B8_add, B8_mul, B8_sub, B8_and, B8_or, B8_xor, B8_andNot, B8_eql, B8_neq, B8_lss, B8_leq, B8_gtr, B8_geq, B8_not, B8_neg, B8_nat, B8_shl8, B8_shr8, B8_shl32, B8_shr32, B8_shl64, B8_shr64, cvt_8_8, cvt_8_32, cvt_8_64, B32_add, B32_mul, B32_sub, B32_and, B32_or, B32_xor, B32_andNot, B32_eql, B32_neq, B32_lss, B32_leq, B32_gtr, B32_geq, B32_not, B32_neg, B32_nat, B32_shl8, B32_shr8, B32_shl32, B32_shr32, B32_shl64, B32_shr64, cvt_32_8, cvt_32_32, cvt_32_64, B64_add, B64_mul, B64_sub, B64_and, B64_or, B64_xor, B64_andNot, B64_eql, B64_neq, B64_lss, B64_leq, B64_gtr, B64_geq, B64_not, B64_neg, B64_nat, B64_shl8, B64_shr8, B64_shl32, B64_shr32, B64_shl64, B64_shr64, cvt_64_8, cvt_64_32, cvt_64_64, cvt_I_8, cvt_I_32, cvt_I_64, cvt_8_I, cvt_32_I, cvt_I64, I_eql, I_neq, I_lss, I_leq, I_gtr, I_geq, Bo_eql, Bo_neq, Bo_not, callOp_C, calK_B8, calK_B32, calK_B64, calK_I, calK_Bo, outOf_B8, outOf_B32, outOf_B64, outOf_I, outOf_Bo, Option.map_some, BitVec.toNat_ofNat, ev_loop, Nat.reduceAdd, Nat.reduceSub, B8_rem, B32_rem, B64_rem, B8_quo, B32_quo, B64_quo, L12b1, rst1, h, hsh, hb, decide_true, if_true, reduceIte, Nat.one_ne_zero, BitVec.reduceBEq, beq_self_eq_true, IB_shl8 _ a i (by omega), IB_xor, I_succ _ i (by omega)]
          rfl
        · exact canon_plain rfl rfl rfl
      obtain ⟨st1, hr1, hr2⟩ := hr
      obtain ⟨H', e⟩ := ih (m := m) (i + 1) st1 _ _ hr2 (by omega)
      refine ⟨H', ?_⟩
      rw [rsum, if_pos hb, ← e]
      exact loopN_next hc hr1
    · have hb' : ((b >>> i) % 2#8 == 1#8) = false := by simpa using hb
      have hr : ∃ st1, ev (envC C k) K L12b1 (rst1 a b p i H) = some (.normal, st1) ∧ canon L12k1 st1 = rst1 a b p (i + 1) (cH H) := by
        apply Exists.intro
        apply And.intro
        · simp only [funSem_eq, ev_skip, ev_ret, ev_exit, ev_seq, ev_block, ev_region, regK_some, evOpers_nil, evOpers_cons, evOpers_cons_g, stepK_pure, guardK_true, guardK_false, guardK_true', guardK_false', guardK_un, put_some, put_none, evX_t, evX_c, outR_some, pickV_true, pickV_false, op_mv, op_pick, op_bin, op_un, op_cvt, op_call, callV_fn, andThen_normal, andThen_ret, andThen_exit, inBlock_normal, inBlock_ret, inBlock_exit, ev_cond, condK_true, condK_false, retK_ret, retK_normal, resVal_tmp, nms_B8, nms_B32, nms_B64, nms_I, nms_Bo, nms_Un, ren_B8, ren_B32, ren_B64, ren_I, ren_Bo, ren_Un, envC_cal, envC_borrow, List.set_cons_zero, List.set_cons_succ, List.getD_cons_zero, List.getD_cons_succ, List.map_cons, List.map_nil, List.flatMap_cons, List.flatMap_nil, List.nil_append, List.cons_append, List.append_nil, repUn_succ, List.replicate_zero, List.length_cons, List.length_nil, B8_add, B8_mul, B8_sub, B8_and, B8_or, B8_xor, B8_andNot, B8_eql, B8_neq, B8_lss, B8_leq, B8_gtr, B8_geq, B8_not, B8_neg, B8_nat, B8_shl8, B8_shr8, B8_shl32, B8_shr32, B8_shl64, B8_shr64, cvt_8_8, cvt_8_32, cvt_8_64, B32_add, B32_mul, B32_sub, B32_and, B32_or, B32_xor, B32_andNot, B32_eql, B32_neq, B32_lss, B32_leq, B32_gtr, B32_geq, B32_not, B32_neg, B32_nat, B32_shl8, B32_shr8, B32_shl32, B32_shr32, B32_shl64, B32_shr64, cvt_32_8, cvt_32_32, cvt_32_64, B64_add, B64_mul, B64_sub, B64_and, B64_or, B64_xor, B64_andNot, B64_eql, B64_neq, B64_lss, B64_leq, B64_gtr, B64_geq, B64_not, B64_neg, B64_nat, B64_shl8, B64_shr8, B64_shl32, B64_shr32, B64_shl64, B64_shr64, cvt_64_8, cvt_64_32, cvt_64_64, cvt_I_8, cvt_I_32, cvt_I_64, cvt_8_I, cvt_32_I, cvt_I64, I_eql, I_neq, I_lss, I_leq, I_gtr, I_geq, Bo_eql, Bo_neq, Bo_not, callOp_C, calK_B8, calK_B32, calK_B64, calK_I, calK_Bo, outOf_B8, outOf_B32, outOf_B64, outOf_I, outOf_Bo, Option.map_some, BitVec.toNat_ofNat, ev_loop, Nat.reduceAdd, Nat.reduceSub, B8_rem, B32_rem, B64_rem, B8_quo, B32_quo, B64_quo, L12b1, rst1, h, hsh, hb', decide_true, if_true, reduceIte, Nat.one_ne_zero, BitVec.reduceBEq, I_succ _ i (by omega)]
          rfl
        · exact canon_plain rfl rfl rfl
      obtain ⟨st1, hr1, hr2⟩ := hr
      obtain ⟨H', e⟩ := ih (m := m) (i + 1) st1 _ _ hr2 (by omega)
      refine ⟨H', ?_⟩
      rw [rsum, if_neg hb, ← e]
      exact loopN_next hc hr1

/-! ### then modulo -/

def rmod : Nat → BitVec 32 → BitVec 32
  | 0, p => p
  | n + 1, p => rmod n (if (p >>> (n + 8)) % 2#32 = 1#32 then p ^^^ (283#32 <<< n) else p)

def rst2 (p : BitVec 32) (i : Int) (H : Heap) : St := ⟨[.undef, .undef, .undef, .undef, .undef, IB p, .undef, I i, .undef, .undef, .undef, .undef, .undef, .undef, .undef, .undef, .undef, .undef, .undef, .undef, .undef, .undef, .undef, .undef, .undef, .undef, .undef, .undef, .undef, .undef, .undef, .undef, .undef, .undef, .undef, .undef, .undef, .undef, .undef], H, 2, 0⟩

theorem r_loop2 (k K : Nat) : ∀ (n m : Nat) (st : St) (p : BitVec 32) (H : Heap), canon L12k0 st = rst2 p ((n : Int) + 7) H → n ≤ 7 →
    ∃ H', loopN L12k0 (ev (envC C k) K L12b0) (m + n + 1) st =
      some (.exit 2, ⟨[.undef, .undef, .undef, .undef, .undef, IB (rmod n p), .undef, I 7, .undef, .undef, .undef, .undef, .undef, .undef, .undef, .undef, .undef, .undef, .undef, .undef, .undef, .undef, .undef, I 7, Bo false, .undef, .undef, .undef, .undef, .undef, .undef, .undef, .undef, .undef, .undef, .undef, .undef, .undef, .undef], H', 4, 0⟩) := by
  intro n
  induction n with
  | zero =>
    intro m st p H hc hi
    refine ⟨H, loopN_stop hc ?_⟩
    simp only [funSem_eq, ev_skip, ev_ret, ev_exit, ev_seq, ev_block, ev_region, regK_some, evOpers_nil, evOpers_cons, evOpers_cons_g, stepK_pure, guardK_true, guardK_false, guardK_true', guardK_false', guardK_un, put_some, put_none, evX_t, evX_c, outR_some, pickV_true, pickV_false, op_mv, op_pick, op_bin, op_un, op_cvt, op_call, callV_fn, andThen_normal, andThen_ret, andThen_exit, inBlock_normal, inBlock_ret, inBlock_exit, ev_cond, condK_true, condK_false, retK_ret, retK_normal, resVal_tmp, nms_B8, nms_B32, nms_B64, nms_I, nms_Bo, nms_Un, ren_B8, ren_B32, ren_B64, ren_I, ren_Bo, ren_Un, envC_cal, envC_borrow, List.set_cons_zero, List.set_cons_succ, List.getD_cons_zero, List.getD_cons_succ, List.map_cons, List.map_nil, List.flatMap_cons, List.flatMap_nil, List.nil_append, List.cons_append, List.append_nil, repUn_succ, List.replicate_zero, List.length_cons, List.length_nil, B8_add, B8_mul, B8_sub, B8_and, B8_or, B8_xor, B8_andNot, B8_eql, B8_neq, B8_lss, B8_leq, B8_gtr, B8_geq, B8_not, B8_neg, B8_nat, B8_shl8, B8_shr8, B8_shl32, B8_shr32, B8_shl64, B8_shr64, cvt_8_8, cvt_8_32, cvt_8_64, B32_add, B32_mul, B32_sub, B32_and, B32_or, B32_xor, B32_andNot, B32_eql, B32_neq, B32_lss, B32_leq, B32_gtr, B32_geq, B32_not, B32_neg, B32_nat, B32_shl8, B32_shr8, B32_shl32, B32_shr32, B32_shl64, B32_shr64, cvt_32_8, cvt_32_32, cvt_32_64, B64_add, B64_mul, B64_sub, B64_and, B64_or, B64_xor, B64_andNot, B64_eql, B64_neq, B64_lss, B64_leq, B64_gtr, B64_geq, B64_not, B64_neg, B64_nat, B64_shl8, B64_shr8, B64_shl32, B64_shr32, B64_shl64, B64_shr64, cvt_64_8, cvt_64_32, cvt_64_64, cvt_I_8, cvt_I_32, cvt_I_64, cvt_8_I, cvt_32_I, cvt_I64, I_eql, I_neq, I_lss, I_leq, I_gtr, I_geq, Bo_eql, Bo_neq, Bo_not, callOp_C, calK_B8, calK_B32, calK_B64, calK_I, calK_Bo, outOf_B8, outOf_B32, outOf_B64, outOf_I, outOf_Bo, Option.map_some, BitVec.toNat_ofNat, ev_loop, Nat.reduceAdd, Nat.reduceSub, B8_rem, B32_rem, B64_rem, B8_quo, B32_quo, B64_quo, L12b0, rst2, decide_false, if_false, reduceIte, rmod, show ¬ ((8 : Int) ≤ ((0 : Nat) : Int) + 7) by decide]
    rfl
  | succ n ih =>
    intro m st p H hc hi
    have h : (8 : Int) ≤ ((n + 1 : Nat) : Int) + 7 := by omega
    have e8 : ((n + 1 : Nat) : Int) + 7 = ((n + 8 : Nat) : Int) := by omega
    have hsub : binV .sub EqT.none (I (((n + 1 : Nat) : Int) + 7)) (I 8) = some (I (n : Int)) := by
      rw [I_sub _ _ _ (by omega)]; congr 2; omega
    have hdec : binV .sub EqT.none (I (((n + 1 : Nat) : Int) + 7)) (I 1) = some (I ((n : Int) + 7)) := by
      rw [I_sub _ _ _ (by omega)]; congr 2; omega
    have hsh : binV .shr EqT.none (IB p) (I (((n + 1 : Nat) : Int) + 7)) = some (IB (p >>> (n + 8))) := by
      rw [e8, IB_shr _ _ _ (by omega)]
    by_cases hb : (p >>> (n + 8)) % 2#32 = 1#32
    · have hr : ∃ st1, ev (envC C k) K L12b0 (rst2 p (((n + 1 : Nat) : Int) + 7) H) = some (.normal, st1) ∧ canon L12k0 st1 = rst2 (p ^^^ (283#32 <<< n)) ((n : Int) + 7) (cH H) := by
        apply Exists.intro
        apply And.intro
        · simp only [funSem_eq, ev_skip, ev_ret, ev_exit, ev_seq, ev_block, ev_region, regK_some, evOpers_nil, evOpers_cons, evOpers_cons_g, stepK_pure, guardK_true, guardK_false, guardK_true', guardK_false', guardK_un, put_some, put_none, evX_t, evX_c, outR_some, pickV_true, pickV_false, op_mv, op_pick, op_bin, op_un, op_cvt, op_call, callV_fn, andThen_normal, andThen_ret, andThen_exit, inBlock_normal, inBlock_ret, inBlock_exit, ev_cond, condK_true, condK_false, retK_ret, retK_normal, resVal_tmp, nms_B8, nms_B32, nms_B64, nms_I, nms_Bo, nms_Un, ren_B8, ren_B32, ren_B64, ren_I, ren_Bo, ren_Un, envC_cal, envC_borrow, List.set_cons_zero, List.set_cons_succ, List.getD_cons_zero, List.getD_cons_succ, List.map_cons, List.map_nil, List.flatMap_cons, List.flatMap_nil, List.nil_append, List.cons_append, List.append_nil, repUn_succ, List.replicate_zero, List.length_cons, List.length_nil, B8_add, B8_mul, B8_sub, B8_and, B8_or, B8_xor, B8_andNot, B8_eql, B8_neq, B8_lss, B8_leq, B8_gtr, B8_geq, B8_not, B8_neg, B8_nat, B8_shl8, B8_shr8, B8_shl32, B8_shr32, B8_shl64, B8_shr64, cvt_8_8, cvt_8_32, cvt_8_64, B32_add, B32_mul, B32_sub, B32_and, B32_or, B32_xor, B32_andNot, B32_eql, B32_neq, B32_lss, B32_leq, B32_gtr, B32_geq, B32_not, B32_neg, B32_nat, B32_shl8, B32_shr8, B32_shl32, B32_shr32, B32_shl64, B32_shr64, cvt_32_8, cvt_32_32, cvt_32_64, B64_add, B64_mul, B64_sub, B64_and, B64_or, B64_xor, B64_andNot, B64_eql, B64_neq, B64_lss, B64_leq, B64_gtr, B64_geq, B64_not, B64_neg, B64_nat, B64_shl8, B64_shr8, B64_shl32, B64_shr32, B64_shl64, B64_shr64, cvt_64_8, cvt_64_32, cvt_64_64, cvt_I_8, cvt_I_32, cvt_I_64, cvt_8_I, cvt_32_I, cvt_I64, I_eql, I_neq, I_lss, I_leq, I_gtr, I_geq, Bo_eql, Bo_neq, Bo_not, callOp_C, calK_B8, calK_B32, calK_B64, calK_I, calK_Bo, outOf_B8, outOf_B32, outOf_B64, outOf_I, outOf_Bo, Option.map_some, BitVec.toNat_ofNat, ev_loop, Nat.reduceAdd, Nat.reduceSub, B8_rem, B32_rem, B64_rem, B8_quo, B32_quo, B64_quo, L12b0, rst2, h, hsh, hsub, hdec, hb, IB_rem2, IB_eq1, IB_283 _ n (by omega), IB_xor, decide_true, if_true, reduceIte, Nat.one_ne_zero, BitVec.reduceBEq, beq_self_eq_true]
          rfl
        · exact canon_plain rfl rfl rfl
      obtain ⟨st1, hr1, hr2⟩ := hr
      obtain ⟨H', e⟩ := ih (m := m) st1 _ _ hr2 (by omega)
      refine ⟨H', ?_⟩
      rw [rmod, if_pos hb, ← e]
      exact loopN_next hc hr1
    · have hb' : ((p >>> (n + 8)) % 2#32 == 1#32) = false := by simpa using hb
      have hr : ∃ st1, ev (envC C k) K L12b0 (rst2 p (((n + 1 : Nat) : Int) + 7) H) = some (.normal, st1) ∧ canon L12k0 st1 = rst2 p ((n : Int) + 7) (cH H) := by
        apply Exists.intro
        apply And.intro
        · simp only [funSem_eq, ev_skip, ev_ret, ev_exit, ev_seq, ev_block, ev_region, regK_some, evOpers_nil, evOpers_cons, evOpers_cons_g, stepK_pure, guardK_true, guardK_false, guardK_true', guardK_false', guardK_un, put_some, put_none, evX_t, evX_c, outR_some, pickV_true, pickV_false, op_mv, op_pick, op_bin, op_un, op_cvt, op_call, callV_fn, andThen_normal, andThen_ret, andThen_exit, inBlock_normal, inBlock_ret, inBlock_exit, ev_cond, condK_true, condK_false, retK_ret, retK_normal, resVal_tmp, nms_B8, nms_B32, nms_B64, nms_I, nms_Bo, nms_Un, ren_B8, ren_B32, ren_B64, ren_I, ren_Bo, ren_Un, envC_cal, envC_borrow, List.set_cons_zero, List.set_cons_succ, List.getD_cons_zero, List.getD_cons_succ, List.map_cons, List.map_nil, List.flatMap_cons, List.flatMap_nil, List.nil_append, List.cons_append, List.append_nil, repUn_succ, List.replicate_zero, List.length_cons, List.length_nil, B8_add, B8_mul, B8_sub, B8_and, B8_or, B8_xor, B8_andNot, B8_eql, B8_neq, B8_lss, B8_leq, B8_gtr, B8_geq, B8_not, B8_neg, B8_nat, B8_shl8, B8_shr8, B8_shl32, B8_shr32, B8_shl64, B8_shr64, cvt_8_8, cvt_8_32, cvt_8_64, B32_add, B32_mul, B32_sub, B32_and, B32_or, B32_xor, B32_andNot, B32_eql, B32_neq, B32_lss, B32_leq, B32_gtr, B32_geq, B32_not, B32_neg, B32_nat, B32_shl8, B32_shr8, B32_shl32, B32_shr32, B32_shl64, B32_shr64, cvt_32_8, cvt_32_32, cvt_32_64, B64_add, B64_mul, B64_sub, B64_and, B64_or, B64_xor, B64_andNot, B64_eql, B64_neq, B64_lss, B64_leq, B64_gtr, B64_geq, B64_not, B64_neg, B64_nat, B64_shl8, B64_shr8, B64_shl32, B64_shr32, B64_shl64, B64_shr64, cvt_64_8, cvt_64_32, cvt_64_64, cvt_I_8, cvt_I_32, cvt_I_64, cvt_8_I, cvt_32_I, cvt_I64, I_eql, I_neq, I_lss, I_leq, I_gtr, I_geq, Bo_eql, Bo_neq, Bo_not, callOp_C, calK_B8, calK_B32, calK_B64, calK_I, calK_Bo, outOf_B8, outOf_B32, outOf_B64, outOf_I, outOf_Bo, Option.map_some, BitVec.toNat_ofNat, ev_loop, Nat.reduceAdd, Nat.reduceSub, B8_rem, B32_rem, B64_rem, B8_quo, B32_quo, B64_quo, L12b0, rst2, h, hsh, hdec, hb', IB_rem2, IB_eq1, decide_true, if_true, reduceIte, Nat.one_ne_zero]
          rfl
        · exact canon_plain rfl rfl rfl
      obtain ⟨st1, hr1, hr2⟩ := hr
      obtain ⟨H', e⟩ := ih (m := m) st1 _ _ hr2 (by omega)
      refine ⟨H', ?_⟩
      rw [rmod, if_neg hb, ← e]
      exact loopN_next hc hr1

def rmul (a b : BitVec 8) : BitVec 8 := (rmod 7 (rsum a b 8 0 0#32)).setWidth 8

theorem cvt_IB (x : BitVec 32) : cvtV .u8 (IB x) = some (B8 (x.setWidth 8)) := by
  unfold IB
  rw [cvt_I_8, BitVec.ofInt_natCast, BitVec.ofNat_toNat]

theorem rmul_F (k : Nat) (a b : BitVec 8) : F C (k + 11) 12 [B8 a, B8 b] [] = some (B8 (rmul a b), [], []) := by
  rw [F_succ f12]
  simp only [funSem_eq, ev_skip, ev_ret, ev_exit, ev_seq, ev_block, ev_region, regK_some, evOpers_nil, evOpers_cons, evOpers_cons_g, stepK_pure, guardK_true, guardK_false, guardK_true', guardK_false', guardK_un, put_some, put_none, evX_t, evX_c, outR_some, pickV_true, pickV_false, op_mv, op_pick, op_bin, op_un, op_cvt, op_call, callV_fn, andThen_normal, andThen_ret, andThen_exit, inBlock_normal, inBlock_ret, inBlock_exit, ev_cond, condK_true, condK_false, retK_ret, retK_normal, resVal_tmp, nms_B8, nms_B32, nms_B64, nms_I, nms_Bo, nms_Un, ren_B8, ren_B32, ren_B64, ren_I, ren_Bo, ren_Un, envC_cal, envC_borrow, List.set_cons_zero, List.set_cons_succ, List.getD_cons_zero, List.getD_cons_succ, List.map_cons, List.map_nil, List.flatMap_cons, List.flatMap_nil, List.nil_append, List.cons_append, List.append_nil, repUn_succ, List.replicate_zero, List.length_cons, List.length_nil, B8_add, B8_mul, B8_sub, B8_and, B8_or, B8_xor, B8_andNot, B8_eql, B8_neq, B8_lss, B8_leq, B8_gtr, B8_geq, B8_not, B8_neg, B8_nat, B8_shl8, B8_shr8, B8_shl32, B8_shr32, B8_shl64, B8_shr64, cvt_8_8, cvt_8_32, cvt_8_64, B32_add, B32_mul, B32_sub, B32_and, B32_or, B32_xor, B32_andNot, B32_eql, B32_neq, B32_lss, B32_leq, B32_gtr, B32_geq, B32_not, B32_neg, B32_nat, B32_shl8, B32_shr8, B32_shl32, B32_shr32, B32_shl64, B32_shr64, cvt_32_8, cvt_32_32, cvt_32_64, B64_add, B64_mul, B64_sub, B64_and, B64_or, B64_xor, B64_andNot, B64_eql, B64_neq, B64_lss, B64_leq, B64_gtr, B64_geq, B64_not, B64_neg, B64_nat, B64_shl8, B64_shr8, B64_shl32, B64_shr32, B64_shl64, B64_shr64, cvt_64_8, cvt_64_32, cvt_64_64, cvt_I_8, cvt_I_32, cvt_I_64, cvt_8_I, cvt_32_I, cvt_I64, I_eql, I_neq, I_lss, I_leq, I_gtr, I_geq, Bo_eql, Bo_neq, Bo_not, callOp_C, calK_B8, calK_B32, calK_B64, calK_I, calK_Bo, outOf_B8, outOf_B32, outOf_B64, outOf_I, outOf_Bo, Option.map_some, BitVec.toNat_ofNat, ev_loop, Nat.reduceAdd, Nat.reduceSub, B8_rem, B32_rem, B64_rem, B8_quo, B32_quo, B64_quo, L12]
  obtain ⟨H1, e1⟩ := r_loop1 (k + 10) (k + 10) a b 8 (k + 1) 0 ⟨[B8 a, B8 b, Un, Un, B8 0#8, I 0, I 0, Un, Un, Un, Un, Un, Un, Un, Un, Un, Un, Un, Un, Un, Un, Un, Un, Un, Un, Un, Un, Un, Un, Un, Un, Un, Un, Un, Un, Un, Un, Un, Un], inHeap [], 5, 0⟩ 0#32 (cH (inHeap [])) (canon_plain rfl rfl rfl) rfl
  rw [show k + 1 + 8 + 1 = k + 10 from rfl] at e1
  rw [e1]
  simp only [funSem_eq, ev_skip, ev_ret, ev_exit, ev_seq, ev_block, ev_region, regK_some, evOpers_nil, evOpers_cons, evOpers_cons_g, stepK_pure, guardK_true, guardK_false, guardK_true', guardK_false', guardK_un, put_some, put_none, evX_t, evX_c, outR_some, pickV_true, pickV_false, op_mv, op_pick, op_bin, op_un, op_cvt, op_call, callV_fn, andThen_normal, andThen_ret, andThen_exit, inBlock_normal, inBlock_ret, inBlock_exit, ev_cond, condK_true, condK_false, retK_ret, retK_normal, resVal_tmp, nms_B8, nms_B32, nms_B64, nms_I, nms_Bo, nms_Un, ren_B8, ren_B32, ren_B64, ren_I, ren_Bo, ren_Un, envC_cal, envC_borrow, List.set_cons_zero, List.set_cons_succ, List.getD_cons_zero, List.getD_cons_succ, List.map_cons, List.map_nil, List.flatMap_cons, List.flatMap_nil, List.nil_append, List.cons_append, List.append_nil, repUn_succ, List.replicate_zero, List.length_cons, List.length_nil, B8_add, B8_mul, B8_sub, B8_and, B8_or, B8_xor, B8_andNot, B8_eql, B8_neq, B8_lss, B8_leq, B8_gtr, B8_geq, B8_not, B8_neg, B8_nat, B8_shl8, B8_shr8, B8_shl32, B8_shr32, B8_shl64, B8_shr64, cvt_8_8, cvt_8_32, cvt_8_64, B32_add, B32_mul, B32_sub, B32_and, B32_or, B32_xor, B32_andNot, B32_eql, B32_neq, B32_lss, B32_leq, B32_gtr, B32_geq, B32_not, B32_neg, B32_nat, B32_shl8, B32_shr8, B32_shl32, B32_shr32, B32_shl64, B32_shr64, cvt_32_8, cvt_32_32, cvt_32_64, B64_add, B64_mul, B64_sub, B64_and, B64_or, B64_xor, B64_andNot, B64_eql, B64_neq, B64_lss, B64_leq, B64_gtr, B64_geq, B64_not, B64_neg, B64_nat, B64_shl8, B64_shr8, B64_shl32, B64_shr32, B64_shl64, B64_shr64, cvt_64_8, cvt_64_32, cvt_64_64, cvt_I_8, cvt_I_32, cvt_I_64, cvt_8_I, cvt_32_I, cvt_I64, I_eql, I_neq, I_lss, I_leq, I_gtr, I_geq, Bo_eql, Bo_neq, Bo_not, callOp_C, calK_B8, calK_B32, calK_B64, calK_I, calK_Bo, outOf_B8, outOf_B32, outOf_B64, outOf_I, outOf_Bo, Option.map_some, BitVec.toNat_ofNat, ev_loop, Nat.reduceAdd, Nat.reduceSub, B8_rem, B32_rem, B64_rem, B8_quo, B32_quo, B64_quo, reduceIte]
  obtain ⟨H2, e2⟩ := r_loop2 (k + 10) (k + 10) 7 (k + 2) ⟨[B8 a, B8 b, .undef, .undef, .undef, IB (rsum a b 8 0 0#32), I 8, I 14, I 8, Bo false, .undef, .undef, .undef, .undef, .undef, .undef, .undef, .undef, .undef, .undef, .undef, .undef, .undef, .undef, .undef, .undef, .undef, .undef, .undef, .undef, .undef, .undef, .undef, .undef, .undef, .undef, .undef, .undef, .undef], H1, 5, 0⟩ (rsum a b 8 0 0#32) (cH H1) (canon_plain rfl rfl rfl) (by decide)
  rw [show k + 2 + 7 + 1 = k + 10 from rfl] at e2
  rw [e2]
  simp only [funSem_eq, ev_skip, ev_ret, ev_exit, ev_seq, ev_block, ev_region, regK_some, evOpers_nil, evOpers_cons, evOpers_cons_g, stepK_pure, guardK_true, guardK_false, guardK_true', guardK_false', guardK_un, put_some, put_none, evX_t, evX_c, outR_some, pickV_true, pickV_false, op_mv, op_pick, op_bin, op_un, op_cvt, op_call, callV_fn, andThen_normal, andThen_ret, andThen_exit, inBlock_normal, inBlock_ret, inBlock_exit, ev_cond, condK_true, condK_false, retK_ret, retK_normal, resVal_tmp, nms_B8, nms_B32, nms_B64, nms_I, nms_Bo, nms_Un, ren_B8, ren_B32, ren_B64, ren_I, ren_Bo, ren_Un, envC_cal, envC_borrow, List.set_cons_zero, List.set_cons_succ, List.getD_cons_zero, List.getD_cons_succ, List.map_cons, List.map_nil, List.flatMap_cons, List.flatMap_nil, List.nil_append, List.cons_append, List.append_nil, repUn_succ, List.replicate_zero, List.length_cons, List.length_nil, B8_add, B8_mul, B8_sub, B8_and, B8_or, B8_xor, B8_andNot, B8_eql, B8_neq, B8_lss, B8_leq, B8_gtr, B8_geq, B8_not, B8_neg, B8_nat, B8_shl8, B8_shr8, B8_shl32, B8_shr32, B8_shl64, B8_shr64, cvt_8_8, cvt_8_32, cvt_8_64, B32_add, B32_mul, B32_sub, B32_and, B32_or, B32_xor, B32_andNot, B32_eql, B32_neq, B32_lss, B32_leq, B32_gtr, B32_geq, B32_not, B32_neg, B32_nat, B32_shl8, B32_shr8, B32_shl32, B32_shr32, B32_shl64, B32_shr64, cvt_32_8, cvt_32_32, cvt_32_64, B64_add, B64_mul, B64_sub, B64_and, B64_or, B64_xor, B64_andNot, B64_eql, B64_neq, B64_lss, B64_leq, B64_gtr, B64_geq, B64_not, B64_neg, B64_nat, B64_shl8, B64_shr8, B64_shl32, B64_shr32, B64_shl64, B64_shr64, cvt_64_8, cvt_64_32, cvt_64_64, cvt_I_8, cvt_I_32, cvt_I_64, cvt_8_I, cvt_32_I, cvt_I64, I_eql, I_neq, I_lss, I_leq, I_gtr, I_geq, Bo_eql, Bo_neq, Bo_not, callOp_C, calK_B8, calK_B32, calK_B64, calK_I, calK_Bo, outOf_B8, outOf_B32, outOf_B64, outOf_I, outOf_Bo, Option.map_some, BitVec.toNat_ofNat, ev_loop, Nat.reduceAdd, Nat.reduceSub, B8_rem, B32_rem, B64_rem, B8_quo, B32_quo, B64_quo, reduceIte, cvt_IB]
  rfl

end Field
