/- Calls, in this seat's table. -/
/- The functions over bytes, evaluated (field.Mul, Box of 0, rotations). -/
/- The box by its bits, evaluated. -/
/- The document's product of bytes, evaluated. -/
/- A cipher's tables: the memory of a cipher, boxes and products, evaluated. -/
/- Calls on a fresh cipher in the caller's memory. -/
/- boxes and tables, evaluated. -/
import Derived.Test.YtgabgpgcplkebaaLeT
import Derived.Test.YtgabgpgcplkebaaLeE
import Derived.Test.YtgabgpgcplkebaaLeP
set_option linter.unusedVariables false
set_option linter.unusedSimpArgs false

namespace Aes
open Go Go.LE

theorem callOp_C {k : Nat} {H : Heap} {b : Nat} {g : FuncId} {args : List LV} (hb : lentF g = fun _ => false) (hn : args.flatMap (nms D) = []) (hr : args.map (ren D (qa1 [])) = args) :
    qbl (envC C k) H b g args = calK b (F C k g args []) := callOp_sc H b hb hn hr
theorem C_bor : C.borrow = lentF := rfl
theorem l17 : lentF 17 = fun _ => false := by funext i; rfl
theorem l19 : lentF 19 = fun _ => false := by funext i; rfl
theorem l22 : lentF 22 = fun _ => false := by funext i; rfl
theorem l23 : lentF 23 = fun _ => false := by funext i; rfl
theorem l26 : lentF 26 = fun _ => false := by funext i; rfl
theorem l28 : lentF 28 = fun _ => false := by funext i; rfl
theorem l29 : lentF 29 = fun _ => false := by funext i; rfl
theorem l30 : lentF 30 = fun _ => false := by funext i; rfl
theorem l31 : lentF 31 = fun _ => false := by funext i; rfl
theorem l34 : lentF 34 = fun _ => false := by funext i; rfl
theorem l35 : lentF 35 = fun _ => false := by funext i; rfl
theorem l36 : lentF 36 = fun _ => false := by funext i; rfl
theorem l40 : lentF 40 = fun _ => false := by funext i; rfl
theorem l41 : lentF 41 = fun _ => false := by funext i; rfl
theorem l42 : lentF 42 = fun _ => false := by funext i; rfl
theorem l43 : lentF 43 = fun _ => false := by funext i; rfl
theorem l46 : lentF 46 = fun _ => false := by funext i; rfl
theorem l47 : lentF 47 = fun _ => false := by funext i; rfl
theorem l48 : lentF 48 = fun _ => false := by funext i; rfl
theorem l51 : lentF 51 = fun _ => false := by funext i; rfl
theorem l53 : lentF 53 = fun _ => false := by funext i; rfl
theorem l56 : lentF 56 = fun _ => false := by funext i; rfl
theorem l57 : lentF 57 = fun _ => false := by funext i; rfl
theorem l58 : lentF 58 = fun _ => false := by funext i; rfl
theorem l59 : lentF 59 = fun _ => false := by funext i; rfl
theorem l60 : lentF 60 = fun _ => false := by funext i; rfl
end Aes

namespace Aes
open Go Go.LE

theorem twice (k : Nat) (a : BitVec 8) : F C (k + 1) 58 [B8 a] [] = some (B8 (if 128#8 ≤ a then (a <<< 1) ^^^ 27#8 else a <<< 1), [], []) := by
  rw [qbK f58]
  by_cases h : 128#8 ≤ a
  · simp (disch := first | omega | decide | simp only [qaf, qad, qag, qae, qah, qac, qaa, qab, qai]) only [qba, qbD, qav, qap, qao, qam, qal, qaO, qar, qaC, qaH, qas, qaK, qaJ, qaj, qaL, qbq, qbi, qbX, List.set_cons_zero, List.set_cons_succ, List.getD_cons_zero, List.getD_cons_succ, List.nil_append, List.cons_append, qa4, List.replicate_zero, List.length_cons, List.length_nil, B8_xor, B8_geq, B8_shl64, outOf_B8, Option.map_some, BitVec.toNat_ofNat, Nat.reduceAdd, Nat.reduceSub, if_true, Nat.zero_add, Nat.add_zero, decide_true, Nat.reducePow, Nat.reduceMod, Nat.reduceAdd, Nat.reduceMod, decide_true, Option.map_some, L58, h, decide_true, if_true]
  · simp (disch := first | omega | decide | simp only [qaf, qad, qag, qae, qah, qac, qaa, qab, qai]) only [qba, qbv, qbD, qav, qap, qao, qam, qal, qaO, qar, qaC, qaH, qas, qaK, qaJ, qaj, qaL, qaF, qbi, qbX, List.set_cons_zero, List.set_cons_succ, List.getD_cons_zero, List.getD_cons_succ, List.nil_append, List.cons_append, qa4, List.replicate_zero, List.length_cons, List.length_nil, B8_geq, B8_shl64, outOf_B8, Option.map_some, BitVec.toNat_ofNat, Nat.reduceAdd, Nat.reduceSub, if_false, Nat.zero_add, Nat.add_zero, decide_false, Nat.reducePow, Nat.reduceMod, Nat.reduceAdd, Nat.reduceMod, decide_false, Option.map_some, L58, h, decide_false, if_false]


theorem twice_gf (k : Nat) (a : BitVec 8) : F C (k + 1) 58 [B8 a] [] = some (B8 (GF.dbl 27#8 a), [], []) := by
  rw [twice]
  congr 3
  revert a
  decide

def mst (x0 x1 x5 : BitVec 8) (H : Heap) : St := ⟨[B8 x0, B8 x1, .undef, .undef, .undef, B8 x5, .undef, .undef, .undef, .undef, .undef, .undef, .undef, .undef, .undef, .undef, .undef, .undef, .undef], H, 2, 0⟩

theorem mul_loop (k K : Nat) : ∀ (n m : Nat) (st : St) (x0 x1 x5 : BitVec 8) (H : Heap), canon L48k0 st = mst x0 x1 x5 H → x1.toNat < 2 ^ n →
    ∃ y H' z, loopN L48k0 (ev (envC C (k + 1)) K L48b0) (m + n + 1) st =
      some (.exit 0, ⟨[B8 y, B8 z, .undef, .undef, .undef, B8 (x5 ^^^ GF.mul 27#8 x0 x1), B8 z, Bo false, .undef, .undef, .undef, .undef, .undef, .undef, .undef, .undef, .undef, .undef, .undef], H', 4, 0⟩) := by
  intro n
  induction n with
  | zero =>
    intro m st x0 x1 x5 H hc hx
    have h0 : x1 = 0#8 := by apply BitVec.eq_of_toNat_eq; simp at hx ⊢; omega
    subst h0
    refine ⟨x0, H, 0#8, ?_⟩
    rw [GF.mul_zero]
    refine loopN_stop hc ?_
    simp (disch := first | omega | decide | simp only [qaf, qad, qag, qae, qah, qac, qaa, qab, qai]) only [qbx, qav, qap, qao, qam, qal, qaO, qar, qaC, qaH, qas, qaK, qaJ, qaj, qaU, qaL, qaF, List.set_cons_zero, List.set_cons_succ, List.getD_cons_zero, List.getD_cons_succ, List.length_cons, List.length_nil, B8_gtr, Nat.reduceAdd, Nat.zero_add, Nat.add_zero, decide_false, Nat.reduceAdd, decide_false, L48b0, mst, decide_false, BitVec.xor_zero, show ¬ (0#8 < 0#8) by decide]
  | succ n ih =>
    intro m st x0 x1 x5 H hc hx
    by_cases h : 0#8 < x1
    · rw [GF.mul_step _ _ _ (by decide), ← BitVec.xor_assoc]
      have hx' : (x1 >>> 1).toNat < 2 ^ n := by
        rw [BitVec.toNat_ushiftRight, Nat.shiftRight_eq_div_pow]
        rw [Nat.pow_succ] at hx
        omega
      by_cases h1 : x1 &&& 1#8 = 1#8
      · rw [if_pos h1]
        have hr : ∃ st1, ev (envC C (k + 1)) K L48b0 (mst x0 x1 x5 H) = some (.normal, st1) ∧ canon L48k0 st1 = mst (GF.dbl 27#8 x0) (x1 >>> 1) (x5 ^^^ x0) (cH H) := by
          apply Exists.intro
          apply And.intro
          · simp (disch := first | omega | decide | simp only [nms_B8, nms_B32, nms_B64, nms_I, nms_N, nms_Bo, nms_Un, qa6, nms_Hf, qaI, qaT, qbn, aW_agg_nms, aD_agg_nms, aO_agg_nms, List.flatMap_cons, List.flatMap_nil, List.nil_append, List.append_nil, ren_B8, ren_B32, qbT, ren_I, ren_N, ren_Bo, ren_Un, ren_undef, ren_Hf, qbO, aW_agg_ren, aD_agg_ren, aO_agg_ren, List.map_cons, List.map_nil, ren7_I, ren7_N, ren7_Bo, ren7_B8, ren7_B32, ren7_B64, nms7_I, nms7_N, nms7_Bo, nms7_B8, nms7_B32, nms7_B64, nms_tup, ren_tup, implies_true, l58, qaf, qaw, qaE, ibs_nms, qbI, qad, qag, qae, qah, qac, qaa, qab, qai]) only [qbv, qav, qbg, qap, qao, qam, qal, qaO, qar, qaC, qaH, qas, qaK, qaJ, qa3, qaY, qaj, qbc, qaL, qbq, List.set_cons_zero, List.set_cons_succ, List.getD_cons_zero, List.getD_cons_succ, List.map_cons, List.map_nil, List.length_cons, List.length_nil, B8_and, B8_xor, B8_eql, B8_gtr, B8_shr64, callOp_C, calK_B8, BitVec.toNat_ofNat, Nat.reduceAdd, Nat.zero_add, Nat.add_zero, decide_true, Nat.reducePow, Nat.reduceMod, Nat.reduceAdd, Nat.reduceMod, decide_true, L48b0, mst, h, decide_true, h1, beq_self_eq_true, twice_gf]
            rfl
          · exact canon_plain rfl rfl rfl
        obtain ⟨st1, hr1, hr2⟩ := hr
        obtain ⟨y, H', z, e⟩ := ih (m := m) st1 _ _ _ _ hr2 hx'
        refine ⟨y, H', z, ?_⟩
        rw [← e]
        exact loopN_next hc hr1
      · rw [if_neg h1, BitVec.xor_zero]
        have h1' : (x1 &&& 1#8 == 1#8) = false := by simpa using h1
        have hr : ∃ st1, ev (envC C (k + 1)) K L48b0 (mst x0 x1 x5 H) = some (.normal, st1) ∧ canon L48k0 st1 = mst (GF.dbl 27#8 x0) (x1 >>> 1) x5 (cH H) := by
          apply Exists.intro
          apply And.intro
          · simp (disch := first | omega | decide | simp only [nms_B8, nms_B32, nms_B64, nms_I, nms_N, nms_Bo, nms_Un, qa6, nms_Hf, qaI, qaT, qbn, aW_agg_nms, aD_agg_nms, aO_agg_nms, List.flatMap_cons, List.flatMap_nil, List.nil_append, List.append_nil, ren_B8, ren_B32, qbT, ren_I, ren_N, ren_Bo, ren_Un, ren_undef, ren_Hf, qbO, aW_agg_ren, aD_agg_ren, aO_agg_ren, List.map_cons, List.map_nil, ren7_I, ren7_N, ren7_Bo, ren7_B8, ren7_B32, ren7_B64, nms7_I, nms7_N, nms7_Bo, nms7_B8, nms7_B32, nms7_B64, nms_tup, ren_tup, implies_true, l58, qaf, qaw, qaE, ibs_nms, qbI, qad, qag, qae, qah, qac, qaa, qab, qai]) only [qbv, qav, qbg, qap, qao, qam, qal, qaO, qar, qaC, qaH, qas, qaK, qaJ, qa3, qaY, qaj, qbc, qaL, qbq, qaF, List.set_cons_zero, List.set_cons_succ, List.getD_cons_zero, List.getD_cons_succ, List.map_cons, List.map_nil, List.length_cons, List.length_nil, B8_and, B8_eql, B8_gtr, B8_shr64, callOp_C, calK_B8, BitVec.toNat_ofNat, Nat.reduceAdd, Nat.zero_add, Nat.add_zero, decide_true, Nat.reducePow, Nat.reduceMod, Nat.reduceAdd, Nat.reduceMod, decide_true, L48b0, mst, h, decide_true, h1', twice_gf]
            rfl
          · exact canon_plain rfl rfl rfl
        obtain ⟨st1, hr1, hr2⟩ := hr
        obtain ⟨y, H', z, e⟩ := ih (m := m) st1 _ _ _ _ hr2 hx'
        refine ⟨y, H', z, ?_⟩
        rw [← e]
        exact loopN_next hc hr1
    · have h0 : x1 = 0#8 := by
        apply BitVec.eq_of_toNat_eq
        rw [BitVec.lt_def] at h
        simp at h ⊢; omega
      subst h0
      refine ⟨x0, H, 0#8, ?_⟩
      rw [GF.mul_zero]
      refine loopN_stop hc ?_
      simp (disch := first | omega | decide | simp only [qaf, qad, qag, qae, qah, qac, qaa, qab, qai]) only [qbx, qav, qap, qao, qam, qal, qaO, qar, qaC, qaH, qas, qaK, qaJ, qaj, qaU, qaL, qaF, List.set_cons_zero, List.set_cons_succ, List.getD_cons_zero, List.getD_cons_succ, List.length_cons, List.length_nil, B8_gtr, Nat.reduceAdd, Nat.zero_add, Nat.add_zero, decide_false, Nat.reduceAdd, decide_false, L48b0, mst, decide_false, BitVec.xor_zero, show ¬ (0#8 < 0#8) by decide]

theorem mul_F (k : Nat) (a b : BitVec 8) : F C (k + 10) 48 [B8 a, B8 b] [] = some (B8 (GF.mul 27#8 a b), [], []) := by
  rw [qbK f48]
  have hl : ∀ (st : St) (H : Heap), canon L48k0 st = mst a b 0#8 H → ∃ y H' z, loopN L48k0 (ev (envC C (k + 9)) (k + 9) L48b0) (k + 9) st =
      some (.exit 0, ⟨[B8 y, B8 z, .undef, .undef, .undef, B8 (0#8 ^^^ GF.mul 27#8 a b), B8 z, Bo false, .undef, .undef, .undef, .undef, .undef, .undef, .undef, .undef, .undef, .undef, .undef], H', 4, 0⟩) := fun st H h => mul_loop (k + 8) (k + 9) 8 k st a b 0#8 H h b.isLt
  simp (disch := first | omega | decide | simp only [qaf, qad, qag, qae, qah, qac, qaa, qab, qai]) only [qba, qav, qbg, qap, qao, qam, qal, qaO, qar, qaH, qaK, qaj, List.set_cons_zero, List.set_cons_succ, List.nil_append, List.cons_append, qa4, List.replicate_zero, List.length_cons, List.length_nil, ev_loop, Nat.reduceAdd, Nat.reduceSub, Nat.zero_add, Nat.add_zero, Nat.reduceAdd, L48]
  obtain ⟨y, H', z, e⟩ := hl ⟨[B8 a, B8 b, Un, Un, B8 0#8, B8 0#8, Un, Un, Un, Un, Un, Un, Un, Un, Un, Un, Un, Un, Un], inHeap [], 4, 0⟩ (cH (inHeap [])) (canon_plain rfl rfl rfl)
  rw [e]
  simp (disch := first | omega | decide | simp only [qaf, qad, qag, qae, qah, qac, qaa, qab, qai]) only [qbD, qav, qap, qao, qam, qal, qaO, qar, qaC, qaK, qaj, qbL, qbi, qbX, List.set_cons_zero, List.set_cons_succ, List.getD_cons_zero, List.getD_cons_succ, List.length_cons, List.length_nil, outOf_B8, Option.map_some, Nat.reduceAdd, if_true, Nat.zero_add, Nat.add_zero, Nat.reduceAdd, Option.map_some, BitVec.zero_xor]


def rot (a : BitVec 8) (n : Nat) : BitVec 8 := (a <<< n) ||| (a >>> (8 - n))
theorem rot1 (k : Nat) (a : BitVec 8) : F C (k + 1) 57 [B8 a, N 1] [] = some (B8 (rot a 1), [], []) := by rw [qbK f57]; simp (disch := first | omega | decide | simp only [qaf, qad, qag, qae, qah, qac, qaa, qab, qai]) only [qba, qbD, qav, qap, qao, qam, qal, qaO, qar, qaC, qaH, qas, qaK, qaJ, op_cvt, qaj, qbi, qbX, List.set_cons_zero, List.set_cons_succ, List.getD_cons_zero, List.getD_cons_succ, List.nil_append, List.cons_append, qa4, List.replicate_zero, List.length_cons, List.length_nil, B8_or, B8_shl64, B8_shr64, B64_sub, B64_and, outOf_B8, Option.map_some, Nat.reduceAdd, Nat.reduceSub, Nat.zero_add, Nat.add_zero, cvt_N_64, Nat.reduceAdd, Option.map_some, L57]; rfl
theorem rot2 (k : Nat) (a : BitVec 8) : F C (k + 1) 57 [B8 a, N 2] [] = some (B8 (rot a 2), [], []) := by rw [qbK f57]; simp (disch := first | omega | decide | simp only [qaf, qad, qag, qae, qah, qac, qaa, qab, qai]) only [qba, qbD, qav, qap, qao, qam, qal, qaO, qar, qaC, qaH, qas, qaK, qaJ, op_cvt, qaj, qbi, qbX, List.set_cons_zero, List.set_cons_succ, List.getD_cons_zero, List.getD_cons_succ, List.nil_append, List.cons_append, qa4, List.replicate_zero, List.length_cons, List.length_nil, B8_or, B8_shl64, B8_shr64, B64_sub, B64_and, outOf_B8, Option.map_some, Nat.reduceAdd, Nat.reduceSub, Nat.zero_add, Nat.add_zero, cvt_N_64, Nat.reduceAdd, Option.map_some, L57]; rfl
theorem rot3 (k : Nat) (a : BitVec 8) : F C (k + 1) 57 [B8 a, N 3] [] = some (B8 (rot a 3), [], []) := by rw [qbK f57]; simp (disch := first | omega | decide | simp only [qaf, qad, qag, qae, qah, qac, qaa, qab, qai]) only [qba, qbD, qav, qap, qao, qam, qal, qaO, qar, qaC, qaH, qas, qaK, qaJ, op_cvt, qaj, qbi, qbX, List.set_cons_zero, List.set_cons_succ, List.getD_cons_zero, List.getD_cons_succ, List.nil_append, List.cons_append, qa4, List.replicate_zero, List.length_cons, List.length_nil, B8_or, B8_shl64, B8_shr64, B64_sub, B64_and, outOf_B8, Option.map_some, Nat.reduceAdd, Nat.reduceSub, Nat.zero_add, Nat.add_zero, cvt_N_64, Nat.reduceAdd, Option.map_some, L57]; rfl
theorem rot4 (k : Nat) (a : BitVec 8) : F C (k + 1) 57 [B8 a, N 4] [] = some (B8 (rot a 4), [], []) := by rw [qbK f57]; simp (disch := first | omega | decide | simp only [qaf, qad, qag, qae, qah, qac, qaa, qab, qai]) only [qba, qbD, qav, qap, qao, qam, qal, qaO, qar, qaC, qaH, qas, qaK, qaJ, op_cvt, qaj, qbi, qbX, List.set_cons_zero, List.set_cons_succ, List.getD_cons_zero, List.getD_cons_succ, List.nil_append, List.cons_append, qa4, List.replicate_zero, List.length_cons, List.length_nil, B8_or, B8_shl64, B8_shr64, B64_sub, B64_and, outOf_B8, Option.map_some, Nat.reduceAdd, Nat.reduceSub, Nat.zero_add, Nat.add_zero, cvt_N_64, Nat.reduceAdd, Option.map_some, L57]; rfl
theorem box0_F (k : Nat) : F C (k + 30) 56 [B8 0#8] [] = some (B8 99#8, [], []) := by kernel_rfl
end Aes

namespace Aes
open Go Go.LE

end Aes

namespace Aes
open Go Go.LE

/-! ### term by term -/

theorem mulF (k : Nat) (a b : BitVec 8) : F C (k + 10) 48 [B8 a, B8 b] [] = some (B8 (mul a b), [], []) := mul_F k a b
end Aes

namespace Aes
open Go Go.LE

/-- a cipher in memory: the keys' slice, then seven tables of 256 bytes -/
def CF (r : LV) (f : R) : qat := r :: aB 1792 f
theorem CF_length (r : LV) (f : R) : (CF r f).length = 1793 := by simp [CF, aB_length]
theorem CF_k (r : LV) (f : R) : cellK 0 1 (some (CF r f)) = some [r] := by
  rw [cellK_some, if_pos (by rw [CF_length]; decide)]; rfl
theorem CF_at (r : LV) (f : R) (o : Nat) (h : o < 1792) : cellK (o + 1) 1 (some (CF r f)) = some [B8 (f o)] := by
  have := aB_cell 1792 f o h
  rw [cellK_some, if_pos (by rw [aB_length]; omega)] at this
  rw [cellK_some, if_pos (by rw [CF_length]; omega), CF, List.drop_succ_cons]
  exact this
theorem CF_at' (r : LV) (f : R) (o p : Nat) (h0 : o = p + 1) (h : p < 1792) : cellK o 1 (some (CF r f)) = some [B8 (f p)] := by subst h0; exact CF_at r f p h
theorem CF_st (r : LV) (f : R) (m : Nm) (o : Nat) (x : BitVec 8) (h0 : 0 < o) (h : o < 1793) : stK 1 o m (some [B8 x]) (some (CF r f)) = some ⟨Un, [], [(m, some (CF r (set1 f (o - 1) x)))]⟩ := by
  obtain ⟨p, rfl⟩ : ∃ p, o = p + 1 := ⟨o - 1, by omega⟩
  have := aB_st p 1792 m x f (by omega)
  rw [stK_some, if_pos ⟨rfl, by rw [aB_length]; omega, rfl⟩] at this
  rw [stK_some, if_pos ⟨rfl, by rw [CF_length]; omega, rfl⟩]
  have e : qbw (aB 1792 f) p [B8 x] = aB 1792 (set1 f p x) := by simpa using this
  have e2 : qbw (CF r f) (p + 1) [B8 x] = r :: qbw (aB 1792 f) p [B8 x] := by
    simp only [qbw, CF, List.take_succ_cons, List.cons_append, List.length_cons, List.length_nil, Nat.zero_add]
    rw [Nat.add_right_comm, List.drop_succ_cons]
  rw [e2, e]; rfl
theorem qaR (r : LV) (f : R) : (CF r f).flatMap (nms D) = nms D r := by
  rw [CF, List.flatMap_cons, aB_nms, List.append_nil]
theorem qaV (π : Nm → Option Nm) (r : LV) (f : R) : (CF r f).map (ren D π) = CF (ren D π r) f := by
  rw [CF, List.map_cons, qbB, CF]
theorem CF_congr (r : LV) {f g : R} (h : ∀ i, i < 1792 → f i = g i) : CF r f = CF r g := by rw [CF, CF, aB_ext _ h]

/-! ### the tables -/

def LGl : List Nat := [0, 0, 25, 1, 50, 2, 26, 198, 75, 199, 27, 104, 51, 238, 223, 3, 100, 4, 224, 14, 52, 141, 129, 239, 76, 113, 8, 200, 248, 105, 28, 193, 125, 194, 29, 181, 249, 185, 39, 106, 77, 228, 166, 114, 154, 201, 9, 120, 101, 47, 138, 5, 33, 15, 225, 36, 18, 240, 130, 69, 53, 147, 218, 142, 150, 143, 219, 189, 54, 208, 206, 148, 19, 92, 210, 241, 64, 70, 131, 56, 102, 221, 253, 48, 191, 6, 139, 98, 179, 37, 226, 152, 34, 136, 145, 16, 126, 110, 72, 195, 163, 182, 30, 66, 58, 107, 40, 84, 250, 133, 61, 186, 43, 121, 10, 21, 155, 159, 94, 202, 78, 212, 172, 229, 243, 115, 167, 87, 175, 88, 168, 80, 244, 234, 214, 116, 79, 174, 233, 213, 231, 230, 173, 232, 44, 215, 117, 122, 235, 22, 11, 245, 89, 203, 95, 176, 156, 169, 81, 160, 127, 12, 246, 111, 23, 196, 73, 236, 216, 67, 31, 45, 164, 118, 123, 183, 204, 187, 62, 90, 251, 96, 177, 134, 59, 82, 161, 108, 170, 85, 41, 157, 151, 178, 135, 144, 97, 190, 220, 252, 188, 149, 207, 205, 55, 63, 91, 209, 83, 57, 132, 60, 65, 162, 109, 71, 20, 42, 158, 93, 86, 242, 211, 171, 68, 17, 146, 217, 35, 32, 46, 137, 180, 124, 184, 38, 119, 153, 227, 165, 103, 74, 237, 222, 197, 49, 254, 24, 13, 99, 140, 128, 192, 247, 112, 7]
def LG (i : Nat) : Nat := LGl.getD i 0
def TB : R := fun j => if j < 256 then BX j else if j < 512 then UB (j - 256) else if j < 768 then T2 (BitVec.ofNat 8 j) else if j < 1024 then T9 (BitVec.ofNat 8 j)
  else if j < 1280 then T11 (BitVec.ofNat 8 j) else if j < 1536 then T13 (BitVec.ofNat 8 j) else T14 (BitVec.ofNat 8 j)

theorem pw_mul : ∀ i : Fin 255, mul (PW i.val) 3#8 = PW (i.val + 1) := by decide +kernel
theorem lg_pw : ∀ i : Fin 255, LG (PW i.val).toNat = i.val := by decide +kernel
theorem pw_lg : ∀ j : Fin 256, j.val = 0 ∨ PW (LG j.val) = BitVec.ofNat 8 j.val := by decide +kernel
theorem lg_lt : ∀ j : Fin 256, LG j.val < 255 := by decide +kernel
def xb (b : BitVec 8) : BitVec 8 := 99#8 ^^^ b ^^^ rot b 1 ^^^ rot b 2 ^^^ rot b 3 ^^^ rot b 4
theorem xb_pw : ∀ i : Fin 255, xb (PW (255 - i.val)) = BX (PW i.val).toNat := by decide +kernel
/-- whether a byte's box is there after so many steps -/
def don (i a : Nat) : Bool := decide (a = 0 ∨ LG a < i)
theorem don_succ (i a : Nat) (hi : i < 255) (ha : a < 256) : don (i + 1) a = (decide (a = (PW i).toNat) || don i a) := by
  rw [don, don, Bool.eq_iff_iff]
  simp only [decide_eq_true_eq, Bool.or_eq_true]
  have h1 := lg_pw ⟨i, hi⟩
  have h2 := pw_lg ⟨a, ha⟩
  simp only at h1 h2
  constructor
  · rintro (h | h)
    · exact Or.inr (Or.inl h)
    · by_cases h3 : LG a < i
      · exact Or.inr (Or.inr h3)
      · have h4 : LG a = i := by omega
        rcases h2 with h2 | h2
        · exact Or.inr (Or.inl h2)
        · left
          rw [← h4, h2, BitVec.toNat_ofNat]; omega
  · rintro (h | h | h)
    · right; rw [h, h1]; omega
    · exact Or.inl h
    · exact Or.inr (by omega)
theorem don_all (a : Nat) (ha : a < 256) : don 255 a = true := by
  have := lg_lt ⟨a, ha⟩
  simp only [don, decide_eq_true_eq]; exact Or.inr this

def bxT (i : Nat) : R := fun j => if j < 256 then (if don i j = true then BX j else 0#8) else if j < 512 then (if don i (UB (j - 256)).toNat = true then UB (j - 256) else 0#8) else 0#8
theorem ub_lt (k : Nat) : (UB k).toNat < 256 := (UB k).isLt
theorem bx_lt (k : Nat) : (BX k).toNat < 256 := (BX k).isLt
theorem bx_ubN (k : Nat) (h : k < 256) : BX (UB k).toNat = BitVec.ofNat 8 k := by
  have := bx_ub (BitVec.ofNat 8 k)
  rwa [BitVec.toNat_ofNat, Nat.mod_eq_of_lt h] at this
theorem bxT_0 : bxT 0 = set1 (set1 (fun _ => 0#8) 0 99#8) 355 0#8 := by
  funext j
  simp only [bxT, don, Nat.not_lt_zero, or_false, decide_eq_true_eq, set1]
  by_cases h : j = 355
  · subst h; decide
  · rw [if_neg h]
    by_cases h0 : j = 0
    · subst h0; decide
    · rw [if_neg h0]
      split
      · rfl
      · rename_i h1
        split
        · split
          · rename_i h2 h3
            exact BitVec.eq_of_toNat_eq h3
          · rfl
        · rfl
theorem bxT_succ (i : Nat) (hi : i < 255) : bxT (i + 1) = set1 (set1 (bxT i) (PW i).toNat (BX (PW i).toNat)) (256 + (BX (PW i).toNat).toNat) (PW i) := by
  have hp : (PW i).toNat < 256 := (PW i).isLt
  have hb := bx_lt (PW i).toNat
  funext j
  simp only [bxT, set1]
  by_cases h1 : j < 256
  · rw [if_pos h1, if_pos h1, if_neg (show ¬ j = 256 + (BX (PW i).toNat).toNat by omega), don_succ i j hi h1]
    by_cases h2 : j = (PW i).toNat
    · rw [if_pos h2, if_pos (by rw [decide_eq_true h2]; rfl), h2]
    · rw [if_neg h2, decide_eq_false h2, Bool.false_or]
  · rw [if_neg h1, if_neg h1, if_neg (show ¬ j = (PW i).toNat by omega)]
    by_cases h3 : j < 512
    · rw [if_pos h3, if_pos h3, don_succ i _ hi (ub_lt _)]
      by_cases h2 : j = 256 + (BX (PW i).toNat).toNat
      · have e : UB (j - 256) = PW i := by
          rw [h2, Nat.add_sub_cancel_left, ub_bx]
        rw [if_pos h2, e, decide_eq_true rfl, Bool.true_or, if_pos rfl]
      · have e : ¬ (UB (j - 256)).toNat = (PW i).toNat := by
          intro e
          have := bx_ubN (j - 256) (by omega)
          rw [e] at this
          rw [this, BitVec.toNat_ofNat] at h2
          omega
        rw [if_neg h2, decide_eq_false e, Bool.false_or]
    · rw [if_neg h3, if_neg h3, if_neg (show ¬ j = 256 + (BX (PW i).toNat).toNat by omega)]
theorem bxT_all (j : Nat) (h : j < 512) : bxT 255 j = TB j := by
  simp only [bxT, TB]
  by_cases h1 : j < 256
  · rw [if_pos h1, if_pos h1, don_all j h1, if_pos rfl]
  · rw [if_neg h1, if_neg h1, if_pos h, if_pos h, don_all _ (ub_lt _), if_pos rfl]

def tbT (i : Nat) : R := fun j => if j < 512 ∨ (j < 1792 ∧ j % 256 < i) then TB j else 0#8
theorem tbT_0 : tbT 0 = bxT 255 := by
  funext j
  simp only [tbT, Nat.not_lt_zero, and_false, or_false]
  by_cases h : j < 512
  · rw [if_pos h, bxT_all j h]
  · rw [if_neg h, bxT, if_neg (by omega), if_neg h]
theorem tbT_succ (i : Nat) (hi : i < 256) : tbT (i + 1) = set1 (set1 (set1 (set1 (set1 (tbT i) (512 + i) (T2 (BitVec.ofNat 8 i))) (768 + i) (T9 (BitVec.ofNat 8 i))) (1024 + i) (T11 (BitVec.ofNat 8 i))) (1280 + i) (T13 (BitVec.ofNat 8 i))) (1536 + i) (T14 (BitVec.ofNat 8 i)) := by
  have e : ∀ k, BitVec.ofNat 8 (256 * k + i) = BitVec.ofNat 8 i := by
    intro k; apply BitVec.eq_of_toNat_eq; simp only [BitVec.toNat_ofNat]; omega
  funext j
  simp only [set1]
  by_cases h5 : j = 1536 + i
  · rw [if_pos h5, tbT, if_pos (by omega), TB, if_neg (by omega), if_neg (by omega), if_neg (by omega), if_neg (by omega), if_neg (by omega), if_neg (by omega), h5]; rw [← e 6]
  rw [if_neg h5]
  by_cases h4 : j = 1280 + i
  · rw [if_pos h4, tbT, if_pos (by omega), TB, if_neg (by omega), if_neg (by omega), if_neg (by omega), if_neg (by omega), if_neg (by omega), if_pos (by omega), h4]; rw [← e 5]
  rw [if_neg h4]
  by_cases h3 : j = 1024 + i
  · rw [if_pos h3, tbT, if_pos (by omega), TB, if_neg (by omega), if_neg (by omega), if_neg (by omega), if_neg (by omega), if_pos (by omega), h3]; rw [← e 4]
  rw [if_neg h3]
  by_cases h2 : j = 768 + i
  · rw [if_pos h2, tbT, if_pos (by omega), TB, if_neg (by omega), if_neg (by omega), if_neg (by omega), if_pos (by omega), h2]; rw [← e 3]
  rw [if_neg h2]
  by_cases h1 : j = 512 + i
  · rw [if_pos h1, tbT, if_pos (by omega), TB, if_neg (by omega), if_neg (by omega), if_pos (by omega), h1]; rw [← e 2]
  rw [if_neg h1]
  simp only [tbT]
  by_cases h : j < 512 ∨ (j < 1792 ∧ j % 256 < i)
  · rw [if_pos h, if_pos (by omega)]
  · rw [if_neg h, if_neg (by omega)]
theorem tbT_all (r : LV) : CF r (tbT 256) = CF r TB := CF_congr r fun j hj => by rw [tbT, if_pos (by omega)]
end Aes

namespace Aes
open Go Go.LE

theorem idx0 (x : Nm) (xs : List Nm) : idx x (x :: xs) 0 = some 0 := by simp [idx]
theorem idx1 (x y : Nm) (xs : List Nm) (h : x ≠ y) : idx y (x :: y :: xs) 0 = some 1 := by simp [idx, h]

/-- arguments that name no memory -/
structure Pl (ps : List LV) : Prop where
  n : ps.flatMap (nms D) = []
  r : ∀ π, ps.map (ren D π) = ps
theorem Pl.e : Pl [] := ⟨rfl, fun _ => rfl⟩
theorem Pl.pa (n : Nat) (s : R) {ps : List LV} (h : Pl ps) : Pl (.agg (aB n s) :: ps) :=
  ⟨by rw [List.flatMap_cons, qbn, h.n]; rfl, fun π => by rw [List.map_cons, qbO, h.r]⟩
theorem call0 (k b g : Nat) (hg : lentF g = fun _ => false) (H : Heap) (fN : Nm) (f f' : R) (h : H fN = some (CF Nil f)) (ps : List LV) (hp : Pl ps) (r : LV) (hr : ∀ π, ren D π r = r)
    (hw : F C k g (.ptr (0, 0) 0 :: ps) [CF Nil f] = some (r, [some (CF Nil f')], [])) :
    qbl (envC C k) H b g (.ptr fN 0 :: ps) = some ⟨r, [], [(fN, some (CF Nil f'))]⟩ := by
  have hre : qbd H FUEL [] [fN] = [fN] := by
    simp only [FUEL, qaD, List.contains_nil, Bool.false_eq_true, if_false, h, qaB, qaR, qbE, List.nil_append, qax]
  rw [callOp_L, envC_borrow, C_bor, hg, lend_none, callL_some]
  have hn : (LV.ptr fN 0 :: ps).flatMap (nms D) = [fN] := by rw [List.flatMap_cons, qaI, hp.n]; rfl
  rw [hn, hre, callN_eq _ _ _ _ _ rfl, show ([fN] : List Nm).filterMap H = [CF Nil f] by simp [h]]
  have ha : (LV.ptr fN 0 :: ps).map (ren D (qa1 [fN])) = .ptr (0, 0) 0 :: ps := by
    simp only [List.map_cons, qbk, toCallee_eq, idx0, Option.map_some, qbH, hp.r]
  rw [ha, List.map_cons, List.map_nil, qaV, ren_nil, envC_cal, hw, show ([] : List Nm).isEmpty = true from rfl, resK_sc, backTo_eq, hr]
  simp only [List.zipWith_cons_cons, List.zipWith_nil_left, Option.map_some, qaV, ren_nil, List.map_nil]
end Aes

namespace Aes
open Go Go.LE

/-- the powers of 3 so far -/
def pwT (i : Nat) : R := fun j => if j < i then PW j else 0#8
theorem pwT_succ (i : Nat) (h : i < 255) : set1 (pwT (i + 1)) (i + 1) (mul (pwT (i + 1) i) 3#8) = pwT (i + 2) := by
  funext j
  have := pw_mul ⟨i, h⟩
  simp only at this
  simp only [set1, pwT]
  by_cases h1 : j = i + 1
  · subst h1; rw [if_pos rfl, if_pos (by omega), if_pos (by omega), this]
  · rw [if_neg h1]
    by_cases h2 : j < i + 1
    · rw [if_pos h2, if_pos (by omega)]
    · rw [if_neg h2, if_neg (by omega)]

def bJ1 (i : Nat) (st : St) : Prop := ∃ (H : Heap), st = ⟨[.ptr (0, 0) 0, .undef, .ptr (1, 0) 0, N (i + 1), .undef, .undef, .undef, .undef, .undef, .undef, .undef, .undef, .undef, .undef, .undef, .undef, .undef, .undef, .undef, .undef, .undef, .undef, .undef, .undef, .undef, .undef, .undef, .undef, .undef, .undef, .undef, .undef, .undef, .undef, .undef, .undef, .undef, .undef, .undef, .undef, .undef, .undef, .undef, .undef, .undef, .undef, .undef, .undef, .undef, .undef, .undef, .undef, .undef, .undef, .undef, .undef, .undef, .undef, .undef, .undef, .undef, .undef, .undef, .undef, .undef, .undef, .undef, .undef, .undef, .undef, .undef], H, 2, 1⟩ ∧ H (0, 0) = some (CF Nil fun _ => 0#8) ∧ H (1, 0) = some (aB 256 (pwT (i + 1)))
def bJ2 (i : Nat) (st : St) : Prop := ∃ (H : Heap), st = ⟨[.ptr (0, 0) 0, .undef, .ptr (1, 0) 0, .undef, B8 99#8, .undef, .undef, .undef, .undef, .undef, .undef, .undef, .undef, .undef, .undef, .undef, .undef, .undef, .undef, .undef, .undef, .undef, .undef, .undef, .undef, .undef, .undef, .undef, .undef, .undef, .undef, .undef, .sl (1, 0) 0 255 (some 256) 1, N 255, N i, .undef, .undef, .undef, .undef, .undef, .undef, .undef, .undef, .undef, .undef, .undef, .undef, .undef, .undef, .undef, .undef, .undef, .undef, .undef, .undef, .undef, .undef, .undef, .undef, .undef, .undef, .undef, .undef, .undef, .undef, .undef, .undef, .undef, .undef, .undef, .undef], H, 2, 1⟩ ∧ H (0, 0) = some (CF Nil (bxT i)) ∧ H (1, 0) = some (aB 256 (pwT 256))

theorem boxes_F (k : Nat) : F C (k + 300) 47 [.ptr (0, 0) 0] [CF Nil fun _ => 0#8] = some (.tup [], [some (CF Nil (bxT 255))], []) := by
  rw [qbK f47]
  have e0 : set1 (fun _ => 0#8) 0 1#8 = pwT 1 := by
    funext j; simp only [set1, pwT]
    by_cases h : j = 0
    · subst h; rfl
    · rw [if_neg h, if_neg (by omega)]
  simp (disch := first | omega | decide | simp only [qaf, qad, qag, qae, qah, qac, qaa, qab, qai]) only [qba, qav, qbg, qap, qao, qam, qal, qaO, qar, qbo, qaC, qaH, qas, qaK, qaj, List.set_cons_zero, List.set_cons_succ, List.getD_cons_zero, List.getD_cons_succ, List.nil_append, List.cons_append, qa4, List.replicate_zero, List.length_cons, List.length_nil, ev_loop, Nat.reduceAdd, Nat.reduceSub, qaq, stepK_new, stepK_mod, cellsOf_B8, op_new, op_st, qbt, op_iaA, iaV_lt, if_true, Nat.zero_add, Nat.add_zero, aB_rep, aB_st, Nat.mul_one, Nat.add_zero, Nat.zero_add, N_nat, Nat.reduceAdd, Nat.mul_one, qa0, L47, e0]
  generalize hL : loopN L47k1 _ _ _ = r
  refine loop_use hL bJ1 255 (by omega) ?_ ?_ ?_ ?_
  · rintro i st hi ⟨H, rfl, h0, h1⟩
    have hlt : i + 1 < 256 := by omega
    have hs := pwT_succ i hi
    have e1 : i + 1 - 1 = i := by omega
    apply Exists.intro
    apply And.intro
    · simp (disch := first | omega | decide | simp only [nms_B8, nms_B32, nms_B64, nms_I, nms_N, nms_Bo, nms_Un, qa6, nms_Hf, qaI, qaT, qbn, aW_agg_nms, aD_agg_nms, aO_agg_nms, List.flatMap_cons, List.flatMap_nil, List.nil_append, List.append_nil, ren_B8, ren_B32, qbT, ren_I, ren_N, ren_Bo, ren_Un, ren_undef, ren_Hf, qbO, aW_agg_ren, aD_agg_ren, aO_agg_ren, List.map_cons, List.map_nil, ren7_I, ren7_N, ren7_Bo, ren7_B8, ren7_B32, ren7_B64, nms7_I, nms7_N, nms7_Bo, nms7_B8, nms7_B32, nms7_B64, nms_tup, ren_tup, implies_true, l48, l56, l57, qaf, qaw, qaE, ibs_nms, qbI, qad, qag, qae, qah, qac, qaa, qab, qai]) only [qbv, qav, qbg, qap, qao, qam, qal, qaO, qar, qbo, qaC, qaH, qas, qaK, qaJ, qa3, qaY, qaj, qbc, qaL, qbq, List.set_cons_zero, List.set_cons_succ, List.getD_cons_zero, List.getD_cons_succ, List.map_cons, List.map_nil, List.length_cons, List.length_nil, callOp_C, calK_B8, Nat.reduceAdd, stepK_mod, cellsOf_B8, qaQ, qbs, op_ld1, op_st, qbt, op_iaA, iaV_lt, Nat.zero_add, Nat.add_zero, decide_true, aB_cell, aB_st, Nat.mul_one, Nat.add_zero, Nat.zero_add, N_add, N_sub, qbp, N_nat, Nat.reduceAdd, decide_true, Nat.mul_one, L47b1, h1, hlt, e1, mulF, hs]
      rfl
    · refine qbm [(1, 0)] rfl (by simp only [qay, FUEL, qaD, qaB, qax, qaI, qa6, List.flatMap_cons, List.flatMap_nil, List.nil_append, List.cons_append, List.append_nil, List.map_nil, List.map_cons, List.contains_nil, List.contains_cons, Prod.mk.injEq, beq_iff_eq, Bool.or_eq_true, Bool.false_eq_true, and_true, or_false, if_true, if_false, Nat.one_ne_zero, Nat.zero_ne_one, List.filter_cons, List.filter_nil, bne_iff_ne, ne_eq, not_false_eq_true, not_true_eq_false, qaq, qbb, qa5, qaW, range_one, nms_N, qbE, L47k1, qaR, aB_nms, qbE, h0, h1]) rfl ⟨_, rfl, ?_, ?_⟩
      · rw [qbF]
        simp (disch := first | omega | decide | simp only [qaf, qad, qag, qae, qah, qac, qaa, qab, qai]) only [Option.map_some, qaq, Prod.mk.injEq, and_true, if_false, Nat.zero_ne_one, ren_nil, Option.map_some, h0, qaV, ren_nil]
      · exact qaP (1, 0) rfl (by simp (disch := first | omega | decide | simp only [qaf, qad, qag, qae, qah, qac, qaa, qab, qai]) only [qaq, if_true, h1]) (qbB _ _ _)
  · refine qbm [(2, 0)] rfl (by simp only [qay, FUEL, qaD, qaB, qax, qaI, qa6, List.flatMap_cons, List.flatMap_nil, List.nil_append, List.cons_append, List.append_nil, List.map_nil, List.map_cons, List.contains_nil, List.contains_cons, Prod.mk.injEq, beq_iff_eq, Bool.or_eq_true, Bool.false_eq_true, Nat.reduceEqDiff, and_true, or_false, if_true, if_false, List.filter_cons, List.filter_nil, bne_iff_ne, ne_eq, not_false_eq_true, not_true_eq_false, qaq, qbb, qa5, qaW, qbG, qa0, range_one, List.getElem?_cons_zero, nms_N, qbE, L47k1, qaR, aB_nms, qbE]) rfl ⟨_, rfl, ?_, ?_⟩
    · rw [qbF]
      simp (disch := first | omega | decide | simp only [qaf, qad, qag, qae, qah, qac, qaa, qab, qai]) only [Option.map_some, qaq, Prod.mk.injEq, Nat.reduceEqDiff, and_true, if_false, ren_nil, Option.map_some, qbG, List.getElem?_cons_zero, qaV, ren_nil]
    · exact qaP (2, 0) rfl (by simp (disch := first | omega | decide | simp only [qaf, qad, qag, qae, qah, qac, qaa, qab, qai]) only [qaq, if_true, Nat.zero_add, qa0]) (qbB _ _ _)
  · rintro st ⟨H, rfl, h0, h1⟩
    apply qb7
    simp (disch := first | omega | decide | simp only [qaf, qad, qag, qae, qah, qac, qaa, qab, qai]) only [qbx, qav, qap, qao, qam, qal, qaO, qar, qaC, qaH, qas, qaK, qaJ, qaj, qaU, qaL, qaF, List.set_cons_zero, List.set_cons_succ, List.getD_cons_zero, List.getD_cons_succ, List.length_cons, List.length_nil, Nat.reduceAdd, Nat.zero_add, Nat.add_zero, decide_false, Nat.add_zero, Nat.zero_add, qbp, Nat.reduceAdd, Nat.lt_irrefl, decide_false, L47b1]
    rfl
  · rintro st ⟨H, rfl, h0, h1⟩ rfl
    simp (disch := first | omega | decide | simp only [nms_B8, nms_B32, nms_B64, nms_I, nms_N, nms_Bo, nms_Un, qa6, nms_Hf, qaI, qaT, qbn, aW_agg_nms, aD_agg_nms, aO_agg_nms, List.flatMap_cons, List.flatMap_nil, List.nil_append, List.append_nil, ren_B8, ren_B32, qbT, ren_I, ren_N, ren_Bo, ren_Un, ren_undef, ren_Hf, qbO, aW_agg_ren, aD_agg_ren, aO_agg_ren, List.map_cons, List.map_nil, ren7_I, ren7_N, ren7_Bo, ren7_B8, ren7_B32, ren7_B64, nms7_I, nms7_N, nms7_Bo, nms7_B8, nms7_B32, nms7_B64, nms_tup, ren_tup, implies_true, l48, l56, l57, qaf, qaw, qaE, ibs_nms, qbI, qad, qag, qae, qah, qac, qaa, qab, qai]) only [qbx, qav, qbg, qap, qao, qam, qal, qaO, qar, qbo, qaC, qaH, qas, qaK, qaJ, qa3, qaY, qaj, qaU, qbL, qaL, qaF, nms_B8, List.set_cons_zero, List.set_cons_succ, List.getD_cons_zero, List.getD_cons_succ, List.map_cons, List.map_nil, List.append_nil, List.length_cons, List.length_nil, B8_nat, callOp_C, calK_B8, ev_loop, Nat.reduceAdd, Nat.reduceSub, qaq, cellsOf_B8, op_st, qbt, op_fa, faV_ptr, op_iaA, iaV_lt, List.all_cons, List.all_nil, Bool.and_true, Nat.reduceLT, if_true, Nat.zero_add, Nat.add_zero, decide_true, decide_false, Nat.mul_one, Nat.add_zero, Nat.zero_add, B8_nat, qbp, N_nat, Nat.reduceLT, Nat.reduceAdd, Nat.lt_irrefl, decide_false, decide_true, Bool.not_false, Bool.not_true, op_chk, qb3, op_len, qbC, lenS_sl, qb6, qbZ, op_slcAV, slcAV_ptr, Nat.sub_zero, Nat.mul_one, L47b1, h0, qa7, qbr, ordK_mod, qbV, touch_st, qaI, List.contains_cons, List.contains_nil, beq_self_eq_true, Bool.or_true, Bool.or_false, ordOk, qaZ, List.all_cons, List.all_nil, Nat.testBit, Nat.reduceShiftRight, Nat.reduceAnd, Nat.reduceBEq, Bool.not_true, Bool.not_false, Bool.and_self, Bool.and_true, Bool.and_false, Nat.reduceSub, Nat.reduceLT, bne, qbh, qbN, trimO_f, isCall_st, Bool.and_false, Bool.and_true, box0_F, CF_st, show (99#8 : BitVec 8).toNat = 99 from rfl, ← bxT_0]
    generalize hL : loopN L47k0 _ _ _ = r
    refine loop_use hL bJ2 255 (by omega) ?_ ?_ ?_ ?_
    · rintro i st hi ⟨H, rfl, h0, h1⟩
      have hp : (PW i).toNat < 256 := (PW i).isLt
      have hb := bx_lt (PW i).toNat
      have e0 : pwT 256 i = PW i := if_pos (by omega)
      have e2 : pwT 256 (255 - i) = PW (255 - i) := if_pos (by omega)
      have hx := xb_pw ⟨i, hi⟩
      simp only [xb] at hx
      have s1 : 1 + (PW i).toNat - 1 = (PW i).toNat := by omega
      have s2 : 257 + (BX (PW i).toNat).toNat - 1 = 256 + (BX (PW i).toNat).toNat := by omega
      have hs := bxT_succ i hi
      apply Exists.intro
      apply And.intro
      · simp (disch := first | omega | decide | simp only [nms_B8, nms_B32, nms_B64, nms_I, nms_N, nms_Bo, nms_Un, qa6, nms_Hf, qaI, qaT, qbn, aW_agg_nms, aD_agg_nms, aO_agg_nms, List.flatMap_cons, List.flatMap_nil, List.nil_append, List.append_nil, ren_B8, ren_B32, qbT, ren_I, ren_N, ren_Bo, ren_Un, ren_undef, ren_Hf, qbO, aW_agg_ren, aD_agg_ren, aO_agg_ren, List.map_cons, List.map_nil, ren7_I, ren7_N, ren7_Bo, ren7_B8, ren7_B32, ren7_B64, nms7_I, nms7_N, nms7_Bo, nms7_B8, nms7_B32, nms7_B64, nms_tup, ren_tup, implies_true, l48, l56, l57, qaf, qaw, qaE, ibs_nms, qbI, qad, qag, qae, qah, qac, qaa, qab, qai]) only [qbv, qav, qbg, qap, qao, qam, qal, qaO, qar, qbo, qaC, qaH, qas, qaK, qaJ, qa3, qaY, qaj, qbc, qaL, qbq, nms_B8, List.set_cons_zero, List.set_cons_succ, List.getD_cons_zero, List.getD_cons_succ, List.map_cons, List.map_nil, List.append_nil, List.length_cons, List.length_nil, B8_xor, B8_nat, callOp_C, calK_B8, Nat.reduceAdd, Nat.reduceSub, qaq, cellsOf_B8, qaQ, qbs, op_ld1, op_st, qbt, op_fa, faV_ptr, op_iaA, iaV_lt, List.all_cons, List.all_nil, Bool.and_true, Nat.reduceLT, if_true, Nat.zero_add, Nat.add_zero, decide_true, aB_cell, Nat.mul_one, Nat.add_zero, Nat.zero_add, B8_nat, N_add, N_sub, qbp, N_nat, Nat.reduceLT, Nat.reduceAdd, decide_true, Bool.not_false, Bool.not_true, op_chk, qb3, op_iaS, iaSV_sl, Nat.mul_one, qa7, qbr, ordK_mod, qbV, touch_st, qaI, List.contains_cons, List.contains_nil, beq_self_eq_true, Bool.or_true, Bool.or_false, ordOk, qaZ, List.all_cons, List.all_nil, Nat.testBit, Nat.reduceShiftRight, Nat.reduceAnd, Nat.reduceBEq, Bool.not_true, Bool.not_false, Bool.and_self, Bool.and_true, Bool.and_false, Nat.reduceSub, Nat.reduceLT, bne, qbh, qbN, trimO_f, isCall_st, Bool.and_false, Bool.and_true, L47b0, h0, h1, hi, e0, e2, rot1, rot2, rot3, rot4, hx, CF_st, s1, s2, ← hs]
        rfl
      · refine qbm [(1, 0)] rfl (by simp only [qay, FUEL, qaD, qaB, qax, qaI, qaT, nms_B8, qa6, List.flatMap_cons, List.flatMap_nil, List.nil_append, List.cons_append, List.append_nil, List.map_nil, List.map_cons, List.contains_nil, List.contains_cons, Prod.mk.injEq, beq_iff_eq, Bool.or_eq_true, Bool.false_eq_true, and_true, or_false, or_true, if_true, if_false, Nat.one_ne_zero, List.filter_cons, List.filter_nil, bne_iff_ne, ne_eq, not_false_eq_true, not_true_eq_false, qaq, qbb, qa5, qaW, range_one, nms_N, qbE, L47k0, qaR, aB_nms, qbE, h0, h1]) rfl ⟨_, rfl, ?_, ?_⟩
        · rw [qbF]
          simp (disch := first | omega | decide | simp only [qaf, qad, qag, qae, qah, qac, qaa, qab, qai]) only [Option.map_some, qaq, if_true, ren_nil, Option.map_some, h0, qaV, ren_nil]
        · exact qaP (1, 0) rfl (by simp (disch := first | omega | decide | simp only [qaf, qad, qag, qae, qah, qac, qaa, qab, qai]) only [qaq, Prod.mk.injEq, and_true, if_false, Nat.one_ne_zero, h1]) (qbB _ _ _)
    · refine qbm [(1, 0)] rfl (by simp only [qay, FUEL, qaD, qaB, qax, qaI, qaT, nms_B8, qa6, List.flatMap_cons, List.flatMap_nil, List.nil_append, List.cons_append, List.append_nil, List.map_nil, List.map_cons, List.contains_nil, List.contains_cons, Prod.mk.injEq, beq_iff_eq, Bool.or_eq_true, Bool.false_eq_true, and_true, or_false, or_true, if_true, if_false, Nat.one_ne_zero, List.filter_cons, List.filter_nil, bne_iff_ne, ne_eq, not_false_eq_true, not_true_eq_false, qaq, Nat.reduceAdd, qbb, qa5, qaW, range_one, nms_N, qbE, L47k0, qaR, aB_nms, qbE, h0, h1]) rfl ⟨_, rfl, ?_, ?_⟩
      · rw [qbF]
        simp (disch := first | omega | decide | simp only [qaf, qad, qag, qae, qah, qac, qaa, qab, qai]) only [Option.map_some, qaq, if_true, ren_nil, Option.map_some, qaV, ren_nil]
      · exact qaP (1, 0) rfl (by simp (disch := first | omega | decide | simp only [qaf, qad, qag, qae, qah, qac, qaa, qab, qai]) only [Nat.reduceAdd, qaq, Prod.mk.injEq, and_true, if_false, Nat.one_ne_zero, h1]) (qbB _ _ _)
    · rintro st ⟨H, rfl, h0, h1⟩
      apply qb7
      simp (disch := first | omega | decide | simp only [qaf, qad, qag, qae, qah, qac, qaa, qab, qai]) only [qbx, qav, qap, qao, qam, qal, qaO, qar, qaC, qas, qaJ, qaj, qaU, qaL, qaF, List.set_cons_zero, List.set_cons_succ, List.getD_cons_zero, List.getD_cons_succ, List.length_cons, List.length_nil, Nat.reduceAdd, Nat.zero_add, Nat.add_zero, decide_false, Nat.add_zero, Nat.zero_add, qbp, Nat.reduceAdd, Nat.lt_irrefl, decide_false, L47b0]
      rfl
    · rintro st ⟨H, rfl, h0, h1⟩ rfl
      simp (disch := first | omega | decide | simp only [qaf, qad, qag, qae, qah, qac, qaa, qab, qai]) only [qbx, qav, qap, qao, qam, qal, qaO, qar, qaC, qas, qaJ, qaj, qaU, qbL, qaL, qaF, retK_normal, List.set_cons_zero, List.set_cons_succ, List.getD_cons_zero, List.getD_cons_succ, List.length_cons, List.length_nil, Option.map_some, Nat.reduceAdd, if_true, Nat.zero_add, Nat.add_zero, decide_false, Nat.add_zero, Nat.zero_add, qbp, Nat.reduceAdd, Nat.lt_irrefl, decide_false, Option.map_some, resVal_none, L47b0]
      rw [outOf_mem 1 _ _ [] (by simp only [qay, FUEL, qaD, qaB, qax, List.flatMap_cons, List.flatMap_nil, List.nil_append, List.append_nil, List.map_nil, List.map_cons, List.contains_nil, Bool.false_eq_true, if_false, List.filter_cons, List.filter_nil, bne_iff_ne, ne_eq, not_true_eq_false, range_one, qbE, qaR, qbE, nms_tup0, h0])]
      simp (disch := first | omega | decide | simp only [qaf, qad, qag, qae, qah, qac, qaa, qab, qai]) only [List.map_cons, List.map_nil, Option.map_some, ren_nil, List.filterMap_nil, Option.map_some, range_one, ren_tup0, qaV, ren_nil, h0]

def tJ (i : Nat) (st : St) : Prop := ∃ (H : Heap), st = ⟨[.ptr (0, 0) 0, .undef, .undef, .undef, .undef, .undef, .undef, .undef, .undef, N i, .undef, .undef, .undef, .undef, .undef, .undef, .undef, .undef, .undef, .undef, .undef, .undef, .undef, .undef, .undef, .undef, .undef, .undef, .undef, .undef, .undef, .undef, .undef, .undef, .undef, .undef, .undef, .undef, .undef, .undef, .undef, .undef, .undef, .undef, .undef, .undef, .undef, .undef, .undef, .undef, .undef, .undef, .undef, .undef, .undef, .undef, .undef, .undef, .undef, .undef, .undef, .undef, .undef, .undef, .undef], H, 2, 1⟩ ∧ H (0, 0) = some (CF Nil (tbT i))
theorem boxes_call (k b : Nat) (H : Heap) (h0 : H (0, 0) = some (CF Nil fun _ => 0#8)) : qbl (envC C (k + 300)) H b 47 [.ptr (0, 0) 0] = some ⟨.tup [], [], [((0, 0), some (CF Nil (bxT 255)))]⟩ := by
  exact call0 _ b 47 l47 H (0, 0) _ _ h0 [] Pl.e _ (fun _ => rfl) (boxes_F k)
theorem tables_F (k : Nat) : F C (k + 301) 28 [.ptr (0, 0) 0] [CF Nil fun _ => 0#8] = some (.tup [], [some (CF Nil TB)], []) := by
  rw [qbK f28]
  have hc := boxes_call k 3 (inHeap [CF Nil fun _ => 0#8]) rfl
  simp (disch := first | omega | decide | simp only [qaf, qad, qag, qae, qah, qac, qaa, qab, qai]) only [qba, qav, qbg, qap, qao, qam, qal, qaO, qar, qaC, qaH, qaK, qa3, qaY, qaj, List.set_cons_zero, List.set_cons_succ, List.getD_cons_zero, List.getD_cons_succ, List.map_cons, List.map_nil, List.nil_append, List.cons_append, qa4, List.replicate_zero, List.length_cons, List.length_nil, ev_loop, Nat.reduceAdd, Nat.reduceSub, stepK_mod, Nat.zero_add, Nat.add_zero, Nat.add_zero, Nat.zero_add, Nat.reduceAdd, L28, hc, ← tbT_0]
  generalize hL : loopN L28k0 _ _ _ = r
  refine loop_use hL tJ 256 (by omega) ?_ ?_ ?_ ?_
  · rintro i st hi ⟨H, rfl, h0⟩
    have hs := tbT_succ i hi
    have s1 : 513 + i - 1 = 512 + i := by omega
    have s2 : 769 + i - 1 = 768 + i := by omega
    have s3 : 1025 + i - 1 = 1024 + i := by omega
    have s4 : 1281 + i - 1 = 1280 + i := by omega
    have s5 : 1537 + i - 1 = 1536 + i := by omega
    have m1 : ∀ x, mul x 2#8 = T2 x := mul_T2'
    simp only [T9, T11, T13, T14, T8, T4] at hs
    apply Exists.intro
    apply And.intro
    · simp (disch := first | omega | decide | simp only [nms_B8, nms_B32, nms_B64, nms_I, nms_N, nms_Bo, nms_Un, qa6, nms_Hf, qaI, qaT, qbn, aW_agg_nms, aD_agg_nms, aO_agg_nms, List.flatMap_cons, List.flatMap_nil, List.nil_append, List.append_nil, ren_B8, ren_B32, qbT, ren_I, ren_N, ren_Bo, ren_Un, ren_undef, ren_Hf, qbO, aW_agg_ren, aD_agg_ren, aO_agg_ren, List.map_cons, List.map_nil, ren7_I, ren7_N, ren7_Bo, ren7_B8, ren7_B32, ren7_B64, nms7_I, nms7_N, nms7_Bo, nms7_B8, nms7_B32, nms7_B64, nms_tup, ren_tup, implies_true, l47, l48, qaf, qaw, qaE, ibs_nms, qbI, qad, qag, qae, qah, qac, qaa, qab, qai]) only [qbv, qav, qbg, qap, qao, qam, qal, qaO, qar, qbo, qaC, qaH, qas, qaK, qaJ, op_cvt, qa3, qaY, qaj, qbc, qaL, qbq, nms_B8, List.set_cons_zero, List.set_cons_succ, List.getD_cons_zero, List.getD_cons_succ, List.map_cons, List.map_nil, List.append_nil, List.length_cons, List.length_nil, B8_xor, callOp_C, calK_B8, Nat.reduceAdd, Nat.reduceSub, qaq, cellsOf_B8, op_st, qbt, op_fa, faV_ptr, op_iaA, iaV_lt, List.all_cons, List.all_nil, Bool.and_true, Nat.reduceLT, if_true, Nat.zero_add, Nat.add_zero, decide_true, Nat.mul_one, Nat.add_zero, Nat.zero_add, N_add, qbp, N_nat, cvt_N_8, Nat.reduceLT, Nat.reduceAdd, decide_true, Bool.not_false, Bool.not_true, op_chk, qb3, Nat.mul_one, qa7, qbr, ordK_mod, qbV, touch_st, qaI, List.contains_cons, List.contains_nil, beq_self_eq_true, Bool.or_true, Bool.or_false, ordOk, qaZ, List.all_cons, List.all_nil, Nat.testBit, Nat.reduceShiftRight, Nat.reduceAnd, Nat.reduceBEq, Bool.not_true, Bool.not_false, Bool.and_self, Bool.and_true, Bool.and_false, Nat.reduceSub, Nat.reduceLT, bne, qbh, qbN, trimO_f, isCall_st, Bool.and_false, Bool.and_true, L28b0, h0, hi, mulF, m1, CF_st, s1, s2, s3, s4, s5, ← hs]
      rfl
    · refine qbm [] rfl (by simp only [qay, FUEL, qaD, qaB, qax, qaI, qa6, List.flatMap_cons, List.flatMap_nil, List.nil_append, List.cons_append, List.append_nil, List.map_nil, List.map_cons, List.contains_nil, List.contains_cons, beq_iff_eq, Bool.or_eq_true, Bool.false_eq_true, or_false, if_true, if_false, List.filter_cons, List.filter_nil, bne_iff_ne, ne_eq, not_true_eq_false, qaq, qbb, qa5, qaW, range_one, nms_N, qbE, L28k0, qaR, qbE, h0]) rfl ⟨_, rfl, ?_⟩
      rw [qbF]
      simp (disch := first | omega | decide | simp only [qaf, qad, qag, qae, qah, qac, qaa, qab, qai]) only [Option.map_some, qaq, if_true, ren_nil, Option.map_some, h0, qaV, ren_nil]
  · refine qbm [] rfl (by simp only [qay, FUEL, qaD, qaB, qax, qaI, qa6, List.flatMap_cons, List.flatMap_nil, List.nil_append, List.cons_append, List.append_nil, List.map_nil, List.map_cons, List.contains_nil, List.contains_cons, beq_iff_eq, Bool.or_eq_true, Bool.false_eq_true, or_false, if_true, if_false, List.filter_cons, List.filter_nil, bne_iff_ne, ne_eq, not_true_eq_false, qaq, qbb, qa5, qaW, qbG, range_one, List.getElem?_cons_zero, nms_N, qbE, L28k0, qaR, qbE]) rfl ⟨_, rfl, ?_⟩
    rw [qbF]
    simp (disch := first | omega | decide | simp only [qaf, qad, qag, qae, qah, qac, qaa, qab, qai]) only [Option.map_some, qaq, if_true, ren_nil, Option.map_some, qbG, List.getElem?_cons_zero, qaV, ren_nil]
  · rintro st ⟨H, rfl, h0⟩
    apply qb7
    simp (disch := first | omega | decide | simp only [qaf, qad, qag, qae, qah, qac, qaa, qab, qai]) only [qbx, qav, qap, qao, qam, qal, qaO, qar, qaC, qaH, qas, qaJ, qaj, qaU, qaL, qaF, List.set_cons_zero, List.set_cons_succ, List.getD_cons_zero, List.getD_cons_succ, List.length_cons, List.length_nil, Nat.reduceAdd, Nat.zero_add, Nat.add_zero, decide_false, Nat.add_zero, Nat.zero_add, qbp, Nat.reduceAdd, Nat.lt_irrefl, decide_false, L28b0]
    rfl
  · rintro st ⟨H, rfl, h0⟩ rfl
    simp (disch := first | omega | decide | simp only [qaf, qad, qag, qae, qah, qac, qaa, qab, qai]) only [qbx, qav, qap, qao, qam, qal, qaO, qar, qaC, qaH, qas, qaJ, qaj, qaU, qbL, qaL, qaF, retK_normal, List.set_cons_zero, List.set_cons_succ, List.getD_cons_zero, List.getD_cons_succ, List.length_cons, List.length_nil, Option.map_some, Nat.reduceAdd, if_true, Nat.zero_add, Nat.add_zero, decide_false, Nat.add_zero, Nat.zero_add, qbp, Nat.reduceAdd, Nat.lt_irrefl, decide_false, Option.map_some, resVal_none, L28b0]
    rw [outOf_mem 1 _ _ [] (by simp only [qay, FUEL, qaD, qaB, qax, List.flatMap_cons, List.flatMap_nil, List.nil_append, List.append_nil, List.map_nil, List.map_cons, List.contains_nil, Bool.false_eq_true, if_false, List.filter_cons, List.filter_nil, bne_iff_ne, ne_eq, not_true_eq_false, range_one, qbE, qaR, qbE, nms_tup0, h0])]
    simp (disch := first | omega | decide | simp only [qaf, qad, qag, qae, qah, qac, qaa, qab, qai]) only [List.map_cons, List.map_nil, Option.map_some, ren_nil, List.filterMap_nil, Option.map_some, range_one, ren_tup0, qaV, ren_nil, h0, tbT_all]
end Aes
