/- New's first loop: the key's words. -/
/- New's second loop: the schedule (under way). -/
/- New's second loop: the round at a multiple of n . -/
/- New's second loop: a wide key's round that boxes the word. -/
/- New's second loop: a wide key's round that takes the word as it is. -/
/- New's second loop, all rounds; the third loops' states. -/
/- New's third loops: the keys. -/
/- New's third loops: the keys, appended. -/
/- New, evaluated. -/
import Derived.Test.YtgabgpgcplkebaaLeX
set_option linter.unusedVariables false
set_option linter.unusedSimpArgs false

namespace Aes
open Go Go.LE

def w3J (n c : Nat) (key : List (BitVec 8)) (i : Nat) (st : St) : Prop := ∃ (H : Heap), st = ⟨[.isl (bs key) (4 * n), .undef, .undef, .undef, .ptr (1, 0) 0, .sl (1, 1) 0 i (some c) 4, N (4 * i), .undef, .undef, .undef, .undef, .undef, .undef, .undef, .undef, .undef, .undef, .undef, .undef, .undef, .undef, .undef, .undef, .undef, .undef, .undef, .undef, .undef, .undef, .undef, .undef, .undef, .undef, .undef, .undef, .undef, .undef, .undef, .undef, .undef, .undef, .undef, .undef, .undef, .undef, .undef, .undef, .undef, .undef, .undef, .undef, .undef, .undef, .undef, .undef, .undef, .undef, .undef, .undef, .undef, .undef, .undef, .undef, .undef, .undef, .undef, .undef, .undef, .undef, .undef, .undef, .undef, .undef, .undef, .undef, .undef, .undef, .undef, .undef, .undef, .undef, .undef, .undef, .undef, .undef, .undef, .undef, .undef, .undef, .undef, .undef, .undef, .undef, .undef, .undef, .undef, Un, Un, Un, Un, .undef, .undef, .undef, .undef, .undef, .undef, .undef, .undef, .undef, .undef, .undef, .undef, .undef, .undef, .undef, .undef, .undef, .undef, .undef, .undef, .undef, .undef, .undef, .undef, .undef, .undef, .undef, .undef, .undef, .undef, .undef, .undef, .undef, .undef, .undef, .undef, .undef, .undef, .undef, .undef, .undef, .undef, .undef, .undef, .undef, .undef, .undef, .undef, .undef, .undef, .undef, .undef], H, 2, 0⟩ ∧
  H (1, 0) = some (CF Nil TB) ∧ H (1, 1) = some (bs (key.take (4 * i) ++ List.replicate (4 * c - 4 * i) 0#8))
theorem key4 (key : List (BitVec 8)) (i : Nat) (h : 4 * (i + 1) ≤ key.length) : ext4 (key.take (4 * i)) (fun j => key.getD (4 * i + j) 0#8) = key.take (4 * (i + 1)) := by
  rw [show 4 * (i + 1) = 4 * i + 4 by omega, List.take_add, ext4]
  congr 1
  apply List.ext_getElem
  · simp only [List.length_cons, List.length_nil, List.length_take, List.length_drop]; omega
  · intro j h1 h2
    simp only [List.length_cons, List.length_nil] at h1
    have : j = 0 ∨ j = 1 ∨ j = 2 ∨ j = 3 := by omega
    rcases this with rfl | rfl | rfl | rfl <;> simp only [List.getElem_cons_zero, List.getElem_cons_succ, List.getElem_take, List.getElem_drop, List.getD_eq_getElem?_getD] <;> rw [List.getElem?_eq_getElem (by omega), Option.getD_some]
theorem cellAt_w (H : Heap) (key : List (BitVec 8)) (i : Nat) (h : 4 * (i + 1) ≤ key.length) : cellAt H 4 (.ipt (List.take 4 (List.drop (4 * i) (bs key)))) = some (aB 4 fun j => key.getD (4 * i + j) 0#8) := by
  rw [bs_drop, bs_take]
  have hl : ((key.drop (4 * i)).take 4).length = 4 := by rw [List.length_take, List.length_drop]; omega
  have e : bs ((key.drop (4 * i)).take 4) = aB 4 fun j => key.getD (4 * i + j) 0#8 := by
    rw [bs_aB _ 4 hl]
    apply aB_ext
    intro j hj
    simp [List.getD_eq_getElem?_getD, List.getElem?_drop, hj]
  rw [e]
  rw [cellAt, if_pos (by rw [aB_length]; exact Nat.le_refl 4), List.take_of_length_le (by rw [aB_length]; exact Nat.le_refl 4)]
theorem fr_w (w : R) : frontK 0 4 1 (some (aB 4 w)) = some (aB 4 w) := rfl
theorem k3_round (k n c : Nat) (hc : n ≤ c) (hc2 : c < 1048576) (key : List (BitVec 8)) (hk : key.length = 4 * n) (i : Nat) (hi : i < n) (st : St) (hJ : w3J n c key i st) :
    ∃ st1, ev (envC C k) k L12b3 st = some (.normal, st1) ∧ w3J n c key (i + 1) (canon L12k3 st1) := by
  obtain ⟨H, rfl, h0, h1⟩ := hJ
  have hlt : 4 * i < 4 * n := by omega
  have e4 : 4 * i + 4 = 4 * (i + 1) := by omega
  have hle : 4 * (i + 1) ≤ 4 * n := by omega
  have e5 : 4 * (i + 1) - 4 * i = 4 := by omega
  have e6 : 4 * c - 4 * i - 4 = 4 * c - 4 * (i + 1) := by omega
  have hap : ∀ (b : Nat) (x : Option qat), appX b 4 4 1 (upd H (14, 0) x) [] (aB 4 fun j => key.getD (4 * i + j) 0#8) (.sl (1, 1) 0 i (some c) 4) = some ⟨.sl (1, 1) 0 (i + 1) (some c) 4, [], [((1, 1), some (bs (key.take (4 * (i + 1)) ++ List.replicate (4 * c - 4 * (i + 1)) 0#8)))]⟩ := by
    intro b x
    rw [app4_room b i c _ (upd H (14, 0) x) (1, 1) _ _ h1 (by rw [List.length_take]; omega) (by omega) (by omega) (by omega), key4 key i (by omega), e6]
  simp (disch := first | omega | decide | simp only [qaf, qad, qag, qae, qah, qac, qaa, qab, qai]) only [qbv, qav, qbg, qap, qao, qam, qal, qar, qaC, qaH, qas, qaK, qaJ, qaj, qbc, qaL, qbq, List.set_cons_zero, List.set_cons_succ, List.getD_cons_zero, List.getD_cons_succ, List.map_cons, List.map_nil, List.nil_append, List.append_nil, List.length_cons, List.length_nil, Nat.reduceAdd, qaq, qa9, qbU, op_ld, fill_nil, fill_cons, fillK_some, qbw, List.take_zero, List.drop_succ_cons, List.drop_nil, and_self, if_true, Nat.zero_add, Nat.add_zero, Nat.le_refl, decide_true, aB_length, Nat.mul_one, Nat.add_zero, Nat.zero_add, N_add, qbp, N_nat, Nat.reduceAdd, decide_true, op_len, qbC, lenS_isl, lenOf_sl, op_append, appK_some, appF_some, qbZ, op_slcS, slcV_isl, getD_some, op_arrp, arrpV_isl, op_mkrow, rowK_some, qaz, qaS, qau, qa2, Nat.mul_one, front_sl, qan, qan, L12b3, hlt, e4, e5, cellAt_w H key i (by omega), fr_w, hap]
  apply Exists.intro
  apply And.intro
  · rfl
  · refine qbm [(1, 0), (1, 1)] rfl (by simp only [qay, FUEL, qaD, qaB, qax, qaI, qaT, nms_Un, qa6, List.flatMap_cons, List.flatMap_nil, List.nil_append, List.cons_append, List.append_nil, List.range_zero, List.map_nil, List.contains_nil, List.contains_cons, Prod.mk.injEq, beq_iff_eq, Bool.or_eq_true, Bool.false_eq_true, Nat.reduceEqDiff, and_true, and_false, or_false, if_true, if_false, Nat.one_ne_zero, Nat.zero_ne_one, List.filter_cons, List.filter_nil, bne_iff_ne, ne_eq, not_false_eq_true, qaq, qbb, qa5, qaW, nms_N, qbE, L12k3, qaR, qbE, qaw, ibs_nms, h0, h1]) (by simp only [List.map_nil, List.map_cons, qbb, qa5, qaW, L12k3, List.map_cons, List.map_nil, qbI]; rfl) ⟨_, rfl, ?_, ?_⟩
    · exact qaP (1, 0) rfl (by simp (disch := first | omega | decide | simp only [qaf, qad, qag, qae, qah, qac, qaa, qab, qai]) only [qaq, Prod.mk.injEq, Nat.reduceEqDiff, and_true, and_false, if_false, Nat.zero_ne_one, h0]) (by rw [qaV, ren_nil])
    · exact qaP (1, 1) rfl (by simp (disch := first | omega | decide | simp only [qaf, qad, qag, qae, qah, qac, qaa, qab, qai]) only [qaq, Prod.mk.injEq, Nat.reduceEqDiff, and_self, if_true, if_false, Nat.one_ne_zero, h1]) (qaE _ _)
end Aes

namespace Aes
open Go Go.LE

theorem wcell (ws : List (BitVec 8)) (z i o : Nat) (ho : o = i * 4) (h : 4 * (i + 1) ≤ ws.length) : cellK o 4 (some (bs (ws ++ List.replicate z 0#8))) = some (aB 4 (wd ws i)) := by
  subst ho
  rw [bs_cells _ _ 4 (by rw [List.length_append]; omega), bs_aB _ 4 (by rw [List.length_take, List.length_drop, List.length_append]; omega)]
  congr 1
  apply aB_ext
  intro j hj
  have h1 : i * 4 + j < ws.length := by omega
  simp only [wd, List.getD_eq_getElem?_getD, List.getElem?_take, List.getElem?_drop, hj, if_true]
  rw [List.getElem?_append_left h1, Nat.mul_comm]
/-- the second loop's state behind m rounds: word n + m is next -/
def w2J (n c : Nat) (key : List (BitVec 8)) (m : Nat) (st : St) : Prop := ∃ (H : Heap) (a b d e : LV), Pl [a, b, d, e] ∧
  st = ⟨[.undef, .undef, .undef, .undef, .ptr (1, 0) 0, .sl (1, 1) 0 (n + m) (some c) 4, .undef, N n, N (n + 6), N (n + m), B8 (KS n key m).2, .undef, .undef, .undef, .undef, .undef, .undef, .undef, .undef, .undef, .undef, .undef, .undef, .undef, .undef, .undef, .undef, .undef, .undef, .undef, .undef, .undef, .undef, .undef, .undef, .undef, .undef, .undef, .undef, .undef, .undef, .undef, .undef, .undef, .undef, .undef, .undef, .undef, .undef, .undef, .undef, .undef, .undef, .undef, .undef, .undef, .undef, .undef, .undef, .undef, .undef, .undef, .undef, .undef, .undef, .undef, .undef, .undef, .undef, .undef, .undef, .undef, .undef, .undef, .undef, .undef, .undef, .undef, .undef, .undef, .undef, .undef, .undef, .undef, .undef, .undef, .undef, .undef, .undef, .undef, .undef, .undef, .undef, .undef, .undef, .undef, a, b, d, e, .undef, .undef, .undef, .undef, .undef, .undef, .undef, .undef, .undef, .undef, .undef, .undef, .undef, .undef, .undef, .undef, .undef, .undef, .undef, .undef, .undef, .undef, .undef, .undef, .undef, .undef, .undef, .undef, .undef, .undef, .undef, .undef, .undef, .undef, .undef, .undef, .undef, .undef, .undef, .undef, .undef, .undef, .undef, .undef, .undef, .undef, .undef, .undef, .undef, .undef, .undef, .undef], H, 2, 0⟩ ∧
  H (1, 0) = some (CF Nil TB) ∧ H (1, 1) = some (bs ((KS n key m).1 ++ List.replicate (4 * c - 4 * (n + m)) 0#8))
theorem c_boxed (k b : Nat) (H : Heap) (fN : Nm) (w : R) (h : H fN = some (CF Nil TB)) : qbl (envC C (k + 1)) H b 29 [.ptr fN 0, .agg (aB 4 w)] = some ⟨.agg (aB 4 fun j => BX (w j).toNat), [], [(fN, some (CF Nil TB))]⟩ :=
  call0 _ b 29 l29 H fN _ _ h _ (Pl.pa 4 w Pl.e) _ (fun π => qbO 4 _ π) (boxed_F k w)
theorem c_plus (k b : Nat) (H : Heap) (x y : R) : qbl (envC C (k + 1)) H b 30 [.agg (aB 4 x), .agg (aB 4 y)] = some ⟨.agg (aB 4 fun j => x j ^^^ y j), [], []⟩ := by
  rw [callOp_C l30 (by simp only [List.flatMap_cons, List.flatMap_nil, qbn, List.append_nil]) (by simp only [List.map_cons, List.map_nil, qbO]), plus_F, aB_calK]
theorem k2_roundC (k n c : Nat) (hn : n = 4 ∨ n = 8) (hc : 4 * n + 28 ≤ c) (hc2 : c < 1048576) (key : List (BitVec 8)) (hk : key.length = 4 * n) (m : Nat) (hm : m < 3 * n + 28) (h4 : (n + m) % n ≠ 0) (h8 : ¬ n = 8) (st : St) (hJ : w2J n c key m st) :
    ∃ st1, ev (envC C (k + 1)) (k + 1) L12b2 st = some (.normal, st1) ∧ w2J n c key (m + 1) (canon L12k2 st1) := by
  obtain ⟨H, a, b, d, e, hp, rfl, h0, h1⟩ := hJ
  have hl := KS_length n key hk m
  have hlt : n + m < 4 * (n + 6 + 1) := by omega
  have i1 : (n + m - 1) * 4 + 4 ≤ (KS n key m).1.length := by omega
  have hw := wcell (KS n key m).1 (4 * c - 4 * (n + m)) (n + m - 1) ((n + m - 1) * 4) rfl (by omega)
  have hw2 := wcell (KS n key m).1 (4 * c - 4 * (n + m)) m (m * 4) rfl (by omega)
  have e1 : n + m - n = m := by omega
  have hpos : 0 < n := by omega
  have hi1 : n + m - 1 < n + m := by omega
  have hi2 : m < n + m := by omega
  simp (disch := first | omega | decide | simp only [qaf, qad, qag, qae, qah, qac, qaa, qab, qai]) only [qbv, qav, qbg, qap, qao, qam, qal, qbf, guardK_false, qar, qbo, qaC, qaH, qas, qb0, qaK, op_pick, qaJ, qa3, qaY, qaj, qbc, qaL, qbq, qaF, List.set_cons_zero, List.set_cons_succ, List.getD_cons_zero, List.getD_cons_succ, List.map_cons, List.map_nil, List.flatMap_cons, List.flatMap_nil, List.nil_append, List.cons_append, List.append_nil, List.length_cons, List.length_nil, Nat.reduceAdd, Nat.reduceSub, qaq, qa9, qaQ, qbU, op_ld, op_new, op_st, qbt, stK_cons, fill_nil, fill_cons, fillK_some, qbw, List.take_zero, List.drop_succ_cons, List.drop_nil, List.all_cons, List.all_nil, Bool.and_true, Prod.mk.injEq, Nat.reduceEqDiff, Nat.reduceLT, and_true, and_self, if_true, if_false, Nat.zero_add, Nat.add_zero, Nat.le_refl, decide_true, decide_false, Nat.one_ne_zero, aB_length, aB_cells, qbn, qae, Nat.add_zero, Nat.zero_add, N_add, N_sub, N_mul, N_rem, N_eql, qbp, N_nat, Nat.reduceLT, Nat.reduceEqDiff, Nat.reduceAdd, decide_false, decide_true, nm_beq, Bool.not_false, Bool.not_true, lenOf_sl, op_append, appK_some, appF_some, op_iaS, iaSV_sl, op_mkrow, rowK_some, qaz, qaS, qau, qa2, qa7, qbr, qbV, touch_ld, qbY, reach_none, nms_fn, qaI, List.contains_cons, List.contains_nil, beq_self_eq_true, Bool.or_true, Bool.or_false, ordOk, qaZ, List.all_cons, List.all_nil, Nat.testBit, Nat.reduceShiftRight, Nat.reduceAnd, Nat.reduceBEq, Bool.not_true, Bool.not_false, Bool.and_self, Bool.and_true, Bool.and_false, Nat.reduceSub, Nat.reduceLT, bne, qbh, qbN, trimO_f, qbA, isCall_ld, isCall_append, qbP, Bool.and_false, Bool.and_true, front_sl, qaM, qan, touch_append, qan, L12b2, h1, hlt, hw, hw2, e1, h4, h8, c_plus, qaT, List.cons_append, List.nil_append, fr_w]
  generalize hG : upd (upd (upd H (12, 0) _) (12, 0) _) (37, 0) _ = G
  have g0 : G (1, 0) = some (CF Nil TB) := by rw [← hG]; exact h0
  have g1 : G (1, 1) = some (bs ((KS n key m).1 ++ List.replicate (4 * c - 4 * (n + m)) 0#8)) := by rw [← hG]; exact h1
  have hx : KS n key (m + 1) = (ext4 (KS n key m).1 (fun j => wd (KS n key m).1 (n + m - 1) j ^^^ wd (KS n key m).1 m j), (KS n key m).2) := by
    have hn : nwd n (KS n key m).2 (n + m) (KS n key m).1 = fun j => wd (KS n key m).1 (n + m - 1) j ^^^ wd (KS n key m).1 m j := by
      funext j
      simp only [nwd, tw, if_neg h4, if_neg (fun h : n = 8 ∧ (n + m) % 8 = 4 => h8 h.1), e1]
    rw [KS, kstep, if_neg h4, hn]
  have e6 : 4 * c - 4 * (n + m) - 4 = 4 * c - 4 * (n + (m + 1)) := by omega
  have hap : ∀ b, appX b 4 4 1 (only [(1, 1), (37, 0)] G) [] (aB 4 fun j => wd (KS n key m).1 (n + m - 1) j ^^^ wd (KS n key m).1 m j) (.sl (1, 1) 0 (n + m) (some c) 4) = some ⟨.sl (1, 1) 0 (n + m + 1) (some c) 4, [], [((1, 1), some (bs ((KS n key (m + 1)).1 ++ List.replicate (4 * c - 4 * (n + (m + 1))) 0#8)))]⟩ := by
    intro b
    rw [app4_room b (n + m) c _ (only [(1, 1), (37, 0)] G) (1, 1) _ _ g1 hl (by omega) (by omega) (by omega), hx, e6]
  simp (disch := first | omega | decide | simp only [qaf, qad, qag, qae, qah, qac, qaa, qab, qai]) only [qap, qao, qam, qal, qar, qaC, qaH, qas, qaK, qaJ, qaj, qbc, List.set_cons_zero, List.set_cons_succ, List.getD_cons_zero, List.getD_cons_succ, List.map_cons, List.map_nil, List.length_cons, List.length_nil, Nat.reduceAdd, Nat.reduceSub, List.all_cons, List.all_nil, Bool.and_true, Nat.reduceLT, if_true, Nat.zero_add, Nat.add_zero, decide_true, decide_false, Nat.add_zero, Nat.zero_add, N_add, Nat.reduceLT, Nat.reduceAdd, decide_false, decide_true, nm_beq, Bool.not_false, Bool.not_true, qaz, qau, qa2, List.contains_cons, List.contains_nil, beq_self_eq_true, Bool.or_true, Bool.or_false, ordOk, qaZ, List.all_cons, List.all_nil, Nat.testBit, Nat.reduceShiftRight, Nat.reduceAnd, Nat.reduceBEq, Bool.not_true, Bool.not_false, Bool.and_self, Bool.and_true, Bool.and_false, Nat.reduceSub, Nat.reduceLT, bne, Bool.and_false, Bool.and_true, qaM, qan, qan, qaM, hap]
  have hx2 : (KS n key (m + 1)).2 = (KS n key m).2 := by rw [hx]
  refine ⟨_, rfl, ?_⟩
  refine qbm [(1, 0), (1, 1)] rfl (by simp only [qay, FUEL, qaD, qaB, qax, qaI, qaT, nms_B8, nms_Un, qa6, List.flatMap_cons, List.flatMap_nil, List.nil_append, List.cons_append, List.append_nil, List.range_zero, List.map_nil, List.contains_nil, List.contains_cons, Prod.mk.injEq, beq_iff_eq, Bool.or_eq_true, Bool.false_eq_true, and_false, or_false, if_true, if_false, Nat.one_ne_zero, Nat.zero_ne_one, List.filter_cons, List.filter_nil, bne_iff_ne, ne_eq, not_false_eq_true, qaq, qbb, qa5, qaW, nms_N, qbE, L12k2, qaR, qbE, qaw, g0, g1]) rfl ⟨_, Un, Un, Un, Un, ⟨rfl, fun _ => rfl⟩, by rw [hx2]; rfl, ?_, ?_⟩
  · exact qaP (1, 0) rfl (by simp (disch := first | omega | decide | simp only [qaf, qad, qag, qae, qah, qac, qaa, qab, qai]) only [qaq, Prod.mk.injEq, and_false, if_false, Nat.zero_ne_one, g0]) (by rw [qaV, ren_nil])
  · exact qaP (1, 1) rfl (by simp (disch := first | omega | decide | simp only [qaf, qad, qag, qae, qah, qac, qaa, qab, qai]) only [qaq, if_true, g1]) (qaE _ _)
end Aes

namespace Aes
open Go Go.LE

theorem Pl4 {a b d e : LV} (h : Pl [a, b, d, e]) : (nms D a = [] ∧ nms D b = [] ∧ nms D d = [] ∧ nms D e = []) ∧ (∀ π, ren D π a = a ∧ ren D π b = b ∧ ren D π d = d ∧ ren D π e = e) := by
  obtain ⟨h1, h2⟩ := h
  simp only [List.flatMap_cons, List.flatMap_nil, List.append_eq_nil_iff, List.append_nil] at h1
  refine ⟨h1, fun π => ?_⟩
  have := h2 π
  simp only [List.map_cons, List.map_nil, List.cons.injEq, and_true] at this
  exact this
theorem k2_roundA (k n c : Nat) (hn : n = 4 ∨ n = 8) (hc : 4 * n + 28 ≤ c) (hc2 : c < 1048576) (key : List (BitVec 8)) (hk : key.length = 4 * n) (m : Nat) (hm : m < 3 * n + 28) (h4 : (n + m) % n = 0) (st : St) (hJ : w2J n c key m st) :
    ∃ st1, ev (envC C (k + 1)) (k + 1) L12b2 st = some (.normal, st1) ∧ w2J n c key (m + 1) (canon L12k2 st1) := by
  obtain ⟨H, a, b, d, e, hp, rfl, h0, h1⟩ := hJ
  have hl := KS_length n key hk m
  have hlt : n + m < 4 * (n + 6 + 1) := by omega
  have hw := wcell (KS n key m).1 (4 * c - 4 * (n + m)) (n + m - 1) ((n + m - 1) * 4) rfl (by omega)
  have hw2 := wcell (KS n key m).1 (4 * c - 4 * (n + m)) m (m * 4) rfl (by omega)
  have e1 : n + m - n = m := by omega
  have hpos : 0 < n := by omega
  have hi1 : n + m - 1 < n + m := by omega
  have hi2 : m < n + m := by omega
  simp (disch := first | omega | decide | simp only [qaf, qad, qag, qae, qah, qac, qaa, qab, qai]) only [qbv, qav, qbg, qap, qao, qam, qal, qar, qbo, qaC, qaH, qas, qaK, qaJ, qa3, qaY, qaj, qaL, qbq, List.set_cons_zero, List.set_cons_succ, List.getD_cons_zero, List.getD_cons_succ, List.map_cons, List.map_nil, List.nil_append, List.cons_append, List.append_nil, List.length_cons, List.length_nil, Nat.reduceAdd, qaq, qa9, cellsOf_B8, qaQ, qbs, qbU, op_ld1, op_ld, op_new, op_st, qbt, stK_cons, op_iaA, iaV_lt, fill_nil, fill_cons, fillK_some, aggR_some, op_build, qbw, List.take_succ_cons, List.take_zero, List.drop_succ_cons, List.drop_zero, List.drop_nil, Nat.reduceLeDiff, and_self, if_true, Nat.zero_add, Nat.add_zero, Nat.le_refl, decide_true, aB_length, aB_cell, qae, Nat.mul_one, Nat.add_zero, Nat.zero_add, N_add, N_sub, N_mul, N_rem, N_eql, qbp, N_nat, Nat.reduceLeDiff, Nat.reduceAdd, decide_true, op_iaS, iaSV_sl, qaz, qaS, qau, qa2, Nat.mul_one, qan, qan, L12b2, h1, hlt, hw, h4, List.cons_append, List.nil_append]
  have hlit : ∀ g : R, [B8 (g 1), B8 (g 2), B8 (g 3), B8 (g 0)] = aB 4 fun j => g ((j + 1) % 4) := fun g => rfl
  generalize hG : upd (upd H (12, 0) _) (12, 0) _ = G
  have g0 : G (1, 0) = some (CF Nil TB) := by rw [← hG]; exact h0
  have g1 : G (1, 1) = some (bs ((KS n key m).1 ++ List.replicate (4 * c - 4 * (n + m)) 0#8)) := by rw [← hG]; exact h1
  have g2 : G (12, 0) = some (aB 4 (wd (KS n key m).1 (n + m - 1))) := by rw [← hG]; rfl
  rw [hlit (wd (KS n key m).1 (n + m - 1)), c_boxed k _ G (1, 0) _ g0]
  simp (disch := first | omega | decide | simp only [qaf, qad, qag, qae, qah, qac, qaa, qab, qai]) only [qav, qap, qao, qam, qal, qar, qbo, qaC, qaH, qas, qaK, qaJ, qa3, qaY, qaj, qbc, List.set_cons_zero, List.set_cons_succ, List.getD_cons_zero, List.getD_cons_succ, List.map_cons, List.map_nil, List.flatMap_cons, List.flatMap_nil, List.nil_append, List.cons_append, List.append_nil, List.length_cons, List.length_nil, B8_xor, B8_nat, Nat.reduceAdd, Nat.reduceSub, qaq, qa9, cellsOf_B8, qaQ, qbs, qbU, op_ld1, op_ld, op_st, qbt, op_fa, faV_ptr, op_iaA, iaV_lt, fill_nil, fill_cons, fillK_some, qbw, List.take_zero, List.drop_succ_cons, List.drop_nil, List.all_cons, List.all_nil, Bool.and_true, Prod.mk.injEq, Nat.reduceEqDiff, Nat.reduceLT, and_true, and_false, and_self, if_true, if_false, Nat.zero_add, Nat.add_zero, Nat.le_refl, decide_true, Nat.one_ne_zero, Nat.reduceMod, aB_length, aB_cell, aB_cells, aB_st, aB_st_all, qbn, Nat.mul_one, Nat.add_zero, Nat.zero_add, B8_nat, N_sub, N_nat, Nat.reduceLT, Nat.reduceEqDiff, Nat.reduceAdd, Nat.reduceMod, decide_true, nm_beq, Bool.not_false, Bool.not_true, op_chk, qb3, lenOf_sl, op_append, appK_some, appF_some, op_iaS, iaSV_sl, op_mkrow, rowK_some, qaz, qaS, qau, qa2, Nat.mul_one, qa7, qbr, qbV, touch_ld, qbY, reach_none, nms_fn, qaI, List.contains_cons, List.contains_nil, beq_self_eq_true, Bool.or_true, Bool.or_false, ordOk, qaZ, List.all_cons, List.all_nil, Nat.testBit, Nat.reduceShiftRight, Nat.reduceAnd, Nat.reduceBEq, Bool.not_true, Bool.not_false, Bool.and_self, Bool.and_true, Bool.and_false, Nat.reduceSub, Nat.reduceLT, bne, qbh, qbN, trimO_f, qbA, isCall_ld, isCall_append, qbP, Bool.and_false, Bool.and_true, front_sl, qaM, qan, touch_append, qan, qaM, g0, g1, g2, CT_2, hw2, e1, c_plus, qaT, List.cons_append, List.nil_append, fr_w]
  have hfn : (fun j => set1 (fun j => BX (wd (KS n key m).1 (n + m - 1) ((j + 1) % 4)).toNat) 0 (BX (wd (KS n key m).1 (n + m - 1) 1).toNat ^^^ (KS n key m).2) j ^^^ wd (KS n key m).1 m j) = nwd n (KS n key m).2 (n + m) (KS n key m).1 := by
    funext j
    simp only [nwd, tw, if_pos h4, set1, e1]
    by_cases hj : j = 0
    · subst hj; rw [if_pos rfl, if_pos rfl]
    · rw [if_neg hj, if_neg hj, BitVec.xor_zero]
  rw [hfn]
  have hx : KS n key (m + 1) = (ext4 (KS n key m).1 (nwd n (KS n key m).2 (n + m) (KS n key m).1), T2 (KS n key m).2) := by
    rw [KS, kstep, if_pos h4]
  have e6 : 4 * c - 4 * (n + m) - 4 = 4 * c - 4 * (n + (m + 1)) := by omega
  have hap : ∀ (b : Nat) (H' : Heap), H' (1, 1) = some (bs ((KS n key m).1 ++ List.replicate (4 * c - 4 * (n + m)) 0#8)) → appX b 4 4 1 H' [] (aB 4 (nwd n (KS n key m).2 (n + m) (KS n key m).1)) (.sl (1, 1) 0 (n + m) (some c) 4) = some ⟨.sl (1, 1) 0 (n + m + 1) (some c) 4, [], [((1, 1), some (bs ((KS n key (m + 1)).1 ++ List.replicate (4 * c - 4 * (n + (m + 1))) 0#8)))]⟩ := by
    intro b H' h'
    rw [app4_room b (n + m) c _ H' (1, 1) _ _ h' hl (by omega) (by omega) (by omega), hx, e6]
  generalize hG2 : only [(1, 1), (53, 0)] _ = G2
  have g1' : G2 (1, 1) = some (bs ((KS n key m).1 ++ List.replicate (4 * c - 4 * (n + m)) 0#8)) := by rw [← hG2]; exact g1
  rw [hap _ G2 g1']
  clear hG2
  simp (disch := first | omega | decide | simp only [qaf, qad, qag, qae, qah, qac, qaa, qab, qai]) only [qap, qao, qam, qal, qar, qaC, qaH, qas, qaK, qaJ, qaj, qbc, List.set_cons_zero, List.set_cons_succ, List.getD_cons_zero, List.getD_cons_succ, List.map_cons, List.map_nil, List.length_cons, List.length_nil, Nat.reduceAdd, Nat.reduceSub, List.all_cons, List.all_nil, Bool.and_true, Nat.reduceLT, if_true, Nat.zero_add, Nat.add_zero, decide_true, decide_false, Nat.add_zero, Nat.zero_add, N_add, Nat.reduceLT, Nat.reduceAdd, decide_false, decide_true, nm_beq, Bool.not_false, Bool.not_true, qaz, qau, qa2, List.contains_cons, List.contains_nil, beq_self_eq_true, Bool.or_true, Bool.or_false, ordOk, qaZ, List.all_cons, List.all_nil, Nat.testBit, Nat.reduceShiftRight, Nat.reduceAnd, Nat.reduceBEq, Bool.not_true, Bool.not_false, Bool.and_self, Bool.and_true, Bool.and_false, Nat.reduceSub, Nat.reduceLT, bne, Bool.and_false, Bool.and_true, qaM, qan, qan, qaM]
  have hx2 : (KS n key (m + 1)).2 = T2 (KS n key m).2 := by rw [hx]
  obtain ⟨⟨na, nb, nd, ne⟩, hr⟩ := Pl4 hp
  refine ⟨_, rfl, ?_⟩
  refine qbm [(1, 0), (1, 1)] rfl (by simp only [qay, FUEL, qaD, qaB, qax, qaI, qaT, nms_B8, qa6, List.flatMap_cons, List.flatMap_nil, List.nil_append, List.cons_append, List.append_nil, List.range_zero, List.map_nil, List.contains_nil, List.contains_cons, Prod.mk.injEq, beq_iff_eq, Bool.or_eq_true, Bool.false_eq_true, Nat.reduceEqDiff, and_true, and_false, or_false, if_true, if_false, Nat.one_ne_zero, Nat.zero_ne_one, List.filter_cons, List.filter_nil, bne_iff_ne, ne_eq, not_false_eq_true, qaq, qbb, qa5, qaW, nms_N, qbE, L12k2, qaR, qbE, qaw, g0, g1, na, nb, nd, ne]) (by simp only [List.map_nil, List.map_cons, qbb, qa5, qaW, L12k2, List.map_cons, List.map_nil, hr]; rfl) ⟨_, a, b, d, e, hp, by rw [hx2]; rfl, ?_, ?_⟩
  · exact qaP (1, 0) rfl (by simp (disch := first | omega | decide | simp only [qaf, qad, qag, qae, qah, qac, qaa, qab, qai]) only [qaq, Prod.mk.injEq, Nat.reduceEqDiff, and_true, and_false, if_true, if_false, Nat.zero_ne_one, g0]) (by rw [qaV, ren_nil])
  · exact qaP (1, 1) rfl (by simp (disch := first | omega | decide | simp only [qaf, qad, qag, qae, qah, qac, qaa, qab, qai]) only [qaq, Prod.mk.injEq, Nat.reduceEqDiff, and_false, and_self, if_true, if_false, Nat.one_ne_zero, g1]) (qaE _ _)
end Aes

namespace Aes
open Go Go.LE

theorem k2_roundB (k c : Nat) (hc : 60 ≤ c) (hc2 : c < 1048576) (key : List (BitVec 8)) (hk : key.length = 4 * 8) (m : Nat) (hm : m < 3 * 8 + 28) (h4 : (8 + m) % 8 ≠ 0) (h8 : (8 + m) % 8 = 4) (st : St) (hJ : w2J 8 c key m st) :
    ∃ st1, ev (envC C (k + 1)) (k + 1) L12b2 st = some (.normal, st1) ∧ w2J 8 c key (m + 1) (canon L12k2 st1) := by
  obtain ⟨H, a, b, d, e, hp, rfl, h0, h1⟩ := hJ
  have hl := KS_length 8 key hk m
  have hlt : 8 + m < 4 * (8 + 6 + 1) := by omega
  have i1 : (8 + m - 1) * 4 + 4 ≤ (KS 8 key m).1.length := by omega
  have hw := wcell (KS 8 key m).1 (4 * c - 4 * (8 + m)) (8 + m - 1) ((8 + m - 1) * 4) rfl (by omega)
  have hw2 := wcell (KS 8 key m).1 (4 * c - 4 * (8 + m)) m (m * 4) rfl (by omega)
  have e1 : 8 + m - 8 = m := by omega
  have hi1 : 8 + m - 1 < 8 + m := by omega
  have hi2 : m < 8 + m := by omega
  simp (disch := first | omega | decide | simp only [qaf, qad, qag, qae, qah, qac, qaa, qab, qai]) only [qbv, qav, qbg, qap, qao, qam, qal, qbf, guardK_true, qar, qbo, qaC, qaH, qas, pickV_true, qaK, op_pick, qaJ, qa3, qaY, qaj, qaL, qbq, qaF, List.set_cons_zero, List.set_cons_succ, List.getD_cons_zero, List.getD_cons_succ, List.map_cons, List.map_nil, List.nil_append, List.append_nil, List.length_cons, List.length_nil, Nat.reduceAdd, qaq, qa9, qaQ, qbU, op_ld, op_new, op_st, qbt, stK_cons, qbw, List.take_zero, List.drop_succ_cons, List.drop_nil, Nat.reduceEqDiff, and_self, if_true, Nat.zero_add, Nat.add_zero, Nat.le_refl, decide_true, decide_false, aB_length, aB_cells, qae, Nat.add_zero, Nat.zero_add, N_add, N_sub, N_mul, N_rem, N_eql, qbp, N_nat, Nat.reduceEqDiff, Nat.reduceMul, Nat.reduceAdd, decide_false, decide_true, op_iaS, iaSV_sl, qaz, qaS, qau, qa2, qan, qan, L12b2, h1, hlt, hw, h8, List.nil_append]
  generalize hG : upd (upd H (12, 0) _) (12, 0) _ = G
  have g0 : G (1, 0) = some (CF Nil TB) := by rw [← hG]; exact h0
  have g1 : G (1, 1) = some (bs ((KS 8 key m).1 ++ List.replicate (4 * c - 4 * (8 + m)) 0#8)) := by rw [← hG]; exact h1
  have g2 : G (12, 0) = some (aB 4 (wd (KS 8 key m).1 (8 + m - 1))) := by rw [← hG]; rfl
  rw [c_boxed k _ G (1, 0) _ g0]
  simp (disch := first | omega | decide | simp only [qaf, qad, qag, qae, qah, qac, qaa, qab, qai]) only [qap, qao, qam, qal, qar, qbo, qaC, qaH, qas, qaK, qaJ, qa3, qaY, qaj, qbc, List.set_cons_zero, List.set_cons_succ, List.getD_cons_zero, List.getD_cons_succ, List.map_cons, List.map_nil, List.flatMap_cons, List.flatMap_nil, List.nil_append, List.cons_append, List.append_nil, List.length_cons, List.length_nil, Nat.reduceAdd, Nat.reduceSub, qaq, qa9, qaQ, qbU, op_ld, op_st, qbt, fill_nil, fill_cons, fillK_some, qbw, List.take_zero, List.drop_succ_cons, List.drop_nil, List.all_cons, List.all_nil, Bool.and_true, Prod.mk.injEq, Nat.reduceEqDiff, Nat.reduceLT, and_true, and_false, and_self, if_true, if_false, Nat.zero_add, Nat.add_zero, Nat.le_refl, decide_true, Nat.one_ne_zero, aB_length, aB_cells, aB_st_all, qbn, Nat.add_zero, Nat.zero_add, N_sub, N_nat, Nat.reduceLT, Nat.reduceEqDiff, Nat.reduceAdd, decide_true, nm_beq, Bool.not_false, Bool.not_true, lenOf_sl, op_append, appK_some, appF_some, op_iaS, iaSV_sl, op_mkrow, rowK_some, qaz, qaS, qau, qa2, qa7, qbr, qbV, touch_ld, qbY, reach_none, nms_fn, qaI, List.contains_cons, List.contains_nil, beq_self_eq_true, Bool.or_true, Bool.or_false, ordOk, qaZ, List.all_cons, List.all_nil, Nat.testBit, Nat.reduceShiftRight, Nat.reduceAnd, Nat.reduceBEq, Bool.not_true, Bool.not_false, Bool.and_self, Bool.and_true, Bool.and_false, Nat.reduceSub, Nat.reduceLT, bne, qbh, qbN, trimO_f, qbA, isCall_ld, isCall_append, qbP, Bool.and_false, Bool.and_true, front_sl, qaM, qan, touch_append, qan, qaM, g1, g2, hw2, e1, c_plus, qaT, List.cons_append, List.nil_append, fr_w]
  have hfn : (fun j => BX (wd (KS 8 key m).1 (8 + m - 1) j).toNat ^^^ wd (KS 8 key m).1 m j) = nwd 8 (KS 8 key m).2 (8 + m) (KS 8 key m).1 := by
    funext j
    simp only [nwd, tw, if_neg h4, if_pos (⟨trivial, h8⟩ : True ∧ (8 + m) % 8 = 4), e1]
  rw [hfn]
  have hx : KS 8 key (m + 1) = (ext4 (KS 8 key m).1 (nwd 8 (KS 8 key m).2 (8 + m) (KS 8 key m).1), (KS 8 key m).2) := by
    rw [KS, kstep, if_neg h4]
  have e6 : 4 * c - 4 * (8 + m) - 4 = 4 * c - 4 * (8 + (m + 1)) := by omega
  have hap : ∀ (b : Nat) (H' : Heap), H' (1, 1) = some (bs ((KS 8 key m).1 ++ List.replicate (4 * c - 4 * (8 + m)) 0#8)) → appX b 4 4 1 H' [] (aB 4 (nwd 8 (KS 8 key m).2 (8 + m) (KS 8 key m).1)) (.sl (1, 1) 0 (8 + m) (some c) 4) = some ⟨.sl (1, 1) 0 (8 + m + 1) (some c) 4, [], [((1, 1), some (bs ((KS 8 key (m + 1)).1 ++ List.replicate (4 * c - 4 * (8 + (m + 1))) 0#8)))]⟩ := by
    intro b H' h'
    rw [app4_room b (8 + m) c _ H' (1, 1) _ _ h' hl (by omega) (by omega) (by omega), hx, e6]
  generalize hG2 : only [(1, 1), (41, 0)] _ = G2
  have g1' : G2 (1, 1) = some (bs ((KS 8 key m).1 ++ List.replicate (4 * c - 4 * (8 + m)) 0#8)) := by rw [← hG2]; exact g1
  rw [hap _ G2 g1']
  clear hG2
  simp (disch := first | omega | decide | simp only [qaf, qad, qag, qae, qah, qac, qaa, qab, qai]) only [qap, qao, qam, qal, qar, qaC, qaH, qas, qaK, qaJ, qaj, qbc, List.set_cons_zero, List.set_cons_succ, List.getD_cons_zero, List.getD_cons_succ, List.map_cons, List.map_nil, List.length_cons, List.length_nil, Nat.reduceAdd, Nat.reduceSub, List.all_cons, List.all_nil, Bool.and_true, Nat.reduceLT, if_true, Nat.zero_add, Nat.add_zero, decide_true, decide_false, Nat.add_zero, Nat.zero_add, N_add, Nat.reduceLT, Nat.reduceAdd, decide_false, decide_true, nm_beq, Bool.not_false, Bool.not_true, qaz, qau, qa2, List.contains_cons, List.contains_nil, beq_self_eq_true, Bool.or_true, Bool.or_false, ordOk, qaZ, List.all_cons, List.all_nil, Nat.testBit, Nat.reduceShiftRight, Nat.reduceAnd, Nat.reduceBEq, Bool.not_true, Bool.not_false, Bool.and_self, Bool.and_true, Bool.and_false, Nat.reduceSub, Nat.reduceLT, bne, Bool.and_false, Bool.and_true, qaM, qan, qan, qaM]
  have hx2 : (KS 8 key (m + 1)).2 = (KS 8 key m).2 := by rw [hx]
  refine ⟨_, rfl, ?_⟩
  refine qbm [(1, 0), (1, 1)] rfl (by simp only [qay, FUEL, qaD, qaB, qax, qaI, qaT, nms_B8, nms_Bo, qa6, List.flatMap_cons, List.flatMap_nil, List.nil_append, List.cons_append, List.append_nil, List.range_zero, List.map_nil, List.contains_nil, List.contains_cons, Prod.mk.injEq, beq_iff_eq, Bool.or_eq_true, Bool.false_eq_true, Nat.reduceEqDiff, and_true, and_false, or_false, if_true, if_false, Nat.one_ne_zero, Nat.zero_ne_one, List.filter_cons, List.filter_nil, bne_iff_ne, ne_eq, not_false_eq_true, qaq, qbb, qa5, qaW, nms_N, qbE, L12k2, qaR, qbE, qaw, g0, g1]) rfl ⟨_, N (8 + m), N 8, N ((8 + m) % 8), Bo true, ⟨rfl, fun _ => rfl⟩, by rw [hx2, h8]; rfl, ?_, ?_⟩
  · exact qaP (1, 0) rfl (by simp (disch := first | omega | decide | simp only [qaf, qad, qag, qae, qah, qac, qaa, qab, qai]) only [qaq, Prod.mk.injEq, Nat.reduceEqDiff, and_true, and_false, if_true, if_false, Nat.zero_ne_one, g0]) (by rw [qaV, ren_nil])
  · exact qaP (1, 1) rfl (by simp (disch := first | omega | decide | simp only [qaf, qad, qag, qae, qah, qac, qaa, qab, qai]) only [qaq, Prod.mk.injEq, Nat.reduceEqDiff, and_false, and_self, if_true, if_false, Nat.one_ne_zero, g1]) (qaE _ _)
end Aes

namespace Aes
open Go Go.LE

theorem k2_roundD (k c : Nat) (hc : 60 ≤ c) (hc2 : c < 1048576) (key : List (BitVec 8)) (hk : key.length = 4 * 8) (m : Nat) (hm : m < 3 * 8 + 28) (h4 : (8 + m) % 8 ≠ 0) (h8 : (8 + m) % 8 ≠ 4) (st : St) (hJ : w2J 8 c key m st) :
    ∃ st1, ev (envC C (k + 1)) (k + 1) L12b2 st = some (.normal, st1) ∧ w2J 8 c key (m + 1) (canon L12k2 st1) := by
  obtain ⟨H, a, b, d, e, hp, rfl, h0, h1⟩ := hJ
  have hl := KS_length 8 key hk m
  have hlt : 8 + m < 4 * (8 + 6 + 1) := by omega
  have i1 : (8 + m - 1) * 4 + 4 ≤ (KS 8 key m).1.length := by omega
  have hw := wcell (KS 8 key m).1 (4 * c - 4 * (8 + m)) (8 + m - 1) ((8 + m - 1) * 4) rfl (by omega)
  have hw2 := wcell (KS 8 key m).1 (4 * c - 4 * (8 + m)) m (m * 4) rfl (by omega)
  have e1 : 8 + m - 8 = m := by omega
  have hi1 : 8 + m - 1 < 8 + m := by omega
  have hi2 : m < 8 + m := by omega
  simp (disch := first | omega | decide | simp only [qaf, qad, qag, qae, qah, qac, qaa, qab, qai]) only [qbv, qav, qbg, qap, qao, qam, qal, qbf, guardK_true, qar, qbo, qaC, qaH, qas, pickV_true, qaK, op_pick, qaJ, qa3, qaY, qaj, qbc, qaL, qbq, qaF, List.set_cons_zero, List.set_cons_succ, List.getD_cons_zero, List.getD_cons_succ, List.map_cons, List.map_nil, List.flatMap_cons, List.flatMap_nil, List.nil_append, List.cons_append, List.append_nil, List.length_cons, List.length_nil, Nat.reduceAdd, Nat.reduceSub, qaq, qa9, qaQ, qbU, op_ld, op_new, op_st, qbt, stK_cons, fill_nil, fill_cons, fillK_some, qbw, List.take_zero, List.drop_succ_cons, List.drop_nil, List.all_cons, List.all_nil, Bool.and_true, Prod.mk.injEq, Nat.reduceEqDiff, Nat.reduceLT, and_true, and_self, if_true, if_false, Nat.zero_add, Nat.add_zero, Nat.le_refl, decide_true, decide_false, Nat.one_ne_zero, aB_length, aB_cells, qbn, qae, Nat.add_zero, Nat.zero_add, N_add, N_sub, N_mul, N_rem, N_eql, qbp, N_nat, Nat.reduceLT, Nat.reduceEqDiff, Nat.reduceMul, Nat.reduceAdd, decide_false, decide_true, nm_beq, Bool.not_false, Bool.not_true, lenOf_sl, op_append, appK_some, appF_some, op_iaS, iaSV_sl, op_mkrow, rowK_some, qaz, qaS, qau, qa2, qa7, qbr, qbV, touch_ld, qbY, reach_none, nms_fn, qaI, List.contains_cons, List.contains_nil, beq_self_eq_true, Bool.or_true, Bool.or_false, ordOk, qaZ, List.all_cons, List.all_nil, Nat.testBit, Nat.reduceShiftRight, Nat.reduceAnd, Nat.reduceBEq, Bool.not_true, Bool.not_false, Bool.and_self, Bool.and_true, Bool.and_false, Nat.reduceSub, Nat.reduceLT, bne, qbh, qbN, trimO_f, qbA, isCall_ld, isCall_append, qbP, Bool.and_false, Bool.and_true, front_sl, qaM, qan, touch_append, qan, L12b2, h1, hlt, hw, hw2, e1, h4, h8, c_plus, qaT, List.cons_append, List.nil_append, fr_w]
  generalize hG : upd (upd (upd H (12, 0) _) (12, 0) _) (37, 0) _ = G
  have g0 : G (1, 0) = some (CF Nil TB) := by rw [← hG]; exact h0
  have g1 : G (1, 1) = some (bs ((KS 8 key m).1 ++ List.replicate (4 * c - 4 * (8 + m)) 0#8)) := by rw [← hG]; exact h1
  have hx : KS 8 key (m + 1) = (ext4 (KS 8 key m).1 (fun j => wd (KS 8 key m).1 (8 + m - 1) j ^^^ wd (KS 8 key m).1 m j), (KS 8 key m).2) := by
    have hn : nwd 8 (KS 8 key m).2 (8 + m) (KS 8 key m).1 = fun j => wd (KS 8 key m).1 (8 + m - 1) j ^^^ wd (KS 8 key m).1 m j := by
      funext j
      simp only [nwd, tw, if_neg h4, h8, and_false, if_false, e1]
    rw [KS, kstep, if_neg h4, hn]
  have e6 : 4 * c - 4 * (8 + m) - 4 = 4 * c - 4 * (8 + (m + 1)) := by omega
  have hap : ∀ b, appX b 4 4 1 (only [(1, 1), (37, 0)] G) [] (aB 4 fun j => wd (KS 8 key m).1 (8 + m - 1) j ^^^ wd (KS 8 key m).1 m j) (.sl (1, 1) 0 (8 + m) (some c) 4) = some ⟨.sl (1, 1) 0 (8 + m + 1) (some c) 4, [], [((1, 1), some (bs ((KS 8 key (m + 1)).1 ++ List.replicate (4 * c - 4 * (8 + (m + 1))) 0#8)))]⟩ := by
    intro b
    rw [app4_room b (8 + m) c _ (only [(1, 1), (37, 0)] G) (1, 1) _ _ g1 hl (by omega) (by omega) (by omega), hx, e6]
  simp (disch := first | omega | decide | simp only [qaf, qad, qag, qae, qah, qac, qaa, qab, qai]) only [qap, qao, qam, qal, qar, qaC, qaH, qas, qaK, qaJ, qaj, qbc, List.set_cons_zero, List.set_cons_succ, List.getD_cons_zero, List.getD_cons_succ, List.map_cons, List.map_nil, List.length_cons, List.length_nil, Nat.reduceAdd, Nat.reduceSub, List.all_cons, List.all_nil, Bool.and_true, Nat.reduceLT, if_true, Nat.zero_add, Nat.add_zero, decide_true, decide_false, Nat.add_zero, Nat.zero_add, N_add, Nat.reduceLT, Nat.reduceAdd, decide_false, decide_true, nm_beq, Bool.not_false, Bool.not_true, qaz, qau, qa2, List.contains_cons, List.contains_nil, beq_self_eq_true, Bool.or_true, Bool.or_false, ordOk, qaZ, List.all_cons, List.all_nil, Nat.testBit, Nat.reduceShiftRight, Nat.reduceAnd, Nat.reduceBEq, Bool.not_true, Bool.not_false, Bool.and_self, Bool.and_true, Bool.and_false, Nat.reduceSub, Nat.reduceLT, bne, Bool.and_false, Bool.and_true, qaM, qan, qan, qaM, hap]
  have hx2 : (KS 8 key (m + 1)).2 = (KS 8 key m).2 := by rw [hx]
  refine ⟨_, rfl, ?_⟩
  refine qbm [(1, 0), (1, 1)] rfl (by simp only [qay, FUEL, qaD, qaB, qax, qaI, qaT, nms_B8, nms_Bo, qa6, List.flatMap_cons, List.flatMap_nil, List.nil_append, List.cons_append, List.append_nil, List.range_zero, List.map_nil, List.contains_nil, List.contains_cons, Prod.mk.injEq, beq_iff_eq, Bool.or_eq_true, Bool.false_eq_true, and_false, or_false, if_true, if_false, Nat.one_ne_zero, Nat.zero_ne_one, List.filter_cons, List.filter_nil, bne_iff_ne, ne_eq, not_false_eq_true, qaq, qbb, qa5, qaW, nms_N, qbE, L12k2, qaR, qbE, qaw, g0, g1]) rfl ⟨_, N (8 + m), N 8, N ((8 + m) % 8), Bo false, ⟨rfl, fun _ => rfl⟩, by rw [hx2]; rfl, ?_, ?_⟩
  · exact qaP (1, 0) rfl (by simp (disch := first | omega | decide | simp only [qaf, qad, qag, qae, qah, qac, qaa, qab, qai]) only [qaq, Prod.mk.injEq, and_false, if_false, Nat.zero_ne_one, g0]) (by rw [qaV, ren_nil])
  · exact qaP (1, 1) rfl (by simp (disch := first | omega | decide | simp only [qaf, qad, qag, qae, qah, qac, qaa, qab, qai]) only [qaq, if_true, g1]) (qaE _ _)
end Aes

namespace Aes
open Go Go.LE

theorem k2_round (k n c : Nat) (hn : n = 4 ∨ n = 8) (hc : 4 * n + 28 ≤ c) (hc2 : c < 1048576) (key : List (BitVec 8)) (hk : key.length = 4 * n) (m : Nat) (hm : m < 3 * n + 28) (st : St) (hJ : w2J n c key m st) :
    ∃ st1, ev (envC C (k + 1)) (k + 1) L12b2 st = some (.normal, st1) ∧ w2J n c key (m + 1) (canon L12k2 st1) := by
  by_cases h4 : (n + m) % n = 0
  · exact k2_roundA k n c hn hc hc2 key hk m hm h4 st hJ
  · rcases hn with rfl | rfl
    · exact k2_roundC k 4 c (.inl rfl) hc hc2 key hk m hm h4 (by decide) st hJ
    · by_cases h8 : (8 + m) % 8 = 4
      · exact k2_roundB k c (by omega) hc2 key hk m hm h4 h8 st hJ
      · exact k2_roundD k c (by omega) hc2 key hk m hm h4 h8 st hJ
end Aes

namespace Aes
open Go Go.LE

/-- a round key whose first a words are in -/
def blkA (L : List (BitVec 8)) (i a : Nat) : R := fun j => if j < 4 * a then kf L i j else 0#8
theorem blkA_succ (L : List (BitVec 8)) (i a : Nat) (ha : a < 4) : (fun j => if 4 * a ≤ j ∧ j < 4 * a + 4 then wd L (4 * i + a) (j - 4 * a) else blkA L i a j) = blkA L i (a + 1) := by
  funext j
  simp only [blkA]
  by_cases h : 4 * a ≤ j ∧ j < 4 * a + 4
  · rw [if_pos h, if_pos (by omega), wd, kf]
    rw [show 4 * (4 * i + a) + (j - 4 * a) = i * 16 + j by omega]
  · rw [if_neg h]
    by_cases h2 : j < 4 * a
    · rw [if_pos h2, if_pos (by omega)]
    · rw [if_neg h2, if_neg (by omega)]
theorem cp_w (H : Heap) (m m2 : Nm) (a : Nat) (ha : a < 4) (c1 c2 : Option Nat) (w g : R) (h1 : H m = some (aB 16 g)) (h2 : H m2 = some (aB 4 w)) :
    cpK 1 H (.sl m (4 * a) (16 - 4 * a) c1 1) (.sl m2 0 4 c2 1) (some 4) = some ⟨N 4, [], [(m, some (aB 16 fun j => if 4 * a ≤ j ∧ j < 4 * a + 4 then w (j - 4 * a) else g j))]⟩ := by
  have hm : min 4 (16 - 4 * a) = 4 := by omega
  rw [aB_bs] at h1
  rw [aB4_bs] at h2
  have hf : front H 1 (min 4 (16 - 4 * a)) (.sl m2 0 4 c2 1) = some (bs [w 0, w 1, w 2, w 3]) := by
    rw [hm, front_bytes m2 0 4 c2 _ h2 (Nat.le_refl 4)]; rfl
  rw [cp_bytes 4 m _ _ c1 _ _ _ (by omega) hf h1 (by rw [List.length_map, List.length_range]; omega), hm]
  congr 4
  rw [aB_bs]
  congr 2
  have : a = 0 ∨ a = 1 ∨ a = 2 ∨ a = 3 := by omega
  rcases this with rfl | rfl | rfl | rfl <;> rfl

/-- the third loop's inner loop, no keys yet -/
def w0JZ (n c i : Nat) (L keys : List (BitVec 8)) (a : Nat) (st : St) : Prop := ∃ (H : Heap), st = ⟨[.undef, .undef, .undef, .undef, .ptr (1, 0) 0, .sl (1, 1) 0 (4 * (n + 7)) (some c) 4, .undef, .undef, .undef, .undef, .undef, .undef, .undef, .ptr (1, 2) 0, .undef, .undef, .undef, .undef, .undef, .undef, .undef, .undef, .undef, .undef, .undef, .undef, .undef, .undef, .undef, .undef, .undef, .undef, .undef, .undef, .undef, .undef, .undef, .undef, .undef, .undef, .undef, .undef, .undef, .undef, .undef, .undef, .undef, .undef, .undef, .undef, .undef, .undef, .undef, .undef, .undef, .undef, .undef, .undef, .undef, .undef, .undef, .undef, .undef, .undef, .undef, .undef, .undef, .undef, .undef, .undef, .undef, .undef, .undef, .undef, .undef, .undef, .undef, .undef, .undef, .undef, .undef, .undef, .undef, .undef, .undef, .undef, .undef, .undef, .undef, .undef, .undef, .undef, .undef, .undef, .undef, .undef, .undef, .undef, .undef, .undef, .undef, .undef, .undef, .undef, .undef, .undef, .undef, .undef, .undef, .undef, .undef, .undef, .undef, .undef, .undef, .undef, N (n + 7), N i, .undef, .undef, .undef, .undef, .undef, .undef, .undef, .undef, .undef, .sl (1, 1) (4 * i * 4) 4 (some (c - 4 * i)) 4, N 4, N a, .undef, .undef, .undef, .undef, .undef, .undef, .undef, .undef, .undef, .undef, .undef, .undef, .undef, .undef, .undef, .undef, .undef, .undef, .undef, .undef, .undef, .undef], H, 2, 0⟩ ∧
  H (1, 0) = some (CF Nil TB) ∧ H (1, 1) = some (bs (L ++ List.replicate (4 * c - 16 * (n + 7)) 0#8)) ∧ H (1, 2) = some (aB 16 (blkA L i a))
theorem k0_roundZ (k n c i : Nat) (hi : i < n + 7) (L keys : List (BitVec 8)) (hL : L.length = 16 * (n + 7)) (hc : 4 * (n + 7) ≤ c) (a : Nat) (ha : a < 4) (st : St) (hJ : w0JZ n c i L keys a st) :
    ∃ st1, ev (envC C k) k L12b0 st = some (.normal, st1) ∧ w0JZ n c i L keys (a + 1) (canon L12k0 st1) := by
  obtain ⟨H, rfl, h0, h1, h2⟩ := hJ
  have hw := wcell L (4 * c - 16 * (n + 7)) (4 * i + a) (4 * i * 4 + a * 4) (by omega) (by omega)
  have hlt : 4 * a ≤ 16 := by omega
  simp (disch := first | omega | decide | simp only [qaf, qad, qag, qae, qah, qac, qaa, qab, qai]) only [qbv, qav, qbg, qap, qao, qam, qal, qar, qbo, qaC, qaH, qas, qaK, qaJ, qaj, qaL, qbq, List.set_cons_zero, List.set_cons_succ, List.getD_cons_zero, List.getD_cons_succ, List.nil_append, List.cons_append, List.append_nil, List.length_cons, List.length_nil, Nat.reduceAdd, qaq, qa9, qaQ, qbU, op_ld, op_new, op_st, qbt, stK_cons, qbw, List.take_zero, List.drop_succ_cons, List.drop_nil, and_self, if_true, Nat.zero_add, Nat.add_zero, Nat.le_refl, decide_true, aB_length, qae, Nat.mul_one, Nat.add_zero, Nat.zero_add, N_mul, qbp, N_nat, Nat.reduceAdd, decide_true, lenOf_sl, op_copy, qb6, qbZ, op_iaS, iaSV_sl, op_slcAV, slcAV_ptr, qaz, qaS, qau, qa2, Nat.sub_zero, Nat.mul_one, qa7, qbr, touch_copy, Bool.and_false, qbh, qbN, trimO_f, isCall_copy, Bool.and_false, qan, qan, L12b0, h1, ha, hw, qaT]
  rw [cp_w _ (1, 2) (6, 0) a ha _ _ (wd L (4 * i + a)) (blkA L i a) (by exact h2) rfl]
  simp (disch := first | omega | decide | simp only [qaf, qad, qag, qae, qah, qac, qaa, qab, qai]) only [qap, qao, qam, qal, qar, qaC, qaH, qas, qaK, qaJ, qaj, qbc, List.set_cons_zero, List.set_cons_succ, List.getD_cons_zero, List.getD_cons_succ, List.map_cons, List.map_nil, List.length_cons, List.length_nil, Nat.reduceAdd, Nat.reduceSub, List.all_cons, List.all_nil, Bool.and_true, Nat.reduceLT, if_true, Nat.zero_add, Nat.add_zero, decide_true, Nat.add_zero, Nat.zero_add, N_add, Nat.reduceLT, Nat.reduceAdd, decide_true, nm_beq, Bool.not_false, qaz, qau, qa2, List.contains_cons, List.contains_nil, beq_self_eq_true, Bool.or_true, Bool.or_false, ordOk, qaZ, List.all_cons, List.all_nil, Nat.testBit, Nat.reduceShiftRight, Nat.reduceAnd, Nat.reduceBEq, Bool.not_false, Bool.and_self, Bool.and_true, Nat.reduceSub, Nat.reduceLT, bne, Bool.and_true, qaM, qan, qan, qaM]
  rw [blkA_succ L i a ha]
  refine ⟨_, rfl, ?_⟩
  refine qbm [(1, 0), (1, 1), (1, 2)] rfl (by simp only [qay, FUEL, qaD, qaB, qax, qaI, qaT, qa6, List.flatMap_cons, List.flatMap_nil, List.nil_append, List.cons_append, List.append_nil, List.range_zero, List.map_nil, List.contains_nil, List.contains_cons, Prod.mk.injEq, beq_iff_eq, Bool.or_eq_true, Bool.false_eq_true, Nat.reduceEqDiff, and_true, and_false, or_false, or_true, if_true, if_false, Nat.one_ne_zero, List.filter_cons, List.filter_nil, bne_iff_ne, ne_eq, not_false_eq_true, qaq, qbb, qa5, qaW, nms_N, qbE, L12k0, aB_nms, qaR, qaT, qbE, qaw, h0, h1, h2]) rfl ⟨_, rfl, ?_, ?_, ?_⟩
  · exact qaP (1, 0) rfl (by simp (disch := first | omega | decide | simp only [qaf, qad, qag, qae, qah, qac, qaa, qab, qai]) only [qaq, Prod.mk.injEq, Nat.reduceEqDiff, and_true, and_false, if_false, h0]) (by rw [qaV]; rfl)
  · exact qaP (1, 1) rfl (by simp (disch := first | omega | decide | simp only [qaf, qad, qag, qae, qah, qac, qaa, qab, qai]) only [qaq, Prod.mk.injEq, Nat.reduceEqDiff, and_false, and_self, if_false, Nat.one_ne_zero, h1]) (qaE _ _)
  · exact qaP (1, 2) rfl (by simp (disch := first | omega | decide | simp only [qaf, qad, qag, qae, qah, qac, qaa, qab, qai]) only [qaq, Prod.mk.injEq, Nat.reduceEqDiff, and_self, if_true, if_false]) (qbB _ _ _)

/-- the third loop's inner loop, keys ahead -/
def w0JS (n c i : Nat) (L keys : List (BitVec 8)) (a : Nat) (st : St) : Prop := ∃ (H : Heap), st = ⟨[.undef, .undef, .undef, .undef, .ptr (1, 0) 0, .sl (1, 2) 0 (4 * (n + 7)) (some c) 4, .undef, .undef, .undef, .undef, .undef, .undef, .undef, .ptr (1, 3) 0, .undef, .undef, .undef, .undef, .undef, .undef, .undef, .undef, .undef, .undef, .undef, .undef, .undef, .undef, .undef, .undef, .undef, .undef, .undef, .undef, .undef, .undef, .undef, .undef, .undef, .undef, .undef, .undef, .undef, .undef, .undef, .undef, .undef, .undef, .undef, .undef, .undef, .undef, .undef, .undef, .undef, .undef, .undef, .undef, .undef, .undef, .undef, .undef, .undef, .undef, .undef, .undef, .undef, .undef, .undef, .undef, .undef, .undef, .undef, .undef, .undef, .undef, .undef, .undef, .undef, .undef, .undef, .undef, .undef, .undef, .undef, .undef, .undef, .undef, .undef, .undef, .undef, .undef, .undef, .undef, .undef, .undef, .undef, .undef, .undef, .undef, .undef, .undef, .undef, .undef, .undef, .undef, .undef, .undef, .undef, .undef, .undef, .undef, .undef, .undef, .undef, .undef, N (n + 7), N i, .undef, .undef, .undef, .undef, .undef, .undef, .undef, .undef, .undef, .sl (1, 2) (4 * i * 4) 4 (some (c - 4 * i)) 4, N 4, N a, .undef, .undef, .undef, .undef, .undef, .undef, .undef, .undef, .undef, .undef, .undef, .undef, .undef, .undef, .undef, .undef, .undef, .undef, .undef, .undef, .undef, .undef], H, 2, 0⟩ ∧
  H (1, 0) = some (CF (.sl (1, 1) 0 i none 16) TB) ∧ H (1, 1) = some (bs keys) ∧ H (1, 2) = some (bs (L ++ List.replicate (4 * c - 16 * (n + 7)) 0#8)) ∧ H (1, 3) = some (aB 16 (blkA L i a))
theorem k0_roundS (k n c i : Nat) (hi : i < n + 7) (L keys : List (BitVec 8)) (hL : L.length = 16 * (n + 7)) (hc : 4 * (n + 7) ≤ c) (a : Nat) (ha : a < 4) (st : St) (hJ : w0JS n c i L keys a st) :
    ∃ st1, ev (envC C k) k L12b0 st = some (.normal, st1) ∧ w0JS n c i L keys (a + 1) (canon L12k0 st1) := by
  obtain ⟨H, rfl, h0, hk, h1, h2⟩ := hJ
  have hw := wcell L (4 * c - 16 * (n + 7)) (4 * i + a) (4 * i * 4 + a * 4) (by omega) (by omega)
  have hlt : 4 * a ≤ 16 := by omega
  simp (disch := first | omega | decide | simp only [qaf, qad, qag, qae, qah, qac, qaa, qab, qai]) only [qbv, qav, qbg, qap, qao, qam, qal, qar, qbo, qaC, qaH, qas, qaK, qaJ, qaj, qaL, qbq, List.set_cons_zero, List.set_cons_succ, List.getD_cons_zero, List.getD_cons_succ, List.nil_append, List.cons_append, List.append_nil, List.length_cons, List.length_nil, Nat.reduceAdd, qaq, qa9, qaQ, qbU, op_ld, op_new, op_st, qbt, stK_cons, qbw, List.take_zero, List.drop_succ_cons, List.drop_nil, and_self, if_true, Nat.zero_add, Nat.add_zero, Nat.le_refl, decide_true, aB_length, qae, Nat.mul_one, Nat.add_zero, Nat.zero_add, N_mul, qbp, N_nat, Nat.reduceAdd, decide_true, lenOf_sl, op_copy, qb6, qbZ, op_iaS, iaSV_sl, op_slcAV, slcAV_ptr, qaz, qaS, qau, qa2, Nat.sub_zero, Nat.mul_one, qa7, qbr, touch_copy, Bool.and_false, qbh, qbN, trimO_f, isCall_copy, Bool.and_false, qan, qan, L12b0, h1, ha, hw, qaT]
  rw [cp_w _ (1, 3) (6, 0) a ha _ _ (wd L (4 * i + a)) (blkA L i a) (by exact h2) rfl]
  simp (disch := first | omega | decide | simp only [qaf, qad, qag, qae, qah, qac, qaa, qab, qai]) only [qap, qao, qam, qal, qar, qaC, qaH, qas, qaK, qaJ, qaj, qbc, List.set_cons_zero, List.set_cons_succ, List.getD_cons_zero, List.getD_cons_succ, List.map_cons, List.map_nil, List.length_cons, List.length_nil, Nat.reduceAdd, Nat.reduceSub, List.all_cons, List.all_nil, Bool.and_true, Nat.reduceLT, if_true, Nat.zero_add, Nat.add_zero, decide_true, Nat.add_zero, Nat.zero_add, N_add, Nat.reduceLT, Nat.reduceAdd, decide_true, nm_beq, Bool.not_false, qaz, qau, qa2, List.contains_cons, List.contains_nil, beq_self_eq_true, Bool.or_true, Bool.or_false, ordOk, qaZ, List.all_cons, List.all_nil, Nat.testBit, Nat.reduceShiftRight, Nat.reduceAnd, Nat.reduceBEq, Bool.not_false, Bool.and_self, Bool.and_true, Nat.reduceSub, Nat.reduceLT, bne, Bool.and_true, qaM, qan, qan, qaM]
  rw [blkA_succ L i a ha]
  refine ⟨_, rfl, ?_⟩
  refine qbm [(1, 0), (1, 1), (1, 2), (1, 3)] rfl (by simp only [qay, FUEL, qaD, qaB, qax, qaI, qaT, qa6, List.flatMap_cons, List.flatMap_nil, List.nil_append, List.cons_append, List.append_nil, List.range_zero, List.map_nil, List.contains_nil, List.contains_cons, Prod.mk.injEq, beq_iff_eq, Bool.or_eq_true, Bool.false_eq_true, Nat.reduceEqDiff, and_true, and_false, or_false, or_true, if_true, if_false, Nat.one_ne_zero, List.filter_cons, List.filter_nil, bne_iff_ne, ne_eq, not_false_eq_true, qaq, qbb, qa5, qaW, nms_N, L12k0, aB_nms, qaR, qaT, qaw, h0, hk, h1, h2]) rfl ⟨_, rfl, ?_, ?_, ?_, ?_⟩
  · exact qaP (1, 0) rfl (by simp (disch := first | omega | decide | simp only [qaf, qad, qag, qae, qah, qac, qaa, qab, qai]) only [qaq, Prod.mk.injEq, Nat.reduceEqDiff, and_true, and_false, if_false, h0]) (by rw [qaV]; rfl)
  · exact qaP (1, 1) rfl (by simp (disch := first | omega | decide | simp only [qaf, qad, qag, qae, qah, qac, qaa, qab, qai]) only [qaq, Prod.mk.injEq, Nat.reduceEqDiff, and_false, and_self, if_false, Nat.one_ne_zero, hk]) (qaE _ _)
  · exact qaP (1, 2) rfl (by simp (disch := first | omega | decide | simp only [qaf, qad, qag, qae, qah, qac, qaa, qab, qai]) only [qaq, Prod.mk.injEq, Nat.reduceEqDiff, and_false, and_self, if_false, h1]) (qaE _ _)
  · exact qaP (1, 3) rfl (by simp (disch := first | omega | decide | simp only [qaf, qad, qag, qae, qah, qac, qaa, qab, qai]) only [qaq, Prod.mk.injEq, Nat.reduceEqDiff, and_self, if_true, if_false]) (qbB _ _ _)
end Aes

namespace Aes
open Go Go.LE
set_option maxRecDepth 20000

def w1J (n c : Nat) (L : List (BitVec 8)) (i : Nat) (st : St) : Prop := ∃ (H : Heap),
  (i = 0 ∧ st = ⟨[.undef, .undef, .undef, .undef, .ptr (1, 0) 0, .sl (1, 1) 0 (4 * (n + 7)) (some c) 4, .undef, .undef, .undef, .undef, .undef, .undef, .undef, .undef, .undef, .undef, .undef, .undef, .undef, .undef, .undef, .undef, .undef, .undef, .undef, .undef, .undef, .undef, .undef, .undef, .undef, .undef, .undef, .undef, .undef, .undef, .undef, .undef, .undef, .undef, .undef, .undef, .undef, .undef, .undef, .undef, .undef, .undef, .undef, .undef, .undef, .undef, .undef, .undef, .undef, .undef, .undef, .undef, .undef, .undef, .undef, .undef, .undef, .undef, .undef, .undef, .undef, .undef, .undef, .undef, .undef, .undef, .undef, .undef, .undef, .undef, .undef, .undef, .undef, .undef, .undef, .undef, .undef, .undef, .undef, .undef, .undef, .undef, .undef, .undef, .undef, .undef, .undef, .undef, .undef, .undef, .undef, .undef, .undef, .undef, .undef, .undef, .undef, .undef, .undef, .undef, .undef, .undef, .undef, .undef, .undef, .undef, .undef, .undef, .undef, .undef, N (n + 7), N 0, .undef, .undef, .undef, .undef, .undef, .undef, .undef, .undef, .undef, .undef, .undef, .undef, .undef, .undef, .undef, .undef, .undef, .undef, .undef, .undef, .undef, .undef, .undef, .undef, .undef, .undef, .undef, .undef, .undef, .undef, .undef, .undef, .undef, .undef], H, 2, 0⟩ ∧ H (1, 0) = some (CF Nil TB) ∧ H (1, 1) = some (bs (L ++ List.replicate (4 * c - 16 * (n + 7)) 0#8))) ∨
  (0 < i ∧ st = ⟨[.undef, .undef, .undef, .undef, .ptr (1, 0) 0, .sl (1, 2) 0 (4 * (n + 7)) (some c) 4, .undef, .undef, .undef, .undef, .undef, .undef, .undef, .undef, .undef, .undef, .undef, .undef, .undef, .undef, .undef, .undef, .undef, .undef, .undef, .undef, .undef, .undef, .undef, .undef, .undef, .undef, .undef, .undef, .undef, .undef, .undef, .undef, .undef, .undef, .undef, .undef, .undef, .undef, .undef, .undef, .undef, .undef, .undef, .undef, .undef, .undef, .undef, .undef, .undef, .undef, .undef, .undef, .undef, .undef, .undef, .undef, .undef, .undef, .undef, .undef, .undef, .undef, .undef, .undef, .undef, .undef, .undef, .undef, .undef, .undef, .undef, .undef, .undef, .undef, .undef, .undef, .undef, .undef, .undef, .undef, .undef, .undef, .undef, .undef, .undef, .undef, .undef, .undef, .undef, .undef, .undef, .undef, .undef, .undef, .undef, .undef, .undef, .undef, .undef, .undef, .undef, .undef, .undef, .undef, .undef, .undef, .undef, .undef, .undef, .undef, N (n + 7), N i, .undef, .undef, .undef, .undef, .undef, .undef, .undef, .undef, .undef, .undef, .undef, .undef, .undef, .undef, .undef, .undef, .undef, .undef, .undef, .undef, .undef, .undef, .undef, .undef, .undef, .undef, .undef, .undef, .undef, .undef, .undef, .undef, .undef, .undef], H, 2, 0⟩ ∧ H (1, 0) = some (CF (.sl (1, 1) 0 i none 16) TB) ∧ H (1, 1) = some (bs (L.take (16 * i))) ∧ H (1, 2) = some (bs (L ++ List.replicate (4 * c - 16 * (n + 7)) 0#8)))
theorem w1J.of_z {n c : Nat} {L : List (BitVec 8)} {st : St} (h : w1J n c L 0 st) : ∃ (H : Heap), st = ⟨[.undef, .undef, .undef, .undef, .ptr (1, 0) 0, .sl (1, 1) 0 (4 * (n + 7)) (some c) 4, .undef, .undef, .undef, .undef, .undef, .undef, .undef, .undef, .undef, .undef, .undef, .undef, .undef, .undef, .undef, .undef, .undef, .undef, .undef, .undef, .undef, .undef, .undef, .undef, .undef, .undef, .undef, .undef, .undef, .undef, .undef, .undef, .undef, .undef, .undef, .undef, .undef, .undef, .undef, .undef, .undef, .undef, .undef, .undef, .undef, .undef, .undef, .undef, .undef, .undef, .undef, .undef, .undef, .undef, .undef, .undef, .undef, .undef, .undef, .undef, .undef, .undef, .undef, .undef, .undef, .undef, .undef, .undef, .undef, .undef, .undef, .undef, .undef, .undef, .undef, .undef, .undef, .undef, .undef, .undef, .undef, .undef, .undef, .undef, .undef, .undef, .undef, .undef, .undef, .undef, .undef, .undef, .undef, .undef, .undef, .undef, .undef, .undef, .undef, .undef, .undef, .undef, .undef, .undef, .undef, .undef, .undef, .undef, .undef, .undef, N (n + 7), N 0, .undef, .undef, .undef, .undef, .undef, .undef, .undef, .undef, .undef, .undef, .undef, .undef, .undef, .undef, .undef, .undef, .undef, .undef, .undef, .undef, .undef, .undef, .undef, .undef, .undef, .undef, .undef, .undef, .undef, .undef, .undef, .undef, .undef, .undef], H, 2, 0⟩ ∧ H (1, 0) = some (CF Nil TB) ∧ H (1, 1) = some (bs (L ++ List.replicate (4 * c - 16 * (n + 7)) 0#8)) := by
  obtain ⟨H, ⟨_, h⟩ | ⟨h, _⟩⟩ := h
  · exact ⟨H, h⟩
  · exact absurd h (by omega)
theorem w1J.of_s {n c i : Nat} {L : List (BitVec 8)} {st : St} (h : w1J n c L i st) (hi : 0 < i) : ∃ (H : Heap), st = ⟨[.undef, .undef, .undef, .undef, .ptr (1, 0) 0, .sl (1, 2) 0 (4 * (n + 7)) (some c) 4, .undef, .undef, .undef, .undef, .undef, .undef, .undef, .undef, .undef, .undef, .undef, .undef, .undef, .undef, .undef, .undef, .undef, .undef, .undef, .undef, .undef, .undef, .undef, .undef, .undef, .undef, .undef, .undef, .undef, .undef, .undef, .undef, .undef, .undef, .undef, .undef, .undef, .undef, .undef, .undef, .undef, .undef, .undef, .undef, .undef, .undef, .undef, .undef, .undef, .undef, .undef, .undef, .undef, .undef, .undef, .undef, .undef, .undef, .undef, .undef, .undef, .undef, .undef, .undef, .undef, .undef, .undef, .undef, .undef, .undef, .undef, .undef, .undef, .undef, .undef, .undef, .undef, .undef, .undef, .undef, .undef, .undef, .undef, .undef, .undef, .undef, .undef, .undef, .undef, .undef, .undef, .undef, .undef, .undef, .undef, .undef, .undef, .undef, .undef, .undef, .undef, .undef, .undef, .undef, .undef, .undef, .undef, .undef, .undef, .undef, N (n + 7), N i, .undef, .undef, .undef, .undef, .undef, .undef, .undef, .undef, .undef, .undef, .undef, .undef, .undef, .undef, .undef, .undef, .undef, .undef, .undef, .undef, .undef, .undef, .undef, .undef, .undef, .undef, .undef, .undef, .undef, .undef, .undef, .undef, .undef, .undef], H, 2, 0⟩ ∧ H (1, 0) = some (CF (.sl (1, 1) 0 i none 16) TB) ∧ H (1, 1) = some (bs (L.take (16 * i))) ∧ H (1, 2) = some (bs (L ++ List.replicate (4 * c - 16 * (n + 7)) 0#8)) := by
  obtain ⟨H, ⟨h, _⟩ | ⟨_, h⟩⟩ := h
  · exact absurd h (by omega)
  · exact ⟨H, h⟩
theorem CF_st0 (r x : LV) (f : R) (m : Nm) (h : isCell x = true) : stK 1 0 m (some [x]) (some (CF r f)) = some ⟨Un, [], [(m, some (CF x f))]⟩ := by
  have e : qbw (CF r f) 0 [x] = CF x f := by
    simp only [qbw, CF, List.take_zero, List.nil_append, List.length_cons, List.length_nil, Nat.zero_add, List.drop_succ_cons, List.drop_zero, List.cons_append]
  rw [stK_some, if_pos ⟨rfl, by rw [CF_length]; omega, by rw [List.all_cons, h]; rfl⟩, e]
theorem fill16 (w f : R) : aB 16 w ++ List.drop 16 (aB 16 f) = aB 16 w := by rw [List.drop_of_length_le (by rw [aB_length]; exact Nat.le_refl 16), List.append_nil]
theorem frontK_16 (w : R) : frontK 0 16 1 (some (aB 16 w)) = some (aB 16 w) := rfl

theorem k1_roundZ (k n c : Nat) (hn : n ≤ 8) (L : List (BitVec 8)) (hL : L.length = 16 * (n + 7)) (hc : 4 * (n + 7) ≤ c) (hc2 : c < 1048576) (st : St) (hJ : w1J n c L 0 st) :
    ∃ st1, ev (envC C (k + 5)) (k + 5) L12b1 st = some (.normal, st1) ∧ w1J n c L (0 + 1) (canon L12k1 st1) := by
  obtain ⟨H, rfl, h0, h1⟩ := hJ.of_z
  have hlt : 0 < n + 7 := by omega
  have e1 : 4 * (0 + 1) ≤ 4 * (n + 7) := by omega
  have e2 : 4 * (0 + 1) - 4 * 0 = 4 := by omega
  have e4 : 4 * 0 ≤ 4 * (0 + 1) := by omega
  simp (disch := first | omega | decide | simp only [qaf, qad, qag, qae, qah, qac, qaa, qab, qai]) only [qbv, qav, qbg, qap, qao, qam, qal, qar, qbo, qaC, qaH, qas, qaK, qaJ, qaj, qaL, qbq, List.set_cons_zero, List.set_cons_succ, List.getD_cons_zero, List.getD_cons_succ, List.map_nil, List.length_cons, List.length_nil, ev_loop, Nat.reduceAdd, qaq, qa9, op_new, op_st, qbt, fill_nil, aggR_some, op_build, if_true, Nat.zero_add, Nat.add_zero, decide_true, aB_rep, aB_st_all, Nat.mul_one, Nat.add_zero, Nat.zero_add, N_add, N_mul, qbp, N_nat, Nat.reduceMul, Nat.reduceAdd, decide_true, op_len, qbC, lenS_sl, qbZ, op_slcS, slcV_cap, getD_some, qaz, qaS, qau, qa2, Nat.sub_zero, Nat.mul_one, qan, qan, L12b1, hlt, e2]
  generalize hL2 : loopN L12k0 _ _ _ = r
  refine loop_use hL2 (w0JZ n c 0 L []) 4 (by omega) (fun a st ha hJ => k0_roundZ _ n c 0 hlt L _ hL hc a ha st hJ) ?_ ?_ ?_
  · refine qbm [(1, 0), (1, 1), (6, 0)] rfl (by simp only [qay, FUEL, qaD, qaB, qax, qaI, qaT, qa6, List.flatMap_cons, List.flatMap_nil, List.nil_append, List.cons_append, List.append_nil, List.range_zero, List.map_nil, List.contains_nil, List.contains_cons, Prod.mk.injEq, beq_iff_eq, Bool.or_eq_true, Bool.false_eq_true, Nat.reduceEqDiff, and_true, and_false, or_false, or_true, if_true, if_false, Nat.one_ne_zero, Nat.zero_ne_one, List.filter_cons, List.filter_nil, bne_iff_ne, ne_eq, not_false_eq_true, qaq, qbb, qa5, qaW, nms_N, qbE, L12k0, aB_nms, qaR, qaT, qbE, qaw, h0, h1]) rfl ⟨_, rfl, ?_, ?_, ?_⟩
    · exact qaP (1, 0) rfl (by simp (disch := first | omega | decide | simp only [qaf, qad, qag, qae, qah, qac, qaa, qab, qai]) only [qaq, Prod.mk.injEq, Nat.reduceEqDiff, and_true, if_false, h0]) (by rw [qaV]; rfl)
    · exact qaP (1, 1) rfl (by simp (disch := first | omega | decide | simp only [qaf, qad, qag, qae, qah, qac, qaa, qab, qai]) only [qaq, Prod.mk.injEq, Nat.reduceEqDiff, and_self, if_false, Nat.one_ne_zero, h1]) (qaE _ _)
    · refine (qaP (6, 0) rfl (by simp (disch := first | omega | decide | simp only [qaf, qad, qag, qae, qah, qac, qaa, qab, qai]) only [qaq, if_true]) (qbB 16 (fun _ => 0#8) _)).trans (congrArg some ?_)
      exact aB_ext _ fun j _ => by rw [blkA, if_neg (by omega)]
  · rintro st ⟨H, rfl, h0, h1, h2⟩
    apply qb7
    simp (disch := first | omega | decide | simp only [qaf, qad, qag, qae, qah, qac, qaa, qab, qai]) only [qbx, qav, qap, qao, qam, qal, qar, qaC, qas, qaJ, qaj, qaU, qaL, qaF, List.set_cons_zero, List.set_cons_succ, List.getD_cons_zero, List.getD_cons_succ, List.length_cons, List.length_nil, Nat.reduceAdd, Nat.zero_add, Nat.add_zero, decide_false, Nat.add_zero, Nat.zero_add, qbp, Nat.reduceMul, Nat.reduceAdd, Nat.lt_irrefl, decide_false, qaz, qau, Nat.sub_zero, qan, L12b0]
    rfl
  · rintro st ⟨H, rfl, h0, h1, h2⟩ rfl
    have hb : aB 16 (blkA L 0 4) = aB 16 (kf L 0) := aB_ext _ fun j hj => by rw [blkA, if_pos (by omega)]
    rw [hb] at h2
    simp (disch := first | omega | decide | simp only [qaf, qad, qag, qae, qah, qac, qaa, qab, qai]) only [qbx, qav, qap, qao, qam, qal, qar, qbo, qaC, qaH, qas, qaK, qaJ, qaj, qaU, qbc, qbL, qaL, qaF, List.set_cons_zero, List.set_cons_succ, List.getD_cons_zero, List.getD_cons_succ, List.map_cons, List.map_nil, List.nil_append, List.cons_append, List.length_cons, List.length_nil, Nat.reduceAdd, Nat.reduceSub, qaq, qa9, qaQ, qbs, qbU, op_ld1, op_ld, op_st, qbt, op_fa, faV_ptr, fill_nil, fill_cons, fillK_some, qbw, List.take_zero, List.all_cons, List.all_nil, Bool.and_true, Prod.mk.injEq, Nat.reduceEqDiff, Nat.reduceLT, and_true, and_self, if_true, if_false, Nat.zero_add, Nat.add_zero, Nat.le_refl, decide_true, decide_false, aB_length, aB_cells, Nat.add_zero, Nat.zero_add, N_add, qbp, Nat.reduceLT, Nat.reduceEqDiff, Nat.reduceMul, Nat.reduceAdd, Nat.lt_irrefl, decide_false, decide_true, nm_beq, Bool.not_false, Bool.not_true, op_chk, qb3, lenOf_sl, qbE, cellsOf_sl, op_append, appK_some, appF_some, appX_nil, op_mkrow, rowK_some, qaz, qaS, qau, qa2, Nat.sub_zero, qa7, qbr, qbV, touch_ld1, touch_ld, touch_st, qaI, List.contains_cons, List.contains_nil, beq_self_eq_true, Bool.or_true, Bool.or_false, ordOk, qaZ, List.all_cons, List.all_nil, Nat.testBit, Nat.reduceShiftRight, Nat.reduceAnd, Nat.reduceBEq, Bool.not_true, Bool.not_false, Bool.and_self, Bool.and_true, Bool.and_false, Nat.reduceSub, Nat.reduceLT, bne, qbh, qbN, trimO_f, qbA, qb8, isCall_ld, isCall_st, isCall_append, Bool.and_false, Bool.and_true, front_sl, qaM, qan, touch_append, qan, qaM, L12b0, h0, h2, qaT, qbE, CF_k, CF_st0, fill16, frontK_16]
    refine ⟨_, rfl, ?_⟩
    refine qbm [(1, 0), (10, 0), (1, 1)] rfl (by simp only [qay, FUEL, qaD, qaB, qax, qaI, qaT, qa6, List.flatMap_cons, List.flatMap_nil, List.nil_append, List.cons_append, List.append_nil, List.range_zero, List.map_nil, List.contains_nil, List.contains_cons, Prod.mk.injEq, beq_iff_eq, Bool.or_eq_true, Bool.false_eq_true, Nat.reduceEqDiff, and_true, and_false, or_false, if_true, if_false, Nat.one_ne_zero, List.filter_cons, List.filter_nil, bne_iff_ne, ne_eq, not_false_eq_true, qaq, qbb, qa5, qaW, nms_N, L12k1, aB_nms, qaR, qaT, qaw, h0, h1]) rfl ⟨_, .inr ⟨by omega, rfl, ?_, ?_, ?_⟩⟩
    · refine (cN_one _ _ 0 (1, 0) _ rfl (by simp (disch := first | omega | decide | simp only [qaf, qad, qag, qae, qah, qac, qaa, qab, qai]) only [qaq, Prod.mk.injEq, Nat.reduceEqDiff, and_true, if_true, if_false, h0]; rfl)).trans ?_
      rw [qaV]; rfl
    · refine (cN_one _ _ 1 (10, 0) _ rfl (by simp (disch := first | omega | decide | simp only [qaf, qad, qag, qae, qah, qac, qaa, qab, qai]) only [qaq, Prod.mk.injEq, Nat.reduceEqDiff, and_true, if_true, if_false]; rfl)).trans ?_
      rw [qbB, aB_bs, ← take16 L 0 (by omega)]; rfl
    · exact qaP (1, 1) rfl (by simp (disch := first | omega | decide | simp only [qaf, qad, qag, qae, qah, qac, qaa, qab, qai]) only [qaq, Prod.mk.injEq, Nat.reduceEqDiff, and_false, and_self, if_false, Nat.one_ne_zero, h1]) (qaE _ _)

theorem k1_roundS (k n c i : Nat) (hn : n ≤ 8) (h0i : 0 < i) (hi : i < n + 7) (L : List (BitVec 8)) (hL : L.length = 16 * (n + 7)) (hc : 4 * (n + 7) ≤ c) (hc2 : c < 1048576) (st : St) (hJ : w1J n c L i st) :
    ∃ st1, ev (envC C (k + 5)) (k + 5) L12b1 st = some (.normal, st1) ∧ w1J n c L (i + 1) (canon L12k1 st1) := by
  obtain ⟨H, rfl, h0, hk, h1⟩ := hJ.of_s h0i
  have hlt : i < n + 7 := by omega
  have e1 : 4 * (i + 1) ≤ 4 * (n + 7) := by omega
  have e2 : 4 * (i + 1) - 4 * i = 4 := by omega
  have e4 : 4 * i ≤ 4 * (i + 1) := by omega
  simp (disch := first | omega | decide | simp only [qaf, qad, qag, qae, qah, qac, qaa, qab, qai]) only [qbv, qav, qbg, qap, qao, qam, qal, qar, qbo, qaC, qaH, qas, qaK, qaJ, qaj, qaL, qbq, List.set_cons_zero, List.set_cons_succ, List.getD_cons_zero, List.getD_cons_succ, List.map_nil, List.length_cons, List.length_nil, ev_loop, Nat.reduceAdd, qaq, qa9, op_new, op_st, qbt, fill_nil, aggR_some, op_build, if_true, Nat.zero_add, Nat.add_zero, decide_true, aB_rep, aB_st_all, Nat.add_zero, Nat.zero_add, N_add, N_mul, qbp, N_nat, Nat.reduceAdd, decide_true, op_len, qbC, lenS_sl, qbZ, op_slcS, slcV_cap, getD_some, qaz, qaS, qau, qa2, qan, qan, L12b1, hlt, e2]
  generalize hL2 : loopN L12k0 _ _ _ = r
  refine loop_use hL2 (w0JS n c i L (L.take (16 * i))) 4 (by omega) (fun a st ha hJ => k0_roundS _ n c i hlt L _ hL hc a ha st hJ) ?_ ?_ ?_
  · refine qbm [(1, 0), (1, 1), (1, 2), (6, 0)] rfl (by simp only [qay, FUEL, qaD, qaB, qax, qaI, qaT, qa6, List.flatMap_cons, List.flatMap_nil, List.nil_append, List.cons_append, List.append_nil, List.range_zero, List.map_nil, List.contains_nil, List.contains_cons, Prod.mk.injEq, beq_iff_eq, Bool.or_eq_true, Bool.false_eq_true, Nat.reduceEqDiff, and_true, and_false, or_false, or_true, if_true, if_false, Nat.one_ne_zero, Nat.zero_ne_one, List.filter_cons, List.filter_nil, bne_iff_ne, ne_eq, not_false_eq_true, qaq, qbb, qa5, qaW, nms_N, L12k0, aB_nms, qaR, qaT, qaw, h0, hk, h1]) rfl ⟨_, rfl, ?_, ?_, ?_, ?_⟩
    · exact qaP (1, 0) rfl (by simp (disch := first | omega | decide | simp only [qaf, qad, qag, qae, qah, qac, qaa, qab, qai]) only [qaq, Prod.mk.injEq, Nat.reduceEqDiff, and_true, if_false, h0]) (by rw [qaV]; rfl)
    · exact qaP (1, 1) rfl (by simp (disch := first | omega | decide | simp only [qaf, qad, qag, qae, qah, qac, qaa, qab, qai]) only [qaq, Prod.mk.injEq, Nat.reduceEqDiff, and_self, if_false, Nat.one_ne_zero, hk]) (qaE _ _)
    · exact qaP (1, 2) rfl (by simp (disch := first | omega | decide | simp only [qaf, qad, qag, qae, qah, qac, qaa, qab, qai]) only [qaq, Prod.mk.injEq, Nat.reduceEqDiff, and_self, if_false, h1]) (qaE _ _)
    · refine (qaP (6, 0) rfl (by simp (disch := first | omega | decide | simp only [qaf, qad, qag, qae, qah, qac, qaa, qab, qai]) only [qaq, if_true]) (qbB 16 (fun _ => 0#8) _)).trans (congrArg some ?_)
      exact aB_ext _ fun j _ => by rw [blkA, if_neg (by omega)]
  · rintro st ⟨H, rfl, h0, hk, h1, h2⟩
    apply qb7
    simp (disch := first | omega | decide | simp only [qaf, qad, qag, qae, qah, qac, qaa, qab, qai]) only [qbx, qav, qap, qao, qam, qal, qar, qaC, qas, qaJ, qaj, qaU, qaL, qaF, List.set_cons_zero, List.set_cons_succ, List.getD_cons_zero, List.getD_cons_succ, List.length_cons, List.length_nil, Nat.reduceAdd, Nat.zero_add, Nat.add_zero, decide_false, Nat.add_zero, Nat.zero_add, qbp, Nat.reduceAdd, Nat.lt_irrefl, decide_false, qaz, qau, qan, L12b0]
    rfl
  · rintro st ⟨H, rfl, h0, hk, h1, h2⟩ rfl
    have hb : aB 16 (blkA L i 4) = aB 16 (kf L i) := aB_ext _ fun j hj => by rw [blkA, if_pos (by omega)]
    rw [hb] at h2
    have hap : ∀ (b : Nat), appN b 16 1 0 i (1, 1) (aB 16 (kf L i)) (some (bs (L.take (16 * i)))) = some ⟨.sl (b, 0) 0 (i + 1) none 16, [bs (L.take (16 * (i + 1)))], [((1, 1), none)]⟩ := by
      intro b
      rw [appN, qad, if_pos (by rw [List.length_take]; omega), List.drop_zero, aB_bs, bs_take, bs_append, List.take_of_length_le (by rw [List.length_take]; omega), take16 L i (by omega)]
    simp (disch := first | omega | decide | simp only [qaf, qad, qag, qae, qah, qac, qaa, qab, qai]) only [qbx, qav, qap, qao, qam, qal, qar, qbo, qaC, qaH, qas, qaK, qaJ, qaj, qaU, qbc, qbL, qaL, qaF, List.set_cons_zero, List.set_cons_succ, List.getD_cons_zero, List.getD_cons_succ, List.map_cons, List.map_nil, List.nil_append, List.cons_append, List.length_cons, List.length_nil, Nat.reduceAdd, Nat.reduceSub, qaq, qa9, qaQ, qbs, qbU, op_ld1, op_ld, op_st, qbt, op_fa, faV_ptr, fill_nil, fill_cons, fillK_some, qbw, List.take_zero, List.all_cons, List.all_nil, Bool.and_true, Prod.mk.injEq, Nat.reduceEqDiff, Nat.reduceLT, and_true, and_false, and_self, if_true, if_false, Nat.zero_add, Nat.add_zero, Nat.le_refl, decide_true, decide_false, Nat.one_ne_zero, Nat.zero_ne_one, aB_length, aB_cells, Nat.add_zero, Nat.zero_add, N_add, qbp, Nat.reduceLT, Nat.reduceEqDiff, Nat.reduceAdd, Nat.lt_irrefl, decide_false, decide_true, nm_beq, Bool.not_false, Bool.not_true, op_chk, qb3, lenOf_sl, cellsOf_sl, op_append, appK_some, appF_some, appX_none, op_mkrow, rowK_some, qaz, qaS, qau, qa2, qa7, qbr, qbV, touch_ld1, touch_ld, touch_st, qaI, List.contains_cons, List.contains_nil, beq_self_eq_true, Bool.or_true, Bool.or_false, ordOk, qaZ, List.all_cons, List.all_nil, Nat.testBit, Nat.reduceShiftRight, Nat.reduceAnd, Nat.reduceBEq, Bool.not_true, Bool.not_false, Bool.and_self, Bool.and_true, Bool.and_false, Nat.reduceSub, Nat.reduceLT, bne, qbh, qbN, trimO_f, qbA, qb8, isCall_ld, isCall_st, isCall_append, Bool.and_false, Bool.and_true, front_sl, qaM, qan, touch_append, qan, qaM, L12b0, h0, hk, h2, qaT, CF_k, CF_st0, fill16, frontK_16, hap]
    refine ⟨_, rfl, ?_⟩
    refine qbm [(1, 0), (10, 0), (1, 2)] rfl (by simp only [qay, FUEL, qaD, qaB, qax, qaI, qaT, qa6, List.flatMap_cons, List.flatMap_nil, List.nil_append, List.cons_append, List.append_nil, List.range_zero, List.map_nil, List.contains_nil, List.contains_cons, Prod.mk.injEq, beq_iff_eq, Bool.or_eq_true, Bool.false_eq_true, Nat.reduceEqDiff, and_true, and_false, or_false, if_true, if_false, Nat.one_ne_zero, Nat.zero_ne_one, List.filter_cons, List.filter_nil, bne_iff_ne, ne_eq, not_false_eq_true, qaq, qbb, qa5, qaW, nms_N, L12k1, qaR, qaT, qaw, h0, h1]) rfl ⟨_, .inr ⟨by omega, rfl, ?_, ?_, ?_⟩⟩
    · refine (cN_one _ _ 0 (1, 0) _ rfl (by simp (disch := first | omega | decide | simp only [qaf, qad, qag, qae, qah, qac, qaa, qab, qai]) only [qaq, Prod.mk.injEq, Nat.reduceEqDiff, and_true, and_false, if_true, if_false, Nat.zero_ne_one, h0]; rfl)).trans ?_
      rw [qaV]; rfl
    · refine (cN_one _ _ 1 (10, 0) _ rfl (by simp (disch := first | omega | decide | simp only [qaf, qad, qag, qae, qah, qac, qaa, qab, qai]) only [qaq, Prod.mk.injEq, Nat.reduceEqDiff, and_true, and_self, if_true, if_false, Nat.zero_ne_one]; rfl)).trans ?_
      rw [qaE]
    · exact qaP (1, 2) rfl (by simp (disch := first | omega | decide | simp only [qaf, qad, qag, qae, qah, qac, qaa, qab, qai]) only [qaq, Prod.mk.injEq, Nat.reduceEqDiff, and_false, and_self, if_false, h1]) (qaE _ _)

theorem k1_round (k n c i : Nat) (hn : n ≤ 8) (hi : i < n + 7) (L : List (BitVec 8)) (hL : L.length = 16 * (n + 7)) (hc : 4 * (n + 7) ≤ c) (hc2 : c < 1048576) (st : St) (hJ : w1J n c L i st) :
    ∃ st1, ev (envC C (k + 5)) (k + 5) L12b1 st = some (.normal, st1) ∧ w1J n c L (i + 1) (canon L12k1 st1) := by
  by_cases h0 : 0 < i
  · exact k1_roundS k n c i hn h0 hi L hL hc hc2 st hJ
  · obtain rfl : i = 0 := by omega
    exact k1_roundZ k n c hn L hL hc hc2 st hJ
end Aes

namespace Aes
open Go Go.LE
set_option maxRecDepth 20000

theorem nms7_ptr (m : Nm) (o : Nat) : nms 7 (.ptr m o) = [m] := rfl
theorem c_tables (k b : Nat) (H : Heap) (fN : Nm) (h : H fN = some (CF Nil fun _ => 0#8)) : qbl (envC C (k + 301)) H b 28 [.ptr fN 0] = some ⟨.tup [], [], [(fN, some (CF Nil TB))]⟩ :=
  call0 _ b 28 l28 H fN _ _ h [] Pl.e _ (fun _ => rfl) (tables_F k)

theorem new_4 (k : Nat) (key : List (BitVec 8)) (hk : key.length = 16) : F C (k + 400) 12 [.isl (bs key) key.length] [] = some (.tup [.ptr (1, 0) 0, N 0], [], [CF (.sl (1, 1) 0 (4 + 7) none 16) TB, bs (W 4 key)]) := by
  rw [qbK f12]
  simp (disch := first | omega | decide | simp only [qaf, qad, qag, qae, qah, qac, qaa, qab, qai]) only [qba, qbv, qav, qap, qao, qam, qal, qbf, qaO, guardK_false, qar, qaC, qaH, qas, qb0, qaK, op_pick, qaJ, qa3, qaY, qaj, qaL, qaF, List.set_cons_zero, List.set_cons_succ, List.getD_cons_zero, List.getD_cons_succ, List.map_cons, List.map_nil, List.nil_append, List.cons_append, qa4, List.replicate_zero, List.length_cons, List.length_nil, Nat.reduceAdd, Nat.reduceSub, stepK_new, qa9, op_box, qb2, fill_nil, aggR_some, op_build, Nat.zero_add, Nat.add_zero, decide_true, aB_rep, Nat.add_zero, Nat.zero_add, N_neq, decide_not, Nat.reduceAdd, decide_true, Bool.not_true, op_len, qbC, lenS_isl, Bool.not_true, Nat.reduceSub, L12, hk]
  rw [c_tables (k + 98) _ _ (13, 0) rfl]
  simp (disch := first | omega | decide | simp only [qaf, qad, qag, qae, qah, qac, qaa, qab, qai]) only [qav, qbg, qap, qao, qam, qal, qar, qaC, qaH, qas, qaK, qaJ, qaj, List.set_cons_zero, List.set_cons_succ, List.getD_cons_zero, List.getD_cons_succ, List.length_cons, List.length_nil, ev_loop, Nat.reduceAdd, Nat.zero_add, Nat.add_zero, Nat.add_zero, Nat.zero_add, N_add, N_nat, Nat.reduceMul, Nat.reduceAdd, op_len, qbC, lenS_isl, op_mkslice, qaz, qaS, qau, qa2, qan, qan, mk4]
  generalize hL : loopN L12k3 _ _ _ = r
  refine loop_use hL (w3J 4 44 key) 4 (by omega) (fun i st hi hJ => k3_round _ 4 44 (by decide) (by decide) key hk i hi st hJ) ?_ ?_ ?_
  · refine qbm [(13, 0), (20, 0)] rfl (by simp only [qay, FUEL, qaD, qaB, qax, qaI, qaT, nms_Un, qa6, List.flatMap_cons, List.flatMap_nil, List.nil_append, List.cons_append, List.append_nil, List.range_zero, List.map_nil, List.contains_nil, List.contains_cons, Prod.mk.injEq, beq_iff_eq, Bool.or_eq_true, Bool.false_eq_true, Nat.reduceEqDiff, and_true, or_false, if_true, if_false, List.filter_cons, List.filter_nil, bne_iff_ne, ne_eq, not_false_eq_true, qaq, qbb, qa5, qaW, qa0, nms_N, qbE, L12k3, qaR, qbE, qaw, ibs_nms]) (by simp only [List.map_nil, List.map_cons, qbb, qa5, qaW, L12k3, List.map_cons, List.map_nil, qbI]; rfl) ⟨_, rfl, ?_, ?_⟩
    · exact qaP (13, 0) rfl (by simp (disch := first | omega | decide | simp only [qaf, qad, qag, qae, qah, qac, qaa, qab, qai]) only [qaq, Prod.mk.injEq, Nat.reduceEqDiff, and_true, if_true, if_false, qa0]) (by rw [qaV, ren_nil])
    · exact qaP (20, 0) rfl (by simp (disch := first | omega | decide | simp only [qaf, qad, qag, qae, qah, qac, qaa, qab, qai]) only [qaq, Prod.mk.injEq, Nat.reduceEqDiff, and_true, if_true, if_false, qa0]; rfl) (qaE _ _)
  · rintro st ⟨H, rfl, h0, h1⟩
    apply qb7
    simp (disch := first | omega | decide | simp only [qaf, qad, qag, qae, qah, qac, qaa, qab, qai]) only [qbx, qav, qap, qao, qam, qal, qaO, qar, qaC, qas, qaK, qaJ, qaj, qaU, qaL, qaF, List.set_cons_zero, List.set_cons_succ, List.getD_cons_zero, List.getD_cons_succ, List.length_cons, List.length_nil, Nat.reduceAdd, Nat.zero_add, Nat.add_zero, decide_false, Nat.add_zero, Nat.zero_add, qbp, Nat.reduceMul, Nat.reduceAdd, Nat.lt_irrefl, decide_false, op_len, qbC, lenS_isl, L12b3]
    rfl
  · rintro st ⟨H, rfl, h0, h1⟩ rfl
    simp (disch := first | omega | decide | simp only [qaf, qad, qag, qae, qah, qac, qaa, qab, qai]) only [qbx, qav, qbg, qap, qao, qam, qal, qar, qaC, qaH, qas, qaK, qaJ, qaj, qaU, qbL, qaL, qaF, List.set_cons_zero, List.set_cons_succ, List.getD_cons_zero, List.getD_cons_succ, List.length_cons, List.length_nil, ev_loop, Nat.reduceAdd, if_true, Nat.zero_add, Nat.add_zero, decide_false, Nat.add_zero, Nat.zero_add, N_add, qbp, Nat.reduceMul, Nat.reduceAdd, Nat.lt_irrefl, decide_false, op_len, qbC, lenS_sl, lenS_isl, qaz, qau, qan, L12b3]
    generalize hL : loopN L12k2 _ _ _ = r
    refine loop_use hL (w2J 4 44 key) 40 (by omega) (fun i st hi hJ => k2_round _ 4 44 (.inl rfl) (by decide) (by decide) key hk i hi st hJ) ?_ ?_ ?_
    · refine qbm [(1, 0), (1, 1)] rfl (by simp only [qay, FUEL, qaD, qaB, qax, qaI, qaT, nms_B8, nms_Un, qa6, List.flatMap_cons, List.flatMap_nil, List.nil_append, List.cons_append, List.append_nil, List.range_zero, List.map_nil, List.contains_nil, List.contains_cons, Prod.mk.injEq, beq_iff_eq, Bool.or_eq_true, Bool.false_eq_true, and_false, or_false, if_true, if_false, Nat.one_ne_zero, List.filter_cons, List.filter_nil, bne_iff_ne, ne_eq, not_false_eq_true, qbb, qa5, qaW, nms_N, qbE, L12k2, qaR, qbE, qaw, h0, h1]) rfl ⟨_, Un, Un, Un, Un, ⟨rfl, fun _ => rfl⟩, rfl, ?_, ?_⟩
      · exact qaP (1, 0) rfl (by simp (disch := first | omega | decide | simp only [qaf, qad, qag, qae, qah, qac, qaa, qab, qai]) only [h0]) (by rw [qaV, ren_nil])
      · exact qaP (1, 1) rfl (by simp (disch := first | omega | decide | simp only [qaf, qad, qag, qae, qah, qac, qaa, qab, qai]) only [Nat.add_zero, h1]; rw [KS, List.take_of_length_le (by omega)]) (qaE _ _)
    · rintro st ⟨H, a, b, d, e, hp, rfl, h0, h1⟩
      apply qb7
      simp (disch := first | omega | decide | simp only [qaf, qad, qag, qae, qah, qac, qaa, qab, qai]) only [qbx, qav, qap, qao, qam, qal, qaO, qar, qaC, qaH, qas, qaK, qaJ, qaj, qaU, qaL, qaF, List.set_cons_zero, List.set_cons_succ, List.getD_cons_zero, List.getD_cons_succ, List.length_cons, List.length_nil, Nat.reduceAdd, Nat.zero_add, Nat.add_zero, decide_false, Nat.add_zero, Nat.zero_add, N_add, N_mul, qbp, Nat.reduceMul, Nat.reduceAdd, Nat.lt_irrefl, decide_false, L12b2]
      rfl
    · rintro st ⟨H, a, b, d, e, hp, rfl, h0, h1⟩ rfl
      simp (disch := first | omega | decide | simp only [qaf, qad, qag, qae, qah, qac, qaa, qab, qai]) only [qbx, qav, qbg, qap, qao, qam, qal, qar, qaC, qaH, qas, qaK, qaJ, qaj, qaU, qbL, qaL, qaF, List.set_cons_zero, List.set_cons_succ, List.getD_cons_zero, List.getD_cons_succ, List.length_cons, List.length_nil, ev_loop, Nat.reduceAdd, if_true, Nat.zero_add, Nat.add_zero, decide_false, Nat.add_zero, Nat.zero_add, N_add, N_mul, qbp, Nat.reduceMul, Nat.reduceAdd, Nat.lt_irrefl, decide_false, qaz, qau, qan, L12b2]
      clear hL
      generalize hL : loopN L12k1 _ _ _ = r
      have hlen : (KS 4 key 40).1.length = 16 * (4 + 7) := KS_length 4 key hk 40
      refine loop_use hL (w1J 4 44 (KS 4 key 40).1) 11 (by omega) (fun i st hi hJ => k1_round (k + 394) 4 44 i (by decide) hi _ hlen (by decide) (by decide) st hJ) ?_ ?_ ?_
      · refine qbm [(1, 0), (1, 1)] rfl (by simp only [qay, FUEL, qaD, qaB, qax, qaI, qaT, qa6, List.flatMap_cons, List.flatMap_nil, List.nil_append, List.cons_append, List.append_nil, List.range_zero, List.map_nil, List.contains_nil, List.contains_cons, Prod.mk.injEq, beq_iff_eq, Bool.or_eq_true, Bool.false_eq_true, and_false, or_false, if_true, if_false, Nat.one_ne_zero, List.filter_cons, List.filter_nil, bne_iff_ne, ne_eq, not_false_eq_true, Nat.reduceAdd, qbb, qa5, qaW, nms_N, qbE, L12k1, qaR, qbE, qaw, h0, h1]) rfl ⟨_, .inl ⟨rfl, rfl, ?_, ?_⟩⟩
        · exact qaP (1, 0) rfl (by simp (disch := first | omega | decide | simp only [qaf, qad, qag, qae, qah, qac, qaa, qab, qai]) only [h0]) (by rw [qaV, ren_nil])
        · exact qaP (1, 1) rfl (by simp (disch := first | omega | decide | simp only [qaf, qad, qag, qae, qah, qac, qaa, qab, qai]) only [Nat.reduceAdd, h1]) (qaE _ _)
      · intro st hJ
        obtain ⟨H, rfl, h0, hk, h1⟩ := hJ.of_s (by decide)
        apply qb7
        simp (disch := first | omega | decide | simp only [qaf, qad, qag, qae, qah, qac, qaa, qab, qai]) only [qbx, qav, qap, qao, qam, qal, qaO, qar, qaC, qas, qaJ, qaj, qaU, qaL, qaF, List.set_cons_zero, List.set_cons_succ, List.getD_cons_zero, List.getD_cons_succ, List.length_cons, List.length_nil, Nat.reduceAdd, Nat.zero_add, Nat.add_zero, decide_false, aB_rep, Nat.add_zero, Nat.zero_add, qbp, Nat.reduceMul, Nat.reduceAdd, Nat.lt_irrefl, decide_false, L12b1]
        rfl
      · intro st hJ hr
        obtain ⟨H, rfl, h0, hk, h1⟩ := hJ.of_s (by decide)
        subst hr
        simp (disch := first | omega | decide | simp only [qaf, qad, qag, qae, qah, qac, qaa, qab, qai]) only [qbD, qbx, qav, qap, qao, qam, qal, qar, qaC, qaH, qas, qaK, qaJ, qaj, qaU, qbL, qaL, qaF, qbi, List.set_cons_zero, List.set_cons_succ, List.getD_cons_zero, List.getD_cons_succ, List.length_cons, List.length_nil, Option.map_some, Nat.reduceAdd, if_true, Nat.zero_add, Nat.add_zero, decide_false, resVal_tt, aB_rep, Nat.add_zero, Nat.zero_add, qbp, Nat.reduceMul, Nat.reduceAdd, Nat.lt_irrefl, decide_false, qaz, qau, Option.map_some, qan, L12b1]
        rw [List.take_of_length_le (by rw [hlen]; decide)] at hk
        rw [outOf_mem 0 _ _ [(1, 0), (1, 1)] (by simp only [qay, FUEL, qaD, qaB, qax, qaT, List.flatMap_cons, List.flatMap_nil, List.nil_append, List.cons_append, List.append_nil, List.range_zero, List.map_nil, List.contains_nil, List.contains_cons, Prod.mk.injEq, beq_iff_eq, Bool.or_eq_true, Bool.false_eq_true, and_false, or_false, if_true, if_false, Nat.one_ne_zero, List.filter_cons, List.filter_nil, bne_iff_ne, ne_eq, not_false_eq_true, qaR, qaw, nms_tup, nms7_ptr, nms7_N, h0, hk])]
        simp (disch := first | omega | decide | simp only [qaf, qad, qag, qae, qah, qac, qaa, qab, qai]) only [List.map_cons, List.map_nil, Option.map_some, Nat.reduceAdd, Prod.mk.injEq, and_false, if_true, if_false, Nat.zero_add, Nat.zero_ne_one, idx_cons, canonMap_ne, List.filterMap_nil, Option.map_some, qaE, List.filterMap_cons, List.range_zero, qaX, qbe, qaV, qaE, h0, hk, ren_tup]
        rfl
theorem new_8 (k : Nat) (key : List (BitVec 8)) (hk : key.length = 32) : F C (k + 400) 12 [.isl (bs key) key.length] [] = some (.tup [.ptr (1, 0) 0, N 0], [], [CF (.sl (1, 1) 0 (8 + 7) none 16) TB, bs (W 8 key)]) := by
  rw [qbK f12]
  simp (disch := first | omega | decide | simp only [qaf, qad, qag, qae, qah, qac, qaa, qab, qai]) only [qba, qbv, qav, qap, qao, qam, qal, qbf, qaO, guardK_true, qar, qaC, qaH, qas, pickV_true, qaK, op_pick, qaJ, qa3, qaY, qaj, qaL, qaF, List.set_cons_zero, List.set_cons_succ, List.getD_cons_zero, List.getD_cons_succ, List.map_cons, List.map_nil, List.nil_append, List.cons_append, qa4, List.replicate_zero, List.length_cons, List.length_nil, Nat.reduceAdd, Nat.reduceSub, stepK_new, qa9, op_box, qb2, fill_nil, aggR_some, op_build, Nat.reduceEqDiff, Nat.zero_add, Nat.add_zero, decide_true, decide_false, aB_rep, Nat.add_zero, Nat.zero_add, N_neq, decide_not, Nat.reduceEqDiff, Nat.reduceAdd, decide_false, decide_true, Bool.not_false, Bool.not_true, op_len, qbC, lenS_isl, Bool.not_true, Bool.not_false, Nat.reduceSub, L12, hk]
  rw [c_tables (k + 98) _ _ (13, 0) rfl]
  simp (disch := first | omega | decide | simp only [qaf, qad, qag, qae, qah, qac, qaa, qab, qai]) only [qav, qbg, qap, qao, qam, qal, qar, qaC, qaH, qas, qaK, qaJ, qaj, List.set_cons_zero, List.set_cons_succ, List.getD_cons_zero, List.getD_cons_succ, List.length_cons, List.length_nil, ev_loop, Nat.reduceAdd, Nat.zero_add, Nat.add_zero, Nat.add_zero, Nat.zero_add, N_add, N_nat, Nat.reduceMul, Nat.reduceAdd, op_len, qbC, lenS_isl, op_mkslice, qaz, qaS, qau, qa2, qan, qan, mk4]
  generalize hL : loopN L12k3 _ _ _ = r
  refine loop_use hL (w3J 8 60 key) 8 (by omega) (fun i st hi hJ => k3_round _ 8 60 (by decide) (by decide) key hk i hi st hJ) ?_ ?_ ?_
  · refine qbm [(13, 0), (20, 0)] rfl (by simp only [qay, FUEL, qaD, qaB, qax, qaI, qaT, nms_Un, qa6, List.flatMap_cons, List.flatMap_nil, List.nil_append, List.cons_append, List.append_nil, List.range_zero, List.map_nil, List.contains_nil, List.contains_cons, Prod.mk.injEq, beq_iff_eq, Bool.or_eq_true, Bool.false_eq_true, Nat.reduceEqDiff, and_true, or_false, if_true, if_false, List.filter_cons, List.filter_nil, bne_iff_ne, ne_eq, not_false_eq_true, qaq, qbb, qa5, qaW, qa0, nms_N, qbE, L12k3, qaR, qbE, qaw, ibs_nms]) (by simp only [List.map_nil, List.map_cons, qbb, qa5, qaW, L12k3, List.map_cons, List.map_nil, qbI]; rfl) ⟨_, rfl, ?_, ?_⟩
    · exact qaP (13, 0) rfl (by simp (disch := first | omega | decide | simp only [qaf, qad, qag, qae, qah, qac, qaa, qab, qai]) only [qaq, Prod.mk.injEq, Nat.reduceEqDiff, and_true, if_true, if_false, qa0]) (by rw [qaV, ren_nil])
    · exact qaP (20, 0) rfl (by simp (disch := first | omega | decide | simp only [qaf, qad, qag, qae, qah, qac, qaa, qab, qai]) only [qaq, Prod.mk.injEq, Nat.reduceEqDiff, and_true, if_true, if_false, qa0]; rfl) (qaE _ _)
  · rintro st ⟨H, rfl, h0, h1⟩
    apply qb7
    simp (disch := first | omega | decide | simp only [qaf, qad, qag, qae, qah, qac, qaa, qab, qai]) only [qbx, qav, qap, qao, qam, qal, qaO, qar, qaC, qas, qaK, qaJ, qaj, qaU, qaL, qaF, List.set_cons_zero, List.set_cons_succ, List.getD_cons_zero, List.getD_cons_succ, List.length_cons, List.length_nil, Nat.reduceAdd, Nat.zero_add, Nat.add_zero, decide_false, Nat.add_zero, Nat.zero_add, qbp, Nat.reduceMul, Nat.reduceAdd, Nat.lt_irrefl, decide_false, op_len, qbC, lenS_isl, L12b3]
    rfl
  · rintro st ⟨H, rfl, h0, h1⟩ rfl
    simp (disch := first | omega | decide | simp only [qaf, qad, qag, qae, qah, qac, qaa, qab, qai]) only [qbx, qav, qbg, qap, qao, qam, qal, qar, qaC, qaH, qas, qaK, qaJ, qaj, qaU, qbL, qaL, qaF, List.set_cons_zero, List.set_cons_succ, List.getD_cons_zero, List.getD_cons_succ, List.length_cons, List.length_nil, ev_loop, Nat.reduceAdd, if_true, Nat.zero_add, Nat.add_zero, decide_false, Nat.add_zero, Nat.zero_add, N_add, qbp, Nat.reduceMul, Nat.reduceAdd, Nat.lt_irrefl, decide_false, op_len, qbC, lenS_sl, lenS_isl, qaz, qau, qan, L12b3]
    generalize hL : loopN L12k2 _ _ _ = r
    refine loop_use hL (w2J 8 60 key) 52 (by omega) (fun i st hi hJ => k2_round _ 8 60 (.inr rfl) (by decide) (by decide) key hk i hi st hJ) ?_ ?_ ?_
    · refine qbm [(1, 0), (1, 1)] rfl (by simp only [qay, FUEL, qaD, qaB, qax, qaI, qaT, nms_B8, nms_Un, qa6, List.flatMap_cons, List.flatMap_nil, List.nil_append, List.cons_append, List.append_nil, List.range_zero, List.map_nil, List.contains_nil, List.contains_cons, Prod.mk.injEq, beq_iff_eq, Bool.or_eq_true, Bool.false_eq_true, and_false, or_false, if_true, if_false, Nat.one_ne_zero, List.filter_cons, List.filter_nil, bne_iff_ne, ne_eq, not_false_eq_true, qbb, qa5, qaW, nms_N, qbE, L12k2, qaR, qbE, qaw, h0, h1]) rfl ⟨_, Un, Un, Un, Un, ⟨rfl, fun _ => rfl⟩, rfl, ?_, ?_⟩
      · exact qaP (1, 0) rfl (by simp (disch := first | omega | decide | simp only [qaf, qad, qag, qae, qah, qac, qaa, qab, qai]) only [h0]) (by rw [qaV, ren_nil])
      · exact qaP (1, 1) rfl (by simp (disch := first | omega | decide | simp only [qaf, qad, qag, qae, qah, qac, qaa, qab, qai]) only [Nat.add_zero, h1]; rw [KS, List.take_of_length_le (by omega)]) (qaE _ _)
    · rintro st ⟨H, a, b, d, e, hp, rfl, h0, h1⟩
      apply qb7
      simp (disch := first | omega | decide | simp only [qaf, qad, qag, qae, qah, qac, qaa, qab, qai]) only [qbx, qav, qap, qao, qam, qal, qaO, qar, qaC, qaH, qas, qaK, qaJ, qaj, qaU, qaL, qaF, List.set_cons_zero, List.set_cons_succ, List.getD_cons_zero, List.getD_cons_succ, List.length_cons, List.length_nil, Nat.reduceAdd, Nat.zero_add, Nat.add_zero, decide_false, Nat.add_zero, Nat.zero_add, N_add, N_mul, qbp, Nat.reduceMul, Nat.reduceAdd, Nat.lt_irrefl, decide_false, L12b2]
      rfl
    · rintro st ⟨H, a, b, d, e, hp, rfl, h0, h1⟩ rfl
      simp (disch := first | omega | decide | simp only [qaf, qad, qag, qae, qah, qac, qaa, qab, qai]) only [qbx, qav, qbg, qap, qao, qam, qal, qar, qaC, qaH, qas, qaK, qaJ, qaj, qaU, qbL, qaL, qaF, List.set_cons_zero, List.set_cons_succ, List.getD_cons_zero, List.getD_cons_succ, List.length_cons, List.length_nil, ev_loop, Nat.reduceAdd, if_true, Nat.zero_add, Nat.add_zero, decide_false, Nat.add_zero, Nat.zero_add, N_add, N_mul, qbp, Nat.reduceMul, Nat.reduceAdd, Nat.lt_irrefl, decide_false, qaz, qau, qan, L12b2]
      clear hL
      generalize hL : loopN L12k1 _ _ _ = r
      have hlen : (KS 8 key 52).1.length = 16 * (8 + 7) := KS_length 8 key hk 52
      refine loop_use hL (w1J 8 60 (KS 8 key 52).1) 15 (by omega) (fun i st hi hJ => k1_round (k + 394) 8 60 i (by decide) hi _ hlen (by decide) (by decide) st hJ) ?_ ?_ ?_
      · refine qbm [(1, 0), (1, 1)] rfl (by simp only [qay, FUEL, qaD, qaB, qax, qaI, qaT, qa6, List.flatMap_cons, List.flatMap_nil, List.nil_append, List.cons_append, List.append_nil, List.range_zero, List.map_nil, List.contains_nil, List.contains_cons, Prod.mk.injEq, beq_iff_eq, Bool.or_eq_true, Bool.false_eq_true, and_false, or_false, if_true, if_false, Nat.one_ne_zero, List.filter_cons, List.filter_nil, bne_iff_ne, ne_eq, not_false_eq_true, Nat.reduceAdd, qbb, qa5, qaW, nms_N, qbE, L12k1, qaR, qbE, qaw, h0, h1]) rfl ⟨_, .inl ⟨rfl, rfl, ?_, ?_⟩⟩
        · exact qaP (1, 0) rfl (by simp (disch := first | omega | decide | simp only [qaf, qad, qag, qae, qah, qac, qaa, qab, qai]) only [h0]) (by rw [qaV, ren_nil])
        · exact qaP (1, 1) rfl (by simp (disch := first | omega | decide | simp only [qaf, qad, qag, qae, qah, qac, qaa, qab, qai]) only [Nat.reduceAdd, h1]) (qaE _ _)
      · intro st hJ
        obtain ⟨H, rfl, h0, hk, h1⟩ := hJ.of_s (by decide)
        apply qb7
        simp (disch := first | omega | decide | simp only [qaf, qad, qag, qae, qah, qac, qaa, qab, qai]) only [qbx, qav, qap, qao, qam, qal, qaO, qar, qaC, qas, qaJ, qaj, qaU, qaL, qaF, List.set_cons_zero, List.set_cons_succ, List.getD_cons_zero, List.getD_cons_succ, List.length_cons, List.length_nil, Nat.reduceAdd, Nat.zero_add, Nat.add_zero, decide_false, aB_rep, Nat.add_zero, Nat.zero_add, qbp, Nat.reduceMul, Nat.reduceAdd, Nat.lt_irrefl, decide_false, L12b1]
        rfl
      · intro st hJ hr
        obtain ⟨H, rfl, h0, hk, h1⟩ := hJ.of_s (by decide)
        subst hr
        simp (disch := first | omega | decide | simp only [qaf, qad, qag, qae, qah, qac, qaa, qab, qai]) only [qbD, qbx, qav, qap, qao, qam, qal, qar, qaC, qaH, qas, qaK, qaJ, qaj, qaU, qbL, qaL, qaF, qbi, List.set_cons_zero, List.set_cons_succ, List.getD_cons_zero, List.getD_cons_succ, List.length_cons, List.length_nil, Option.map_some, Nat.reduceAdd, if_true, Nat.zero_add, Nat.add_zero, decide_false, resVal_tt, aB_rep, Nat.add_zero, Nat.zero_add, qbp, Nat.reduceMul, Nat.reduceAdd, Nat.lt_irrefl, decide_false, qaz, qau, Option.map_some, qan, L12b1]
        rw [List.take_of_length_le (by rw [hlen]; decide)] at hk
        rw [outOf_mem 0 _ _ [(1, 0), (1, 1)] (by simp only [qay, FUEL, qaD, qaB, qax, qaT, List.flatMap_cons, List.flatMap_nil, List.nil_append, List.cons_append, List.append_nil, List.range_zero, List.map_nil, List.contains_nil, List.contains_cons, Prod.mk.injEq, beq_iff_eq, Bool.or_eq_true, Bool.false_eq_true, and_false, or_false, if_true, if_false, Nat.one_ne_zero, List.filter_cons, List.filter_nil, bne_iff_ne, ne_eq, not_false_eq_true, qaR, qaw, nms_tup, nms7_ptr, nms7_N, h0, hk])]
        simp (disch := first | omega | decide | simp only [qaf, qad, qag, qae, qah, qac, qaa, qab, qai]) only [List.map_cons, List.map_nil, Option.map_some, Nat.reduceAdd, Prod.mk.injEq, and_false, if_true, if_false, Nat.zero_add, Nat.zero_ne_one, idx_cons, canonMap_ne, List.filterMap_nil, Option.map_some, qaE, List.filterMap_cons, List.range_zero, qaX, qbe, qaV, qaE, h0, hk, ren_tup]
        rfl

theorem new_F (k n : Nat) (hn : n = 4 ∨ n = 8) (key : List (BitVec 8)) (hk : key.length = 4 * n) : F C (k + 400) 12 [.isl (bs key) key.length] [] = some (.tup [.ptr (1, 0) 0, N 0], [], [CF (.sl (1, 1) 0 (n + 7) none 16) TB, bs (W n key)]) := by
  rcases hn with rfl | rfl
  · exact new_4 k key hk
  · exact new_8 k key hk
end Aes
