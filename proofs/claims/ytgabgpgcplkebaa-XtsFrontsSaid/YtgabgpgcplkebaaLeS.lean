/- xts: a unit's way, evaluated: calls, the loop. -/
/- xts: a unit's way, evaluated: the loop over whole blocks. -/
/- xts: a unit's way, evaluated. -/
/- xts: a unit that ends in a broken block. -/
/- xts: a unit that ends in a broken block, back. -/
/- xts: run, called on a pair in the caller's memory. -/
/- xts: the closures, evaluated. -/
import Derived.Test.YtgabgpgcplkebaaLeR
set_option linter.unusedVariables false
set_option linter.unusedSimpArgs false

namespace Aes
open Go Go.LE Xf
set_option maxRecDepth 20000

theorem c_xclone (k b : Nat) (H : Heap) (B : LV) (d : List (BitVec 8)) (lent : List Nm) (hs : snap H D B = some (.isl (bs d) d.length, lent)) (h0 : d.length ≠ 0) (hb : d.length ≤ 211106232532992) :
    qbl (envC C (k + 5)) H b 50 [B] = some ⟨.sl (b, 0) 0 d.length none 1, [bs d], []⟩ := by
  have hlend : lend H ((envC C (k + 5)).borrow 50) 0 [B] = some ([.isl (bs d) d.length], lent) := by
    rw [lend_cons, lend_nil, envC_borrow, C_bor, if_pos (show lentF 50 0 = true by decide), hs, lendC_some, List.append_nil]
  have hn : ([.isl (bs d) d.length] : List LV).flatMap (nms D) = [] := by
    simp only [List.flatMap_cons, List.flatMap_nil, ibs_nms, List.append_nil]
  have ha : ([.isl (bs d) d.length] : List LV).map (ren D (qa1 [])) = [.isl (bs d) d.length] := by
    simp only [List.map_cons, List.map_nil, qbI]
  have hp : plainRes (.sl (1, 0) 0 d.length none 1, [], [bs d]) = true := by
    simp only [plainRes, List.all_nil, List.all_cons, noImm_bs]; rfl
  have hl : lent.any (fun n => ([] : List Nm).contains n) = false := by simp
  rw [callOp_L, hlend, callL_some, hn, show qbd H FUEL [] [] = [] from rfl, callN_eq _ _ _ _ _ hl, ha, List.filterMap_nil, List.map_nil, envC_cal, xclone_F k d h0 hb, resK_any _ _ _ _ hp, backTo_eq]
  simp only [List.map_cons, List.map_nil, qaE, qaX, List.length_cons, List.length_nil, toCaller_1, Nat.zero_add, Nat.lt_one_iff, qbe, List.zipWith_nil_left]

/-- the caller's pair, as an argument -/
structure PH (H : Heap) (n : Nat) (la lb : List (BitVec 8)) : Prop where
  g0 : H (0, 0) = some PO
  g1 : H (0, 1) = some (KA 2 n)
  g2 : H (0, 2) = some (bs la)
  g3 : H (0, 3) = some (KA 4 n)
  g4 : H (0, 4) = some (bs lb)
theorem PH.reach {H : Heap} {n : Nat} {la lb : List (BitVec 8)} (h : PH H n la lb) : qbd H FUEL [] [(0, 0)] = [(0, 0), (0, 1), (0, 2), (0, 3), (0, 4)] := by
  simp only [FUEL, qaD, qaB, qax, List.nil_append, List.cons_append, List.append_nil, List.contains_nil, List.contains_cons, Prod.mk.injEq, beq_iff_eq, Bool.or_eq_true, Bool.false_eq_true, Nat.reduceEqDiff, and_false, or_false, if_false, Nat.one_ne_zero, PO_nms, KA_nms, qaw, h.g0, h.g1, h.g2, h.g3, h.g4]
def five : List Nm := [(0, 0), (0, 1), (0, 2), (0, 3), (0, 4)]
theorem five_cee (j : Nat) (h : j < 5) : qa1 five (0, j) = some (0, j) := by
  have : j = 0 ∨ j = 1 ∨ j = 2 ∨ j = 3 ∨ j = 4 := by omega
  rcases this with rfl | rfl | rfl | rfl | rfl <;> rfl
theorem five_cer (b : Nat) (j : Nat) (h : j < 5) : toCaller five b 0 (0, j) = some (0, j) := by
  have : j = 0 ∨ j = 1 ∨ j = 2 ∨ j = 3 ∨ j = 4 := by omega
  rcases this with rfl | rfl | rfl | rfl | rfl <;> rfl
def mod5 (n : Nat) (la lb : List (BitVec 8)) : List (Nm × Option qat) := [((0, 0), some PO), ((0, 1), some (KA 2 n)), ((0, 2), some (bs la)), ((0, 3), some (KA 4 n)), ((0, 4), some (bs lb))]
theorem c_first (k n b : Nat) (hn : n ≤ 20) (la lb : List (BitVec 8)) (hlb : lb.length = 16 * (n + 2)) (u : BitVec 64) (H : Heap) (h : PH H n la lb) :
    qbl (envC C (k + 80)) H b 51 [.ptr (0, 0) 0, B64 u] = some ⟨Hf (lo (tw0 n lb u)) (Xf.hi (tw0 n lb u)), [], mod5 n la lb⟩ := by
  rw [callOp_L, envC_borrow, C_bor, l51, lend_none, callL_some]
  have hnm : ([.ptr (0, 0) 0, B64 u] : List LV).flatMap (nms D) = [(0, 0)] := rfl
  rw [hnm, h.reach, callN_eq _ _ _ _ _ rfl]
  have hfm : ([(0, 0), (0, 1), (0, 2), (0, 3), (0, 4)] : List Nm).filterMap H = [PO, KA 2 n, bs la, KA 4 n, bs lb] := by
    simp [h.g0, h.g1, h.g2, h.g3, h.g4]
  rw [hfm]
  have e0 : PO.map (ren D (qa1 five)) = PO := rfl
  have e1 : (KA 2 n).map (ren D (qa1 five)) = KA 2 n := by rw [KA, qaV, qaX, five_cee 2 (by decide)]; rfl
  have e3 : (KA 4 n).map (ren D (qa1 five)) = KA 4 n := by rw [KA, qaV, qaX, five_cee 4 (by decide)]; rfl
  have ha : ([.ptr (0, 0) 0, B64 u] : List LV).map (ren D (qa1 five)) = [.ptr (0, 0) 0, B64 u] := rfl
  have f0 : PO.map (ren D (toCaller five b 0)) = PO := rfl
  have f1 : (KA 2 n).map (ren D (toCaller five b 0)) = KA 2 n := by rw [KA, qaV, qaX, five_cer b 2 (by decide)]; rfl
  have f3 : (KA 4 n).map (ren D (toCaller five b 0)) = KA 4 n := by rw [KA, qaV, qaX, five_cer b 4 (by decide)]; rfl
  rw [show ([(0, 0), (0, 1), (0, 2), (0, 3), (0, 4)] : List Nm) = five from rfl, ha]
  rw [List.map_cons, List.map_cons, List.map_cons, List.map_cons, List.map_cons, List.map_nil, e0, e1, e3, qaE, qaE]
  rw [envC_cal, xfirst_F k n hn la lb hlb u, show ([] : List Nm).isEmpty = true from rfl, resK_sc, backTo_eq]
  rw [List.length_nil, show five = [(0, 0), (0, 1), (0, 2), (0, 3), (0, 4)] from rfl]
  simp only [List.zipWith_cons_cons, List.zipWith_nil_left, Option.map_some, ren_Hf, List.map_nil, qaE]
  rw [← show five = [(0, 0), (0, 1), (0, 2), (0, 3), (0, 4)] from rfl, f0, f1, f3]
  rfl
/-- a block under a tweak, of a cipher at c -/
theorem c_with (k b g n : Nat) (l : List (BitVec 8)) (E : R → R) (hE : Way g n l E) (t : BitVec 128) (H : Heap) (c m x : Nm) (h : KG H c m (n + 2) none l) (B : LV) (bb : List (BitVec 8)) (hbl : bb.length = 16)
    (hs : snap H D B = some (.isl (bs bb) 16, [x])) (hx : x ≠ c ∧ x ≠ m) :
    qbl (envC C (k + 80)) H b 52 [.fn (.func g) [.ptr c 0] [], Hf (lo t) (Xf.hi t), B] = some ⟨.sl (b, 0) 0 16 (some 16) 1, [aB 16 (wt E t (fl bb))], [(c, some (CF (.sl m 0 (n + 2) none 16) TB)), (m, some (bs l))]⟩ := by
  have hlend : lend H ((envC C (k + 80)).borrow 52) 0 [.fn (.func g) [.ptr c 0] [], Hf (lo t) (Xf.hi t), B] = some ([.fn (.func g) [.ptr c 0] [], Hf (lo t) (Xf.hi t), .isl (bs bb) 16], [x]) := by
    rw [lend_cons, lend_cons, lend_cons, lend_nil, envC_borrow, C_bor, if_neg (show ¬ lentF 52 0 = true by decide), if_neg (show ¬ lentF 52 (0 + 1) = true by decide), if_pos (show lentF 52 (0 + 1 + 1) = true by decide), hs, lendC_some, lendC_some, lendC_some]
    rfl
  have hn : ([.fn (.func g) [.ptr c 0] [], Hf (lo t) (Xf.hi t), .isl (bs bb) 16] : List LV).flatMap (nms D) = [c] := by
    simp only [List.flatMap_cons, List.flatMap_nil, ibs_nms, List.append_nil, nms_fn1, nms_Hf]
  have hre := reach_KG h
  have hl : ([x] : List Nm).any (fun n => ([c, m] : List Nm).contains n) = false := by simp [hx.1, hx.2]
  have ha : ([.fn (.func g) [.ptr c 0] [], Hf (lo t) (Xf.hi t), .isl (bs bb) 16] : List LV).map (ren D (qa1 [c, m])) = [.fn (.func g) [.ptr (0, 0) 0] [], Hf (lo t) (Xf.hi t), .isl (bs bb) 16] := by
    have e : ren 7 (qa1 [c, m]) (.ptr c 0) = .ptr (0, 0) 0 := by
      show (match (qa1 [c, m] c) with | some n => LV.ptr n 0 | none => _) = _
      rw [toCallee_eq, idx0]; rfl
    simp only [List.map_cons, List.map_nil, ren_fn1, e, ren_Hf, qbI]
  have hp : plainRes (.sl (1, 0) 0 16 (some 16) 1, [some (KO n), some (bs l)], [aB 16 (wt E t (fl bb))]) = true := by
    simp only [plainRes, List.all_nil, List.all_cons, noImm_bs, noImm_aBs, KO, noImm_CF]; rfl
  rw [callOp_L, hlend, callL_some, hn, hre, callN_eq _ _ _ _ _ hl, ha, show ([c, m] : List Nm).filterMap H = [CF (.sl m 0 (n + 2) none 16) TB, bs l] by simp [h.hc, h.hm]]
  rw [List.map_cons, List.map_cons, List.map_nil, qaV, qaX, toCallee_eq, idx1 _ _ _ h.ne, Option.map_some, qbe, qaE, envC_cal]
  rw [show CF (.sl (0, 1) 0 (n + 2) none 16) TB = KO n from rfl, with_F k g n l E hE t bb hbl, resK_any _ _ _ _ hp, backTo_eq]
  simp only [KO, List.map_cons, List.map_nil, List.zipWith_cons_cons, List.zipWith_nil_left, Option.map_some, qaV, qaX, toCaller_0, toCaller_1, qaE, qbB, qbe, List.getElem?_cons_zero, List.getElem?_cons_succ, List.length_cons, List.length_nil, Nat.zero_add, Nat.lt_one_iff]
end Aes

namespace Aes
open Go Go.LE Xf
set_option maxRecDepth 20000

theorem PH.cn {H : Heap} {n : Nat} {la lb : List (BitVec 8)} (h : PH H n la lb) (names : List Nm) : PH (cN names H) n la lb :=
  ⟨by rw [qbF, h.g0, Option.map_some, PO_ren], by rw [qbF, h.g1, Option.map_some, KA_ren], by rw [qbF, h.g2, Option.map_some, qaE], by rw [qbF, h.g3, Option.map_some, KA_ren], by rw [qbF, h.g4, Option.map_some, qaE]⟩
theorem PH.up {H : Heap} {n : Nat} {la lb : List (BitVec 8)} (h : PH H n la lb) (m : Nm) (x : Option qat) (hm : m.1 ≠ 0) : PH (upd H m x) n la lb := by
  have e : ∀ j, upd H m x (0, j) = H (0, j) := fun j => by
    rw [qaq, if_neg (fun h => hm (by rw [← h]))]
  exact ⟨by rw [e]; exact h.g0, by rw [e]; exact h.g1, by rw [e]; exact h.g2, by rw [e]; exact h.g3, by rw [e]; exact h.g4⟩
theorem tr_KGn (H : Heap) (v : LV) (news : List qat) (c m : Nm) (len : Nat) (cap : Option Nat) (l : List (BitVec 8)) (h : KG H c m len cap l) : trimO true H (some ⟨v, news, [(c, some (CF (.sl m 0 len cap 16) TB)), (m, some (bs l))]⟩) = some ⟨v, news, []⟩ := by
  refine trimO_same _ _ _ _ fun q hm => ?_
  simp only [List.mem_cons, List.not_mem_nil, or_false] at hm
  rcases hm with rfl | rfl
  · simp only [h.hc, sameO, same_CF]
  · simp only [h.hm, sameO, same_bs]
/-- sixteen bytes of a row, copied into another -/
theorem cp_16 (H : Heap) (m x : Nm) (o len : Nat) (c c2 : Option Nat) (L : List (BitVec 8)) (w : R) (hm : H m = some (bs L)) (hx : H x = some (aB 16 w)) (hl : o + 16 ≤ L.length) (h16 : 16 ≤ len) :
    cpK 1 H (.sl m o len c 1) (.sl x 0 16 c2 1) (some 16) = some ⟨N 16, [], [(m, some (bs (L.take o ++ (List.range 16).map w ++ L.drop (o + 16))))]⟩ := by
  have hmin : min 16 len = 16 := by omega
  rw [aB_bs] at hx
  have hf : front H 1 (min 16 len) (.sl x 0 16 c2 1) = some (bs ((List.range 16).map w)) := by
    rw [hmin, front_bytes x 0 16 c2 _ hx (by rw [List.length_map, List.length_range]; exact Nat.le_refl _), List.drop_zero, List.take_of_length_le (by rw [List.length_map, List.length_range]; exact Nat.le_refl _)]
  rw [cp_bytes 16 m o len c _ L _ (by omega) hf hm (by omega), hmin, List.length_map, List.length_range]
theorem cp_r (H : Heap) (m x : Nm) (o r : Nat) (c c2 : Option Nat) (L S : List (BitVec 8)) (hm : H m = some (bs L)) (hx : H x = some (bs S)) (hl : o + r = L.length) (hS : r ≤ S.length) (h0 : 0 < r) :
    cpK 1 H (.sl m o r c 1) (.sl x 0 r c2 1) (some r) = some ⟨N r, [], [(m, some (bs (L.take o ++ S.take r)))]⟩ := by
  have hf : front H 1 (min r r) (.sl x 0 r c2 1) = some (bs (S.take r)) := by
    rw [Nat.min_self, front_bytes x 0 r c2 _ hx (by omega), List.drop_zero]
  rw [cp_bytes r m o r c _ L _ (by omega) hf hm (by omega), Nat.min_self, List.length_take, Nat.min_eq_left hS, List.drop_of_length_le (by omega), List.append_nil]
def runJ (g n : Nat) (la lb : List (BitVec 8)) (E : R → R) (t0 : BitVec 128) (d : List (BitVec 8)) (tu : Bool) (w : Nat) (i : Nat) (st : St) : Prop := ∃ (H : Heap),
  st = ⟨[.undef, .undef, .undef, .fn (.func g) [.ptr (0, 1) 0] [], Bo tu, .undef, .undef, .undef, .undef, .undef, .undef, .sl (1, 0) 0 d.length none 1, .ptr (1, 1) 0, N (d.length % 16), N (16 * w), N (16 * i), .undef, .undef, .undef, .undef, .undef, .undef, .undef, .undef, .undef, .undef, .undef, .undef, .undef, .undef, .undef, .undef, .undef, .undef, .undef, .undef, .undef, .undef, .undef, .undef, .undef, .undef, .undef, .undef, .undef, .undef, .undef, .undef, .undef, .undef, .undef, .undef, .undef, .undef, .undef, .undef, .undef, .undef, .undef, .undef, .undef, .undef, .undef, .undef, .undef, .undef, .undef, .undef, .undef, .undef, .undef, .undef, .undef, .undef, .undef, .undef, .undef, .undef, .undef, .undef, .undef, .undef, .undef, .undef, .undef, .undef, .undef, .undef, .undef, .undef, .undef, .undef, .undef, .undef, .undef, .undef, .undef, .undef], H, 2, 5⟩ ∧
  PH H n la lb ∧ H (1, 0) = some (bs (outI E t0 d i)) ∧ H (1, 1) = some [B64 (lo (tws t0 i)), B64 (Xf.hi (tws t0 i))]
theorem run_round (k g n : Nat) (la lb : List (BitVec 8)) (E : R → R) (hE : Way g n la E) (t0 : BitVec 128) (d : List (BitVec 8)) (tu : Bool) (w : Nat) (hd : 16 * w ≤ d.length) (hd2 : d.length ≤ 65536) (i : Nat) (hi : i < w) (st : St)
    (hJ : runJ g n la lb E t0 d tu w i st) : ∃ st1, ev (envC C (k + 80)) (k + 80) L44b0 st = some (.normal, st1) ∧ runJ g n la lb E t0 d tu w (i + 1) (canon L44k0 st1) := by
  obtain ⟨H, rfl, P, h1, h2⟩ := hJ
  have hol := outI_length E t0 d i (by omega)
  have i0 : 16 * i < 16 * w := by omega
  have i1 : 16 * i ≤ d.length := by omega
  have i2 : 16 * i + 16 ≤ d.length := by omega
  have i3 : 16 * i + 16 - 16 * i = 16 := by omega
  have i4 : 16 * i ≤ 16 * i + 16 := by omega
  have hdb : ∀ k, F C (k + 1) 53 [Hf (lo (tws t0 i)) (Xf.hi (tws t0 i))] [] = some (Hf (lo (tws t0 (i + 1))) (Xf.hi (tws t0 (i + 1))), [], []) := fun k => Xf.dbl_F k (tws t0 i)
  have hsn : ∀ H' : Heap, H' (1, 0) = some (bs (outI E t0 d i)) → ∀ c, snap H' D (.sl (1, 0) (16 * i) 16 c 1) = some (.isl (bs (blk d i)) 16, [(1, 0)]) := fun H' h' c => by
    rw [snap_bytes (1, 0) (16 * i) 16 c _ h' (by decide), outI_blk]
  simp (disch := first | omega | decide | simp only [qaf, qad, qag, qae, qah, qac, qaa, qab, qai]) only [qbv, qav, qbg, qap, qao, qam, qal, qar, qaC, qaH, qas, qaK, qaJ, qa3, qaY, qaj, qaL, qbq, List.set_cons_zero, List.set_cons_succ, List.getD_cons_zero, List.getD_cons_succ, List.map_cons, List.map_nil, List.flatMap_cons, List.flatMap_nil, List.nil_append, List.cons_append, List.append_nil, List.length_cons, List.length_nil, Nat.reduceAdd, Nat.reduceSub, qaQ, qbM, qbU, op_ld, agg_Hf, nms_Hf, List.take_succ_cons, List.drop_zero, List.take_nil, List.all_cons, List.all_nil, Bool.and_true, Nat.reduceLT, if_true, Nat.zero_add, Nat.add_zero, Nat.le_refl, decide_true, Nat.mul_one, Nat.add_zero, Nat.zero_add, N_add, qbp, N_nat, Nat.reduceLT, Nat.reduceAdd, decide_true, Bool.not_true, lenS_sl, qb6, qbZ, op_slcS, slcV_none, getD_some, qaz, qau, Nat.mul_one, qa7, qbr, qbV, touch_ld, qbY, nms_fn, qaI, List.contains_cons, List.contains_nil, beq_self_eq_true, Bool.or_false, ordOk, qaZ, List.all_cons, List.all_nil, Nat.testBit, Nat.reduceShiftRight, Nat.reduceAnd, Bool.not_true, Bool.and_self, Bool.and_true, Bool.and_false, Nat.reduceSub, Nat.reduceLT, bne, qbh, qbN, qbA, isCall_ld, qbP, Bool.and_false, Bool.and_true, qaM, qan, qan, qaM, L44b0, h2, i0, i3, nms_fn1, qaT, agg_Hf]
  have hre : qbd H FUEL [] [(0, 1), (1, 0)] = [(0, 1), (0, 2), (1, 0)] := by
    simp only [FUEL, qaD, qaB, qax, List.nil_append, List.cons_append, List.append_nil, List.contains_nil, List.contains_cons, Prod.mk.injEq, beq_iff_eq, Bool.or_eq_true, Bool.false_eq_true, Nat.reduceEqDiff, and_false, or_false, if_false, Nat.one_ne_zero, Nat.zero_ne_one, KA_nms, qaw, P.g1, P.g2, h1]
  have K3 : KG (only [(0, 1), (0, 2), (1, 0)] H) (0, 1) (0, 2) (n + 2) none la := ⟨P.g1, P.g2, by decide⟩
  rw [hre, c_with k _ g n la E hE (tws t0 i) _ (0, 1) (0, 2) (1, 0) K3 _ (blk d i) (blk_length d i (by omega)) (hsn (only [(0, 1), (0, 2), (1, 0)] H) h1 none) ⟨by decide, by decide⟩, tr_KGn _ _ _ _ _ _ _ _ K3]
  simp (disch := first | omega | decide | simp only [qaf, qad, qag, qae, qah, qac, qaa, qab, qai]) only [qar, qaC, List.set_cons_zero, List.set_cons_succ, List.getD_cons_zero, List.getD_cons_succ, List.map_nil, List.nil_append, List.cons_append, Nat.reduceAdd, Nat.reduceSub, List.all_cons, List.all_nil, Bool.and_true, Nat.reduceLT, if_true, Nat.zero_add, decide_true, Nat.zero_add, Nat.reduceLT, Nat.reduceAdd, decide_true, Bool.not_false, Bool.not_true, lenOf_sl, op_copy, qaz, qaS, qau, qa7, qbr, touch_copy, List.contains_cons, List.contains_nil, beq_self_eq_true, Bool.or_true, Bool.or_false, ordOk, qaZ, List.all_cons, List.all_nil, Nat.testBit, Nat.reduceShiftRight, Nat.reduceAnd, Nat.reduceBEq, Bool.not_true, Bool.not_false, Bool.and_self, Bool.and_true, Bool.and_false, Nat.reduceSub, Nat.reduceLT, bne, qbh, qbN, trimO_f, isCall_copy, Bool.and_false, Bool.and_true, qaM, qaM, qaT]
  have i5 : 16 ≤ d.length - 16 * i := by omega
  rw [cp_16 (only [(1, 0), (15, 0)] (upd H (15, 0) _)) (1, 0) (15, 0) (16 * i) (d.length - 16 * i) none (some 16) (outI E t0 d i) (wt E (tws t0 i) (fl (blk d i))) h1 rfl (by omega) i5,
    show (List.range 16).map (wt E (tws t0 i) (fl (blk d i))) = wtl E (tws t0 i) (blk d i) from rfl, outI_succ E t0 d i (by omega)]
  have hd1 := hdb (k + 79)
  simp (disch := first | omega | decide | simp only [nms_B8, nms_B32, nms_B64, nms_I, nms_N, nms_Bo, nms_Un, qa6, nms_Hf, qaI, qaT, qbn, aW_agg_nms, aD_agg_nms, aO_agg_nms, List.flatMap_cons, List.flatMap_nil, List.nil_append, List.append_nil, ren_B8, ren_B32, qbT, ren_I, ren_N, ren_Bo, ren_Un, ren_undef, ren_Hf, qbO, aW_agg_ren, aD_agg_ren, aO_agg_ren, List.map_cons, List.map_nil, ren7_I, ren7_N, ren7_Bo, ren7_B8, ren7_B32, ren7_B64, nms7_I, nms7_N, nms7_Bo, nms7_B8, nms7_B32, nms7_B64, nms_tup, ren_tup, implies_true, l51, l53, qaf, qaw, qaE, ibs_nms, qbI, qad, qag, qae, qah, qac, qaa, qab, qai]) only [qap, qao, qam, qal, qar, qbo, qaC, qaH, qas, qaK, qaJ, qa3, qaY, qaj, qbc, List.set_cons_zero, List.set_cons_succ, List.getD_cons_zero, List.getD_cons_succ, List.map_cons, List.map_nil, List.nil_append, List.append_nil, List.length_cons, List.length_nil, callOp_C, Nat.reduceAdd, Nat.reduceSub, qaq, isCell_B64, qaQ, qbM, qbU, op_ld, op_st, qbt, stK_cons, agg_Hf, cellsOf_Hf, calK_Hf, qbw, List.take_succ_cons, List.take_zero, List.drop_succ_cons, List.drop_zero, List.drop_nil, List.take_nil, List.all_cons, List.all_nil, Bool.and_true, Prod.mk.injEq, Nat.reduceEqDiff, Nat.reduceLT, and_false, and_self, if_true, if_false, Nat.zero_add, Nat.add_zero, Nat.le_refl, decide_true, decide_false, Nat.one_ne_zero, Nat.add_zero, Nat.zero_add, N_add, Nat.reduceLT, Nat.reduceEqDiff, Nat.reduceAdd, decide_false, decide_true, nm_beq, Bool.not_false, Bool.not_true, qaz, qau, qa2, List.contains_cons, List.contains_nil, beq_self_eq_true, Bool.or_true, Bool.or_false, ordOk, qaZ, List.all_cons, List.all_nil, Nat.testBit, Nat.reduceShiftRight, Nat.reduceAnd, Nat.reduceBEq, Bool.not_true, Bool.not_false, Bool.and_self, Bool.and_true, Bool.and_false, Nat.reduceSub, Nat.reduceLT, bne, Bool.and_false, Bool.and_true, qaM, qan, qan, qaM, h2, hd1, agg_Hf]
  refine ⟨_, rfl, ?_⟩
  refine qbm [(1, 0), (1, 1)] rfl (by simp only [qay, FUEL, qaD, qaB, qax, qaI, qaT, nms_B64, nms_Bo, qa6, List.flatMap_cons, List.flatMap_nil, List.nil_append, List.cons_append, List.append_nil, List.map_nil, List.map_cons, List.contains_nil, List.contains_cons, Prod.mk.injEq, beq_iff_eq, Bool.or_eq_true, Bool.false_eq_true, Nat.reduceEqDiff, and_true, and_false, or_false, or_true, if_true, if_false, Nat.one_ne_zero, Nat.zero_ne_one, List.filter_cons, List.filter_nil, bne_iff_ne, ne_eq, not_false_eq_true, not_true_eq_false, qaq, qbb, qa5, qaW, nms_N, L44k0, nms_fn1, range_five, PO_nms, KA_nms, qaw, qaT, P.g0, P.g1, P.g2, P.g3, P.g4, h2]) (by simp only [List.map_nil, List.map_cons, qbb, qa5, qaW, L44k0, List.map_cons, List.map_nil, ren_fn1]; rfl) ⟨_, rfl, ?_, ?_, ?_⟩
  · exact PH.cn (((P.up (15, 0) _ (by decide)).up (1, 0) _ (by decide)).up (1, 1) _ (by decide)) _
  · exact qaP (1, 0) rfl (by simp (disch := first | omega | decide | simp only [qaf, qad, qag, qae, qah, qac, qaa, qab, qai]) only [qaq, Prod.mk.injEq, Nat.reduceEqDiff, and_true, and_false, if_true, if_false, Nat.zero_ne_one]) (qaE _ _)
  · exact qaP (1, 1) rfl (by simp (disch := first | omega | decide | simp only [qaf, qad, qag, qae, qah, qac, qaa, qab, qai]) only [qaq, Prod.mk.injEq, Nat.reduceEqDiff, and_false, and_self, if_true, if_false, Nat.one_ne_zero]) rfl
end Aes

namespace Aes
open Go Go.LE Xf
set_option maxRecDepth 20000

theorem qaA {H : Heap} {m : Nm} {x : Option qat} (h : H m = x) : upd H m x = H := by
  funext q
  rw [qaq]
  by_cases e : q = m
  · rw [if_pos e, e, h]
  · rw [if_neg e]
theorem PH.same {H : Heap} {n : Nat} {la lb : List (BitVec 8)} (h : PH H n la lb) : modN (mod5 n la lb) H = H := by
  simp only [mod5, qa2, qau, qaA h.g4, qaA h.g3, qaA h.g2, qaA h.g1, qaA h.g0]
theorem run_whole (k g n : Nat) (hn : n ≤ 20) (la lb : List (BitVec 8)) (hlb : lb.length = 16 * (n + 2)) (E : R → R) (hE : Way g n la E) (u : BitVec 64) (d : List (BitVec 8)) (h16 : 16 ≤ d.length) (hd2 : d.length ≤ 65536) (tu : Bool) (hr : d.length % 16 = 0) :
    F C (k + 5000) 44 [.ptr (0, 0) 0, B64 u, .isl (bs d) d.length, .fn (.func g) [.ptr (0, 1) 0] [], Bo tu] [PO, KA 2 n, bs la, KA 4 n, bs lb] =
    some (.sl (1, 0) 0 d.length none 1, [some PO, some (KA 2 n), some (bs la), some (KA 4 n), some (bs lb)], [bs (qbj E (tw0 n lb u) d tu)]) := by
  rw [qbK f44]
  have P0 : PH (inHeap [PO, KA 2 n, bs la, KA 4 n, bs lb]) n la lb := ⟨rfl, rfl, rfl, rfl, rfl⟩
  generalize hI : inHeap [PO, KA 2 n, bs la, KA 4 n, bs lb] = H0 at P0
  have hcl : ∀ b H, qbl (envC C (k + 4999)) H b 50 [.isl (bs d) d.length] = some ⟨.sl (b, 0) 0 d.length none 1, [bs d], []⟩ := fun b H => c_xclone (k + 4994) b H _ d [] (snap_isl _ _) (by omega) (by omega)
  simp (disch := first | omega | decide | simp only [qaf, qad, qag, qae, qah, qac, qaa, qab, qai]) only [qba, qav, qap, qao, qam, qal, qar, qaC, qaH, qaK, qa3, qaY, qaj, List.set_cons_zero, List.set_cons_succ, List.getD_cons_zero, List.getD_cons_succ, List.map_cons, List.map_nil, List.nil_append, List.cons_append, qa4, List.replicate_zero, List.length_cons, List.length_nil, Nat.reduceAdd, Nat.reduceSub, Nat.zero_add, Nat.add_zero, Nat.add_zero, Nat.zero_add, Nat.reduceAdd, qaz, qaS, qau, Nat.reduceSub, qan, qan, L44, hcl]
  rw [hI]
  have P1 := P0.up (4, 0) (some (bs d)) (by decide)
  have hm := P1.same
  rw [c_first (k + 4919) n _ hn la lb hlb u _ P1]
  simp (disch := first | omega | decide | simp only [qaf, qad, qag, qae, qah, qac, qaa, qab, qai]) only [qav, qap, qao, qam, qal, qar, qbo, qaC, qaH, qas, qaK, qaJ, qaj, qaL, List.set_cons_zero, List.set_cons_succ, List.getD_cons_zero, List.getD_cons_succ, List.nil_append, List.append_nil, List.length_cons, List.length_nil, Nat.reduceAdd, qaq, isCell_B64, op_new, op_st, qbt, stK_cons, cellsOf_Hf, qbw, List.take_zero, List.drop_succ_cons, List.drop_nil, List.all_cons, List.all_nil, Prod.mk.injEq, Nat.reduceEqDiff, and_true, and_self, if_true, if_false, Nat.zero_add, Nat.add_zero, Nat.le_refl, Nat.add_zero, Nat.zero_add, N_sub, N_rem, N_gtr, Nat.reduceEqDiff, Nat.reduceAdd, op_len, qbC, lenS_sl, qaz, qaS, qau, qa2, List.all_cons, List.all_nil, Bool.and_self, qan, qan, hm]
  have e0 : d.length - d.length % 16 = 16 * (d.length / 16) := by omega
  rw [e0]
  generalize hG : upd (upd (upd H0 (4, 0) _) (9, 0) _) (9, 0) _ = G
  have PG : PH G n la lb := by rw [← hG]; exact (P1.up _ _ (by decide)).up _ _ (by decide)
  have ga : G (4, 0) = some (bs d) := by rw [← hG]; rfl
  have gb : G (9, 0) = some [B64 (lo (tw0 n lb u)), B64 (Xf.hi (tw0 n lb u))] := by rw [← hG]; rfl
  clear hG
  have d0 : decide (0 < d.length % 16) = false := decide_eq_false (by omega)
  rw [d0]
  simp (disch := first | omega | decide | simp only [qaf, qad, qag, qae, qah, qac, qaa, qab, qai]) only [qbv, qav, qbg, qap, qao, qam, qal, qar, qaH, qaK, qaj, qaF, List.set_cons_zero, List.set_cons_succ, List.length_cons, List.length_nil, ev_loop, Nat.reduceAdd, Nat.zero_add, Nat.add_zero, Nat.add_zero, Nat.zero_add, Nat.reduceAdd, qaz, qau, qan, qan]
  generalize hL : loopN L44k0 _ _ _ = r
  refine loop_use hL (runJ g n la lb E (tw0 n lb u) d tu (d.length / 16)) (d.length / 16) (by omega) (fun i st hi hJ => run_round (k + 4919) g n la lb E hE _ d tu (d.length / 16) (by omega) hd2 i hi st hJ) ?_ ?_ ?_
  · refine qbm [(4, 0), (9, 0)] rfl (by simp only [qay, FUEL, qaD, qaB, qax, qaI, qaT, nms_B64, nms_Bo, qa6, List.flatMap_cons, List.flatMap_nil, List.nil_append, List.cons_append, List.append_nil, List.map_nil, List.map_cons, List.contains_nil, List.contains_cons, Prod.mk.injEq, beq_iff_eq, Bool.or_eq_true, Bool.false_eq_true, Nat.reduceEqDiff, and_true, and_false, or_false, or_true, if_true, if_false, Nat.one_ne_zero, Nat.zero_ne_one, List.filter_cons, List.filter_nil, bne_iff_ne, ne_eq, not_false_eq_true, not_true_eq_false, qbb, qa5, qaW, nms_N, L44k0, nms_fn1, range_five, PO_nms, KA_nms, qaw, qaT, PG.g0, PG.g1, PG.g2, PG.g3, PG.g4, ga, gb]) (by simp only [List.map_nil, List.map_cons, qbb, qa5, qaW, L44k0, List.map_cons, List.map_nil, ren_fn1]; rfl) ⟨_, rfl, ?_, ?_, ?_⟩
    · exact PH.cn PG _
    · rw [outI_0]; exact qaP (4, 0) rfl (by simp (disch := first | omega | decide | simp only [qaf, qad, qag, qae, qah, qac, qaa, qab, qai]) only [ga]) (qaE _ _)
    · exact qaP (9, 0) rfl (by simp (disch := first | omega | decide | simp only [qaf, qad, qag, qae, qah, qac, qaa, qab, qai]) only [gb]; rfl) rfl
  · rintro st ⟨H, rfl, P, h1, h2⟩
    apply qb7
    simp (disch := first | omega | decide | simp only [qaf, qad, qag, qae, qah, qac, qaa, qab, qai]) only [qbx, qav, qap, qao, qam, qal, qaO, qar, qaC, qas, qaK, qaJ, qaj, qaU, qaL, qaF, List.set_cons_zero, List.set_cons_succ, List.getD_cons_zero, List.getD_cons_succ, List.length_cons, List.length_nil, Nat.reduceAdd, Nat.zero_add, Nat.add_zero, decide_false, Nat.add_zero, Nat.zero_add, qbp, Nat.reduceAdd, Nat.lt_irrefl, decide_false, L44b0, Nat.lt_irrefl]
    rfl
  · rintro st ⟨H, rfl, P, h1, h2⟩ rfl
    rw [outI_whole _ _ _ hr, unitP_whole _ _ _ false tu hr] at h1
    simp (disch := first | omega | decide | simp only [qaf, qad, qag, qae, qah, qac, qaa, qab, qai]) only [qbD, qbx, qav, qap, qao, qam, qal, qar, qaC, qaH, qas, qaK, qaJ, qaj, andThen_ret, qaU, qbL, qaL, qbq, qaF, qbi, qbX, List.set_cons_zero, List.set_cons_succ, List.getD_cons_zero, List.getD_cons_succ, List.length_cons, List.length_nil, Option.map_some, Nat.reduceAdd, if_true, Nat.zero_add, Nat.add_zero, decide_true, decide_false, Nat.add_zero, Nat.zero_add, N_eql, qbp, Nat.reduceAdd, Nat.lt_irrefl, decide_false, decide_true, qaz, qau, Option.map_some, qan, qan, L44b0, Nat.lt_irrefl, hr]
    rw [outOf_mem 5 _ _ [(1, 0)] (by simp only [qay, FUEL, qaD, qaB, qax, qaT, List.flatMap_cons, List.flatMap_nil, List.nil_append, List.cons_append, List.append_nil, List.map_nil, List.map_cons, List.contains_nil, List.contains_cons, Prod.mk.injEq, beq_iff_eq, Bool.or_eq_true, Bool.false_eq_true, Nat.reduceEqDiff, and_true, and_false, or_false, or_true, if_true, if_false, Nat.one_ne_zero, Nat.zero_ne_one, List.filter_cons, List.filter_nil, bne_iff_ne, ne_eq, not_false_eq_true, not_true_eq_false, range_five, PO_nms, KA_nms, qaw, qaT, P.g0, P.g1, P.g2, P.g3, P.g4, h1])]
    simp (disch := first | omega | decide | simp only [qaf, qad, qag, qae, qah, qac, qaa, qab, qai]) only [List.map_cons, List.map_nil, Option.map_some, if_true, Nat.zero_add, idx_cons, canonMap_ne, List.filterMap_nil, Option.map_some, qaE, List.filterMap_cons, qaX, qbe, range_five, PO_ren, KA_ren, qaE, qaX, P.g0, P.g1, P.g2, P.g3, P.g4, h1]
end Aes

namespace Aes
open Go Go.LE Xf
set_option maxRecDepth 20000

theorem run_part_false (k g n : Nat) (hn : n ≤ 20) (la lb : List (BitVec 8)) (hlb : lb.length = 16 * (n + 2)) (E : R → R) (hE : Way g n la E) (u : BitVec 64) (d : List (BitVec 8)) (h16 : 16 ≤ d.length) (hd2 : d.length ≤ 65536) (hr : d.length % 16 ≠ 0) :
    F C (k + 5000) 44 [.ptr (0, 0) 0, B64 u, .isl (bs d) d.length, .fn (.func g) [.ptr (0, 1) 0] [], Bo false] [PO, KA 2 n, bs la, KA 4 n, bs lb] =
    some (.sl (1, 0) 0 d.length none 1, [some PO, some (KA 2 n), some (bs la), some (KA 4 n), some (bs lb)], [bs (qbj E (tw0 n lb u) d false)]) := by
  rw [qbK f44]
  have P0 : PH (inHeap [PO, KA 2 n, bs la, KA 4 n, bs lb]) n la lb := ⟨rfl, rfl, rfl, rfl, rfl⟩
  generalize hI : inHeap [PO, KA 2 n, bs la, KA 4 n, bs lb] = H0 at P0
  have hcl : ∀ b H, qbl (envC C (k + 4999)) H b 50 [.isl (bs d) d.length] = some ⟨.sl (b, 0) 0 d.length none 1, [bs d], []⟩ := fun b H => c_xclone (k + 4994) b H _ d [] (snap_isl _ _) (by omega) (by omega)
  simp (disch := first | omega | decide | simp only [qaf, qad, qag, qae, qah, qac, qaa, qab, qai]) only [qba, qav, qap, qao, qam, qal, qar, qaC, qaH, qaK, qa3, qaY, qaj, List.set_cons_zero, List.set_cons_succ, List.getD_cons_zero, List.getD_cons_succ, List.map_cons, List.map_nil, List.nil_append, List.cons_append, qa4, List.replicate_zero, List.length_cons, List.length_nil, Nat.reduceAdd, Nat.reduceSub, Nat.zero_add, Nat.add_zero, Nat.add_zero, Nat.zero_add, Nat.reduceAdd, qaz, qaS, qau, Nat.reduceSub, qan, qan, L44, hcl]
  rw [hI]
  have P1 := P0.up (4, 0) (some (bs d)) (by decide)
  have hm := P1.same
  rw [c_first (k + 4919) n _ hn la lb hlb u _ P1]
  simp (disch := first | omega | decide | simp only [qaf, qad, qag, qae, qah, qac, qaa, qab, qai]) only [qav, qap, qao, qam, qal, qar, qbo, qaC, qaH, qas, qaK, qaJ, qaj, qaL, List.set_cons_zero, List.set_cons_succ, List.getD_cons_zero, List.getD_cons_succ, List.nil_append, List.append_nil, List.length_cons, List.length_nil, Nat.reduceAdd, qaq, isCell_B64, op_new, op_st, qbt, stK_cons, cellsOf_Hf, qbw, List.take_zero, List.drop_succ_cons, List.drop_nil, List.all_cons, List.all_nil, Prod.mk.injEq, Nat.reduceEqDiff, and_true, and_self, if_true, if_false, Nat.zero_add, Nat.add_zero, Nat.le_refl, Nat.add_zero, Nat.zero_add, N_sub, N_rem, N_gtr, Nat.reduceEqDiff, Nat.reduceAdd, op_len, qbC, lenS_sl, qaz, qaS, qau, qa2, List.all_cons, List.all_nil, Bool.and_self, qan, qan, hm]
  have e0 : d.length - d.length % 16 = 16 * (d.length / 16) := by omega
  rw [e0]
  generalize hG : upd (upd (upd H0 (4, 0) _) (9, 0) _) (9, 0) _ = G
  have PG : PH G n la lb := by rw [← hG]; exact (P1.up _ _ (by decide)).up _ _ (by decide)
  have ga : G (4, 0) = some (bs d) := by rw [← hG]; rfl
  have gb : G (9, 0) = some [B64 (lo (tw0 n lb u)), B64 (Xf.hi (tw0 n lb u))] := by rw [← hG]; rfl
  clear hG
  have d0 : decide (0 < d.length % 16) = true := decide_eq_true (by omega)
  obtain ⟨m, hm'⟩ : ∃ m, m = d.length / 16 - 1 := ⟨_, rfl⟩
  have e1 : 16 * (d.length / 16) - 16 = 16 * m := by omega
  have hm16 : 16 * m + 16 + d.length % 16 = d.length := by omega
  have hr0 : 0 < d.length % 16 := by omega
  have hrl : d.length % 16 < 16 := Nat.mod_lt _ (by decide)
  rw [d0]
  simp (disch := first | omega | decide | simp only [qaf, qad, qag, qae, qah, qac, qaa, qab, qai]) only [qav, qbg, qap, qao, qam, qal, qar, qaC, qaH, qas, qaK, qaJ, qaj, qbq, List.set_cons_zero, List.set_cons_succ, List.getD_cons_zero, List.getD_cons_succ, List.length_cons, List.length_nil, ev_loop, Nat.reduceAdd, Nat.zero_add, Nat.add_zero, Nat.add_zero, Nat.zero_add, N_sub, Nat.reduceAdd, qaz, qau, qan, qan, e1]
  generalize hL : loopN L44k0 _ _ _ = r
  refine loop_use hL (runJ g n la lb E (tw0 n lb u) d false m) m (by omega) (fun i st hi hJ => run_round (k + 4919) g n la lb E hE _ d false m (by omega) hd2 i hi st hJ) ?_ ?_ ?_
  · refine qbm [(4, 0), (9, 0)] rfl (by simp only [qay, FUEL, qaD, qaB, qax, qaI, qaT, nms_B64, nms_Bo, qa6, List.flatMap_cons, List.flatMap_nil, List.nil_append, List.cons_append, List.append_nil, List.map_nil, List.map_cons, List.contains_nil, List.contains_cons, Prod.mk.injEq, beq_iff_eq, Bool.or_eq_true, Bool.false_eq_true, Nat.reduceEqDiff, and_true, and_false, or_false, or_true, if_true, if_false, Nat.one_ne_zero, Nat.zero_ne_one, List.filter_cons, List.filter_nil, bne_iff_ne, ne_eq, not_false_eq_true, not_true_eq_false, qbb, qa5, qaW, nms_N, L44k0, nms_fn1, range_five, PO_nms, KA_nms, qaw, qaT, PG.g0, PG.g1, PG.g2, PG.g3, PG.g4, ga, gb]) (by simp only [List.map_nil, List.map_cons, qbb, qa5, qaW, L44k0, List.map_cons, List.map_nil, ren_fn1]; rfl) ⟨_, rfl, ?_, ?_, ?_⟩
    · exact PH.cn PG _
    · rw [outI_0]; exact qaP (4, 0) rfl (by simp (disch := first | omega | decide | simp only [qaf, qad, qag, qae, qah, qac, qaa, qab, qai]) only [ga]) (qaE _ _)
    · exact qaP (9, 0) rfl (by simp (disch := first | omega | decide | simp only [qaf, qad, qag, qae, qah, qac, qaa, qab, qai]) only [gb]; rfl) rfl
  · rintro st ⟨H, rfl, P, h1, h2⟩
    apply qb7
    simp (disch := first | omega | decide | simp only [qaf, qad, qag, qae, qah, qac, qaa, qab, qai]) only [qbx, qav, qap, qao, qam, qal, qaO, qar, qaC, qas, qaK, qaJ, qaj, qaU, qaL, qaF, List.set_cons_zero, List.set_cons_succ, List.getD_cons_zero, List.getD_cons_succ, List.length_cons, List.length_nil, Nat.reduceAdd, Nat.zero_add, Nat.add_zero, decide_false, Nat.add_zero, Nat.zero_add, qbp, Nat.reduceAdd, Nat.lt_irrefl, decide_false, L44b0, Nat.lt_irrefl]
    rfl
  · rintro st ⟨H, rfl, P, h1, h2⟩ rfl
    clear hL ga gb PG
    have hdb := Xf.dbl_F (k + 4998) (tws (tw0 n lb u) m)
    rw [Nat.add_assoc] at hdb
    simp only [Nat.reduceAdd] at hdb
    have hdb2 : F C (k + 4999) 53 [Hf (lo (tws (tw0 n lb u) m)) (Xf.hi (tws (tw0 n lb u) m))] [] = some (Hf (lo (tws (tw0 n lb u) (m + 1))) (Xf.hi (tws (tw0 n lb u) (m + 1))), [], []) := hdb
    have hle : 16 * m ≤ 16 * m + 16 := by omega
    have hle2 : 16 * m + 16 ≤ d.length := by omega
    have hle3 : 16 * m ≤ d.length := by omega
    have hs16 : 16 * m + 16 - 16 * m = 16 := by omega
    have hsr : d.length - (16 * m + 16) = d.length % 16 := by omega
    have hres : ¬ d.length % 16 = 0 := hr
    simp (disch := first | omega | decide | simp only [nms_B8, nms_B32, nms_B64, nms_I, nms_N, nms_Bo, nms_Un, qa6, nms_Hf, qaI, qaT, qbn, aW_agg_nms, aD_agg_nms, aO_agg_nms, List.flatMap_cons, List.flatMap_nil, List.nil_append, List.append_nil, ren_B8, ren_B32, qbT, ren_I, ren_N, ren_Bo, ren_Un, ren_undef, ren_Hf, qbO, aW_agg_ren, aD_agg_ren, aO_agg_ren, List.map_cons, List.map_nil, ren7_I, ren7_N, ren7_Bo, ren7_B8, ren7_B32, ren7_B64, nms7_I, nms7_N, nms7_Bo, nms7_B8, nms7_B32, nms7_B64, nms_tup, ren_tup, implies_true, l51, l53, qaf, qaw, qaE, ibs_nms, qbI, qad, qag, qae, qah, qac, qaa, qab, qai]) only [qbv, qbx, qav, qap, qao, qam, qal, qar, qbo, qaC, qaH, qas, qaK, qaJ, qa3, qaY, qaj, qaU, qbL, qaL, qaF, List.set_cons_zero, List.set_cons_succ, List.getD_cons_zero, List.getD_cons_succ, List.map_cons, List.map_nil, List.flatMap_cons, List.flatMap_nil, List.nil_append, List.cons_append, List.append_nil, List.length_cons, List.length_nil, callOp_C, Nat.reduceAdd, Nat.reduceSub, qaq, isCell_B64, qaQ, qbM, qbU, op_ld, op_new, op_st, qbt, stK_cons, agg_Hf, cellsOf_Hf, nms_Hf, calK_Hf, qbw, List.take_succ_cons, List.take_zero, List.drop_succ_cons, List.drop_zero, List.drop_nil, List.take_nil, List.all_cons, List.all_nil, Bool.and_true, Prod.mk.injEq, Nat.reduceEqDiff, Nat.reduceLT, and_true, and_self, if_true, if_false, Nat.zero_add, Nat.add_zero, Nat.le_refl, decide_true, decide_false, Nat.mul_one, Nat.add_zero, Nat.zero_add, N_add, N_eql, qbp, N_nat, Nat.reduceLT, Nat.reduceEqDiff, Nat.reduceAdd, Nat.lt_irrefl, decide_false, decide_true, nm_beq, Bool.not_false, Bool.not_true, lenS_sl, qbZ, op_slcS, slcV_none, getD_some, qaz, qaS, qau, qa2, Nat.mul_one, qa7, qbr, qbV, touch_ld, touch_st, qbY, reach_none, nms_fn, qaI, List.contains_cons, List.contains_nil, beq_self_eq_true, Bool.or_true, Bool.or_false, ordOk, qaZ, List.all_cons, List.all_nil, Nat.testBit, Nat.reduceShiftRight, Nat.reduceAnd, Nat.reduceBEq, Bool.not_true, Bool.not_false, Bool.and_self, Bool.and_true, Bool.and_false, Nat.reduceSub, Nat.reduceLT, bne, qbh, qbN, trimO_f, qbA, isCall_ld, isCall_st, qbP, Bool.and_false, Bool.and_true, qaM, qan, qan, qaM, L44b0, Nat.lt_irrefl, hres, h2, hdb2, agg_Hf, nms_Hf, hs16, nms_fn1, qaT]
    -- TAIL
    generalize hG2 : upd (upd (upd (upd H (10, 0) _) (11, 0) _) (10, 0) _) (11, 0) _ = G2
    have P2 : PH G2 n la lb := by rw [← hG2]; exact (((P.up _ _ (by decide)).up _ _ (by decide)).up _ _ (by decide)).up _ _ (by decide)
    have q1 : G2 (1, 0) = some (bs (outI E (tw0 n lb u) d m)) := by rw [← hG2]; exact h1
    have qb : G2 (11, 0) = some [B64 (lo (tw2 (tw0 n lb u) m false)), B64 (Xf.hi (tw2 (tw0 n lb u) m false))] := by rw [← hG2]; rfl
    clear hG2 h1 h2 P H
    have hol := outI_length E (tw0 n lb u) d m (by omega)
    have hre : qbd G2 FUEL [] [(0, 1), (1, 0)] = [(0, 1), (0, 2), (1, 0)] := by
      simp only [FUEL, qaD, qaB, qax, List.nil_append, List.cons_append, List.append_nil, List.contains_nil, List.contains_cons, Prod.mk.injEq, beq_iff_eq, Bool.or_eq_true, Bool.false_eq_true, Nat.reduceEqDiff, and_false, or_false, if_false, Nat.one_ne_zero, Nat.zero_ne_one, KA_nms, qaw, P2.g1, P2.g2, q1]
    have K3 : KG (only [(0, 1), (0, 2), (1, 0)] G2) (0, 1) (0, 2) (n + 2) none la := ⟨P2.g1, P2.g2, by decide⟩
    have hsn : snap (only [(0, 1), (0, 2), (1, 0)] G2) D (.sl (1, 0) (16 * m) 16 none 1) = some (.isl (bs (blk d m)) 16, [(1, 0)]) := by
      rw [snap_bytes (H := only [(0, 1), (0, 2), (1, 0)] G2) (1, 0) (16 * m) 16 none (outI E (tw0 n lb u) d m) q1 (by decide), outI_blk]
    rw [hre, c_with (k + 4919) _ g n la E hE (tws (tw0 n lb u) m) _ (0, 1) (0, 2) (1, 0) K3 _ (blk d m) (blk_length d m (by omega)) hsn ⟨by decide, by decide⟩, tr_KGn _ _ _ _ _ _ _ _ K3]
    obtain ⟨sto, hsto⟩ : ∃ sto, sto = stolen E (tw0 n lb u) d false m := ⟨_, rfl⟩
    rw [show aB 16 (wt E (tws (tw0 n lb u) m) (fl (blk d m))) = bs sto by rw [aB_bs, hsto]; rfl]
    have hsl : sto.length = 16 := by rw [hsto, stolen, qb9]
    have hr16 : d.length % 16 ≤ 16 := by omega
    simp (disch := first | omega | decide | simp only [qaf, qad, qag, qae, qah, qac, qaa, qab, qai]) only [qav, qap, qao, qam, qal, qar, qaC, qaH, qas, qaK, qaJ, qa3, qaY, qaj, List.set_cons_zero, List.set_cons_succ, List.getD_cons_zero, List.getD_cons_succ, List.map_cons, List.map_nil, List.flatMap_cons, List.flatMap_nil, List.nil_append, List.append_nil, List.length_cons, List.length_nil, Nat.reduceAdd, Nat.reduceSub, List.all_cons, List.all_nil, Bool.and_true, Nat.reduceLT, if_true, Nat.zero_add, Nat.add_zero, decide_true, Nat.mul_one, Nat.add_zero, Nat.zero_add, N_add, N_nat, Nat.reduceLT, Nat.reduceAdd, decide_true, Bool.not_false, lenS_sl, qb6, qbZ, op_slcS, slcV_none, getD_some, qaz, qaS, qau, Nat.mul_one, qa7, qbr, qbY, nms_fn, List.contains_cons, List.contains_nil, Bool.or_true, Bool.or_false, ordOk, qaZ, List.all_cons, List.all_nil, Nat.testBit, Nat.reduceShiftRight, Nat.reduceAnd, Nat.reduceBEq, Bool.not_false, Bool.and_self, Bool.and_true, Nat.reduceSub, Nat.reduceLT, bne, qbh, qbN, qbP, Bool.and_true, qaM, qan, qan, qaM, hsr, qaT]
    obtain ⟨rst, hrst⟩ : ∃ rst, rst = d.drop (16 * m + 16) := ⟨_, rfl⟩
    have hrsl : rst.length = d.length % 16 := by rw [hrst, List.length_drop]; omega
    generalize hG3 : upd G2 (22, 0) _ = G3
    have P3 : PH G3 n la lb := by rw [← hG3]; exact P2.up _ _ (by decide)
    have r1 : G3 (1, 0) = some (bs (outI E (tw0 n lb u) d m)) := by rw [← hG3]; exact q1
    have rb : G3 (11, 0) = some [B64 (lo (tw2 (tw0 n lb u) m false)), B64 (Xf.hi (tw2 (tw0 n lb u) m false))] := by rw [← hG3]; exact qb
    have rs : G3 (22, 0) = some (bs sto) := by rw [← hG3]; rfl
    clear hG3 q1 qb P2 hre K3 hsn G2
    have hre : qbd G3 FUEL [] [(1, 0)] = [(1, 0)] := by
      simp only [FUEL, qaD, qaB, qax, List.nil_append, List.append_nil, List.contains_nil, Bool.false_eq_true, if_false, qaw, r1]
    have hsn : snap (only [(1, 0)] G3) D (.sl (1, 0) (16 * m + 16) (d.length % 16) none 1) = some (.isl (bs rst) rst.length, [(1, 0)]) := by
      rw [snap_bytes (H := only [(1, 0)] G3) (1, 0) (16 * m + 16) (d.length % 16) none (outI E (tw0 n lb u) d m) r1 hr, outI_drop16, ← hrst, List.take_of_length_le (by omega), hrsl]
    rw [hre, c_xclone (k + 4994) _ _ _ rst [(1, 0)] hsn (by omega) (by omega), hrsl]
    have hfk : frontK (d.length % 16) 1 (16 - d.length % 16) (some (bs sto)) = some (bs (sto.drop (d.length % 16))) := by
      rw [frontK, if_pos (by rw [qad]; omega), bs_drop, bs_take, List.take_of_length_le (by rw [List.length_drop]; omega)]
    have e16 : d.length % 16 + (16 - d.length % 16) = 16 := by omega
    have htk : rst.take (d.length % 16) = rst := List.take_of_length_le (by omega)
    obtain ⟨las, hlas⟩ : ∃ las, las = rst ++ sto.drop (d.length % 16) := ⟨_, rfl⟩
    have hlas' : las = lastB E (tw0 n lb u) d false m := by rw [hlas, hrst, hsto]; rfl
    have hlasl : las.length = 16 := by rw [hlas, List.length_append, List.length_drop]; omega
    simp (disch := first | omega | decide | simp only [qaf, qad, qag, qae, qah, qac, qaa, qab, qai]) only [qav, qap, qao, qam, qal, qar, qaC, qaH, qas, qaK, qa3, qaY, qaj, List.set_cons_zero, List.set_cons_succ, List.getD_cons_zero, List.getD_cons_succ, List.map_cons, List.map_nil, List.flatMap_cons, List.flatMap_nil, List.nil_append, List.cons_append, List.append_nil, List.length_cons, List.length_nil, Nat.reduceAdd, Nat.reduceSub, qaq, qaQ, qbM, qbU, op_ld, agg_Hf, nms_Hf, List.take_succ_cons, List.drop_zero, List.take_nil, List.all_cons, List.all_nil, Bool.and_true, Prod.mk.injEq, Nat.reduceEqDiff, Nat.reduceLT, and_true, if_true, if_false, Nat.zero_add, Nat.add_zero, Nat.le_refl, decide_true, decide_false, Nat.mul_one, Nat.add_zero, Nat.zero_add, N_nat, Nat.reduceLT, Nat.reduceEqDiff, Nat.reduceAdd, decide_false, decide_true, nm_beq, Bool.not_false, Bool.not_true, lenS_sl, lenOf_sl, op_append, appK_some, appF_some, appX_none, appN_bytes, qb6, qbZ, op_slcS, slcV_none, slcV_cap, getD_some, qaz, qaS, qau, qa2, Nat.mul_one, qa7, qbr, qbV, touch_ld, qbY, nms_fn, qaI, List.contains_cons, List.contains_nil, beq_self_eq_true, Bool.or_true, Bool.or_false, ordOk, qaZ, List.all_cons, List.all_nil, Nat.testBit, Nat.reduceShiftRight, Nat.reduceAnd, Nat.reduceBEq, Bool.not_true, Bool.not_false, Bool.and_self, Bool.and_true, Bool.and_false, Nat.reduceSub, Nat.reduceLT, bne, qbh, qbN, trimO_f, qbA, isCall_ld, isCall_append, qbP, Bool.and_false, Bool.and_true, front_sl, qaM, qan, touch_append, qan, qaM, rb, rs, hfk, e16, htk, ← hlas, qaT, nms_fn1, List.cons_append, List.nil_append, agg_Hf]
    generalize hG4 : upd (upd (upd G3 (28, 0) _) (28, 0) _) (32, 0) _ = G4
    have P4 : PH G4 n la lb := by rw [← hG4]; exact ((P3.up _ _ (by decide)).up _ _ (by decide)).up _ _ (by decide)
    have s1 : G4 (1, 0) = some (bs (outI E (tw0 n lb u) d m)) := by rw [← hG4]; exact r1
    have ss : G4 (22, 0) = some (bs sto) := by rw [← hG4]; exact rs
    have sl : G4 (32, 0) = some (bs las) := by rw [← hG4]; rfl
    clear hG4 r1 rb rs P3 hre hsn G3
    have hre : qbd G4 FUEL [] [(0, 1), (32, 0)] = [(0, 1), (0, 2), (32, 0)] := by
      simp only [FUEL, qaD, qaB, qax, List.nil_append, List.cons_append, List.append_nil, List.contains_nil, List.contains_cons, Prod.mk.injEq, beq_iff_eq, Bool.or_eq_true, Bool.false_eq_true, Nat.reduceEqDiff, and_false, or_false, if_false, Nat.zero_ne_one, KA_nms, qaw, P4.g1, P4.g2, sl]
    have K4 : KG (only [(0, 1), (0, 2), (32, 0)] G4) (0, 1) (0, 2) (n + 2) none la := ⟨P4.g1, P4.g2, by decide⟩
    have hsn : snap (only [(0, 1), (0, 2), (32, 0)] G4) D (.sl (32, 0) 0 16 none 1) = some (.isl (bs las) 16, [(32, 0)]) := by
      rw [snap_bytes (H := only [(0, 1), (0, 2), (32, 0)] G4) (32, 0) 0 16 none las sl (by decide), List.drop_zero, List.take_of_length_le (by omega)]
    rw [hre, c_with (k + 4919) _ g n la E hE (tw2 (tw0 n lb u) m false) _ (0, 1) (0, 2) (32, 0) K4 _ las hlasl hsn ⟨by decide, by decide⟩, tr_KGn _ _ _ _ _ _ _ _ K4]
    simp (disch := first | omega | decide | simp only [qaf, qad, qag, qae, qah, qac, qaa, qab, qai]) only [qar, qaC, List.set_cons_zero, List.set_cons_succ, List.getD_cons_zero, List.getD_cons_succ, List.map_nil, List.nil_append, List.cons_append, Nat.reduceAdd, Nat.reduceSub, List.all_cons, List.all_nil, Bool.and_true, Nat.reduceLT, if_true, Nat.zero_add, decide_true, Nat.zero_add, Nat.reduceLT, Nat.reduceAdd, decide_true, Bool.not_false, Bool.not_true, lenOf_sl, op_copy, qaz, qaS, qau, qa7, qbr, touch_copy, List.contains_cons, List.contains_nil, beq_self_eq_true, Bool.or_true, Bool.or_false, ordOk, qaZ, List.all_cons, List.all_nil, Nat.testBit, Nat.reduceShiftRight, Nat.reduceAnd, Nat.reduceBEq, Bool.not_true, Bool.not_false, Bool.and_self, Bool.and_true, Bool.and_false, Nat.reduceSub, Nat.reduceLT, bne, qbh, qbN, trimO_f, isCall_copy, Bool.and_false, Bool.and_true, qaM, qaM, qaT]
    have i5 : 16 ≤ d.length - 16 * m := by omega
    rw [cp_16 (only [(1, 0), (40, 0)] (upd G4 (40, 0) _)) (1, 0) (40, 0) (16 * m) (d.length - 16 * m) none (some 16) (outI E (tw0 n lb u) d m) (wt E (tw2 (tw0 n lb u) m false) (fl las)) s1 rfl (by omega) i5,
      show (List.range 16).map (wt E (tw2 (tw0 n lb u) m false) (fl las)) = wtl E (tw2 (tw0 n lb u) m false) las from rfl, outI_drop16, ← hrst]
    have hdn : (outI E (tw0 n lb u) d m).take (16 * m) = done E (tw0 n lb u) d m := by
      rw [outI, List.take_append, qbR, Nat.sub_self, List.take_zero, List.append_nil, List.take_of_length_le (by rw [qbR]; exact Nat.le_refl _)]
    rw [hdn]
    obtain ⟨L2, hL2⟩ : ∃ L2, L2 = done E (tw0 n lb u) d m ++ wtl E (tw2 (tw0 n lb u) m false) las ++ rst := ⟨_, rfl⟩
    have hL2l : L2.length = d.length := by rw [hL2, List.length_append, List.length_append, qbR, qb9]; omega
    have hL2t : L2.take (16 * m + 16) = done E (tw0 n lb u) d m ++ wtl E (tw2 (tw0 n lb u) m false) las := by
      rw [hL2, List.take_append_of_le_length (by rw [List.length_append, qbR, qb9]; exact Nat.le_refl _), List.take_of_length_le (by rw [List.length_append, qbR, qb9]; exact Nat.le_refl _)]
    rw [← hL2]
    simp (disch := first | omega | decide | simp only [qaf, qad, qag, qae, qah, qac, qaa, qab, qai]) only [qav, qap, qao, qam, qal, qar, qaC, qaH, qas, qaK, qaJ, qaj, List.set_cons_zero, List.set_cons_succ, List.getD_cons_zero, List.getD_cons_succ, List.map_cons, List.map_nil, List.nil_append, List.cons_append, List.length_cons, List.length_nil, Nat.reduceAdd, Nat.reduceSub, List.all_cons, List.all_nil, Bool.and_true, Nat.reduceLT, if_true, Nat.zero_add, Nat.add_zero, decide_true, decide_false, Nat.mul_one, Nat.add_zero, Nat.zero_add, N_add, N_nat, Nat.reduceLT, Nat.reduceAdd, decide_false, decide_true, nm_beq, Bool.not_false, lenS_sl, lenOf_sl, op_copy, qb6, qbZ, op_slcS, slcV_none, slcV_cap, getD_some, qaz, qau, qa2, Nat.sub_zero, Nat.mul_one, qa7, qbr, touch_copy, List.contains_cons, List.contains_nil, beq_self_eq_true, Bool.or_true, Bool.or_false, ordOk, qaZ, List.all_cons, List.all_nil, Nat.testBit, Nat.reduceShiftRight, Nat.reduceAnd, Nat.reduceBEq, Bool.not_false, Bool.and_self, Bool.and_true, Bool.and_false, Nat.reduceSub, Nat.reduceLT, bne, qbh, qbN, trimO_f, isCall_copy, Bool.and_false, Bool.and_true, qaM, qan, qan, qaM, hsr, qaT]
    rw [cp_r (only [(1, 0), (22, 0)] _) (1, 0) (22, 0) (16 * m + 16) (d.length % 16) none (some 16) L2 sto rfl (by exact ss) (by omega) (by omega) hr0, hL2t]
    have hfin : done E (tw0 n lb u) d m ++ wtl E (tw2 (tw0 n lb u) m false) las ++ sto.take (d.length % 16) = qbj E (tw0 n lb u) d false := by
      rw [qbj, if_neg hr, ← hm', hlas', hsto]
    rw [hfin]
    simp (disch := first | omega | decide | simp only [qaf, qad, qag, qae, qah, qac, qaa, qab, qai]) only [qbD, qav, qap, qao, qam, qal, qar, qaC, qaK, qaj, qbi, qbX, List.set_cons_zero, List.set_cons_succ, List.getD_cons_zero, List.getD_cons_succ, List.map_cons, List.map_nil, List.length_cons, List.length_nil, Option.map_some, Nat.reduceAdd, Nat.reduceSub, List.all_cons, List.all_nil, Bool.and_true, Nat.reduceLT, if_true, Nat.zero_add, Nat.add_zero, decide_true, Nat.add_zero, Nat.zero_add, Nat.reduceLT, Nat.reduceAdd, decide_true, nm_beq, Bool.not_false, qaz, qau, qa2, Option.map_some, List.contains_cons, List.contains_nil, beq_self_eq_true, Bool.or_true, Bool.or_false, ordOk, qaZ, List.all_cons, List.all_nil, Nat.testBit, Nat.reduceShiftRight, Nat.reduceAnd, Nat.reduceBEq, Bool.not_false, Bool.and_self, Bool.and_true, Nat.reduceSub, Nat.reduceLT, bne, Bool.and_true, qaM, qan, qan, qaM]
    rw [outOf_mem 5 _ _ [(1, 0)] (by simp only [qay, FUEL, qaD, qaB, qax, qaT, List.flatMap_cons, List.flatMap_nil, List.nil_append, List.cons_append, List.append_nil, List.map_nil, List.map_cons, List.contains_nil, List.contains_cons, Prod.mk.injEq, beq_iff_eq, Bool.or_eq_true, Bool.false_eq_true, Nat.reduceEqDiff, and_true, and_false, or_false, or_true, if_true, if_false, Nat.one_ne_zero, Nat.zero_ne_one, List.filter_cons, List.filter_nil, bne_iff_ne, ne_eq, not_false_eq_true, not_true_eq_false, qaq, range_five, PO_nms, KA_nms, qaw, qaT, P4.g0, P4.g1, P4.g2, P4.g3, P4.g4])]
    simp (disch := first | omega | decide | simp only [qaf, qad, qag, qae, qah, qac, qaa, qab, qai]) only [List.map_cons, List.map_nil, Option.map_some, qaq, Prod.mk.injEq, Nat.reduceEqDiff, and_true, false_and, if_true, if_false, Nat.zero_add, Nat.zero_ne_one, idx_cons, canonMap_ne, List.filterMap_nil, Option.map_some, qaE, List.filterMap_cons, qaX, qbe, range_five, PO_ren, KA_ren, qaE, qaX, P4.g0, P4.g1, P4.g2, P4.g3, P4.g4]
end Aes

namespace Aes
open Go Go.LE Xf
set_option maxRecDepth 20000

theorem run_part_true (k g n : Nat) (hn : n ≤ 20) (la lb : List (BitVec 8)) (hlb : lb.length = 16 * (n + 2)) (E : R → R) (hE : Way g n la E) (u : BitVec 64) (d : List (BitVec 8)) (h16 : 16 ≤ d.length) (hd2 : d.length ≤ 65536) (hr : d.length % 16 ≠ 0) :
    F C (k + 5000) 44 [.ptr (0, 0) 0, B64 u, .isl (bs d) d.length, .fn (.func g) [.ptr (0, 1) 0] [], Bo true] [PO, KA 2 n, bs la, KA 4 n, bs lb] =
    some (.sl (1, 0) 0 d.length none 1, [some PO, some (KA 2 n), some (bs la), some (KA 4 n), some (bs lb)], [bs (qbj E (tw0 n lb u) d true)]) := by
  rw [qbK f44]
  have P0 : PH (inHeap [PO, KA 2 n, bs la, KA 4 n, bs lb]) n la lb := ⟨rfl, rfl, rfl, rfl, rfl⟩
  generalize hI : inHeap [PO, KA 2 n, bs la, KA 4 n, bs lb] = H0 at P0
  have hcl : ∀ b H, qbl (envC C (k + 4999)) H b 50 [.isl (bs d) d.length] = some ⟨.sl (b, 0) 0 d.length none 1, [bs d], []⟩ := fun b H => c_xclone (k + 4994) b H _ d [] (snap_isl _ _) (by omega) (by omega)
  simp (disch := first | omega | decide | simp only [qaf, qad, qag, qae, qah, qac, qaa, qab, qai]) only [qba, qav, qap, qao, qam, qal, qar, qaC, qaH, qaK, qa3, qaY, qaj, List.set_cons_zero, List.set_cons_succ, List.getD_cons_zero, List.getD_cons_succ, List.map_cons, List.map_nil, List.nil_append, List.cons_append, qa4, List.replicate_zero, List.length_cons, List.length_nil, Nat.reduceAdd, Nat.reduceSub, Nat.zero_add, Nat.add_zero, Nat.add_zero, Nat.zero_add, Nat.reduceAdd, qaz, qaS, qau, Nat.reduceSub, qan, qan, L44, hcl]
  rw [hI]
  have P1 := P0.up (4, 0) (some (bs d)) (by decide)
  have hm := P1.same
  rw [c_first (k + 4919) n _ hn la lb hlb u _ P1]
  simp (disch := first | omega | decide | simp only [qaf, qad, qag, qae, qah, qac, qaa, qab, qai]) only [qav, qap, qao, qam, qal, qar, qbo, qaC, qaH, qas, qaK, qaJ, qaj, qaL, List.set_cons_zero, List.set_cons_succ, List.getD_cons_zero, List.getD_cons_succ, List.nil_append, List.append_nil, List.length_cons, List.length_nil, Nat.reduceAdd, qaq, isCell_B64, op_new, op_st, qbt, stK_cons, cellsOf_Hf, qbw, List.take_zero, List.drop_succ_cons, List.drop_nil, List.all_cons, List.all_nil, Prod.mk.injEq, Nat.reduceEqDiff, and_true, and_self, if_true, if_false, Nat.zero_add, Nat.add_zero, Nat.le_refl, Nat.add_zero, Nat.zero_add, N_sub, N_rem, N_gtr, Nat.reduceEqDiff, Nat.reduceAdd, op_len, qbC, lenS_sl, qaz, qaS, qau, qa2, List.all_cons, List.all_nil, Bool.and_self, qan, qan, hm]
  have e0 : d.length - d.length % 16 = 16 * (d.length / 16) := by omega
  rw [e0]
  generalize hG : upd (upd (upd H0 (4, 0) _) (9, 0) _) (9, 0) _ = G
  have PG : PH G n la lb := by rw [← hG]; exact (P1.up _ _ (by decide)).up _ _ (by decide)
  have ga : G (4, 0) = some (bs d) := by rw [← hG]; rfl
  have gb : G (9, 0) = some [B64 (lo (tw0 n lb u)), B64 (Xf.hi (tw0 n lb u))] := by rw [← hG]; rfl
  clear hG
  have d0 : decide (0 < d.length % 16) = true := decide_eq_true (by omega)
  obtain ⟨m, hm'⟩ : ∃ m, m = d.length / 16 - 1 := ⟨_, rfl⟩
  have e1 : 16 * (d.length / 16) - 16 = 16 * m := by omega
  have hm16 : 16 * m + 16 + d.length % 16 = d.length := by omega
  have hr0 : 0 < d.length % 16 := by omega
  have hrl : d.length % 16 < 16 := Nat.mod_lt _ (by decide)
  rw [d0]
  simp (disch := first | omega | decide | simp only [qaf, qad, qag, qae, qah, qac, qaa, qab, qai]) only [qav, qbg, qap, qao, qam, qal, qar, qaC, qaH, qas, qaK, qaJ, qaj, qbq, List.set_cons_zero, List.set_cons_succ, List.getD_cons_zero, List.getD_cons_succ, List.length_cons, List.length_nil, ev_loop, Nat.reduceAdd, Nat.zero_add, Nat.add_zero, Nat.add_zero, Nat.zero_add, N_sub, Nat.reduceAdd, qaz, qau, qan, qan, e1]
  generalize hL : loopN L44k0 _ _ _ = r
  refine loop_use hL (runJ g n la lb E (tw0 n lb u) d true m) m (by omega) (fun i st hi hJ => run_round (k + 4919) g n la lb E hE _ d true m (by omega) hd2 i hi st hJ) ?_ ?_ ?_
  · refine qbm [(4, 0), (9, 0)] rfl (by simp only [qay, FUEL, qaD, qaB, qax, qaI, qaT, nms_B64, nms_Bo, qa6, List.flatMap_cons, List.flatMap_nil, List.nil_append, List.cons_append, List.append_nil, List.map_nil, List.map_cons, List.contains_nil, List.contains_cons, Prod.mk.injEq, beq_iff_eq, Bool.or_eq_true, Bool.false_eq_true, Nat.reduceEqDiff, and_true, and_false, or_false, or_true, if_true, if_false, Nat.one_ne_zero, Nat.zero_ne_one, List.filter_cons, List.filter_nil, bne_iff_ne, ne_eq, not_false_eq_true, not_true_eq_false, qbb, qa5, qaW, nms_N, L44k0, nms_fn1, range_five, PO_nms, KA_nms, qaw, qaT, PG.g0, PG.g1, PG.g2, PG.g3, PG.g4, ga, gb]) (by simp only [List.map_nil, List.map_cons, qbb, qa5, qaW, L44k0, List.map_cons, List.map_nil, ren_fn1]; rfl) ⟨_, rfl, ?_, ?_, ?_⟩
    · exact PH.cn PG _
    · rw [outI_0]; exact qaP (4, 0) rfl (by simp (disch := first | omega | decide | simp only [qaf, qad, qag, qae, qah, qac, qaa, qab, qai]) only [ga]) (qaE _ _)
    · exact qaP (9, 0) rfl (by simp (disch := first | omega | decide | simp only [qaf, qad, qag, qae, qah, qac, qaa, qab, qai]) only [gb]; rfl) rfl
  · rintro st ⟨H, rfl, P, h1, h2⟩
    apply qb7
    simp (disch := first | omega | decide | simp only [qaf, qad, qag, qae, qah, qac, qaa, qab, qai]) only [qbx, qav, qap, qao, qam, qal, qaO, qar, qaC, qas, qaK, qaJ, qaj, qaU, qaL, qaF, List.set_cons_zero, List.set_cons_succ, List.getD_cons_zero, List.getD_cons_succ, List.length_cons, List.length_nil, Nat.reduceAdd, Nat.zero_add, Nat.add_zero, decide_false, Nat.add_zero, Nat.zero_add, qbp, Nat.reduceAdd, Nat.lt_irrefl, decide_false, L44b0, Nat.lt_irrefl]
    rfl
  · rintro st ⟨H, rfl, P, h1, h2⟩ rfl
    clear hL ga gb PG
    have hdb := Xf.dbl_F (k + 4998) (tws (tw0 n lb u) m)
    rw [Nat.add_assoc] at hdb
    simp only [Nat.reduceAdd] at hdb
    have hdb2 : F C (k + 4999) 53 [Hf (lo (tws (tw0 n lb u) m)) (Xf.hi (tws (tw0 n lb u) m))] [] = some (Hf (lo (tws (tw0 n lb u) (m + 1))) (Xf.hi (tws (tw0 n lb u) (m + 1))), [], []) := hdb
    have hle : 16 * m ≤ 16 * m + 16 := by omega
    have hle2 : 16 * m + 16 ≤ d.length := by omega
    have hle3 : 16 * m ≤ d.length := by omega
    have hs16 : 16 * m + 16 - 16 * m = 16 := by omega
    have hsr : d.length - (16 * m + 16) = d.length % 16 := by omega
    have hres : ¬ d.length % 16 = 0 := hr
    simp (disch := first | omega | decide | simp only [nms_B8, nms_B32, nms_B64, nms_I, nms_N, nms_Bo, nms_Un, qa6, nms_Hf, qaI, qaT, qbn, aW_agg_nms, aD_agg_nms, aO_agg_nms, List.flatMap_cons, List.flatMap_nil, List.nil_append, List.append_nil, ren_B8, ren_B32, qbT, ren_I, ren_N, ren_Bo, ren_Un, ren_undef, ren_Hf, qbO, aW_agg_ren, aD_agg_ren, aO_agg_ren, List.map_cons, List.map_nil, ren7_I, ren7_N, ren7_Bo, ren7_B8, ren7_B32, ren7_B64, nms7_I, nms7_N, nms7_Bo, nms7_B8, nms7_B32, nms7_B64, nms_tup, ren_tup, implies_true, l51, l53, qaf, qaw, qaE, ibs_nms, qbI, qad, qag, qae, qah, qac, qaa, qab, qai]) only [qbv, qbx, qav, qap, qao, qam, qal, qar, qbo, qaC, qaH, qas, qaK, qaJ, qa3, qaY, qaj, qaU, qbL, qaL, qbq, qaF, List.set_cons_zero, List.set_cons_succ, List.getD_cons_zero, List.getD_cons_succ, List.map_cons, List.map_nil, List.flatMap_cons, List.flatMap_nil, List.nil_append, List.cons_append, List.append_nil, List.length_cons, List.length_nil, callOp_C, Nat.reduceAdd, Nat.reduceSub, qaq, isCell_B64, qaQ, qbM, qbU, op_ld, op_new, op_st, qbt, stK_cons, agg_Hf, cellsOf_Hf, nms_Hf, calK_Hf, qbw, List.take_succ_cons, List.take_zero, List.drop_succ_cons, List.drop_zero, List.drop_nil, List.take_nil, List.all_cons, List.all_nil, Bool.and_true, Prod.mk.injEq, Nat.reduceEqDiff, Nat.reduceLT, and_true, and_self, if_true, if_false, Nat.zero_add, Nat.add_zero, Nat.le_refl, decide_true, decide_false, Nat.mul_one, Nat.add_zero, Nat.zero_add, N_add, N_eql, qbp, N_nat, Nat.reduceLT, Nat.reduceEqDiff, Nat.reduceAdd, Nat.lt_irrefl, decide_false, decide_true, nm_beq, Bool.not_false, Bool.not_true, lenS_sl, qbZ, op_slcS, slcV_none, getD_some, qaz, qaS, qau, qa2, Nat.mul_one, qa7, qbr, qbV, touch_ld, touch_st, qbY, reach_none, nms_fn, qaI, List.contains_cons, List.contains_nil, beq_self_eq_true, Bool.or_true, Bool.or_false, ordOk, qaZ, List.all_cons, List.all_nil, Nat.testBit, Nat.reduceShiftRight, Nat.reduceAnd, Nat.reduceBEq, Bool.not_true, Bool.not_false, Bool.and_self, Bool.and_true, Bool.and_false, Nat.reduceSub, Nat.reduceLT, bne, qbh, qbN, trimO_f, qbA, isCall_ld, isCall_st, qbP, Bool.and_false, Bool.and_true, qaM, qan, qan, qaM, L44b0, Nat.lt_irrefl, hres, h2, hdb2, agg_Hf, nms_Hf, hs16, nms_fn1, qaT]
    -- TAIL
    generalize hG2 : upd (upd (upd (upd (upd (upd H (10, 0) _) (11, 0) _) (10, 0) _) (11, 0) _) (10, 0) _) (11, 0) _ = G2
    have P2 : PH G2 n la lb := by rw [← hG2]; exact (((((P.up _ _ (by decide)).up _ _ (by decide)).up _ _ (by decide)).up _ _ (by decide)).up _ _ (by decide)).up _ _ (by decide)
    have q1 : G2 (1, 0) = some (bs (outI E (tw0 n lb u) d m)) := by rw [← hG2]; exact h1
    have qb : G2 (11, 0) = some [B64 (lo (tw2 (tw0 n lb u) m true)), B64 (Xf.hi (tw2 (tw0 n lb u) m true))] := by rw [← hG2]; rfl
    clear hG2 h1 h2 P H
    have hol := outI_length E (tw0 n lb u) d m (by omega)
    have hre : qbd G2 FUEL [] [(0, 1), (1, 0)] = [(0, 1), (0, 2), (1, 0)] := by
      simp only [FUEL, qaD, qaB, qax, List.nil_append, List.cons_append, List.append_nil, List.contains_nil, List.contains_cons, Prod.mk.injEq, beq_iff_eq, Bool.or_eq_true, Bool.false_eq_true, Nat.reduceEqDiff, and_false, or_false, if_false, Nat.one_ne_zero, Nat.zero_ne_one, KA_nms, qaw, P2.g1, P2.g2, q1]
    have K3 : KG (only [(0, 1), (0, 2), (1, 0)] G2) (0, 1) (0, 2) (n + 2) none la := ⟨P2.g1, P2.g2, by decide⟩
    have hsn : snap (only [(0, 1), (0, 2), (1, 0)] G2) D (.sl (1, 0) (16 * m) 16 none 1) = some (.isl (bs (blk d m)) 16, [(1, 0)]) := by
      rw [snap_bytes (H := only [(0, 1), (0, 2), (1, 0)] G2) (1, 0) (16 * m) 16 none (outI E (tw0 n lb u) d m) q1 (by decide), outI_blk]
    rw [hre, c_with (k + 4919) _ g n la E hE (tws (tw0 n lb u) (m + 1)) _ (0, 1) (0, 2) (1, 0) K3 _ (blk d m) (blk_length d m (by omega)) hsn ⟨by decide, by decide⟩, tr_KGn _ _ _ _ _ _ _ _ K3]
    obtain ⟨sto, hsto⟩ : ∃ sto, sto = stolen E (tw0 n lb u) d true m := ⟨_, rfl⟩
    rw [show aB 16 (wt E (tws (tw0 n lb u) (m + 1)) (fl (blk d m))) = bs sto by rw [aB_bs, hsto]; rfl]
    have hsl : sto.length = 16 := by rw [hsto, stolen, qb9]
    have hr16 : d.length % 16 ≤ 16 := by omega
    simp (disch := first | omega | decide | simp only [qaf, qad, qag, qae, qah, qac, qaa, qab, qai]) only [qav, qap, qao, qam, qal, qar, qaC, qaH, qas, qaK, qaJ, qa3, qaY, qaj, List.set_cons_zero, List.set_cons_succ, List.getD_cons_zero, List.getD_cons_succ, List.map_cons, List.map_nil, List.flatMap_cons, List.flatMap_nil, List.nil_append, List.append_nil, List.length_cons, List.length_nil, Nat.reduceAdd, Nat.reduceSub, List.all_cons, List.all_nil, Bool.and_true, Nat.reduceLT, if_true, Nat.zero_add, Nat.add_zero, decide_true, Nat.mul_one, Nat.add_zero, Nat.zero_add, N_add, N_nat, Nat.reduceLT, Nat.reduceAdd, decide_true, Bool.not_false, lenS_sl, qb6, qbZ, op_slcS, slcV_none, getD_some, qaz, qaS, qau, Nat.mul_one, qa7, qbr, qbY, nms_fn, List.contains_cons, List.contains_nil, Bool.or_true, Bool.or_false, ordOk, qaZ, List.all_cons, List.all_nil, Nat.testBit, Nat.reduceShiftRight, Nat.reduceAnd, Nat.reduceBEq, Bool.not_false, Bool.and_self, Bool.and_true, Nat.reduceSub, Nat.reduceLT, bne, qbh, qbN, qbP, Bool.and_true, qaM, qan, qan, qaM, hsr, qaT]
    obtain ⟨rst, hrst⟩ : ∃ rst, rst = d.drop (16 * m + 16) := ⟨_, rfl⟩
    have hrsl : rst.length = d.length % 16 := by rw [hrst, List.length_drop]; omega
    generalize hG3 : upd G2 (26, 0) _ = G3
    have P3 : PH G3 n la lb := by rw [← hG3]; exact P2.up _ _ (by decide)
    have r1 : G3 (1, 0) = some (bs (outI E (tw0 n lb u) d m)) := by rw [← hG3]; exact q1
    have rb : G3 (11, 0) = some [B64 (lo (tw2 (tw0 n lb u) m true)), B64 (Xf.hi (tw2 (tw0 n lb u) m true))] := by rw [← hG3]; exact qb
    have rs : G3 (26, 0) = some (bs sto) := by rw [← hG3]; rfl
    clear hG3 q1 qb P2 hre K3 hsn G2
    have hre : qbd G3 FUEL [] [(1, 0)] = [(1, 0)] := by
      simp only [FUEL, qaD, qaB, qax, List.nil_append, List.append_nil, List.contains_nil, Bool.false_eq_true, if_false, qaw, r1]
    have hsn : snap (only [(1, 0)] G3) D (.sl (1, 0) (16 * m + 16) (d.length % 16) none 1) = some (.isl (bs rst) rst.length, [(1, 0)]) := by
      rw [snap_bytes (H := only [(1, 0)] G3) (1, 0) (16 * m + 16) (d.length % 16) none (outI E (tw0 n lb u) d m) r1 hr, outI_drop16, ← hrst, List.take_of_length_le (by omega), hrsl]
    rw [hre, c_xclone (k + 4994) _ _ _ rst [(1, 0)] hsn (by omega) (by omega), hrsl]
    have hfk : frontK (d.length % 16) 1 (16 - d.length % 16) (some (bs sto)) = some (bs (sto.drop (d.length % 16))) := by
      rw [frontK, if_pos (by rw [qad]; omega), bs_drop, bs_take, List.take_of_length_le (by rw [List.length_drop]; omega)]
    have e16 : d.length % 16 + (16 - d.length % 16) = 16 := by omega
    have htk : rst.take (d.length % 16) = rst := List.take_of_length_le (by omega)
    obtain ⟨las, hlas⟩ : ∃ las, las = rst ++ sto.drop (d.length % 16) := ⟨_, rfl⟩
    have hlas' : las = lastB E (tw0 n lb u) d true m := by rw [hlas, hrst, hsto]; rfl
    have hlasl : las.length = 16 := by rw [hlas, List.length_append, List.length_drop]; omega
    simp (disch := first | omega | decide | simp only [qaf, qad, qag, qae, qah, qac, qaa, qab, qai]) only [qav, qap, qao, qam, qal, qar, qaC, qaH, qas, qaK, qa3, qaY, qaj, List.set_cons_zero, List.set_cons_succ, List.getD_cons_zero, List.getD_cons_succ, List.map_cons, List.map_nil, List.flatMap_cons, List.flatMap_nil, List.nil_append, List.cons_append, List.append_nil, List.length_cons, List.length_nil, Nat.reduceAdd, Nat.reduceSub, qaq, qaQ, qbM, qbU, op_ld, agg_Hf, nms_Hf, List.take_succ_cons, List.drop_zero, List.take_nil, List.all_cons, List.all_nil, Bool.and_true, Prod.mk.injEq, Nat.reduceEqDiff, Nat.reduceLT, and_true, if_true, if_false, Nat.zero_add, Nat.add_zero, Nat.le_refl, decide_true, decide_false, Nat.mul_one, Nat.add_zero, Nat.zero_add, N_nat, Nat.reduceLT, Nat.reduceEqDiff, Nat.reduceAdd, decide_false, decide_true, nm_beq, Bool.not_false, Bool.not_true, lenS_sl, lenOf_sl, op_append, appK_some, appF_some, appX_none, appN_bytes, qb6, qbZ, op_slcS, slcV_none, slcV_cap, getD_some, qaz, qaS, qau, qa2, Nat.mul_one, qa7, qbr, qbV, touch_ld, qbY, nms_fn, qaI, List.contains_cons, List.contains_nil, beq_self_eq_true, Bool.or_true, Bool.or_false, ordOk, qaZ, List.all_cons, List.all_nil, Nat.testBit, Nat.reduceShiftRight, Nat.reduceAnd, Nat.reduceBEq, Bool.not_true, Bool.not_false, Bool.and_self, Bool.and_true, Bool.and_false, Nat.reduceSub, Nat.reduceLT, bne, qbh, qbN, trimO_f, qbA, isCall_ld, isCall_append, qbP, Bool.and_false, Bool.and_true, front_sl, qaM, qan, touch_append, qan, qaM, rb, rs, hfk, e16, htk, ← hlas, qaT, nms_fn1, List.cons_append, List.nil_append, agg_Hf]
    generalize hG4 : upd (upd (upd G3 (32, 0) _) (32, 0) _) (36, 0) _ = G4
    have P4 : PH G4 n la lb := by rw [← hG4]; exact ((P3.up _ _ (by decide)).up _ _ (by decide)).up _ _ (by decide)
    have s1 : G4 (1, 0) = some (bs (outI E (tw0 n lb u) d m)) := by rw [← hG4]; exact r1
    have ss : G4 (26, 0) = some (bs sto) := by rw [← hG4]; exact rs
    have sl : G4 (36, 0) = some (bs las) := by rw [← hG4]; rfl
    clear hG4 r1 rb rs P3 hre hsn G3
    have hre : qbd G4 FUEL [] [(0, 1), (36, 0)] = [(0, 1), (0, 2), (36, 0)] := by
      simp only [FUEL, qaD, qaB, qax, List.nil_append, List.cons_append, List.append_nil, List.contains_nil, List.contains_cons, Prod.mk.injEq, beq_iff_eq, Bool.or_eq_true, Bool.false_eq_true, Nat.reduceEqDiff, and_false, or_false, if_false, Nat.zero_ne_one, KA_nms, qaw, P4.g1, P4.g2, sl]
    have K4 : KG (only [(0, 1), (0, 2), (36, 0)] G4) (0, 1) (0, 2) (n + 2) none la := ⟨P4.g1, P4.g2, by decide⟩
    have hsn : snap (only [(0, 1), (0, 2), (36, 0)] G4) D (.sl (36, 0) 0 16 none 1) = some (.isl (bs las) 16, [(36, 0)]) := by
      rw [snap_bytes (H := only [(0, 1), (0, 2), (36, 0)] G4) (36, 0) 0 16 none las sl (by decide), List.drop_zero, List.take_of_length_le (by omega)]
    rw [hre, c_with (k + 4919) _ g n la E hE (tw2 (tw0 n lb u) m true) _ (0, 1) (0, 2) (36, 0) K4 _ las hlasl hsn ⟨by decide, by decide⟩, tr_KGn _ _ _ _ _ _ _ _ K4]
    simp (disch := first | omega | decide | simp only [qaf, qad, qag, qae, qah, qac, qaa, qab, qai]) only [qar, qaC, List.set_cons_zero, List.set_cons_succ, List.getD_cons_zero, List.getD_cons_succ, List.map_nil, List.nil_append, List.cons_append, Nat.reduceAdd, Nat.reduceSub, List.all_cons, List.all_nil, Bool.and_true, Nat.reduceLT, if_true, Nat.zero_add, decide_true, Nat.zero_add, Nat.reduceLT, Nat.reduceAdd, decide_true, Bool.not_false, Bool.not_true, lenOf_sl, op_copy, qaz, qaS, qau, qa7, qbr, touch_copy, List.contains_cons, List.contains_nil, beq_self_eq_true, Bool.or_true, Bool.or_false, ordOk, qaZ, List.all_cons, List.all_nil, Nat.testBit, Nat.reduceShiftRight, Nat.reduceAnd, Nat.reduceBEq, Bool.not_true, Bool.not_false, Bool.and_self, Bool.and_true, Bool.and_false, Nat.reduceSub, Nat.reduceLT, bne, qbh, qbN, trimO_f, isCall_copy, Bool.and_false, Bool.and_true, qaM, qaM, qaT]
    have i5 : 16 ≤ d.length - 16 * m := by omega
    rw [cp_16 (only [(1, 0), (44, 0)] (upd G4 (44, 0) _)) (1, 0) (44, 0) (16 * m) (d.length - 16 * m) none (some 16) (outI E (tw0 n lb u) d m) (wt E (tw2 (tw0 n lb u) m true) (fl las)) s1 rfl (by omega) i5,
      show (List.range 16).map (wt E (tw2 (tw0 n lb u) m true) (fl las)) = wtl E (tw2 (tw0 n lb u) m true) las from rfl, outI_drop16, ← hrst]
    have hdn : (outI E (tw0 n lb u) d m).take (16 * m) = done E (tw0 n lb u) d m := by
      rw [outI, List.take_append, qbR, Nat.sub_self, List.take_zero, List.append_nil, List.take_of_length_le (by rw [qbR]; exact Nat.le_refl _)]
    rw [hdn]
    obtain ⟨L2, hL2⟩ : ∃ L2, L2 = done E (tw0 n lb u) d m ++ wtl E (tw2 (tw0 n lb u) m true) las ++ rst := ⟨_, rfl⟩
    have hL2l : L2.length = d.length := by rw [hL2, List.length_append, List.length_append, qbR, qb9]; omega
    have hL2t : L2.take (16 * m + 16) = done E (tw0 n lb u) d m ++ wtl E (tw2 (tw0 n lb u) m true) las := by
      rw [hL2, List.take_append_of_le_length (by rw [List.length_append, qbR, qb9]; exact Nat.le_refl _), List.take_of_length_le (by rw [List.length_append, qbR, qb9]; exact Nat.le_refl _)]
    rw [← hL2]
    simp (disch := first | omega | decide | simp only [qaf, qad, qag, qae, qah, qac, qaa, qab, qai]) only [qav, qap, qao, qam, qal, qar, qaC, qaH, qas, qaK, qaJ, qaj, List.set_cons_zero, List.set_cons_succ, List.getD_cons_zero, List.getD_cons_succ, List.map_cons, List.map_nil, List.nil_append, List.cons_append, List.length_cons, List.length_nil, Nat.reduceAdd, Nat.reduceSub, List.all_cons, List.all_nil, Bool.and_true, Nat.reduceLT, if_true, Nat.zero_add, Nat.add_zero, decide_true, decide_false, Nat.mul_one, Nat.add_zero, Nat.zero_add, N_add, N_nat, Nat.reduceLT, Nat.reduceAdd, decide_false, decide_true, nm_beq, Bool.not_false, lenS_sl, lenOf_sl, op_copy, qb6, qbZ, op_slcS, slcV_none, slcV_cap, getD_some, qaz, qau, qa2, Nat.sub_zero, Nat.mul_one, qa7, qbr, touch_copy, List.contains_cons, List.contains_nil, beq_self_eq_true, Bool.or_true, Bool.or_false, ordOk, qaZ, List.all_cons, List.all_nil, Nat.testBit, Nat.reduceShiftRight, Nat.reduceAnd, Nat.reduceBEq, Bool.not_false, Bool.and_self, Bool.and_true, Bool.and_false, Nat.reduceSub, Nat.reduceLT, bne, qbh, qbN, trimO_f, isCall_copy, Bool.and_false, Bool.and_true, qaM, qan, qan, qaM, hsr, qaT]
    rw [cp_r (only [(1, 0), (26, 0)] _) (1, 0) (26, 0) (16 * m + 16) (d.length % 16) none (some 16) L2 sto rfl (by exact ss) (by omega) (by omega) hr0, hL2t]
    have hfin : done E (tw0 n lb u) d m ++ wtl E (tw2 (tw0 n lb u) m true) las ++ sto.take (d.length % 16) = qbj E (tw0 n lb u) d true := by
      rw [qbj, if_neg hr, ← hm', hlas', hsto]
    rw [hfin]
    simp (disch := first | omega | decide | simp only [qaf, qad, qag, qae, qah, qac, qaa, qab, qai]) only [qbD, qav, qap, qao, qam, qal, qar, qaC, qaK, qaj, qbi, qbX, List.set_cons_zero, List.set_cons_succ, List.getD_cons_zero, List.getD_cons_succ, List.map_cons, List.map_nil, List.length_cons, List.length_nil, Option.map_some, Nat.reduceAdd, Nat.reduceSub, List.all_cons, List.all_nil, Bool.and_true, Nat.reduceLT, if_true, Nat.zero_add, Nat.add_zero, decide_true, Nat.add_zero, Nat.zero_add, Nat.reduceLT, Nat.reduceAdd, decide_true, nm_beq, Bool.not_false, qaz, qau, qa2, Option.map_some, List.contains_cons, List.contains_nil, beq_self_eq_true, Bool.or_true, Bool.or_false, ordOk, qaZ, List.all_cons, List.all_nil, Nat.testBit, Nat.reduceShiftRight, Nat.reduceAnd, Nat.reduceBEq, Bool.not_false, Bool.and_self, Bool.and_true, Nat.reduceSub, Nat.reduceLT, bne, Bool.and_true, qaM, qan, qan, qaM]
    rw [outOf_mem 5 _ _ [(1, 0)] (by simp only [qay, FUEL, qaD, qaB, qax, qaT, List.flatMap_cons, List.flatMap_nil, List.nil_append, List.cons_append, List.append_nil, List.map_nil, List.map_cons, List.contains_nil, List.contains_cons, Prod.mk.injEq, beq_iff_eq, Bool.or_eq_true, Bool.false_eq_true, Nat.reduceEqDiff, and_true, and_false, or_false, or_true, if_true, if_false, Nat.one_ne_zero, Nat.zero_ne_one, List.filter_cons, List.filter_nil, bne_iff_ne, ne_eq, not_false_eq_true, not_true_eq_false, qaq, range_five, PO_nms, KA_nms, qaw, qaT, P4.g0, P4.g1, P4.g2, P4.g3, P4.g4])]
    simp (disch := first | omega | decide | simp only [qaf, qad, qag, qae, qah, qac, qaa, qab, qai]) only [List.map_cons, List.map_nil, Option.map_some, qaq, Prod.mk.injEq, Nat.reduceEqDiff, and_true, false_and, if_true, if_false, Nat.zero_add, Nat.zero_ne_one, idx_cons, canonMap_ne, List.filterMap_nil, Option.map_some, qaE, List.filterMap_cons, qaX, qbe, range_five, PO_ren, KA_ren, qaE, qaX, P4.g0, P4.g1, P4.g2, P4.g3, P4.g4]


theorem run_F (k g n : Nat) (hn : n ≤ 20) (la lb : List (BitVec 8)) (hlb : lb.length = 16 * (n + 2)) (E : R → R) (hE : Way g n la E) (u : BitVec 64) (d : List (BitVec 8)) (h16 : 16 ≤ d.length) (hd2 : d.length ≤ 65536) (tu : Bool) :
    F C (k + 5000) 44 [.ptr (0, 0) 0, B64 u, .isl (bs d) d.length, .fn (.func g) [.ptr (0, 1) 0] [], Bo tu] [PO, KA 2 n, bs la, KA 4 n, bs lb] =
    some (.sl (1, 0) 0 d.length none 1, [some PO, some (KA 2 n), some (bs la), some (KA 4 n), some (bs lb)], [bs (qbj E (tw0 n lb u) d tu)]) := by
  by_cases hr : d.length % 16 = 0
  · exact run_whole k g n hn la lb hlb E hE u d h16 hd2 tu hr
  · cases tu
    · exact run_part_false k g n hn la lb hlb E hE u d h16 hd2 hr
    · exact run_part_true k g n hn la lb hlb E hE u d h16 hd2 hr
end Aes

namespace Aes
open Go Go.LE Xf
set_option maxRecDepth 20000

theorem call_gen (K b g : Nat) (H : Heap) (args args1 args' : List LV) (ns lent : List Nm) (objs' : List qat) (res : CallRes) (hl : lend H (lentF g) 0 args = some (args1, lent)) (hr : qbd H FUEL [] (args1.flatMap (nms D)) = ns)
    (hd : lent.any (fun n => ns.contains n) = false) (ha : args1.map (ren D (qa1 ns)) = args') (ho : (ns.filterMap H).map (fun cs => cs.map (ren D (qa1 ns))) = objs') (hF : F C K g args' objs' = some res) (hp : plainRes res = true) :
    qbl (envC C K) H b g args = some (backTo ns b res) := by
  rw [callOp_L, envC_borrow, C_bor, hl, callL_some, hr, callN_eq _ _ _ _ _ hd, ha, ho, envC_cal, hF, resK_any _ _ _ _ hp]
/-- a pair in memory -/
structure XG (H : Heap) (p a ka b kb : Nm) (n : Nat) (la lb : List (BitVec 8)) : Prop where
  hp : H p = some [.ptr a 0, .ptr b 0]
  ha : H a = some (CF (.sl ka 0 (n + 2) none 16) TB)
  hka : H ka = some (bs la)
  hb : H b = some (CF (.sl kb 0 (n + 2) none 16) TB)
  hkb : H kb = some (bs lb)
  nd : [p, a, ka, b, kb].Nodup
def modX (p a ka b kb : Nm) (n : Nat) (la lb : List (BitVec 8)) : List (Nm × Option qat) :=
  [(p, some [.ptr a 0, .ptr b 0]), (a, some (CF (.sl ka 0 (n + 2) none 16) TB)), (ka, some (bs la)), (b, some (CF (.sl kb 0 (n + 2) none 16) TB)), (kb, some (bs lb))]
theorem XG.same {H : Heap} {p a ka b kb : Nm} {n : Nat} {la lb : List (BitVec 8)} (h : XG H p a ka b kb n la lb) : modN (modX p a ka b kb n la lb) H = H := by
  simp only [modX, qa2, qau, qaA h.hkb, qaA h.hb, qaA h.hka, qaA h.ha, qaA h.hp]
theorem XG.tr {H : Heap} {p a ka b kb : Nm} {n : Nat} {la lb : List (BitVec 8)} (h : XG H p a ka b kb n la lb) (v : LV) (news : List qat) : trimO true H (some ⟨v, news, modX p a ka b kb n la lb⟩) = some ⟨v, news, []⟩ := by
  refine trimO_same _ _ _ _ fun q hm => ?_
  simp only [modX, List.mem_cons, List.not_mem_nil, or_false] at hm
  rcases hm with rfl | rfl | rfl | rfl | rfl
  · simp only [h.hp, sameO]; simp [sameL, same1]
  · simp only [h.ha, sameO, same_CF]
  · simp only [h.hka, sameO, same_bs]
  · simp only [h.hb, sameO, same_CF]
  · simp only [h.hkb, sameO, same_bs]
theorem XG.ne {H : Heap} {p a ka b kb : Nm} {n : Nat} {la lb : List (BitVec 8)} (h : XG H p a ka b kb n la lb) : (a ≠ p ∧ ka ≠ p ∧ b ≠ p ∧ kb ≠ p) ∧ (ka ≠ a ∧ b ≠ a ∧ kb ≠ a) ∧ (b ≠ ka ∧ kb ≠ ka) ∧ kb ≠ b := by
  have := h.nd
  simp only [List.nodup_cons, List.mem_cons, List.not_mem_nil, or_false, not_or, List.nodup_nil, not_false_eq_true, and_true] at this
  obtain ⟨⟨h1, h2, h3, h4⟩, ⟨h5, h6, h7⟩, ⟨h8, h9⟩, h10⟩ := this
  exact ⟨⟨fun e => h1 e.symm, fun e => h2 e.symm, fun e => h3 e.symm, fun e => h4 e.symm⟩, ⟨fun e => h5 e.symm, fun e => h6 e.symm, fun e => h7 e.symm⟩, ⟨fun e => h8 e.symm, fun e => h9 e.symm⟩, fun e => h10 e.symm⟩
theorem XG.reach {H : Heap} {p a ka b kb : Nm} {n : Nat} {la lb : List (BitVec 8)} (h : XG H p a ka b kb n la lb) : qbd H FUEL [] [p] = [p, a, ka, b, kb] := by
  obtain ⟨⟨h1, h2, h3, h4⟩, ⟨h5, h6, h7⟩, ⟨h8, h9⟩, h10⟩ := h.ne
  simp only [FUEL, qaD, List.contains_nil, Bool.false_eq_true, if_false, h.hp, qaB, qaI, qaR, qaT, qaw, List.flatMap_cons, List.flatMap_nil, List.nil_append, List.cons_append, List.append_nil, List.contains_cons, beq_iff_eq, h1, h2, h3, h4, h5, h6, h7, h8, h9, h10, Bool.or_false, Bool.or_eq_true, or_self, h.ha, h.hka, h.hb, h.hkb, qax]
theorem XG.reach2 {H : Heap} {p a ka b kb : Nm} {n : Nat} {la lb : List (BitVec 8)} (h : XG H p a ka b kb n la lb) : Go.LE.qbd H FUEL [] [p, a] = [p, a, ka, b, kb] := by
  obtain ⟨⟨h1, h2, h3, h4⟩, ⟨h5, h6, h7⟩, ⟨h8, h9⟩, h10⟩ := h.ne
  simp only [FUEL, qaD, List.contains_nil, Bool.false_eq_true, if_false, h.hp, qaB, qaI, qaR, qaT, qaw, List.flatMap_cons, List.flatMap_nil, List.nil_append, List.cons_append, List.append_nil, List.contains_cons, beq_iff_eq, h1, h2, h3, h4, h5, h6, h7, h8, h9, h10, Bool.or_false, Bool.or_eq_true, or_self, h.ha, h.hka, h.hb, h.hkb, qax, beq_self_eq_true, Bool.or_true, Bool.true_or, if_true]
theorem XG.cee {H : Heap} {p a ka b kb : Nm} {n : Nat} {la lb : List (BitVec 8)} (h : XG H p a ka b kb n la lb) : qa1 [p, a, ka, b, kb] p = some (0, 0) ∧ qa1 [p, a, ka, b, kb] a = some (0, 1) ∧ qa1 [p, a, ka, b, kb] ka = some (0, 2) ∧ qa1 [p, a, ka, b, kb] b = some (0, 3) ∧ qa1 [p, a, ka, b, kb] kb = some (0, 4) := by
  obtain ⟨⟨h1, h2, h3, h4⟩, ⟨h5, h6, h7⟩, ⟨h8, h9⟩, h10⟩ := h.ne
  refine ⟨?_, ?_, ?_, ?_, ?_⟩ <;> simp [qa1, idx, Ne.symm h1, Ne.symm h2, Ne.symm h3, Ne.symm h4, Ne.symm h5, Ne.symm h6, Ne.symm h7, Ne.symm h8, Ne.symm h9, Ne.symm h10]
theorem c_run (k g n base : Nat) (hn : n ≤ 20) (H : Heap) (p a ka b kb : Nm) (la lb : List (BitVec 8)) (X : XG H p a ka b kb n la lb) (hlb : lb.length = 16 * (n + 2)) (E : R → R) (hE : Way g n la E) (u : BitVec 64) (V : LV) (d : List (BitVec 8)) (lent : List Nm)
    (hs : snap H D V = some (.isl (bs d) d.length, lent)) (hx : ∀ x ∈ lent, x ∉ [p, a, ka, b, kb]) (h16 : 16 ≤ d.length) (hd2 : d.length ≤ 65536) (tu : Bool) :
    qbl (envC C (k + 5000)) H base 44 [.ptr p 0, B64 u, V, .fn (.func g) [.ptr a 0] [], Bo tu] = some ⟨.sl (base, 0) 0 d.length none 1, [bs (qbj E (tw0 n lb u) d tu)], modX p a ka b kb n la lb⟩ := by
  obtain ⟨c0, c1, c2, c3, c4⟩ := X.cee
  have hl : lend H (lentF 44) 0 [.ptr p 0, B64 u, V, .fn (.func g) [.ptr a 0] [], Bo tu] = some ([.ptr p 0, B64 u, .isl (bs d) d.length, .fn (.func g) [.ptr a 0] [], Bo tu], lent) := by
    rw [lend_cons, lend_cons, lend_cons, lend_cons, lend_cons, lend_nil, if_neg (show ¬ lentF 44 0 = true by decide), if_neg (show ¬ lentF 44 (0 + 1) = true by decide), if_pos (show lentF 44 (0 + 1 + 1) = true by decide), if_neg (show ¬ lentF 44 (0 + 1 + 1 + 1) = true by decide), if_neg (show ¬ lentF 44 (0 + 1 + 1 + 1 + 1) = true by decide), hs, lendC_some, lendC_some, lendC_some, lendC_some, lendC_some]
    simp
  have hr : Go.LE.qbd H FUEL [] (([.ptr p 0, B64 u, .isl (bs d) d.length, .fn (.func g) [.ptr a 0] [], Bo tu] : List LV).flatMap (nms D)) = [p, a, ka, b, kb] := by
    have e : ([.ptr p 0, B64 u, .isl (bs d) d.length, .fn (.func g) [.ptr a 0] [], Bo tu] : List LV).flatMap (nms D) = [p, a] := by
      simp only [List.flatMap_cons, List.flatMap_nil, ibs_nms, List.append_nil, nms_fn1, qaI, nms_B64, nms_Bo, List.nil_append, List.cons_append]
    rw [e, X.reach2]
  have hd : lent.any (fun n => [p, a, ka, b, kb].contains n) = false := by
    rw [List.any_eq_false]; intro x h; have := hx x h; simpa using this
  have ha : ([.ptr p 0, B64 u, .isl (bs d) d.length, .fn (.func g) [.ptr a 0] [], Bo tu] : List LV).map (ren D (qa1 [p, a, ka, b, kb])) = [.ptr (0, 0) 0, B64 u, .isl (bs d) d.length, .fn (.func g) [.ptr (0, 1) 0] [], Bo tu] := by
    have e : ren 7 (qa1 [p, a, ka, b, kb]) (.ptr a 0) = .ptr (0, 1) 0 := by
      show (match (qa1 [p, a, ka, b, kb] a) with | some n => LV.ptr n 0 | none => _) = _
      rw [c1]
    simp only [List.map_cons, List.map_nil, qbk, c0, qbH, ren_fn1, e, qbT, ren_Bo, qbI]
  have ho : ([p, a, ka, b, kb].filterMap H).map (fun cs => cs.map (ren D (qa1 [p, a, ka, b, kb]))) = [PO, KA 2 n, bs la, KA 4 n, bs lb] := by
    simp only [List.filterMap_cons, List.filterMap_nil, X.hp, X.ha, X.hka, X.hb, X.hkb, List.map_cons, List.map_nil, qbk, c1, c3, qbH, qaV, qaX, c2, c4, qbe, qaE, PO, KA]
  have hp : plainRes (.sl (1, 0) 0 d.length none 1, [some PO, some (KA 2 n), some (bs la), some (KA 4 n), some (bs lb)], [bs (qbj E (tw0 n lb u) d tu)]) = true := by
    simp only [plainRes, List.all_nil, List.all_cons, noImm_bs, KA, noImm_CF]; rfl
  rw [call_gen _ base 44 H _ _ _ _ _ _ _ hl hr hd ha ho (run_F k g n hn la lb hlb E hE u d h16 hd2 tu) hp, backTo_eq]
  simp only [PO, KA, modX, List.zipWith_cons_cons, List.zipWith_nil_left, Option.map_some, List.map_cons, List.map_nil, qbk, qaX, qaV, qaE, toCaller_0, toCaller_1, List.getElem?_cons_zero, List.getElem?_cons_succ, qbH, qbe, List.length_cons, List.length_nil, Nat.zero_add, Nat.lt_one_iff]
end Aes

namespace Aes
open Go Go.LE Xf
set_option maxRecDepth 20000

theorem qak {H : Heap} {f : Nat} {seen : List Nm} {n : Nm} {todo : List Nm} {cs : qat} {ns : List Nm} (hs : seen.contains n = false) (hH : H n = some cs) (hN : cs.flatMap (nms D) = ns) : qbd H (f + 1) seen (n :: todo) = qbd H f (seen ++ [n]) (ns ++ todo) := by
  rw [qaD, hs, hH, qaB, hN]; rfl
theorem qaG {H : Heap} {f : Nat} {seen : List Nm} {n : Nm} {todo : List Nm} (hs : seen.contains n = true) : qbd H (f + 1) seen (n :: todo) = qbd H f seen todo := by
  rw [qaD, hs]; rfl
theorem canon_of {H : Heap} {np : Nat} {ret : LV} {l ns names : List Nm} (hl : (List.range np).map (fun i => (0, i)) ++ [ret].flatMap (nms D) = l) (h : qbd H FUEL [] l = ns) (hf : ns.filter (fun n => n.1 != 0) = names) : qay H np [ret] = names := by
  rw [qay, hl, h, hf]
theorem out_fin {np : Nat} {st : St} {ret : LV} {names : List Nm} {o : CallRes} (h : qay st.H np [ret] = names)
    (e : (ren D (qb5 names) ret, (List.range np).map (fun i => (st.H (0, i)).map fun cs => cs.map (ren D (qb5 names))), (names.filterMap st.H).map fun cs => cs.map (ren D (qb5 names))) = o) : some (outOf np st ret) = some o := by
  rw [outOf_mem np st ret names h, e]
theorem dn (d : List (BitVec 8)) {n : Nat} : ([.isl (bs d) n] : qat).flatMap (nms D) = [] := by
  rw [List.flatMap_cons, ibs_nms]; rfl
theorem callV_fn3 {E : Env} {H : Heap} {b : Nat} (g : FuncId) (x y z : LV) : callV E H b [] (.fn (.func g) [] [x, y, z]) = qbl E H b g [x, y, z] := by simp [callV]
theorem call_gen0 (K b g : Nat) (hg : lentF g = fun _ => false) (H : Heap) (args args' : List LV) (l ns : List Nm) (objs' : List qat) (res : CallRes) (hn : args.flatMap (nms D) = l) (hr : qbd H FUEL [] l = ns)
    (ha : args.map (ren D (qa1 ns)) = args') (ho : (ns.filterMap H).map (fun cs => cs.map (ren D (qa1 ns))) = objs') (hF : F C K g args' objs' = some res) :
    qbl (envC C K) H b g args = some (backTo ns b res) := by
  rw [callOp_L, envC_borrow, C_bor, hg, lend_none, callL_some, hn, hr, callN_eq _ _ _ _ _ rfl, ha, ho, envC_cal, hF]; rfl
theorem op_fn {E : Env} {tm : List LV} {H : Heap} {b : Nat} (f : Fn) (xs ys : List LX) : opRes E tm H b (.fn f xs ys) = some ⟨.fn f (xs.map (evX E.gl tm)) (ys.map (evX E.gl tm)), [], []⟩ := rfl
theorem range_6 : List.range 6 = [0, 1, 2, 3, 4, 5] := rfl
theorem range_8 : List.range 8 = [0, 1, 2, 3, 4, 5, 6, 7] := rfl
theorem range_9 : List.range 9 = [0, 1, 2, 3, 4, 5, 6, 7, 8] := rfl
theorem fn3_nms (g : FuncId) (a b c : Nm) : nms D (.fn (.func g) [] [.ptr a 0, .ptr b 0, .ptr c 0]) = [a, b, c] := rfl

theorem clo43I_F (k n : Nat) (hn : n ≤ 20) (la lb : List (BitVec 8)) (hla : la.length = 16 * (n + 2)) (hlb : lb.length = 16 * (n + 2)) (u : BitVec 64) (d : List (BitVec 8)) (h16 : 16 ≤ d.length) (hd2 : d.length ≤ 65536) :
    F C (k + 5001) 43 [.ptr (0, 0) 0, .ptr (0, 6) 0, .ptr (0, 7) 0] [[.ptr (0, 1) 0], [.ptr (0, 2) 0, .ptr (0, 4) 0], CF (.sl (0, 3) 0 (n + 2) none 16) TB, bs la, CF (.sl (0, 5) 0 (n + 2) none 16) TB, bs lb, [B64 u], [.isl (bs d) d.length]] = some (.sl (1, 0) 0 d.length none 1, [some ([.ptr (0, 1) 0]), some ([.ptr (0, 2) 0, .ptr (0, 4) 0]), some (CF (.sl (0, 3) 0 (n + 2) none 16) TB), some (bs la), some (CF (.sl (0, 5) 0 (n + 2) none 16) TB), some (bs lb), some ([B64 u]), some ([.isl (bs d) d.length])], [bs (qbj (enc (kf la) n) (tw0 n lb u) d false)]) := by
  rw [qbK f43]
  generalize hG : inHeap [[.ptr (0, 1) 0], [.ptr (0, 2) 0, .ptr (0, 4) 0], CF (.sl (0, 3) 0 (n + 2) none 16) TB, bs la, CF (.sl (0, 5) 0 (n + 2) none 16) TB, bs lb, [B64 u], [.isl (bs d) d.length]] = G
  have x00 : G (0, 0) = some ([.ptr (0, 1) 0]) := by rw [← hG]; rfl
  have x01 : G (0, 1) = some ([.ptr (0, 2) 0, .ptr (0, 4) 0]) := by rw [← hG]; rfl
  have x02 : G (0, 2) = some (CF (.sl (0, 3) 0 (n + 2) none 16) TB) := by rw [← hG]; rfl
  have x03 : G (0, 3) = some (bs la) := by rw [← hG]; rfl
  have x04 : G (0, 4) = some (CF (.sl (0, 5) 0 (n + 2) none 16) TB) := by rw [← hG]; rfl
  have x05 : G (0, 5) = some (bs lb) := by rw [← hG]; rfl
  have x06 : G (0, 6) = some ([B64 u]) := by rw [← hG]; rfl
  have x07 : G (0, 7) = some ([.isl (bs d) d.length]) := by rw [← hG]; rfl
  have X : XG G (0, 1) (0, 2) (0, 3) (0, 4) (0, 5) n la lb := ⟨x01, x02, x03, x04, x05, by decide⟩
  have X' : XG (only [(0, 1), (0, 2), (0, 3), (0, 4), (0, 5)] G) (0, 1) (0, 2) (0, 3) (0, 4) (0, 5) n la lb := ⟨x01, x02, x03, x04, x05, by decide⟩
  have hre : qbd G FUEL [] [(0, 1), (0, 2)] = [(0, 1), (0, 2), (0, 3), (0, 4), (0, 5)] := (qak rfl x01 rfl).trans ((qak rfl x02 (qaR _ _)).trans ((qak rfl x03 (qaw _)).trans ((qak rfl x04 (qaR _ _)).trans ((qak rfl x05 (qaw _)).trans ((qaG rfl).trans (qax _ _ _))))))
  have hc : ∀ b, _ := fun b => c_run k 17 n b hn (only [(0, 1), (0, 2), (0, 3), (0, 4), (0, 5)] G) (0, 1) (0, 2) (0, 3) (0, 4) (0, 5) la lb X' hlb (enc (kf la) n) (way_enc n hn la hla) u (.isl (bs d) d.length) d [] (snap_isl _ _) (by decide) h16 hd2 false
  have ht : ∀ v news, _ := fun v news => X'.tr v news
  simp (disch := first | omega | decide | simp only [qaf, qad, qag, qae, qah, qac, qaa, qab, qai]) only [qba, qbD, qav, qap, qao, qam, qal, qar, qaC, qaH, qas, qaK, qa3, qaY, qaj, qbi, qbX, nms_B64, nms_Bo, List.set_cons_zero, List.set_cons_succ, List.getD_cons_zero, List.getD_cons_succ, List.map_cons, List.map_nil, List.flatMap_cons, List.flatMap_nil, List.nil_append, List.cons_append, List.append_nil, qa4, List.replicate_zero, List.length_cons, List.length_nil, Option.map_some, Nat.reduceAdd, Nat.reduceSub, qaQ, qbM, qbs, op_ld1, op_fa, faV_ptr, List.take_succ_cons, List.take_zero, List.drop_zero, List.take_nil, List.all_cons, List.all_nil, Bool.and_true, Nat.reduceLeDiff, Nat.reduceLT, if_true, Nat.zero_add, Nat.add_zero, Nat.le_refl, decide_true, Nat.add_zero, Nat.zero_add, Nat.reduceLT, Nat.reduceLeDiff, Nat.reduceAdd, decide_true, Bool.not_false, Bool.not_true, op_chk, qb3, qaz, qaS, qau, Option.map_some, ibs_nms, qa7, qbr, qbV, touch_ld1, qbY, nms_fn, qaI, List.contains_cons, List.contains_nil, beq_self_eq_true, Bool.or_true, Bool.or_false, ordOk, qaZ, List.all_cons, List.all_nil, Nat.testBit, Nat.reduceShiftRight, Nat.reduceAnd, Nat.reduceBEq, Bool.not_true, Bool.not_false, Bool.and_self, Bool.and_true, Bool.and_false, Nat.reduceSub, Nat.reduceLT, bne, qbh, qbN, qbA, qb8, qbP, Bool.and_false, Bool.and_true, qaM, qan, qan, qaM, L43, hG, op_fn, x00, x01, x06, x07, nms_fn1, ibs_nms, hre, hc, ht, List.nil_append, List.cons_append]
  generalize hQ : upd G (11, 0) (some (bs (qbj (enc (kf la) n) (tw0 n lb u) d false))) = Q
  have y00 : Q (0, 0) = some ([.ptr (0, 1) 0]) := by rw [← hQ]; exact x00
  have y01 : Q (0, 1) = some ([.ptr (0, 2) 0, .ptr (0, 4) 0]) := by rw [← hQ]; exact x01
  have y02 : Q (0, 2) = some (CF (.sl (0, 3) 0 (n + 2) none 16) TB) := by rw [← hQ]; exact x02
  have y03 : Q (0, 3) = some (bs la) := by rw [← hQ]; exact x03
  have y04 : Q (0, 4) = some (CF (.sl (0, 5) 0 (n + 2) none 16) TB) := by rw [← hQ]; exact x04
  have y05 : Q (0, 5) = some (bs lb) := by rw [← hQ]; exact x05
  have y06 : Q (0, 6) = some ([B64 u]) := by rw [← hQ]; exact x06
  have y07 : Q (0, 7) = some ([.isl (bs d) d.length]) := by rw [← hQ]; exact x07
  have yn : Q (11, 0) = some (bs (qbj (enc (kf la) n) (tw0 n lb u) d false)) := by rw [← hQ]; rfl
  have hch : qbd Q FUEL [] [(0, 0), (0, 1), (0, 2), (0, 3), (0, 4), (0, 5), (0, 6), (0, 7), (11, 0)] = [(0, 0), (0, 1), (0, 2), (0, 3), (0, 4), (0, 5), (0, 6), (0, 7), (11, 0)] := (qak rfl y00 rfl).trans ((qak rfl y01 rfl).trans ((qak rfl y02 (qaR _ _)).trans ((qak rfl y03 (qaw _)).trans ((qak rfl y04 (qaR _ _)).trans ((qak rfl y05 (qaw _)).trans ((qaG rfl).trans ((qaG rfl).trans ((qaG rfl).trans ((qaG rfl).trans ((qaG rfl).trans ((qak rfl y06 rfl).trans ((qak rfl y07 (dn _)).trans ((qak rfl yn (qaw _)).trans (qax _ _ _))))))))))))))
  have hcn : qay Q 8 [.sl (11, 0) 0 d.length none 1] = [(11, 0)] := canon_of rfl hch rfl
  refine out_fin hcn ?_
  simp (disch := first | omega | decide | simp only [qaf, qad, qag, qae, qah, qac, qaa, qab, qai]) only [qbT, List.map_cons, List.map_nil, Option.map_some, if_true, Nat.zero_add, idx_cons, qby, canonMap_ne, List.filterMap_nil, Option.map_some, qaE, qbI, List.filterMap_cons, qbk, qaX, qbH, qbe, range_8, qaV, qaE, qbI, qaX, qbk, qbT, y00, y01, y02, y03, y04, y05, y06, y07, yn]

theorem clo43S_F (k n : Nat) (hn : n ≤ 20) (la lb : List (BitVec 8)) (hla : la.length = 16 * (n + 2)) (hlb : lb.length = 16 * (n + 2)) (u : BitVec 64) (d : List (BitVec 8)) (L : List (BitVec 8)) (off : Nat) (c : Option Nat) (hL : (L.drop off).take d.length = d) (h16 : 16 ≤ d.length) (hd2 : d.length ≤ 65536) :
    F C (k + 5001) 43 [.ptr (0, 0) 0, .ptr (0, 6) 0, .ptr (0, 7) 0] [[.ptr (0, 1) 0], [.ptr (0, 2) 0, .ptr (0, 4) 0], CF (.sl (0, 3) 0 (n + 2) none 16) TB, bs la, CF (.sl (0, 5) 0 (n + 2) none 16) TB, bs lb, [B64 u], [.sl (0, 8) off d.length c 1], bs L] = some (.sl (1, 0) 0 d.length none 1, [some ([.ptr (0, 1) 0]), some ([.ptr (0, 2) 0, .ptr (0, 4) 0]), some (CF (.sl (0, 3) 0 (n + 2) none 16) TB), some (bs la), some (CF (.sl (0, 5) 0 (n + 2) none 16) TB), some (bs lb), some ([B64 u]), some ([.sl (0, 8) off d.length c 1]), some (bs L)], [bs (qbj (enc (kf la) n) (tw0 n lb u) d false)]) := by
  rw [qbK f43]
  generalize hG : inHeap [[.ptr (0, 1) 0], [.ptr (0, 2) 0, .ptr (0, 4) 0], CF (.sl (0, 3) 0 (n + 2) none 16) TB, bs la, CF (.sl (0, 5) 0 (n + 2) none 16) TB, bs lb, [B64 u], [.sl (0, 8) off d.length c 1], bs L] = G
  have x00 : G (0, 0) = some ([.ptr (0, 1) 0]) := by rw [← hG]; rfl
  have x01 : G (0, 1) = some ([.ptr (0, 2) 0, .ptr (0, 4) 0]) := by rw [← hG]; rfl
  have x02 : G (0, 2) = some (CF (.sl (0, 3) 0 (n + 2) none 16) TB) := by rw [← hG]; rfl
  have x03 : G (0, 3) = some (bs la) := by rw [← hG]; rfl
  have x04 : G (0, 4) = some (CF (.sl (0, 5) 0 (n + 2) none 16) TB) := by rw [← hG]; rfl
  have x05 : G (0, 5) = some (bs lb) := by rw [← hG]; rfl
  have x06 : G (0, 6) = some ([B64 u]) := by rw [← hG]; rfl
  have x07 : G (0, 7) = some ([.sl (0, 8) off d.length c 1]) := by rw [← hG]; rfl
  have x08 : G (0, 8) = some (bs L) := by rw [← hG]; rfl
  have X : XG G (0, 1) (0, 2) (0, 3) (0, 4) (0, 5) n la lb := ⟨x01, x02, x03, x04, x05, by decide⟩
  have X' : XG (only [(0, 1), (0, 2), (0, 3), (0, 4), (0, 5), (0, 8)] G) (0, 1) (0, 2) (0, 3) (0, 4) (0, 5) n la lb := ⟨x01, x02, x03, x04, x05, by decide⟩
  have hre : qbd G FUEL [] [(0, 1), (0, 8), (0, 2)] = [(0, 1), (0, 2), (0, 3), (0, 4), (0, 5), (0, 8)] := (qak rfl x01 rfl).trans ((qak rfl x02 (qaR _ _)).trans ((qak rfl x03 (qaw _)).trans ((qak rfl x04 (qaR _ _)).trans ((qak rfl x05 (qaw _)).trans ((qak rfl x08 (qaw _)).trans ((qaG rfl).trans (qax _ _ _)))))))
  have hc : ∀ b, _ := fun b => c_run k 17 n b hn (only [(0, 1), (0, 2), (0, 3), (0, 4), (0, 5), (0, 8)] G) (0, 1) (0, 2) (0, 3) (0, 4) (0, 5) la lb X' hlb (enc (kf la) n) (way_enc n hn la hla) u (.sl (0, 8) off d.length c 1) d [(0, 8)] (by rw [snap_bytes (H := only [(0, 1), (0, 2), (0, 3), (0, 4), (0, 5), (0, 8)] G) (0, 8) off d.length c L x08 (by omega), hL]) (by decide) h16 hd2 false
  have ht : ∀ v news, _ := fun v news => X'.tr v news
  simp (disch := first | omega | decide | simp only [qaf, qad, qag, qae, qah, qac, qaa, qab, qai]) only [qba, qbD, qav, qap, qao, qam, qal, qar, qaC, qaH, qas, qaK, qa3, qaY, qaj, qbi, qbX, nms_B64, nms_Bo, List.set_cons_zero, List.set_cons_succ, List.getD_cons_zero, List.getD_cons_succ, List.map_cons, List.map_nil, List.flatMap_cons, List.flatMap_nil, List.nil_append, List.cons_append, List.append_nil, qa4, List.replicate_zero, List.length_cons, List.length_nil, Option.map_some, Nat.reduceAdd, Nat.reduceSub, qaQ, qbM, qbs, op_ld1, op_fa, faV_ptr, List.take_succ_cons, List.take_zero, List.drop_zero, List.take_nil, List.all_cons, List.all_nil, Bool.and_true, Nat.reduceLeDiff, Nat.reduceLT, if_true, Nat.zero_add, Nat.add_zero, Nat.le_refl, decide_true, Nat.add_zero, Nat.zero_add, Nat.reduceLT, Nat.reduceLeDiff, Nat.reduceAdd, decide_true, Bool.not_false, Bool.not_true, op_chk, qb3, qaz, qaS, qau, Option.map_some, qa7, qbr, qbV, touch_ld1, qbY, nms_fn, qaI, List.contains_cons, List.contains_nil, beq_self_eq_true, Bool.or_true, Bool.or_false, ordOk, qaZ, List.all_cons, List.all_nil, Nat.testBit, Nat.reduceShiftRight, Nat.reduceAnd, Nat.reduceBEq, Bool.not_true, Bool.not_false, Bool.and_self, Bool.and_true, Bool.and_false, Nat.reduceSub, Nat.reduceLT, bne, qbh, qbN, qbA, qb8, qbP, Bool.and_false, Bool.and_true, qaM, qan, qan, qaM, L43, hG, op_fn, x00, x01, x06, x07, nms_fn1, qaT, hre, hc, ht, List.nil_append, List.cons_append]
  generalize hQ : upd G (11, 0) (some (bs (qbj (enc (kf la) n) (tw0 n lb u) d false))) = Q
  have y00 : Q (0, 0) = some ([.ptr (0, 1) 0]) := by rw [← hQ]; exact x00
  have y01 : Q (0, 1) = some ([.ptr (0, 2) 0, .ptr (0, 4) 0]) := by rw [← hQ]; exact x01
  have y02 : Q (0, 2) = some (CF (.sl (0, 3) 0 (n + 2) none 16) TB) := by rw [← hQ]; exact x02
  have y03 : Q (0, 3) = some (bs la) := by rw [← hQ]; exact x03
  have y04 : Q (0, 4) = some (CF (.sl (0, 5) 0 (n + 2) none 16) TB) := by rw [← hQ]; exact x04
  have y05 : Q (0, 5) = some (bs lb) := by rw [← hQ]; exact x05
  have y06 : Q (0, 6) = some ([B64 u]) := by rw [← hQ]; exact x06
  have y07 : Q (0, 7) = some ([.sl (0, 8) off d.length c 1]) := by rw [← hQ]; exact x07
  have y08 : Q (0, 8) = some (bs L) := by rw [← hQ]; exact x08
  have yn : Q (11, 0) = some (bs (qbj (enc (kf la) n) (tw0 n lb u) d false)) := by rw [← hQ]; rfl
  have hch : qbd Q FUEL [] [(0, 0), (0, 1), (0, 2), (0, 3), (0, 4), (0, 5), (0, 6), (0, 7), (0, 8), (11, 0)] = [(0, 0), (0, 1), (0, 2), (0, 3), (0, 4), (0, 5), (0, 6), (0, 7), (0, 8), (11, 0)] := (qak rfl y00 rfl).trans ((qak rfl y01 rfl).trans ((qak rfl y02 (qaR _ _)).trans ((qak rfl y03 (qaw _)).trans ((qak rfl y04 (qaR _ _)).trans ((qak rfl y05 (qaw _)).trans ((qaG rfl).trans ((qaG rfl).trans ((qaG rfl).trans ((qaG rfl).trans ((qaG rfl).trans ((qak rfl y06 rfl).trans ((qak rfl y07 rfl).trans ((qak rfl y08 (qaw _)).trans ((qaG rfl).trans ((qak rfl yn (qaw _)).trans (qax _ _ _))))))))))))))))
  have hcn : qay Q 9 [.sl (11, 0) 0 d.length none 1] = [(11, 0)] := canon_of rfl hch rfl
  refine out_fin hcn ?_
  simp (disch := first | omega | decide | simp only [qaf, qad, qag, qae, qah, qac, qaa, qab, qai]) only [qbT, List.map_cons, List.map_nil, Option.map_some, if_true, Nat.zero_add, idx_cons, qby, canonMap_ne, List.filterMap_nil, Option.map_some, qaE, List.filterMap_cons, qbk, qaX, qbH, qbe, range_9, qaV, qaE, qaX, qbk, qbT, y00, y01, y02, y03, y04, y05, y06, y07, y08, yn]

theorem clo46I_F (k n : Nat) (hn : n ≤ 20) (la lb : List (BitVec 8)) (hla : la.length = 16 * (n + 2)) (hlb : lb.length = 16 * (n + 2)) (u : BitVec 64) (d : List (BitVec 8)) (h16 : 16 ≤ d.length) (hd2 : d.length ≤ 65536) :
    F C (k + 5001) 46 [.ptr (0, 0) 0, .ptr (0, 6) 0, .ptr (0, 7) 0] [[.ptr (0, 1) 0], [.ptr (0, 2) 0, .ptr (0, 4) 0], CF (.sl (0, 3) 0 (n + 2) none 16) TB, bs la, CF (.sl (0, 5) 0 (n + 2) none 16) TB, bs lb, [B64 u], [.isl (bs d) d.length]] = some (.sl (1, 0) 0 d.length none 1, [some ([.ptr (0, 1) 0]), some ([.ptr (0, 2) 0, .ptr (0, 4) 0]), some (CF (.sl (0, 3) 0 (n + 2) none 16) TB), some (bs la), some (CF (.sl (0, 5) 0 (n + 2) none 16) TB), some (bs lb), some ([B64 u]), some ([.isl (bs d) d.length])], [bs (qbj (dec (kf la) n) (tw0 n lb u) d true)]) := by
  rw [qbK f46]
  generalize hG : inHeap [[.ptr (0, 1) 0], [.ptr (0, 2) 0, .ptr (0, 4) 0], CF (.sl (0, 3) 0 (n + 2) none 16) TB, bs la, CF (.sl (0, 5) 0 (n + 2) none 16) TB, bs lb, [B64 u], [.isl (bs d) d.length]] = G
  have x00 : G (0, 0) = some ([.ptr (0, 1) 0]) := by rw [← hG]; rfl
  have x01 : G (0, 1) = some ([.ptr (0, 2) 0, .ptr (0, 4) 0]) := by rw [← hG]; rfl
  have x02 : G (0, 2) = some (CF (.sl (0, 3) 0 (n + 2) none 16) TB) := by rw [← hG]; rfl
  have x03 : G (0, 3) = some (bs la) := by rw [← hG]; rfl
  have x04 : G (0, 4) = some (CF (.sl (0, 5) 0 (n + 2) none 16) TB) := by rw [← hG]; rfl
  have x05 : G (0, 5) = some (bs lb) := by rw [← hG]; rfl
  have x06 : G (0, 6) = some ([B64 u]) := by rw [← hG]; rfl
  have x07 : G (0, 7) = some ([.isl (bs d) d.length]) := by rw [← hG]; rfl
  have X : XG G (0, 1) (0, 2) (0, 3) (0, 4) (0, 5) n la lb := ⟨x01, x02, x03, x04, x05, by decide⟩
  have X' : XG (only [(0, 1), (0, 2), (0, 3), (0, 4), (0, 5)] G) (0, 1) (0, 2) (0, 3) (0, 4) (0, 5) n la lb := ⟨x01, x02, x03, x04, x05, by decide⟩
  have hre : qbd G FUEL [] [(0, 1), (0, 2)] = [(0, 1), (0, 2), (0, 3), (0, 4), (0, 5)] := (qak rfl x01 rfl).trans ((qak rfl x02 (qaR _ _)).trans ((qak rfl x03 (qaw _)).trans ((qak rfl x04 (qaR _ _)).trans ((qak rfl x05 (qaw _)).trans ((qaG rfl).trans (qax _ _ _))))))
  have hc : ∀ b, _ := fun b => c_run k 19 n b hn (only [(0, 1), (0, 2), (0, 3), (0, 4), (0, 5)] G) (0, 1) (0, 2) (0, 3) (0, 4) (0, 5) la lb X' hlb (dec (kf la) n) (way_dec n hn la hla) u (.isl (bs d) d.length) d [] (snap_isl _ _) (by decide) h16 hd2 true
  have ht : ∀ v news, _ := fun v news => X'.tr v news
  simp (disch := first | omega | decide | simp only [qaf, qad, qag, qae, qah, qac, qaa, qab, qai]) only [qba, qbD, qav, qap, qao, qam, qal, qar, qaC, qaH, qas, qaK, qa3, qaY, qaj, qbi, qbX, nms_B64, nms_Bo, List.set_cons_zero, List.set_cons_succ, List.getD_cons_zero, List.getD_cons_succ, List.map_cons, List.map_nil, List.flatMap_cons, List.flatMap_nil, List.nil_append, List.cons_append, List.append_nil, qa4, List.replicate_zero, List.length_cons, List.length_nil, Option.map_some, Nat.reduceAdd, Nat.reduceSub, qaQ, qbM, qbs, op_ld1, op_fa, faV_ptr, List.take_succ_cons, List.take_zero, List.drop_zero, List.take_nil, List.all_cons, List.all_nil, Bool.and_true, Nat.reduceLeDiff, Nat.reduceLT, if_true, Nat.zero_add, Nat.add_zero, Nat.le_refl, decide_true, Nat.add_zero, Nat.zero_add, Nat.reduceLT, Nat.reduceLeDiff, Nat.reduceAdd, decide_true, Bool.not_false, Bool.not_true, op_chk, qb3, qaz, qaS, qau, Option.map_some, ibs_nms, qa7, qbr, qbV, touch_ld1, qbY, nms_fn, qaI, List.contains_cons, List.contains_nil, beq_self_eq_true, Bool.or_true, Bool.or_false, ordOk, qaZ, List.all_cons, List.all_nil, Nat.testBit, Nat.reduceShiftRight, Nat.reduceAnd, Nat.reduceBEq, Bool.not_true, Bool.not_false, Bool.and_self, Bool.and_true, Bool.and_false, Nat.reduceSub, Nat.reduceLT, bne, qbh, qbN, qbA, qb8, qbP, Bool.and_false, Bool.and_true, qaM, qan, qan, qaM, L46, hG, op_fn, x00, x01, x06, x07, nms_fn1, ibs_nms, hre, hc, ht, List.nil_append, List.cons_append]
  generalize hQ : upd G (11, 0) (some (bs (qbj (dec (kf la) n) (tw0 n lb u) d true))) = Q
  have y00 : Q (0, 0) = some ([.ptr (0, 1) 0]) := by rw [← hQ]; exact x00
  have y01 : Q (0, 1) = some ([.ptr (0, 2) 0, .ptr (0, 4) 0]) := by rw [← hQ]; exact x01
  have y02 : Q (0, 2) = some (CF (.sl (0, 3) 0 (n + 2) none 16) TB) := by rw [← hQ]; exact x02
  have y03 : Q (0, 3) = some (bs la) := by rw [← hQ]; exact x03
  have y04 : Q (0, 4) = some (CF (.sl (0, 5) 0 (n + 2) none 16) TB) := by rw [← hQ]; exact x04
  have y05 : Q (0, 5) = some (bs lb) := by rw [← hQ]; exact x05
  have y06 : Q (0, 6) = some ([B64 u]) := by rw [← hQ]; exact x06
  have y07 : Q (0, 7) = some ([.isl (bs d) d.length]) := by rw [← hQ]; exact x07
  have yn : Q (11, 0) = some (bs (qbj (dec (kf la) n) (tw0 n lb u) d true)) := by rw [← hQ]; rfl
  have hch : qbd Q FUEL [] [(0, 0), (0, 1), (0, 2), (0, 3), (0, 4), (0, 5), (0, 6), (0, 7), (11, 0)] = [(0, 0), (0, 1), (0, 2), (0, 3), (0, 4), (0, 5), (0, 6), (0, 7), (11, 0)] := (qak rfl y00 rfl).trans ((qak rfl y01 rfl).trans ((qak rfl y02 (qaR _ _)).trans ((qak rfl y03 (qaw _)).trans ((qak rfl y04 (qaR _ _)).trans ((qak rfl y05 (qaw _)).trans ((qaG rfl).trans ((qaG rfl).trans ((qaG rfl).trans ((qaG rfl).trans ((qaG rfl).trans ((qak rfl y06 rfl).trans ((qak rfl y07 (dn _)).trans ((qak rfl yn (qaw _)).trans (qax _ _ _))))))))))))))
  have hcn : qay Q 8 [.sl (11, 0) 0 d.length none 1] = [(11, 0)] := canon_of rfl hch rfl
  refine out_fin hcn ?_
  simp (disch := first | omega | decide | simp only [qaf, qad, qag, qae, qah, qac, qaa, qab, qai]) only [qbT, List.map_cons, List.map_nil, Option.map_some, if_true, Nat.zero_add, idx_cons, qby, canonMap_ne, List.filterMap_nil, Option.map_some, qaE, qbI, List.filterMap_cons, qbk, qaX, qbH, qbe, range_8, qaV, qaE, qbI, qaX, qbk, qbT, y00, y01, y02, y03, y04, y05, y06, y07, yn]

theorem clo46S_F (k n : Nat) (hn : n ≤ 20) (la lb : List (BitVec 8)) (hla : la.length = 16 * (n + 2)) (hlb : lb.length = 16 * (n + 2)) (u : BitVec 64) (d : List (BitVec 8)) (L : List (BitVec 8)) (off : Nat) (c : Option Nat) (hL : (L.drop off).take d.length = d) (h16 : 16 ≤ d.length) (hd2 : d.length ≤ 65536) :
    F C (k + 5001) 46 [.ptr (0, 0) 0, .ptr (0, 6) 0, .ptr (0, 7) 0] [[.ptr (0, 1) 0], [.ptr (0, 2) 0, .ptr (0, 4) 0], CF (.sl (0, 3) 0 (n + 2) none 16) TB, bs la, CF (.sl (0, 5) 0 (n + 2) none 16) TB, bs lb, [B64 u], [.sl (0, 8) off d.length c 1], bs L] = some (.sl (1, 0) 0 d.length none 1, [some ([.ptr (0, 1) 0]), some ([.ptr (0, 2) 0, .ptr (0, 4) 0]), some (CF (.sl (0, 3) 0 (n + 2) none 16) TB), some (bs la), some (CF (.sl (0, 5) 0 (n + 2) none 16) TB), some (bs lb), some ([B64 u]), some ([.sl (0, 8) off d.length c 1]), some (bs L)], [bs (qbj (dec (kf la) n) (tw0 n lb u) d true)]) := by
  rw [qbK f46]
  generalize hG : inHeap [[.ptr (0, 1) 0], [.ptr (0, 2) 0, .ptr (0, 4) 0], CF (.sl (0, 3) 0 (n + 2) none 16) TB, bs la, CF (.sl (0, 5) 0 (n + 2) none 16) TB, bs lb, [B64 u], [.sl (0, 8) off d.length c 1], bs L] = G
  have x00 : G (0, 0) = some ([.ptr (0, 1) 0]) := by rw [← hG]; rfl
  have x01 : G (0, 1) = some ([.ptr (0, 2) 0, .ptr (0, 4) 0]) := by rw [← hG]; rfl
  have x02 : G (0, 2) = some (CF (.sl (0, 3) 0 (n + 2) none 16) TB) := by rw [← hG]; rfl
  have x03 : G (0, 3) = some (bs la) := by rw [← hG]; rfl
  have x04 : G (0, 4) = some (CF (.sl (0, 5) 0 (n + 2) none 16) TB) := by rw [← hG]; rfl
  have x05 : G (0, 5) = some (bs lb) := by rw [← hG]; rfl
  have x06 : G (0, 6) = some ([B64 u]) := by rw [← hG]; rfl
  have x07 : G (0, 7) = some ([.sl (0, 8) off d.length c 1]) := by rw [← hG]; rfl
  have x08 : G (0, 8) = some (bs L) := by rw [← hG]; rfl
  have X : XG G (0, 1) (0, 2) (0, 3) (0, 4) (0, 5) n la lb := ⟨x01, x02, x03, x04, x05, by decide⟩
  have X' : XG (only [(0, 1), (0, 2), (0, 3), (0, 4), (0, 5), (0, 8)] G) (0, 1) (0, 2) (0, 3) (0, 4) (0, 5) n la lb := ⟨x01, x02, x03, x04, x05, by decide⟩
  have hre : qbd G FUEL [] [(0, 1), (0, 8), (0, 2)] = [(0, 1), (0, 2), (0, 3), (0, 4), (0, 5), (0, 8)] := (qak rfl x01 rfl).trans ((qak rfl x02 (qaR _ _)).trans ((qak rfl x03 (qaw _)).trans ((qak rfl x04 (qaR _ _)).trans ((qak rfl x05 (qaw _)).trans ((qak rfl x08 (qaw _)).trans ((qaG rfl).trans (qax _ _ _)))))))
  have hc : ∀ b, _ := fun b => c_run k 19 n b hn (only [(0, 1), (0, 2), (0, 3), (0, 4), (0, 5), (0, 8)] G) (0, 1) (0, 2) (0, 3) (0, 4) (0, 5) la lb X' hlb (dec (kf la) n) (way_dec n hn la hla) u (.sl (0, 8) off d.length c 1) d [(0, 8)] (by rw [snap_bytes (H := only [(0, 1), (0, 2), (0, 3), (0, 4), (0, 5), (0, 8)] G) (0, 8) off d.length c L x08 (by omega), hL]) (by decide) h16 hd2 true
  have ht : ∀ v news, _ := fun v news => X'.tr v news
  simp (disch := first | omega | decide | simp only [qaf, qad, qag, qae, qah, qac, qaa, qab, qai]) only [qba, qbD, qav, qap, qao, qam, qal, qar, qaC, qaH, qas, qaK, qa3, qaY, qaj, qbi, qbX, nms_B64, nms_Bo, List.set_cons_zero, List.set_cons_succ, List.getD_cons_zero, List.getD_cons_succ, List.map_cons, List.map_nil, List.flatMap_cons, List.flatMap_nil, List.nil_append, List.cons_append, List.append_nil, qa4, List.replicate_zero, List.length_cons, List.length_nil, Option.map_some, Nat.reduceAdd, Nat.reduceSub, qaQ, qbM, qbs, op_ld1, op_fa, faV_ptr, List.take_succ_cons, List.take_zero, List.drop_zero, List.take_nil, List.all_cons, List.all_nil, Bool.and_true, Nat.reduceLeDiff, Nat.reduceLT, if_true, Nat.zero_add, Nat.add_zero, Nat.le_refl, decide_true, Nat.add_zero, Nat.zero_add, Nat.reduceLT, Nat.reduceLeDiff, Nat.reduceAdd, decide_true, Bool.not_false, Bool.not_true, op_chk, qb3, qaz, qaS, qau, Option.map_some, qa7, qbr, qbV, touch_ld1, qbY, nms_fn, qaI, List.contains_cons, List.contains_nil, beq_self_eq_true, Bool.or_true, Bool.or_false, ordOk, qaZ, List.all_cons, List.all_nil, Nat.testBit, Nat.reduceShiftRight, Nat.reduceAnd, Nat.reduceBEq, Bool.not_true, Bool.not_false, Bool.and_self, Bool.and_true, Bool.and_false, Nat.reduceSub, Nat.reduceLT, bne, qbh, qbN, qbA, qb8, qbP, Bool.and_false, Bool.and_true, qaM, qan, qan, qaM, L46, hG, op_fn, x00, x01, x06, x07, nms_fn1, qaT, hre, hc, ht, List.nil_append, List.cons_append]
  generalize hQ : upd G (11, 0) (some (bs (qbj (dec (kf la) n) (tw0 n lb u) d true))) = Q
  have y00 : Q (0, 0) = some ([.ptr (0, 1) 0]) := by rw [← hQ]; exact x00
  have y01 : Q (0, 1) = some ([.ptr (0, 2) 0, .ptr (0, 4) 0]) := by rw [← hQ]; exact x01
  have y02 : Q (0, 2) = some (CF (.sl (0, 3) 0 (n + 2) none 16) TB) := by rw [← hQ]; exact x02
  have y03 : Q (0, 3) = some (bs la) := by rw [← hQ]; exact x03
  have y04 : Q (0, 4) = some (CF (.sl (0, 5) 0 (n + 2) none 16) TB) := by rw [← hQ]; exact x04
  have y05 : Q (0, 5) = some (bs lb) := by rw [← hQ]; exact x05
  have y06 : Q (0, 6) = some ([B64 u]) := by rw [← hQ]; exact x06
  have y07 : Q (0, 7) = some ([.sl (0, 8) off d.length c 1]) := by rw [← hQ]; exact x07
  have y08 : Q (0, 8) = some (bs L) := by rw [← hQ]; exact x08
  have yn : Q (11, 0) = some (bs (qbj (dec (kf la) n) (tw0 n lb u) d true)) := by rw [← hQ]; rfl
  have hch : qbd Q FUEL [] [(0, 0), (0, 1), (0, 2), (0, 3), (0, 4), (0, 5), (0, 6), (0, 7), (0, 8), (11, 0)] = [(0, 0), (0, 1), (0, 2), (0, 3), (0, 4), (0, 5), (0, 6), (0, 7), (0, 8), (11, 0)] := (qak rfl y00 rfl).trans ((qak rfl y01 rfl).trans ((qak rfl y02 (qaR _ _)).trans ((qak rfl y03 (qaw _)).trans ((qak rfl y04 (qaR _ _)).trans ((qak rfl y05 (qaw _)).trans ((qaG rfl).trans ((qaG rfl).trans ((qaG rfl).trans ((qaG rfl).trans ((qaG rfl).trans ((qak rfl y06 rfl).trans ((qak rfl y07 rfl).trans ((qak rfl y08 (qaw _)).trans ((qaG rfl).trans ((qak rfl yn (qaw _)).trans (qax _ _ _))))))))))))))))
  have hcn : qay Q 9 [.sl (11, 0) 0 d.length none 1] = [(11, 0)] := canon_of rfl hch rfl
  refine out_fin hcn ?_
  simp (disch := first | omega | decide | simp only [qaf, qad, qag, qae, qah, qac, qaa, qab, qai]) only [qbT, List.map_cons, List.map_nil, Option.map_some, if_true, Nat.zero_add, idx_cons, qby, canonMap_ne, List.filterMap_nil, Option.map_some, qaE, List.filterMap_cons, qbk, qaX, qbH, qbe, range_9, qaV, qaE, qaX, qbk, qbT, y00, y01, y02, y03, y04, y05, y06, y07, y08, yn]
end Aes
