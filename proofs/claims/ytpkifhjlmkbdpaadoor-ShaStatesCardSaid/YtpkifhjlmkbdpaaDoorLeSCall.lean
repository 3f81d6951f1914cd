/- A call of Write on an object of the caller's, bytes lent. -/
import Derived.Test.YtpkifhjlmkbdpaaDoorLeSFork
set_option linter.unusedVariables false
set_option linter.unusedSimpArgs false
namespace Sha
open Go Go.LE

theorem noImm_HsC (s : Nat → BitVec 32) (m : Nm) (off len : Nat) (c : Option Nat) (n : Nat) : (HsC s (.sl m off len c 1) n).all (noImm D) = true := by
  simp only [HsC, List.all_append, List.all_cons, List.all_nil, Bool.and_true]
  have h1 : (aW 8 s).all (noImm D) = true := by
    rw [List.all_eq_true]; intro x hx
    simp only [aW, arr, List.mem_map, List.mem_range] at hx
    obtain ⟨i, _, rfl⟩ := hx; rfl
  rw [h1]; rfl
theorem noImm_bs (l : List (BitVec 8)) : (bs l).all (noImm D) = true := by
  rw [List.all_eq_true]; intro x hx
  simp only [bs, List.mem_map] at hx
  obtain ⟨i, _, rfl⟩ := hx; rfl

/-- the bytes that are handed over: lent, as they read now -/
structure Lent (H : Heap) (B : LV) (b : List (BitVec 8)) (names : List Nm) : Prop where
  snap : ∃ lent, snap H D B = some (.isl (bs b) b.length, lent) ∧ lent.any (fun n => names.contains n) = false

theorem lent_sl (H : Heap) (m : Nm) (off len : Nat) (c : Option Nat) (l : List (BitVec 8)) (names : List Nm) (h : H m = some (bs l)) (hl : off + len ≤ l.length) (hn : names.contains m = false) :
    Lent H (.sl m off len c 1) ((l.drop off).take len) names := by
  by_cases h0 : len = 0
  · subst h0
    refine ⟨[], ?_, rfl⟩
    rw [snap_zero, List.take_zero]; rfl
  · refine ⟨[m], ?_, by rw [List.any_cons, hn]; rfl⟩
    rw [snap_bytes m off len c l h h0]
    have : ((l.drop off).take len).length = len := by rw [List.length_take, List.length_drop]; omega
    rw [this]
theorem lent_isl (H : Heap) (b : List (BitVec 8)) (names : List Nm) : Lent H (.isl (bs b) b.length) b names := ⟨[], snap_isl _ _, rfl⟩

theorem lend_w (k : Nat) (H : Heap) (fN : Nm) (B : LV) (b : List (BitVec 8)) (lent : List Nm) (h : snap H D B = some (.isl (bs b) b.length, lent)) :
    lend H ((envC C k).borrow 23) 0 [.ptr fN 0, B] = some ([.ptr fN 0, .isl (bs b) b.length], lent) := by
  rw [lend_cons, lend_cons, lend_nil, envC_borrow, C_bor]
  rw [if_neg (show ¬ lentF 23 0 = true by decide), if_pos (show lentF 23 (0 + 1) = true by decide), h, lendC_some, lendC_some]
  simp

theorem resK_any (names : List Nm) (base : Nat) (plain : Bool) (res : CallRes) (h : plainRes res = true) : resK names base plain (some res) = some (backTo names base res) := by
  simp [resK, h]

theorem idx0 (x : Nm) (xs : List Nm) : idx x (x :: xs) 0 = some 0 := by simp [idx]
theorem idx1 (x y : Nm) (xs : List Nm) (h : x ≠ y) : idx y (x :: y :: xs) 0 = some 1 := by simp [idx, h]

theorem write_callA (k b : Nat) (H : Heap) (fN : Nm) (s s' : Nat → BitVec 32) (n n' len : Nat) (B : LV) (bb l' : List (BitVec 8)) (h : H fN = some (HsC s Nil n)) (hB : Lent H B bb [fN])
    (hw : F C k 23 [.ptr (0, 0) 0, .isl (bs bb) bb.length] [HsC s Nil n] = some (.tup [], [some (HsC s' (.sl (1, 0) 0 len none 1) n')], [bs l'])) :
    callOp (envC C k) H b 23 [.ptr fN 0, B] = some ⟨.tup [], [bs l'], [(fN, some (HsC s' (.sl (b, 0) 0 len none 1) n'))]⟩ := by
  obtain ⟨lent, hs, hl⟩ := hB.snap
  have hr : reach H FUEL [] [fN] = [fN] := by
    simp only [FUEL, reach_cons, List.contains_nil, Bool.false_eq_true, if_false, h, reachK_some, HsC_nms, nms_nil, List.nil_append, reach_nil]
  rw [callOp_L, lend_w k H fN B bb lent hs, callL_some]
  have hn : ([.ptr fN 0, .isl (bs bb) bb.length] : List LV).flatMap (nms D) = [fN] := by
    simp only [List.flatMap_cons, List.flatMap_nil, nms_ptr, ibs_nms, List.append_nil]
  rw [hn, hr, callN_eq _ _ _ _ _ hl, show ([fN] : List Nm).filterMap H = [HsC s Nil n] by simp [h]]
  have ha : ([.ptr fN 0, .isl (bs bb) bb.length] : List LV).map (ren D (toCallee [fN])) = [.ptr (0, 0) 0, .isl (bs bb) bb.length] := by
    simp only [List.map_cons, List.map_nil, ren_ptrF, toCallee_eq, idx0, Option.map_some, ptrO_some, ibs_ren]
  rw [ha, List.map_cons, List.map_nil, HsC_ren, ren_nil, envC_cal, hw, resK_any _ _ _ _ (by simp [plainRes, noImm_HsC, noImm_bs]; rfl), backTo_eq]
  simp only [ren_tup0, HsC_ren, ren_slF, toCaller_1, List.length_cons, List.length_nil, Nat.zero_add, Nat.lt_one_iff, slO_some, List.map_cons, List.map_nil, bs_ren, List.zipWith_cons_cons, List.zipWith_nil_left, Option.map_some]

theorem write_callG (k b : Nat) (H : Heap) (fN rN : Nm) (s s' : Nat → BitVec 32) (n n' len rl : Nat) (c : Option Nat) (B : LV) (bb l l' : List (BitVec 8)) (z : Option (List (BitVec 8))) (h : H fN = some (HsC s (.sl rN 0 rl c 1) n)) (h2 : H rN = some (bs l)) (hne : fN ≠ rN)
    (hB : Lent H B bb [fN, rN])
    (hw : F C k 23 [.ptr (0, 0) 0, .isl (bs bb) bb.length] [HsC s (.sl (0, 1) 0 rl c 1) n, bs l] = some (.tup [], [some (HsC s' (.sl (1, 0) 0 len none 1) n'), z.map bs], [bs l'])) :
    callOp (envC C k) H b 23 [.ptr fN 0, B] = some ⟨.tup [], [bs l'], [(fN, some (HsC s' (.sl (b, 0) 0 len none 1) n')), (rN, z.map bs)]⟩ := by
  obtain ⟨lent, hs, hl⟩ := hB.snap
  have hc : ([fN] : List Nm).contains rN = false := by simp; exact fun e => hne e.symm
  have hr : reach H FUEL [] [fN] = [fN, rN] := by
    simp only [FUEL, reach_cons, List.contains_nil, Bool.false_eq_true, if_false, h, reachK_some, HsC_nms, nms_sl, List.nil_append, List.cons_append, hc, h2, bs_nms, reach_nil]
  rw [callOp_L, lend_w k H fN B bb lent hs, callL_some]
  have hn : ([.ptr fN 0, .isl (bs bb) bb.length] : List LV).flatMap (nms D) = [fN] := by
    simp only [List.flatMap_cons, List.flatMap_nil, nms_ptr, ibs_nms, List.append_nil]
  rw [hn, hr, callN_eq _ _ _ _ _ hl, show ([fN, rN] : List Nm).filterMap H = [HsC s (.sl rN 0 rl c 1) n, bs l] by simp [h, h2]]
  have ha : ([.ptr fN 0, .isl (bs bb) bb.length] : List LV).map (ren D (toCallee [fN, rN])) = [.ptr (0, 0) 0, .isl (bs bb) bb.length] := by
    simp only [List.map_cons, List.map_nil, ren_ptrF, toCallee_eq, idx0, Option.map_some, ptrO_some, ibs_ren]
  have hp : plainRes (.tup [], [some (HsC s' (.sl (1, 0) 0 len none 1) n'), z.map bs], [bs l']) = true := by
    cases z <;> simp [plainRes, noImm_HsC, noImm_bs] <;> rfl
  rw [ha, List.map_cons, List.map_cons, List.map_nil, HsC_ren, ren_slF, toCallee_eq, idx1 _ _ _ hne, Option.map_some, slO_some, bs_ren, envC_cal, hw, resK_any _ _ _ _ hp, backTo_eq]
  have hz : ∀ π, (z.map bs).map (fun cs => List.map (ren D π) cs) = z.map bs := by intro π; cases z <;> simp [bs_ren]
  simp only [ren_tup0, HsC_ren, ren_slF, toCaller_1, List.length_cons, List.length_nil, Nat.zero_add, Nat.lt_one_iff, slO_some, List.map_cons, List.map_nil, bs_ren, List.zipWith_cons_cons, List.zipWith_nil_left, Option.map_some, hz]

theorem lend_p (k : Nat) (g : Nat) (hg : lentF g = fun _ => false) (H : Heap) (fN : Nm) : lend H ((envC C k).borrow g) 0 [.ptr fN 0] = some ([.ptr fN 0], []) := by
  rw [envC_borrow, C_bor, hg, lend_none]

theorem ptr_callA (k b g : Nat) (hg : lentF g = fun _ => false) (H : Heap) (fN : Nm) (s : Nat → BitVec 32) (n : Nat) (h : H fN = some (HsC s Nil n)) (r r' : LV) (news news' : List Cells)
    (hw : F C k g [.ptr (0, 0) 0] [HsC s Nil n] = some (r, [some (HsC s Nil n)], news)) (hr : ren D (toCaller [fN] b news.length) r = r')
    (hn : news.map (fun cs => cs.map (ren D (toCaller [fN] b news.length))) = news') :
    callOp (envC C k) H b g [.ptr fN 0] = some ⟨r', news', [(fN, some (HsC s Nil n))]⟩ := by
  have hre : reach H FUEL [] [fN] = [fN] := by
    simp only [FUEL, reach_cons, List.contains_nil, Bool.false_eq_true, if_false, h, reachK_some, HsC_nms, nms_nil, List.nil_append, reach_nil]
  rw [callOp_L, lend_p k g hg H fN, callL_some]
  rw [show ([.ptr fN 0] : List LV).flatMap (nms D) = [fN] from rfl, hre, callN_eq _ _ _ _ _ rfl, show ([fN] : List Nm).filterMap H = [HsC s Nil n] by simp [h]]
  have ha : ([.ptr fN 0] : List LV).map (ren D (toCallee [fN])) = [.ptr (0, 0) 0] := by
    simp only [List.map_cons, List.map_nil, ren_ptrF, toCallee_eq, idx0, Option.map_some, ptrO_some]
  rw [ha, List.map_cons, List.map_nil, HsC_ren, ren_nil, envC_cal, hw, show ([] : List Nm).isEmpty = true from rfl, resK_sc, backTo_eq, hr, hn]
  simp only [List.zipWith_cons_cons, List.zipWith_nil_left, Option.map_some, HsC_ren, ren_nil]

theorem ptr_callG (k b g : Nat) (hg : lentF g = fun _ => false) (H : Heap) (fN rN : Nm) (s : Nat → BitVec 32) (n rl : Nat) (c : Option Nat) (l : List (BitVec 8)) (h : H fN = some (HsC s (.sl rN 0 rl c 1) n)) (h2 : H rN = some (bs l)) (hne : fN ≠ rN)
    (r r' : LV) (news news' : List Cells)
    (hw : F C k g [.ptr (0, 0) 0] [HsC s (.sl (0, 1) 0 rl c 1) n, bs l] = some (r, [some (HsC s (.sl (0, 1) 0 rl c 1) n), some (bs l)], news)) (hr : ren D (toCaller [fN, rN] b news.length) r = r')
    (hn : news.map (fun cs => cs.map (ren D (toCaller [fN, rN] b news.length))) = news') :
    callOp (envC C k) H b g [.ptr fN 0] = some ⟨r', news', [(fN, some (HsC s (.sl rN 0 rl c 1) n)), (rN, some (bs l))]⟩ := by
  have hc : ([fN] : List Nm).contains rN = false := by simp; exact fun e => hne e.symm
  have hre : reach H FUEL [] [fN] = [fN, rN] := by
    simp only [FUEL, reach_cons, List.contains_nil, Bool.false_eq_true, if_false, h, reachK_some, HsC_nms, nms_sl, List.nil_append, List.cons_append, hc, h2, bs_nms, reach_nil]
  rw [callOp_L, lend_p k g hg H fN, callL_some]
  rw [show ([.ptr fN 0] : List LV).flatMap (nms D) = [fN] from rfl, hre, callN_eq _ _ _ _ _ rfl, show ([fN, rN] : List Nm).filterMap H = [HsC s (.sl rN 0 rl c 1) n, bs l] by simp [h, h2]]
  have ha : ([.ptr fN 0] : List LV).map (ren D (toCallee [fN, rN])) = [.ptr (0, 0) 0] := by
    simp only [List.map_cons, List.map_nil, ren_ptrF, toCallee_eq, idx0, Option.map_some, ptrO_some]
  rw [ha, List.map_cons, List.map_cons, List.map_nil, HsC_ren, ren_slF, toCallee_eq, idx1 _ _ _ hne, Option.map_some, slO_some, bs_ren, envC_cal, hw, show ([] : List Nm).isEmpty = true from rfl, resK_sc, backTo_eq, hr, hn]
  simp only [List.zipWith_cons_cons, List.zipWith_nil_left, Option.map_some, HsC_ren, ren_slF, toCaller_0, List.getElem?_cons_succ, List.getElem?_cons_zero, slO_some, bs_ren]

end Sha
