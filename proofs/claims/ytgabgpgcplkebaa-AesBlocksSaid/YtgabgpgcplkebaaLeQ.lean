/- Calls on ciphers in the caller's memory. -/
/- lives. -/
/- The laws Apart and Back, evaluated. -/
/- The law Back, evaluated. -/
/- The law First, evaluated. -/
/- The law Keys, evaluated. -/
/- The law Blocks, evaluated. -/
import Derived.Test.YtgabgpgcplkebaaLeZ
set_option linter.unusedVariables false
set_option linter.unusedSimpArgs false

namespace Aes
open Go Go.LE
set_option maxRecDepth 20000

theorem noImm_bs (l : List (BitVec 8)) : (bs l).all (noImm D) = true := by
  rw [List.all_eq_true]; intro x hx; simp only [bs, List.mem_map] at hx; obtain ⟨y, _, rfl⟩ := hx; rfl
theorem noImm_aBs (n : Nat) (f : R) : (aB n f).all (noImm D) = true := by
  rw [List.all_eq_true]; intro x hx; simp only [aB, arr, List.mem_map] at hx; obtain ⟨y, _, rfl⟩ := hx; rfl
theorem resK_any (names : List Nm) (base : Nat) (plain : Bool) (res : CallRes) (h : plainRes res = true) : resK names base plain (some res) = some (backTo names base res) := by
  simp [resK, h]
theorem c_new_of (g K b len : Nat) (hg : lentF g 0 = true) (H : Heap) (B : LV) (key : List (BitVec 8)) (lent : List Nm) (hs : snap H D B = some (.isl (bs key) key.length, lent)) (O : LV → Cells)
    (hO : ∀ r, (O r).all (noImm D) = noImm D r) (hOr : ∀ π r, (O r).map (ren D π) = O (ren D π r)) (l : List (BitVec 8))
    (hF : F C K g [.isl (bs key) key.length] [] = some (.tup [.ptr (1, 0) 0, N 0], [], [O (.sl (1, 1) 0 len none 16), bs l])) :
    callOp (envC C K) H b g [B] = some ⟨.tup [.ptr (b, 0) 0, N 0], [O (.sl (b, 1) 0 len none 16), bs l], []⟩ := by
  have hlend : lend H ((envC C K).borrow g) 0 [B] = some ([.isl (bs key) key.length], lent) := by
    rw [lend_cons, lend_nil, envC_borrow, C_bor, if_pos hg, hs, lendC_some, List.append_nil]
  have hn : ([.isl (bs key) key.length] : List LV).flatMap (nms D) = [] := by
    simp only [List.flatMap_cons, List.flatMap_nil, ibs_nms, List.append_nil]
  have ha : ([.isl (bs key) key.length] : List LV).map (ren D (toCallee [])) = [.isl (bs key) key.length] := by
    simp only [List.map_cons, List.map_nil, ibs_ren]
  have hp : plainRes (.tup [.ptr (1, 0) 0, N 0], [], [O (.sl (1, 1) 0 len none 16), bs l]) = true := by
    simp only [plainRes, List.all_nil, List.all_cons, hO, noImm_bs]; rfl
  have hl : lent.any (fun n => ([] : List Nm).contains n) = false := by simp
  rw [callOp_L, hlend, callL_some, hn, show reach H FUEL [] [] = [] from rfl, callN_eq _ _ _ _ _ hl, ha, List.filterMap_nil, List.map_nil, envC_cal, hF, resK_any _ _ _ _ hp, backTo_eq]
  simp only [List.map_cons, List.map_nil, hOr, bs_ren, ren_slF, List.length_cons, List.length_nil, toCaller_1, Nat.zero_add, Nat.reduceAdd, Nat.reduceLT, slO_some, List.zipWith_nil_left]
  rfl
theorem c_bad_of (g K b : Nat) (hg : lentF g 0 = true) (H : Heap) (B : LV) (key : List (BitVec 8)) (lent : List Nm) (hs : snap H D B = some (.isl (bs key) key.length, lent))
    (hF : F C K g [.isl (bs key) key.length] [] = some (.tup [NilP, N 20], [], [])) : callOp (envC C K) H b g [B] = some ⟨.tup [NilP, N 20], [], []⟩ := by
  have hlend : lend H ((envC C K).borrow g) 0 [B] = some ([.isl (bs key) key.length], lent) := by
    rw [lend_cons, lend_nil, envC_borrow, C_bor, if_pos hg, hs, lendC_some, List.append_nil]
  have hn : ([.isl (bs key) key.length] : List LV).flatMap (nms D) = [] := by
    simp only [List.flatMap_cons, List.flatMap_nil, ibs_nms, List.append_nil]
  have ha : ([.isl (bs key) key.length] : List LV).map (ren D (toCallee [])) = [.isl (bs key) key.length] := by
    simp only [List.map_cons, List.map_nil, ibs_ren]
  have hl : lent.any (fun n => ([] : List Nm).contains n) = false := by simp
  rw [callOp_L, hlend, callL_some, hn, show reach H FUEL [] [] = [] from rfl, callN_eq _ _ _ _ _ hl, ha, List.filterMap_nil, List.map_nil, envC_cal, hF, resK_any _ _ _ _ rfl, backTo_eq]
  rfl
theorem noImm_CF (r : LV) (f : R) : (CF r f).all (noImm D) = noImm D r := by rw [CF, List.all_cons, noImm_aBs, Bool.and_true]
theorem noImm_RF (r : LV) (f : R) : (RF r f).all (noImm D) = noImm D r := by rw [RF, List.all_cons, noImm_aBs, Bool.and_true]
theorem c_new (k n b : Nat) (hn : n = 4 ∨ n = 8) (H : Heap) (B : LV) (key : List (BitVec 8)) (hk : key.length = 4 * n) (lent : List Nm) (hs : snap H D B = some (.isl (bs key) key.length, lent)) :
    callOp (envC C (k + 400)) H b 12 [B] = some ⟨.tup [.ptr (b, 0) 0, N 0], [CF (.sl (b, 1) 0 (n + 7) none 16) TB, bs (W n key)], []⟩ :=
  c_new_of 12 _ b (n + 7) (by decide) H B key lent hs (fun r => CF r TB) (fun r => noImm_CF r _) (fun π r => CF_ren π r _) (W n key) (new_F k n hn key hk)
theorem c_rnew (k n b : Nat) (hn : n = 4 ∨ n = 8) (H : Heap) (B : LV) (key : List (BitVec 8)) (hk : key.length = 4 * n) (lent : List Nm) (hs : snap H D B = some (.isl (bs key) key.length, lent)) :
    callOp (envC C (k + 400)) H b 16 [B] = some ⟨.tup [.ptr (b, 0) 0, N 0], [RF (.sl (b, 1) 0 (n + 7) none 16) TB, bs (W n key)], []⟩ :=
  c_new_of 16 _ b (n + 7) (by decide) H B key lent hs (fun r => RF r TB) (fun r => noImm_RF r _) (fun π r => RF_ren π r _) (W n key) (rnew_F k n hn key hk)

theorem c_enc (k n b : Nat) (hn : n ≤ 20) (H : Heap) (c m : Nm) (l : List (BitVec 8)) (h : KG H c m (n + 2) none l) (hl : l.length = 16 * (n + 2)) (s : R) :
    callOp (envC C (k + 60)) H b 17 [.ptr c 0, .agg (aB 16 s)] = some ⟨.agg (aB 16 (enc (kf l) n s)), [], [(c, some (CF (.sl m 0 (n + 2) none 16) TB)), (m, some (bs l))]⟩ :=
  callK _ b 17 l17 H c m (n + 2) none l h _ (Pl.pa 16 s Pl.e) _ (fun π => aB_agg_ren 16 _ π) (enc_F k n hn l hl s)
theorem c_dec (k n b : Nat) (hn : n ≤ 20) (H : Heap) (c m : Nm) (l : List (BitVec 8)) (h : KG H c m (n + 2) none l) (hl : l.length = 16 * (n + 2)) (s : R) :
    callOp (envC C (k + 60)) H b 19 [.ptr c 0, .agg (aB 16 s)] = some ⟨.agg (aB 16 (dec (kf l) n s)), [], [(c, some (CF (.sl m 0 (n + 2) none 16) TB)), (m, some (bs l))]⟩ :=
  callK _ b 19 l19 H c m (n + 2) none l h _ (Pl.pa 16 s Pl.e) _ (fun π => aB_agg_ren 16 _ π) (dec_F k n hn l hl s)
theorem c_rounds (k n b : Nat) (hn : n ≤ 20) (H : Heap) (c m : Nm) (l : List (BitVec 8)) (h : KG H c m (n + 2) none l) :
    callOp (envC C (k + 2)) H b 15 [.ptr c 0] = some ⟨N (n + 1), [], [(c, some (CF (.sl m 0 (n + 2) none 16) TB)), (m, some (bs l))]⟩ :=
  callK _ b 15 l15 H c m (n + 2) none l h _ Pl.e _ (fun π => rfl) (rounds_F k n hn l)
theorem c_key (k n b : Nat) (hn : n ≤ 20) (H : Heap) (c m : Nm) (l : List (BitVec 8)) (h : KG H c m (n + 2) none l) (hl : l.length = 16 * (n + 2)) (z : Int) :
    callOp (envC C (k + 2)) H b 14 [.ptr c 0, I z] = some ⟨.agg (aB 16 (keyAt n l z)), [], [(c, some (CF (.sl m 0 (n + 2) none 16) TB)), (m, some (bs l))]⟩ :=
  callK _ b 14 l14 H c m (n + 2) none l h _ ⟨rfl, fun _ => rfl⟩ _ (fun π => aB_agg_ren 16 _ π) (key_F k n hn l hl z)

structure RG (H : Heap) (c m : Nm) (len : Nat) (cap : Option Nat) (l : List (BitVec 8)) : Prop where
  hc : H c = some (RF (.sl m 0 len cap 16) TB)
  hm : H m = some (bs l)
  ne : c ≠ m
theorem callRK (k b g : Nat) (hg : lentF g = fun _ => false) (H : Heap) (c m : Nm) (len : Nat) (cap : Option Nat) (l : List (BitVec 8)) (h : RG H c m len cap l) (ps : List LV) (hp : Pl ps) (r : LV) (hr : ∀ π, ren D π r = r)
    (hw : F C k g (.ptr (0, 0) 0 :: ps) [RF (.sl (0, 1) 0 len cap 16) TB, bs l] = some (r, [some (RF (.sl (0, 1) 0 len cap 16) TB), some (bs l)], [])) :
    callOp (envC C k) H b g (.ptr c 0 :: ps) = some ⟨r, [], [(c, some (RF (.sl m 0 len cap 16) TB)), (m, some (bs l))]⟩ := by
  have hc : ([c] : List Nm).contains m = false := by simp; exact fun e => h.ne e.symm
  have hre : reach H FUEL [] [c] = [c, m] := by
    simp only [FUEL, reach_cons, List.contains_nil, Bool.false_eq_true, if_false, h.hc, reachK_some, RF_nms, nms_sl, List.nil_append, List.cons_append, hc, h.hm, bs_nms, reach_nil]
  rw [callOp_L, envC_borrow, C_bor, hg, lend_none, callL_some]
  have hn : (LV.ptr c 0 :: ps).flatMap (nms D) = [c] := by rw [List.flatMap_cons, nms_ptr, hp.n]; rfl
  rw [hn, hre, callN_eq _ _ _ _ _ rfl, show ([c, m] : List Nm).filterMap H = [RF (.sl m 0 len cap 16) TB, bs l] by simp [h.hc, h.hm]]
  have ha : (LV.ptr c 0 :: ps).map (ren D (toCallee [c, m])) = .ptr (0, 0) 0 :: ps := by
    simp only [List.map_cons, ren_ptrF, toCallee_eq, idx0, Option.map_some, ptrO_some, hp.r]
  rw [ha, List.map_cons, List.map_cons, List.map_nil, RF_ren, ren_slF, toCallee_eq, idx1 _ _ _ h.ne, Option.map_some, slO_some, bs_ren, envC_cal, hw, show ([] : List Nm).isEmpty = true from rfl, resK_sc, backTo_eq, hr]
  simp only [List.zipWith_cons_cons, List.zipWith_nil_left, Option.map_some, RF_ren, ren_slF, toCaller_0, bs_ren, List.map_nil, slO_some, List.getElem?_cons_zero, List.getElem?_cons_succ]
theorem c_renc (k n b : Nat) (hn : n ≤ 20) (H : Heap) (c m : Nm) (l : List (BitVec 8)) (h : RG H c m (n + 2) none l) (hl : l.length = 16 * (n + 2)) (s : R) :
    callOp (envC C (k + 60)) H b 18 [.ptr c 0, .agg (aB 16 s)] = some ⟨.agg (aB 16 (enc (kf l) n s)), [], [(c, some (RF (.sl m 0 (n + 2) none 16) TB)), (m, some (bs l))]⟩ :=
  callRK _ b 18 l18 H c m (n + 2) none l h _ (Pl.pa 16 s Pl.e) _ (fun π => aB_agg_ren 16 _ π) (renc_F k n hn l hl s)
theorem c_rdec (k n b : Nat) (hn : n ≤ 20) (H : Heap) (c m : Nm) (l : List (BitVec 8)) (h : RG H c m (n + 2) none l) (hl : l.length = 16 * (n + 2)) (s : R) :
    callOp (envC C (k + 60)) H b 20 [.ptr c 0, .agg (aB 16 s)] = some ⟨.agg (aB 16 (dec (kf l) n s)), [], [(c, some (RF (.sl m 0 (n + 2) none 16) TB)), (m, some (bs l))]⟩ :=
  callRK _ b 20 l20 H c m (n + 2) none l h _ (Pl.pa 16 s Pl.e) _ (fun π => aB_agg_ren 16 _ π) (rdec_F k n hn l hl s)

/-! ### what reads only -/

theorem same_aB (n : Nat) (f : R) : sameL (aB n f) (aB n f) = true := same_cells fun x hx => by
  simp only [aB, arr, List.mem_map] at hx; obtain ⟨y, _, rfl⟩ := hx; exact same_B8 _
theorem same_CF (m : Nm) (len : Nat) (cap : Option Nat) (f : R) : sameL (CF (.sl m 0 len cap 16) f) (CF (.sl m 0 len cap 16) f) = true := by
  rw [CF, sameL, same_aB, Bool.and_true]; simp [same1]
theorem same_RF (m : Nm) (len : Nat) (cap : Option Nat) (f : R) : sameL (RF (.sl m 0 len cap 16) f) (RF (.sl m 0 len cap 16) f) = true := by
  rw [RF, sameL, same_aB, Bool.and_true]; simp [same1]
theorem tr_KG (H : Heap) (v : LV) (c m : Nm) (len : Nat) (cap : Option Nat) (l : List (BitVec 8)) (h : KG H c m len cap l) : trimO true H (some ⟨v, [], [(c, some (CF (.sl m 0 len cap 16) TB)), (m, some (bs l))]⟩) = some ⟨v, [], []⟩ := by
  refine trimO_same _ _ _ _ fun q hm => ?_
  simp only [List.mem_cons, List.not_mem_nil, or_false] at hm
  rcases hm with rfl | rfl
  · simp only [h.hc, sameO, same_CF]
  · simp only [h.hm, sameO, same_bs]
theorem tr_RG (H : Heap) (v : LV) (c m : Nm) (len : Nat) (cap : Option Nat) (l : List (BitVec 8)) (h : RG H c m len cap l) : trimO true H (some ⟨v, [], [(c, some (RF (.sl m 0 len cap 16) TB)), (m, some (bs l))]⟩) = some ⟨v, [], []⟩ := by
  refine trimO_same _ _ _ _ fun q hm => ?_
  simp only [List.mem_cons, List.not_mem_nil, or_false] at hm
  rcases hm with rfl | rfl
  · simp only [h.hc, sameO, same_RF]
  · simp only [h.hm, sameO, same_bs]
theorem reach_KG {H : Heap} {c m : Nm} {len : Nat} {cap : Option Nat} {l : List (BitVec 8)} (h : KG H c m len cap l) : reach H FUEL [] [c] = [c, m] := by
  have hc : ([c] : List Nm).contains m = false := by simp; exact fun e => h.ne e.symm
  simp only [FUEL, reach_cons, List.contains_nil, Bool.false_eq_true, if_false, h.hc, reachK_some, CF_nms, nms_sl, List.nil_append, List.cons_append, hc, h.hm, bs_nms, reach_nil]
theorem reach_RG {H : Heap} {c m : Nm} {len : Nat} {cap : Option Nat} {l : List (BitVec 8)} (h : RG H c m len cap l) : reach H FUEL [] [c] = [c, m] := by
  have hc : ([c] : List Nm).contains m = false := by simp; exact fun e => h.ne e.symm
  simp only [FUEL, reach_cons, List.contains_nil, Bool.false_eq_true, if_false, h.hc, reachK_some, RF_nms, nms_sl, List.nil_append, List.cons_append, hc, h.hm, bs_nms, reach_nil]
theorem KG.only {H : Heap} {c m : Nm} {len : Nat} {cap : Option Nat} {l : List (BitVec 8)} (h : KG H c m len cap l) : KG (LE.only [c, m] H) c m len cap l :=
  ⟨by rw [LE.only, if_pos (by simp)]; exact h.hc, by rw [LE.only, if_pos (by simp)]; exact h.hm, h.ne⟩
theorem RG.only {H : Heap} {c m : Nm} {len : Nat} {cap : Option Nat} {l : List (BitVec 8)} (h : RG H c m len cap l) : RG (LE.only [c, m] H) c m len cap l :=
  ⟨by rw [LE.only, if_pos (by simp)]; exact h.hc, by rw [LE.only, if_pos (by simp)]; exact h.hm, h.ne⟩
theorem same_self (n : Nat) (f : R) : aB_same n f f = true := (aB_same_iff n f f).2 fun _ _ => rfl
theorem same_E {f g : R} (h : E16 f g) : aB_same 16 f g = true := (aB_same_iff 16 f g).2 h
end Aes

namespace Aes
open Go Go.LE
set_option maxRecDepth 20000

theorem fill_bs1 (l : List (BitVec 8)) (i : Nat) (x : BitVec 8) (rest : List (Nat × Nat × LV)) (h : i < l.length) : fill (bs l) ((i, 1, B8 x) :: rest) = fill (bs (l.set i x)) rest := by
  rw [fill_cons, show cellsOf (B8 x) = some [B8 x] from rfl, fillK_some, if_pos ⟨rfl, by rw [bs_length]; omega⟩, bs_one, bs_splice, List.set_eq_take_append_cons_drop, if_pos h]
  simp
theorem fill_lit (x0 x1 x2 x3 x4 x5 x6 x7 x8 x9 x10 x11 x12 x13 x14 x15 : BitVec 8) : fill (aB 16 fun _ => 0#8) [(0, 1, B8 x0), (1, 1, B8 x1), (2, 1, B8 x2), (3, 1, B8 x3), (4, 1, B8 x4), (5, 1, B8 x5), (6, 1, B8 x6), (7, 1, B8 x7), (8, 1, B8 x8), (9, 1, B8 x9), (10, 1, B8 x10), (11, 1, B8 x11), (12, 1, B8 x12), (13, 1, B8 x13), (14, 1, B8 x14), (15, 1, B8 x15)] = some (bs [x0, x1, x2, x3, x4, x5, x6, x7, x8, x9, x10, x11, x12, x13, x14, x15]) := by
  rw [show (aB 16 fun _ => 0#8) = bs [0#8, 0#8, 0#8, 0#8, 0#8, 0#8, 0#8, 0#8, 0#8, 0#8, 0#8, 0#8, 0#8, 0#8, 0#8, 0#8] from rfl]
  iterate 16 rw [fill_bs1 _ _ _ _ (by simp only [List.length_set, List.length_cons, List.length_nil]; decide)]
  rw [fill_nil]
  rfl
theorem pt_aB : bs pt0 = aB 16 (fl pt0) := bs_aB _ 16 rfl
theorem ct_aB : bs ct0 = aB 16 (fl ct0) := bs_aB _ 16 rfl
theorem enc0_aB : aB 16 (enc (kf (W 4 key0)) 9 (fl pt0)) = aB 16 (fl ct0) := aB_ext _ enc0
theorem lives_F (k : Nat) : F C (k + 420) 13 [] [] = some (Bo true, [], []) := by
  rw [F_succ f13]
  simp (disch := first | omega | decide | simp only [bs_isCell, bs_length, aW_isCell, aB_isCell, isCell_sl, isCell_isl, isCell_nil, isCell_ptr, isCell_N]) only [funSem_eq, ev_seq, ev_region, regK_some, evOpers_nil, evOpers_cons, stepK_pure, put_some, evX_t, evX_c, op_mv, op_call, callV_fn, andThen_normal, List.set_cons_zero, List.set_cons_succ, List.getD_cons_zero, List.getD_cons_succ, List.map_cons, List.map_nil, List.nil_append, repUn_succ, List.replicate_zero, List.length_cons, List.length_nil, Nat.reduceAdd, stepK_new, Nat.zero_add, Nat.add_zero, aB_rep, Nat.add_zero, Nat.zero_add, Nat.reduceAdd, op_mkrow, rowK_some, Nat.sub_zero, fill_lit, L13]
  generalize hG : upd (inHeap []) (3, 0) _ = G
  have g0 : G (3, 0) = some (bs key0) := by rw [← hG]; rfl
  clear hG
  rw [c_new (k + 19) 4 _ (.inl rfl) _ _ key0 rfl [(3, 0)] (by rw [snap_bytes (3, 0) 0 16 _ key0 g0 (by decide)]; rfl)]
  simp (disch := first | omega | decide | simp only [bs_isCell, bs_length, aW_isCell, aB_isCell, isCell_sl, isCell_isl, isCell_nil, isCell_ptr, isCell_N]) only [ev_skip, ev_seq, ev_region, regK_some, evOpers_nil, evOpers_cons, evOpers_cons_g, guardK_true', put_some, evX_t, evX_c, outR_some, pickV_false, op_mv, op_pick, op_bin, op_call, callV_fn, andThen_normal, ev_cond, condK_false, List.set_cons_zero, List.set_cons_succ, List.getD_cons_zero, List.getD_cons_succ, List.map_cons, List.map_nil, List.length_cons, List.length_nil, Nat.reduceAdd, aggR_some, op_build, Nat.zero_add, Nat.add_zero, decide_true, Nat.add_zero, Nat.zero_add, N_neq, decide_not, Nat.reduceAdd, decide_true, Bool.not_true, eqp_ptr, updN_nil, updN_cons, modN_nil, List.getElem?_cons_zero, List.getElem?_cons_succ, op_extV, extV_tup, List.getElem?_cons_zero, List.getElem?_cons_succ, stepK_gen, stepK_gen, eqp_ptr, fill_lit]
  generalize hG2 : upd (upd G (6, 0) _) (6, 1) _ = G2
  have K : KG G2 (6, 0) (6, 1) (9 + 2) none (W 4 key0) := by rw [← hG2]; exact ⟨rfl, rfl, by decide⟩
  clear hG2
  rw [show bs [0#8, 17#8, 34#8, 51#8, 68#8, 85#8, 102#8, 119#8, 136#8, 153#8, 170#8, 187#8, 204#8, 221#8, 238#8, 255#8] = aB 16 (fl pt0) from pt_aB, c_enc (k + 359) 9 _ (by decide) G2 (6, 0) (6, 1) _ K (W_length 4 key0 rfl), enc0_aB]
  simp (disch := first | omega | decide | simp only [bs_isCell, bs_length, aW_isCell, aB_isCell, isCell_sl, isCell_isl, isCell_nil, isCell_ptr, isCell_N]) only [ev_seq, ev_region, regK_some, evOpers_nil, evOpers_cons, put_some, put_none, evX_t, evX_c, op_bin, andThen_normal, List.set_cons_zero, List.set_cons_succ, List.getD_cons_zero, List.getD_cons_succ, List.map_cons, List.map_nil, List.length_cons, List.length_nil, Nat.reduceAdd, upd_at, cellsOf_agg, cellAt_ptr, ldK_some, op_ld, op_new, op_st, stV_ptr, aggR_some, op_build, Prod.mk.injEq, Nat.reduceEqDiff, and_true, and_self, if_true, if_false, Nat.zero_add, Nat.add_zero, Nat.zero_ne_one, aB_cells, aB_st_all, Nat.add_zero, Nat.zero_add, Nat.reduceEqDiff, Nat.reduceAdd, updN_nil, updN_cons, modN_nil, modN_cons, stepK_gen, stepK_gen, fill_lit]
  generalize hG3 : upd (upd (upd (upd G2 _ _) _ _) _ _) _ _ = G3
  have K3 : KG G3 (6, 0) (6, 1) (9 + 2) none (W 4 key0) := by rw [← hG3]; exact ⟨rfl, rfl, by decide⟩
  clear hG3
  rw [show bs [105#8, 196#8, 224#8, 216#8, 106#8, 123#8, 4#8, 48#8, 216#8, 205#8, 183#8, 128#8, 112#8, 180#8, 197#8, 90#8] = aB 16 (fl ct0) from ct_aB]
  simp (disch := first | omega | decide | simp only [bs_isCell, bs_length, aW_isCell, aB_isCell, isCell_sl, isCell_isl, isCell_nil, isCell_ptr, isCell_N]) only [ev_ret, regK_some, evOpers_nil, evOpers_cons, evOpers_cons_g, guardK_true, put_some, evX_t, evX_c, outR_some, pickV_true, op_mv, op_pick, op_bin, op_call, callV_fn, andThen_normal, retK_ret, resVal_tmp, List.set_cons_zero, List.set_cons_succ, List.getD_cons_zero, List.getD_cons_succ, List.map_cons, List.map_nil, outOf_Bo, Option.map_some, Nat.reduceAdd, decide_true, aB_eql, N_eql, Nat.reduceAdd, decide_true, updN_nil, modN_nil, modN_cons, Option.map_some, stepK_gen, stepK_gen, c_rounds (k + 417) 9 _ (by decide) G3 (6, 0) (6, 1) _ K3, same_self]
theorem c_lives (k b : Nat) (H : Heap) : callOp (envC C (k + 420)) H b 13 [] = some ⟨Bo true, [], []⟩ := by
  rw [callOp_C l13 rfl rfl, lives_F]
  exact calK_plain b fun _ => rfl
end Aes

namespace Aes
open Go Go.LE
set_option maxRecDepth 20000

theorem enc_same (K : Nat → R) (n : Nat) (a b : R) : aB_same 16 (enc K n a) (enc K n b) = aB_same 16 a b := by
  apply Bool.eq_iff_iff.2
  rw [aB_same_iff, aB_same_iff]
  exact ⟨fun h => enc_inj K n h, fun h => enc_c K n h⟩
theorem dec_same (K : Nat → R) (n : Nat) (a b : R) : aB_same 16 (dec K n a) (dec K n b) = aB_same 16 a b := by
  apply Bool.eq_iff_iff.2
  rw [aB_same_iff, aB_same_iff]
  exact ⟨fun h => dec_inj K n h, fun h => dec_c K n h⟩
/-- the first bytes of a row in memory, lent -/
theorem snap_aB {H : Heap} {m : Nm} {n : Nat} {f : R} (h : H m = some (aB n f)) (len : Nat) (c : Option Nat) (h0 : len ≠ 0) (hl : len ≤ n) :
    snap H D (.sl m 0 len c 1) = some (.isl (bs ((List.range len).map f)) ((List.range len).map f).length, [m]) := by
  rw [aB_bs] at h
  rw [snap_bytes m 0 len c _ h h0, List.drop_zero]
  have e : ((List.range n).map f).take len = (List.range len).map f := by
    rw [← List.map_take, List.take_range, Nat.min_eq_left hl]
  rw [e, List.length_map, List.length_range]

theorem apart_F (k : Nat) (key a b : R) : F C (k + 430) 6 [.agg (aB 32 key), .agg (aB 16 a), .agg (aB 16 b)] [] = some (Bo true, [], []) := by
  rw [F_succ f6]
  simp (disch := first | omega | decide | simp only [bs_isCell, bs_length, aW_isCell, aB_isCell, isCell_sl, isCell_isl, isCell_nil, isCell_ptr, isCell_N]) only [funSem_eq, ev_seq, ev_region, regK_some, evOpers_nil, evOpers_cons, put_some, evX_t, evX_c, outR_some, op_mv, op_call, callV_fn, andThen_normal, List.set_cons_zero, List.set_cons_succ, List.getD_cons_zero, List.getD_cons_succ, List.map_cons, List.map_nil, List.nil_append, List.cons_append, repUn_succ, List.replicate_zero, List.length_cons, List.length_nil, Nat.reduceAdd, Nat.reduceSub, cellsOf_agg, op_box, boxK_some, Nat.zero_add, Nat.add_zero, Nat.mul_one, Nat.add_zero, Nat.zero_add, Nat.reduceAdd, optNat_none, op_slcAV, slcAV_ptr, updN_nil, updN_cons, modN_nil, Nat.sub_zero, Nat.mul_one, Nat.reduceSub, stepK_gen, stepK_gen, L6]
  rw [c_new (k + 29) 8 _ (.inr rfl) _ _ ((List.range 32).map key) (by rw [List.length_map, List.length_range]) [(2, 0)] (snap_aB rfl 32 _ (by decide) (by decide))]
  simp (disch := first | omega | decide | simp only [bs_isCell, bs_length, aW_isCell, aB_isCell, isCell_sl, isCell_isl, isCell_nil, isCell_ptr, isCell_N]) only [ev_seq, ev_region, regK_some, evOpers_nil, evOpers_cons, put_some, evX_t, evX_c, outR_some, op_mv, op_call, callV_fn, andThen_normal, List.set_cons_zero, List.set_cons_succ, List.getD_cons_zero, List.getD_cons_succ, List.map_nil, List.flatMap_cons, List.flatMap_nil, List.append_nil, List.length_cons, List.length_nil, Nat.reduceAdd, Nat.zero_add, Nat.add_zero, Nat.add_zero, Nat.zero_add, Nat.reduceAdd, updN_nil, updN_cons, modN_nil, List.getElem?_cons_zero, List.getElem?_cons_succ, op_extV, extV_tup, List.getElem?_cons_zero, List.getElem?_cons_succ, evOpers_ord, stepO_eq, touch_call, reach_none, nms_fn, Bool.and_self, envC_trim, C_trim, isCall_call, stepK_gen, stepK_gen]
  generalize hG : upd (upd _ (7, 0) _) (7, 1) _ = G
  obtain ⟨l, hl⟩ : ∃ l, l = W 8 ((List.range 32).map key) := ⟨_, rfl⟩
  have hll : l.length = 16 * (13 + 2) := by rw [hl]; exact W_length 8 _ (by rw [List.length_map, List.length_range])
  have K : KG G (7, 0) (7, 1) (13 + 2) none l := by rw [← hG, hl]; exact ⟨rfl, rfl, by decide⟩
  have ga : G (3, 0) = some (aB 16 a) := by rw [← hG]; rfl
  have gb : G (4, 0) = some (aB 16 b) := by rw [← hG]; rfl
  clear hG hl
  have hr := reach_KG K
  have he : ∀ b s, _ := fun b s => c_enc (k + 369) 13 b (by decide) _ (7, 0) (7, 1) l K.only hll s
  have hd : ∀ b s, _ := fun b s => c_dec (k + 369) 13 b (by decide) _ (7, 0) (7, 1) l K.only hll s
  have ht : ∀ v, _ := fun v => tr_KG _ v (7, 0) (7, 1) (13 + 2) none l K.only
  have hli : ∀ b H, _ := fun b H => c_lives (k + 9) b H
  simp (disch := first | omega | decide | simp only [bs_isCell, bs_length, aW_isCell, aB_isCell, isCell_sl, isCell_isl, isCell_nil, isCell_ptr, isCell_N]) only [ev_ret, regK_some, evOpers_nil, evOpers_cons, evOpers_cons_g, guardK_true, put_some, evX_t, evX_c, outR_some, pickV_true, op_mv, op_pick, op_bin, op_call, callV_fn, andThen_normal, retK_ret, resVal_tmp, List.set_cons_zero, List.set_cons_succ, List.getD_cons_zero, List.getD_cons_succ, List.map_cons, List.map_nil, List.flatMap_cons, List.flatMap_nil, List.nil_append, List.append_nil, Bo_eql, outOf_Bo, Option.map_some, Nat.reduceAdd, Nat.reduceSub, cellAt_ptr, ldK_some, op_ld, List.all_cons, List.all_nil, Bool.and_true, Nat.reduceLT, if_true, Nat.zero_add, Nat.add_zero, decide_true, aB_cells, aB_agg_nms, aB_eql, Nat.add_zero, Nat.zero_add, N_eql, Nat.reduceLT, Nat.reduceAdd, decide_true, Bool.not_false, Bool.not_true, nep_ptr, updN_nil, modN_nil, Option.map_some, evOpers_ord_g, guardO_true, stepO_eq, only_at, touch_ld, touch_call, nms_fn, nms_ptr, List.contains_cons, List.contains_nil, beq_self_eq_true, Bool.or_true, Bool.or_false, ordOk, apartFrom, List.all_cons, List.all_nil, Nat.testBit, Nat.reduceShiftRight, Nat.reduceAnd, Nat.reduceBEq, Bool.not_true, Bool.not_false, Bool.and_self, Bool.and_true, Bool.and_false, Nat.reduceSub, Nat.reduceLT, bne, envC_trim, C_trim, trimO_pure, isCall_ld, isCall_call, Bool.and_false, Bool.and_true, ordK_gen, stepK_gen, stepK_gen, ordK_gen, hr, he, hd, ht, hli, ga, gb, nep_ptr, enc_same, dec_same]
end Aes

namespace Aes
open Go Go.LE
set_option maxRecDepth 20000

theorem back_4 (k : Nat) (key a : R) : F C (k + 430) 5 [.agg (aB 32 key), Bo false, .agg (aB 16 a)] [] = some (Bo true, [], []) := by
  rw [F_succ f5]
  simp (disch := first | omega | decide | simp only [bs_isCell, bs_length, aW_isCell, aB_isCell, isCell_sl, isCell_isl, isCell_nil, isCell_ptr, isCell_N]) only [funSem_eq, ev_skip, ev_seq, ev_region, regK_some, evOpers_nil, evOpers_cons, put_some, evX_t, evX_c, outR_some, op_mv, op_call, callV_fn, andThen_normal, ev_cond, condK_false, List.set_cons_zero, List.set_cons_succ, List.getD_cons_zero, List.getD_cons_succ, List.map_cons, List.map_nil, List.nil_append, List.cons_append, repUn_succ, List.replicate_zero, List.length_cons, List.length_nil, Nat.reduceAdd, Nat.reduceSub, cellsOf_agg, op_box, boxK_some, Nat.zero_add, Nat.add_zero, Nat.mul_one, Nat.add_zero, Nat.zero_add, N_nat, Nat.reduceAdd, optNat_none, optNat_some, op_slcAV, slcAV_ptr, updN_nil, updN_cons, modN_nil, Nat.sub_zero, Nat.mul_one, Nat.reduceSub, stepK_gen, stepK_gen, L5]
  rw [c_new (k + 29) 4 _ (.inl rfl) _ _ ((List.range 16).map key) (by rw [List.length_map, List.length_range]) [(2, 0)] (snap_aB rfl 16 _ (by decide) (by decide))]
  simp (disch := first | omega | decide | simp only [bs_isCell, bs_length, aW_isCell, aB_isCell, isCell_sl, isCell_isl, isCell_nil, isCell_ptr, isCell_N]) only [ev_seq, ev_region, regK_some, evOpers_nil, evOpers_cons, put_some, evX_t, evX_c, outR_some, op_mv, op_call, callV_fn, andThen_normal, List.set_cons_zero, List.set_cons_succ, List.getD_cons_zero, List.getD_cons_succ, List.map_nil, List.flatMap_cons, List.flatMap_nil, List.append_nil, List.length_cons, List.length_nil, Nat.reduceAdd, Nat.zero_add, Nat.add_zero, Nat.add_zero, Nat.zero_add, Nat.reduceAdd, updN_nil, updN_cons, modN_nil, List.getElem?_cons_zero, List.getElem?_cons_succ, op_extV, extV_tup, List.getElem?_cons_zero, List.getElem?_cons_succ, evOpers_ord, stepO_eq, touch_call, reach_none, nms_fn, Bool.and_self, envC_trim, C_trim, isCall_call, stepK_gen, stepK_gen]
  generalize hG : upd (upd _ (9, 0) _) (9, 1) _ = G
  obtain ⟨l, hl⟩ : ∃ l, l = W 4 ((List.range 16).map key) := ⟨_, rfl⟩
  have hll : l.length = 16 * (9 + 2) := by rw [hl]; exact W_length 4 _ (by rw [List.length_map, List.length_range])
  have K : KG G (9, 0) (9, 1) (9 + 2) none l := by rw [← hG, hl]; exact ⟨rfl, rfl, by decide⟩
  have ga : G (3, 0) = some (aB 16 a) := by rw [← hG]; rfl
  have hb1 := fun s : R => same_E (dec_enc (kf l) 9 s)
  have hb2 := fun s : R => same_E (enc_dec (kf l) 9 s)
  clear hG hl
  have hr := reach_KG K
  have he : ∀ b s, _ := fun b s => c_enc (k + 369) 9 b (by decide) _ (9, 0) (9, 1) l K.only hll s
  have hd : ∀ b s, _ := fun b s => c_dec (k + 369) 9 b (by decide) _ (9, 0) (9, 1) l K.only hll s
  have hk : ∀ b z, _ := fun b z => c_key (k + 427) 9 b (by decide) _ (9, 0) (9, 1) l K.only hll z
  have ho : ∀ b, _ := fun b => c_rounds (k + 427) 9 b (by decide) _ (9, 0) (9, 1) l K.only
  have ht : ∀ v, _ := fun v => tr_KG _ v (9, 0) (9, 1) (9 + 2) none l K.only
  have hli : ∀ b H, _ := fun b H => c_lives (k + 9) b H
  simp (disch := first | omega | decide | simp only [bs_isCell, bs_length, aW_isCell, aB_isCell, isCell_sl, isCell_isl, isCell_nil, isCell_ptr, isCell_N]) only [ev_ret, regK_some, evOpers_nil, evOpers_cons, evOpers_cons_g, guardK_true, put_some, evX_t, evX_c, outR_some, pickV_true, op_mv, op_pick, op_bin, op_call, callV_fn, andThen_normal, retK_ret, resVal_tmp, List.set_cons_zero, List.set_cons_succ, List.getD_cons_zero, List.getD_cons_succ, List.map_cons, List.map_nil, List.flatMap_cons, List.flatMap_nil, List.nil_append, List.append_nil, outOf_Bo, Option.map_some, Nat.reduceAdd, Nat.reduceSub, cellAt_ptr, ldK_some, op_ld, List.all_cons, List.all_nil, Bool.and_true, Nat.reduceLT, if_true, Nat.zero_add, Nat.add_zero, decide_true, aB_cells, aB_agg_nms, aB_eql, Nat.add_zero, Nat.zero_add, N_eql, Nat.reduceLT, Nat.reduceAdd, decide_true, Bool.not_false, Bool.not_true, nep_ptr, updN_nil, modN_nil, Option.map_some, evOpers_ord_g, guardO_true, stepO_eq, only_at, touch_ld, touch_call, nms_fn, nms_ptr, List.contains_cons, List.contains_nil, beq_self_eq_true, Bool.or_true, Bool.or_false, ordOk, apartFrom, List.all_cons, List.all_nil, Nat.testBit, Nat.reduceShiftRight, Nat.reduceAnd, Nat.reduceBEq, Bool.not_true, Bool.not_false, Bool.and_self, Bool.and_true, Bool.and_false, Nat.reduceSub, Nat.reduceLT, bne, envC_trim, C_trim, trimO_pure, isCall_ld, isCall_call, Bool.and_false, Bool.and_true, ordK_gen, stepK_gen, stepK_gen, ordK_gen, hr, he, hd, ht, hli, ga, hb1, hb2, nep_ptr]

theorem back_8 (k : Nat) (key a : R) : F C (k + 430) 5 [.agg (aB 32 key), Bo true, .agg (aB 16 a)] [] = some (Bo true, [], []) := by
  rw [F_succ f5]
  simp (disch := first | omega | decide | simp only [bs_isCell, bs_length, aW_isCell, aB_isCell, isCell_sl, isCell_isl, isCell_nil, isCell_ptr, isCell_N]) only [funSem_eq, ev_seq, ev_region, regK_some, evOpers_nil, evOpers_cons, put_some, evX_t, evX_c, outR_some, op_mv, op_call, callV_fn, andThen_normal, ev_cond, condK_true, List.set_cons_zero, List.set_cons_succ, List.getD_cons_zero, List.getD_cons_succ, List.map_cons, List.map_nil, List.nil_append, List.cons_append, repUn_succ, List.replicate_zero, List.length_cons, List.length_nil, Nat.reduceAdd, Nat.reduceSub, cellsOf_agg, op_box, boxK_some, Nat.zero_add, Nat.add_zero, Nat.mul_one, Nat.add_zero, Nat.zero_add, N_nat, Nat.reduceAdd, optNat_none, optNat_some, op_slcAV, slcAV_ptr, updN_nil, updN_cons, modN_nil, Nat.sub_zero, Nat.mul_one, Nat.reduceSub, stepK_gen, stepK_gen, L5]
  rw [c_new (k + 29) 8 _ (.inr rfl) _ _ ((List.range 32).map key) (by rw [List.length_map, List.length_range]) [(2, 0)] (snap_aB rfl 32 _ (by decide) (by decide))]
  simp (disch := first | omega | decide | simp only [bs_isCell, bs_length, aW_isCell, aB_isCell, isCell_sl, isCell_isl, isCell_nil, isCell_ptr, isCell_N]) only [ev_seq, ev_region, regK_some, evOpers_nil, evOpers_cons, put_some, evX_t, evX_c, outR_some, op_mv, op_call, callV_fn, andThen_normal, List.set_cons_zero, List.set_cons_succ, List.getD_cons_zero, List.getD_cons_succ, List.map_nil, List.flatMap_cons, List.flatMap_nil, List.append_nil, List.length_cons, List.length_nil, Nat.reduceAdd, Nat.zero_add, Nat.add_zero, Nat.add_zero, Nat.zero_add, Nat.reduceAdd, updN_nil, updN_cons, modN_nil, List.getElem?_cons_zero, List.getElem?_cons_succ, op_extV, extV_tup, List.getElem?_cons_zero, List.getElem?_cons_succ, evOpers_ord, stepO_eq, touch_call, reach_none, nms_fn, Bool.and_self, envC_trim, C_trim, isCall_call, stepK_gen, stepK_gen]
  generalize hG : upd (upd _ (11, 0) _) (11, 1) _ = G
  obtain ⟨l, hl⟩ : ∃ l, l = W 8 ((List.range 32).map key) := ⟨_, rfl⟩
  have hll : l.length = 16 * (13 + 2) := by rw [hl]; exact W_length 8 _ (by rw [List.length_map, List.length_range])
  have K : KG G (11, 0) (11, 1) (13 + 2) none l := by rw [← hG, hl]; exact ⟨rfl, rfl, by decide⟩
  have ga : G (3, 0) = some (aB 16 a) := by rw [← hG]; rfl
  have hb1 := fun s : R => same_E (dec_enc (kf l) 13 s)
  have hb2 := fun s : R => same_E (enc_dec (kf l) 13 s)
  clear hG hl
  have hr := reach_KG K
  have he : ∀ b s, _ := fun b s => c_enc (k + 369) 13 b (by decide) _ (11, 0) (11, 1) l K.only hll s
  have hd : ∀ b s, _ := fun b s => c_dec (k + 369) 13 b (by decide) _ (11, 0) (11, 1) l K.only hll s
  have hk : ∀ b z, _ := fun b z => c_key (k + 427) 13 b (by decide) _ (11, 0) (11, 1) l K.only hll z
  have ho : ∀ b, _ := fun b => c_rounds (k + 427) 13 b (by decide) _ (11, 0) (11, 1) l K.only
  have ht : ∀ v, _ := fun v => tr_KG _ v (11, 0) (11, 1) (13 + 2) none l K.only
  have hli : ∀ b H, _ := fun b H => c_lives (k + 9) b H
  simp (disch := first | omega | decide | simp only [bs_isCell, bs_length, aW_isCell, aB_isCell, isCell_sl, isCell_isl, isCell_nil, isCell_ptr, isCell_N]) only [ev_ret, regK_some, evOpers_nil, evOpers_cons, evOpers_cons_g, guardK_true, put_some, evX_t, evX_c, outR_some, pickV_true, op_mv, op_pick, op_bin, op_call, callV_fn, andThen_normal, retK_ret, resVal_tmp, List.set_cons_zero, List.set_cons_succ, List.getD_cons_zero, List.getD_cons_succ, List.map_cons, List.map_nil, List.flatMap_cons, List.flatMap_nil, List.nil_append, List.append_nil, outOf_Bo, Option.map_some, Nat.reduceAdd, Nat.reduceSub, cellAt_ptr, ldK_some, op_ld, List.all_cons, List.all_nil, Bool.and_true, Nat.reduceLT, if_true, Nat.zero_add, Nat.add_zero, decide_true, aB_cells, aB_agg_nms, aB_eql, Nat.add_zero, Nat.zero_add, N_eql, Nat.reduceLT, Nat.reduceAdd, decide_true, Bool.not_false, Bool.not_true, nep_ptr, updN_nil, modN_nil, Option.map_some, evOpers_ord_g, guardO_true, stepO_eq, only_at, touch_ld, touch_call, nms_fn, nms_ptr, List.contains_cons, List.contains_nil, beq_self_eq_true, Bool.or_true, Bool.or_false, ordOk, apartFrom, List.all_cons, List.all_nil, Nat.testBit, Nat.reduceShiftRight, Nat.reduceAnd, Nat.reduceBEq, Bool.not_true, Bool.not_false, Bool.and_self, Bool.and_true, Bool.and_false, Nat.reduceSub, Nat.reduceLT, bne, envC_trim, C_trim, trimO_pure, isCall_ld, isCall_call, Bool.and_false, Bool.and_true, ordK_gen, stepK_gen, stepK_gen, ordK_gen, hr, he, hd, ht, hli, ga, hb1, hb2, nep_ptr]

theorem back_F (k : Nat) (key a : R) (w : Bool) : F C (k + 430) 5 [.agg (aB 32 key), Bo w, .agg (aB 16 a)] [] = some (Bo true, [], []) := by
  cases w
  · exact back_4 k key a
  · exact back_8 k key a
end Aes

namespace Aes
open Go Go.LE
set_option maxRecDepth 20000

theorem b2sK_aB (n : Nat) (f : R) : b2sK (some (aB n f)) = some ⟨txt ((List.range n).map f), [], []⟩ := by rw [aB_bs, b2sK_bs]
theorem fr16 (f : R) : frontK 0 1 16 (some (aB 32 f)) = some (aB 16 f) := rfl
theorem fr16b (f : R) : frontK 16 1 16 (some (aB 32 f)) = some (aB 16 fun j => f (16 + j)) := rfl
theorem kf_pre {key l : List (BitVec 8)} (h : key <+: l) (i j : Nat) (hj : i * 16 + j < key.length) : kf l i j = key.getD (i * 16 + j) 0#8 := by
  obtain ⟨t, rfl⟩ := h
  rw [kf, List.getD_eq_getElem?_getD, List.getElem?_append_left hj, ← List.getD_eq_getElem?_getD]
theorem getD_map (key : R) (n i : Nat) (h : i < n) : ((List.range n).map key).getD i 0#8 = key i := by
  simp [List.getD_eq_getElem?_getD, h]
theorem keyAt_0 (n : Nat) (hn : n = 4 ∨ n = 8) (key : R) : (List.range 16).map (keyAt (n + 5) (W n ((List.range (4 * n)).map key)) ↑(0 : Nat)) = (List.range 16).map key := by
  apply List.map_congr_left
  intro j hj
  have hj := List.mem_range.1 hj
  rw [keyAt, if_pos (by omega)]
  have := kf_pre (W_prefix n ((List.range (4 * n)).map key)) 0 j (by rw [List.length_map, List.length_range]; omega)
  rw [show ((0 : Nat) : Int).toNat = 0 from rfl, this, Nat.zero_mul, Nat.zero_add, getD_map _ _ _ (by omega)]
theorem keyAt_1 (key : R) : (List.range 16).map (keyAt 13 (W 8 ((List.range 32).map key)) ↑(1 : Nat)) = (List.range 16).map fun j => key (16 + j) := by
  apply List.map_congr_left
  intro j hj
  have hj := List.mem_range.1 hj
  rw [keyAt, if_pos (by omega)]
  have := kf_pre (W_prefix 8 ((List.range 32).map key)) 1 j (by rw [List.length_map, List.length_range]; omega)
  rw [show ((1 : Nat) : Int).toNat = 1 from rfl, this, Nat.one_mul, getD_map _ _ _ (by omega)]

theorem first_4 (k : Nat) (key : R) : F C (k + 430) 3 [.agg (aB 32 key), Bo false] [] = some (Bo true, [], []) := by
  rw [F_succ f3]
  simp (disch := first | omega | decide | simp only [bs_isCell, bs_length, aW_isCell, aB_isCell, isCell_sl, isCell_isl, isCell_nil, isCell_ptr, isCell_N]) only [funSem_eq, ev_skip, ev_seq, ev_region, regK_some, evOpers_nil, evOpers_cons, put_some, evX_t, evX_c, outR_some, op_mv, op_call, callV_fn, andThen_normal, ev_cond, condK_false, List.set_cons_zero, List.set_cons_succ, List.getD_cons_zero, List.getD_cons_succ, List.map_cons, List.map_nil, List.nil_append, List.cons_append, repUn_succ, List.replicate_zero, List.length_cons, List.length_nil, Nat.reduceAdd, Nat.reduceSub, cellsOf_agg, op_box, boxK_some, Nat.zero_add, Nat.add_zero, aB_rep, Nat.mul_one, Nat.add_zero, Nat.zero_add, N_nat, Nat.reduceAdd, optNat_none, optNat_some, op_slcAV, slcAV_ptr, updN_nil, updN_cons, modN_nil, Nat.sub_zero, Nat.mul_one, Nat.reduceSub, stepK_gen, stepK_gen, L3]
  rw [c_new (k + 29) 4 _ (.inl rfl) _ _ ((List.range 16).map key) (by rw [List.length_map, List.length_range]) [(2, 0)] (snap_aB rfl 16 _ (by decide) (by decide))]
  simp (disch := first | omega | decide | simp only [bs_isCell, bs_length, aW_isCell, aB_isCell, isCell_sl, isCell_isl, isCell_nil, isCell_ptr, isCell_N]) only [ev_skip, ev_seq, ev_region, regK_some, evOpers_nil, evOpers_cons, evOpers_cons_g, guardK_true', put_some, evX_t, evX_c, outR_some, pickV_false, op_mv, op_pick, op_bin, op_un, op_call, callV_fn, andThen_normal, ev_cond, condK_false, List.set_cons_zero, List.set_cons_succ, List.getD_cons_zero, List.getD_cons_succ, List.map_cons, List.map_nil, List.length_cons, List.length_nil, Bo_not, Nat.reduceAdd, Nat.zero_add, Nat.add_zero, decide_true, Nat.add_zero, Nat.zero_add, N_neq, decide_not, Nat.reduceAdd, decide_true, Bool.not_true, eqp_ptr, updN_nil, updN_cons, modN_nil, List.getElem?_cons_zero, List.getElem?_cons_succ, op_extV, extV_tup, List.getElem?_cons_zero, List.getElem?_cons_succ, Bool.not_true, stepK_gen, stepK_gen, c_lives (k + 9), eqp_ptr]
  obtain ⟨l, hl⟩ : ∃ l, l = W 4 ((List.range 16).map key) := ⟨_, rfl⟩
  have hll : l.length = 16 * (9 + 2) := by rw [hl]; exact W_length 4 _ (by rw [List.length_map, List.length_range])
  rw [← hl]
  generalize hG : upd (upd _ (8, 0) _) (8, 1) _ = G
  have K : KG G (8, 0) (8, 1) (9 + 2) none l := by rw [← hG]; exact ⟨rfl, rfl, by decide⟩
  have g2 : G (2, 0) = some (aB 32 key) := by rw [← hG]; rfl
  clear hG
  have hkN : ∀ (H : Heap) (b i : Nat), KG H (8, 0) (8, 1) (9 + 2) none l → callOp (envC C (k + 429)) H b 14 [.ptr (8, 0) 0, N i] = some ⟨.agg (aB 16 (keyAt 9 l i)), [], [((8, 0), some (CF (.sl (8, 1) 0 (9 + 2) none 16) TB)), ((8, 1), some (bs l))]⟩ := by
    intro H b i K
    have := c_key (k + 427) 9 b (by decide) H (8, 0) (8, 1) l K hll (i : Int)
    rwa [I_N] at this
  rw [hkN G _ 0 K]
  simp (disch := first | omega | decide | simp only [bs_isCell, bs_length, aW_isCell, aB_isCell, isCell_sl, isCell_isl, isCell_nil, isCell_ptr, isCell_N]) only [evOpers_cons, put_some, evX_t, evX_c, op_mv, op_call, callV_fn, List.set_cons_zero, List.set_cons_succ, List.getD_cons_zero, List.getD_cons_succ, List.map_cons, List.map_nil, Nat.reduceAdd, Nat.reduceAdd, updN_nil, modN_nil, modN_cons, stepK_gen, stepK_gen]
  rw [hkN _ _ 1 ⟨rfl, rfl, by decide⟩]
  simp (disch := first | omega | decide | simp only [bs_isCell, bs_length, aW_isCell, aB_isCell, isCell_sl, isCell_isl, isCell_nil, isCell_ptr, isCell_N]) only [ev_seq, ev_region, regK_some, evOpers_nil, evOpers_cons, put_some, put_none, evX_t, outR_some, andThen_normal, List.set_cons_zero, List.set_cons_succ, List.getD_cons_zero, List.getD_cons_succ, List.length_cons, List.length_nil, Nat.reduceAdd, upd_at, cellsOf_agg, op_new, op_st, stV_ptr, Prod.mk.injEq, Nat.reduceEqDiff, and_true, and_self, if_true, if_false, Nat.zero_add, Nat.add_zero, Nat.zero_ne_one, aB_st_all, Nat.mul_one, Nat.add_zero, Nat.zero_add, Nat.reduceEqDiff, Nat.reduceAdd, optNat_none, op_slcAV, slcAV_ptr, updN_nil, updN_cons, modN_nil, modN_cons, Nat.sub_zero, Nat.mul_one, evOpers_ord, stepO_eq, touch_b2s, Bool.and_false, envC_trim, C_trim, trimO_f, isCall_b2s, Bool.and_false, stepK_gen, stepK_gen]
  generalize hG2 : upd _ (29, 0) (some (aB 16 (keyAt 9 l ↑1))) = G2
  have K2 : KG G2 (8, 0) (8, 1) (9 + 2) none l := by rw [← hG2]; exact ⟨rfl, rfl, by decide⟩
  have q2 : G2 (2, 0) = some (aB 32 key) := by rw [← hG2]; exact g2
  have qa : G2 (28, 0) = some (aB 16 (keyAt 9 l ↑0)) := by rw [← hG2]; rfl
  have qb : G2 (29, 0) = some (aB 16 (keyAt 9 l ↑1)) := by rw [← hG2]; rfl
  clear hG2
  have hr := reach_KG K2
  have hk : ∀ b (i : Nat), _ := fun b i => hkN _ b i K2.only
  have ho : ∀ b, _ := fun b => c_rounds (k + 427) 9 b (by decide) _ (8, 0) (8, 1) l K2.only
  have ht : ∀ v, _ := fun v => tr_KG _ v (8, 0) (8, 1) (9 + 2) none l K2.only
  have e0 : (List.range 16).map (keyAt 9 l ↑0) = (List.range 16).map key := by rw [hl]; exact keyAt_0 4 (.inl rfl) key
  have e2 : keyAt 9 l ↑(11 : Nat) = fun _ => 0#8 := if_neg (by omega)
  simp (disch := first | omega | decide | simp only [bs_isCell, bs_length, aW_isCell, aB_isCell, isCell_sl, isCell_isl, isCell_nil, isCell_ptr, isCell_N]) only [ev_ret, regK_some, evOpers_nil, evOpers_cons, evOpers_cons_g, guardK_true, guardK_false', put_some, evX_t, evX_c, outR_some, pickV_true, op_mv, op_pick, op_bin, op_un, op_call, callV_fn, andThen_normal, retK_ret, resVal_tmp, List.set_cons_zero, List.set_cons_succ, List.getD_cons_zero, List.getD_cons_succ, List.map_cons, List.map_nil, List.flatMap_cons, List.flatMap_nil, List.nil_append, List.append_nil, Bo_not, outOf_Bo, Option.map_some, Nat.reduceAdd, Nat.reduceSub, fill_nil, aggR_some, op_build, List.all_cons, List.all_nil, Bool.and_true, Nat.reduceLT, if_true, Nat.add_zero, decide_true, aB_eql, Nat.mul_one, Nat.add_zero, N_add, N_quo, N_eql, N_nat, nms_N, Nat.reduceLT, Nat.reduceAdd, Nat.reduceDiv, decide_true, Bool.not_false, Bool.not_true, op_len, lenV_some, lenS_sl, lenOf_sl, optNat_none, optNat_some, op_slcAV, slcAV_ptr, updN_nil, modN_nil, Option.map_some, Nat.sub_zero, Nat.mul_one, evOpers_ord, evOpers_ord_g, guardO_true, guardO_false', stepO_eq, only_at, touch_call, touch_b2s, nms_fn, nms_ptr, List.contains_cons, List.contains_nil, beq_self_eq_true, Bool.or_true, Bool.or_false, ordOk, apartFrom, List.all_cons, List.all_nil, Nat.testBit, Nat.reduceShiftRight, Nat.reduceAnd, Nat.reduceBEq, Bool.not_true, Bool.not_false, Bool.and_self, Bool.and_true, Bool.and_false, Nat.reduceSub, Nat.reduceLT, bne, envC_trim, C_trim, trimO_pure, isCall_b2s, isCall_call, Bool.and_false, Bool.and_true, frontK_aB, front_sl, ordK_gen, stepK_gen, stepK_gen, ordK_gen, op_b2s, b2sV_sl, b2sK_aB, b2sK_bs, fr16, txt_eql, nms_sl, hr, hk, ho, ht, q2, qa, e0, e2, same_self]

theorem first_8 (k : Nat) (key : R) : F C (k + 430) 3 [.agg (aB 32 key), Bo true] [] = some (Bo true, [], []) := by
  rw [F_succ f3]
  simp (disch := first | omega | decide | simp only [bs_isCell, bs_length, aW_isCell, aB_isCell, isCell_sl, isCell_isl, isCell_nil, isCell_ptr, isCell_N]) only [funSem_eq, ev_seq, ev_region, regK_some, evOpers_nil, evOpers_cons, put_some, evX_t, evX_c, outR_some, op_mv, op_call, callV_fn, andThen_normal, ev_cond, condK_true, List.set_cons_zero, List.set_cons_succ, List.getD_cons_zero, List.getD_cons_succ, List.map_cons, List.map_nil, List.nil_append, List.cons_append, repUn_succ, List.replicate_zero, List.length_cons, List.length_nil, Nat.reduceAdd, Nat.reduceSub, cellsOf_agg, op_box, boxK_some, Nat.zero_add, Nat.add_zero, aB_rep, Nat.mul_one, Nat.add_zero, Nat.zero_add, N_nat, Nat.reduceAdd, optNat_none, optNat_some, op_slcAV, slcAV_ptr, updN_nil, updN_cons, modN_nil, Nat.sub_zero, Nat.mul_one, Nat.reduceSub, stepK_gen, stepK_gen, L3]
  rw [c_new (k + 29) 8 _ (.inr rfl) _ _ ((List.range 32).map key) (by rw [List.length_map, List.length_range]) [(2, 0)] (snap_aB rfl 32 _ (by decide) (by decide))]
  simp (disch := first | omega | decide | simp only [bs_isCell, bs_length, aW_isCell, aB_isCell, isCell_sl, isCell_isl, isCell_nil, isCell_ptr, isCell_N]) only [ev_skip, ev_seq, ev_region, regK_some, evOpers_nil, evOpers_cons, evOpers_cons_g, guardK_true', put_some, evX_t, evX_c, outR_some, pickV_false, op_mv, op_pick, op_bin, op_un, op_call, callV_fn, andThen_normal, ev_cond, condK_false, List.set_cons_zero, List.set_cons_succ, List.getD_cons_zero, List.getD_cons_succ, List.map_cons, List.map_nil, List.length_cons, List.length_nil, Bo_not, Nat.reduceAdd, Nat.zero_add, Nat.add_zero, decide_true, Nat.add_zero, Nat.zero_add, N_neq, decide_not, Nat.reduceAdd, decide_true, Bool.not_true, eqp_ptr, updN_nil, updN_cons, modN_nil, List.getElem?_cons_zero, List.getElem?_cons_succ, op_extV, extV_tup, List.getElem?_cons_zero, List.getElem?_cons_succ, Bool.not_true, stepK_gen, stepK_gen, c_lives (k + 9), eqp_ptr]
  obtain ⟨l, hl⟩ : ∃ l, l = W 8 ((List.range 32).map key) := ⟨_, rfl⟩
  have hll : l.length = 16 * (13 + 2) := by rw [hl]; exact W_length 8 _ (by rw [List.length_map, List.length_range])
  rw [← hl]
  generalize hG : upd (upd _ (10, 0) _) (10, 1) _ = G
  have K : KG G (10, 0) (10, 1) (13 + 2) none l := by rw [← hG]; exact ⟨rfl, rfl, by decide⟩
  have g2 : G (2, 0) = some (aB 32 key) := by rw [← hG]; rfl
  clear hG
  have hkN : ∀ (H : Heap) (b i : Nat), KG H (10, 0) (10, 1) (13 + 2) none l → callOp (envC C (k + 429)) H b 14 [.ptr (10, 0) 0, N i] = some ⟨.agg (aB 16 (keyAt 13 l i)), [], [((10, 0), some (CF (.sl (10, 1) 0 (13 + 2) none 16) TB)), ((10, 1), some (bs l))]⟩ := by
    intro H b i K
    have := c_key (k + 427) 13 b (by decide) H (10, 0) (10, 1) l K hll (i : Int)
    rwa [I_N] at this
  rw [hkN G _ 0 K]
  simp (disch := first | omega | decide | simp only [bs_isCell, bs_length, aW_isCell, aB_isCell, isCell_sl, isCell_isl, isCell_nil, isCell_ptr, isCell_N]) only [evOpers_cons, put_some, evX_t, evX_c, op_mv, op_call, callV_fn, List.set_cons_zero, List.set_cons_succ, List.getD_cons_zero, List.getD_cons_succ, List.map_cons, List.map_nil, Nat.reduceAdd, Nat.reduceAdd, updN_nil, modN_nil, modN_cons, stepK_gen, stepK_gen]
  rw [hkN _ _ 1 ⟨rfl, rfl, by decide⟩]
  simp (disch := first | omega | decide | simp only [bs_isCell, bs_length, aW_isCell, aB_isCell, isCell_sl, isCell_isl, isCell_nil, isCell_ptr, isCell_N]) only [ev_seq, ev_region, regK_some, evOpers_nil, evOpers_cons, put_some, put_none, evX_t, outR_some, andThen_normal, List.set_cons_zero, List.set_cons_succ, List.getD_cons_zero, List.getD_cons_succ, List.length_cons, List.length_nil, Nat.reduceAdd, upd_at, cellsOf_agg, op_new, op_st, stV_ptr, Prod.mk.injEq, Nat.reduceEqDiff, and_true, and_self, if_true, if_false, Nat.zero_add, Nat.add_zero, Nat.zero_ne_one, aB_st_all, Nat.mul_one, Nat.add_zero, Nat.zero_add, Nat.reduceEqDiff, Nat.reduceAdd, optNat_none, op_slcAV, slcAV_ptr, updN_nil, updN_cons, modN_nil, modN_cons, Nat.sub_zero, Nat.mul_one, evOpers_ord, stepO_eq, touch_b2s, Bool.and_false, envC_trim, C_trim, trimO_f, isCall_b2s, Bool.and_false, stepK_gen, stepK_gen]
  generalize hG2 : upd _ (31, 0) (some (aB 16 (keyAt 13 l ↑1))) = G2
  have K2 : KG G2 (10, 0) (10, 1) (13 + 2) none l := by rw [← hG2]; exact ⟨rfl, rfl, by decide⟩
  have q2 : G2 (2, 0) = some (aB 32 key) := by rw [← hG2]; exact g2
  have qa : G2 (30, 0) = some (aB 16 (keyAt 13 l ↑0)) := by rw [← hG2]; rfl
  have qb : G2 (31, 0) = some (aB 16 (keyAt 13 l ↑1)) := by rw [← hG2]; rfl
  clear hG2
  have hr := reach_KG K2
  have hk : ∀ b (i : Nat), _ := fun b i => hkN _ b i K2.only
  have ho : ∀ b, _ := fun b => c_rounds (k + 427) 13 b (by decide) _ (10, 0) (10, 1) l K2.only
  have ht : ∀ v, _ := fun v => tr_KG _ v (10, 0) (10, 1) (13 + 2) none l K2.only
  have e0 : (List.range 16).map (keyAt 13 l ↑0) = (List.range 16).map key := by rw [hl]; exact keyAt_0 8 (.inr rfl) key
  have e1 : (List.range 16).map (keyAt 13 l ↑1) = (List.range 16).map fun j => key (16 + j) := by rw [hl]; exact keyAt_1 key
  have e2 : keyAt 13 l ↑(15 : Nat) = fun _ => 0#8 := if_neg (by omega)
  simp (disch := first | omega | decide | simp only [bs_isCell, bs_length, aW_isCell, aB_isCell, isCell_sl, isCell_isl, isCell_nil, isCell_ptr, isCell_N]) only [ev_ret, regK_some, evOpers_nil, evOpers_cons, evOpers_cons_g, guardK_true, guardK_true', put_some, evX_t, evX_c, outR_some, pickV_true, pickV_false, op_mv, op_pick, op_bin, op_un, op_call, callV_fn, andThen_normal, retK_ret, resVal_tmp, List.set_cons_zero, List.set_cons_succ, List.getD_cons_zero, List.getD_cons_succ, List.map_cons, List.map_nil, List.flatMap_cons, List.flatMap_nil, List.nil_append, List.append_nil, Bo_not, outOf_Bo, Option.map_some, Nat.reduceAdd, Nat.reduceSub, fill_nil, aggR_some, op_build, List.all_cons, List.all_nil, Bool.and_true, Nat.reduceLT, if_true, Nat.zero_add, Nat.add_zero, decide_true, aB_eql, Nat.mul_one, Nat.add_zero, Nat.zero_add, N_add, N_quo, N_eql, N_nat, nms_N, Nat.reduceLT, Nat.reduceAdd, Nat.reduceDiv, decide_true, Bool.not_false, Bool.not_true, op_len, lenV_some, lenS_sl, lenOf_sl, optNat_none, optNat_some, op_slcAV, slcAV_ptr, updN_nil, modN_nil, Option.map_some, Nat.sub_zero, Nat.mul_one, evOpers_ord, evOpers_ord_g, guardO_true, guardO_true', stepO_eq, only_at, touch_call, touch_b2s, nms_fn, nms_ptr, List.contains_cons, List.contains_nil, beq_self_eq_true, Bool.or_true, Bool.or_false, ordOk, apartFrom, List.all_cons, List.all_nil, Nat.testBit, Nat.reduceShiftRight, Nat.reduceAnd, Nat.reduceBEq, Bool.not_true, Bool.not_false, Bool.and_self, Bool.and_true, Bool.and_false, Nat.reduceSub, Nat.reduceLT, bne, envC_trim, C_trim, trimO_pure, isCall_b2s, isCall_call, Bool.and_false, Bool.and_true, frontK_aB, front_sl, ordK_gen, stepK_gen, stepK_gen, ordK_gen, op_b2s, b2sV_sl, b2sK_aB, b2sK_bs, fr16, fr16b, txt_eql, nms_sl, hr, hk, ho, ht, q2, qa, qb, e0, e1, e2, same_self]

theorem first_F (k : Nat) (key : R) (w : Bool) : F C (k + 430) 3 [.agg (aB 32 key), Bo w] [] = some (Bo true, [], []) := by
  cases w
  · exact first_4 k key
  · exact first_8 k key
end Aes

namespace Aes
open Go Go.LE
set_option maxRecDepth 20000

theorem keys_neg (k n : Nat) (hn : n = 4 ∨ n = 8) (key : List (BitVec 8)) (hk : key.length = 4 * n) (z : Int) (hz : z < 0) : F C (k + 430) 7 [.isl (bs key) key.length, I z] [] = some (Bo true, [], []) := by
  rw [F_succ f7]
  obtain ⟨m, hm⟩ : ∃ m, m = n + 5 := ⟨_, rfl⟩
  have hm2 : n + 7 = m + 2 := by omega
  have hm20 : m ≤ 20 := by omega
  obtain ⟨l, hl⟩ : ∃ l, l = W n key := ⟨_, rfl⟩
  have hll : l.length = 16 * (m + 2) := by rw [hl, W_length n key hk, hm2]
  have hgt : binV .geq EqT.none (I z) (N 0) = some (Bo false) := by rw [N, I_geq, decide_eq_false (by omega)]
  have hz2 : keyAt m l z = fun _ => 0#8 := if_neg (by omega)
  simp (disch := first | omega | decide | simp only [bs_isCell, bs_length, aW_isCell, aB_isCell, isCell_sl, isCell_isl, isCell_nil, isCell_ptr, isCell_N]) only [funSem_eq, ev_seq, ev_region, regK_some, evOpers_nil, evOpers_cons, put_some, evX_t, evX_c, op_mv, op_call, callV_fn, andThen_normal, List.set_cons_zero, List.set_cons_succ, List.getD_cons_zero, List.getD_cons_succ, List.map_cons, List.map_nil, List.nil_append, List.cons_append, repUn_succ, List.replicate_zero, List.length_cons, List.length_nil, Nat.reduceAdd, Nat.reduceSub, Nat.zero_add, Nat.add_zero, aB_rep, Nat.add_zero, Nat.zero_add, Nat.reduceAdd, updN_nil, modN_nil, Nat.reduceSub, stepK_gen, stepK_gen, L7]
  rw [c_new (k + 29) n _ hn _ _ key hk [] (snap_isl _ _), hm2, ← hl]
  simp (disch := first | omega | decide | simp only [bs_isCell, bs_length, aW_isCell, aB_isCell, isCell_sl, isCell_isl, isCell_nil, isCell_ptr, isCell_N]) only [ev_seq, ev_region, regK_some, evOpers_nil, evOpers_cons, put_some, evX_t, evX_c, outR_some, op_mv, op_call, callV_fn, andThen_normal, List.set_cons_zero, List.set_cons_succ, List.getD_cons_zero, List.getD_cons_succ, List.map_cons, List.map_nil, List.length_cons, List.length_nil, Nat.reduceAdd, Nat.zero_add, Nat.add_zero, Nat.add_zero, Nat.zero_add, Nat.reduceAdd, updN_nil, updN_cons, modN_nil, List.getElem?_cons_zero, List.getElem?_cons_succ, op_extV, extV_tup, List.getElem?_cons_zero, List.getElem?_cons_succ, stepK_gen, stepK_gen]
  rw [c_rnew (k + 29) n _ hn _ _ key hk [] (snap_isl _ _), hm2, ← hl]
  simp (disch := first | omega | decide | simp only [bs_isCell, bs_length, aW_isCell, aB_isCell, isCell_sl, isCell_isl, isCell_nil, isCell_ptr, isCell_N]) only [ev_skip, ev_seq, ev_region, regK_some, evOpers_nil, evOpers_cons, evOpers_cons_g, guardK_false, guardK_true', put_some, put_none, evX_t, evX_c, outR_some, pickV_false, op_mv, op_pick, op_bin, op_un, op_call, callV_fn, andThen_normal, ev_cond, condK_false, List.set_cons_zero, List.set_cons_succ, List.getD_cons_zero, List.getD_cons_succ, List.map_cons, List.map_nil, List.flatMap_cons, List.flatMap_nil, List.nil_append, List.append_nil, List.length_cons, List.length_nil, Bo_neq, Bo_not, Nat.reduceAdd, upd_at, cellsOf_agg, op_new, op_st, stV_ptr, fill_nil, aggR_some, op_build, Prod.mk.injEq, Nat.reduceEqDiff, and_true, and_self, if_true, if_false, Nat.zero_add, Nat.add_zero, decide_true, Nat.zero_ne_one, aB_st_all, Nat.add_zero, Nat.zero_add, N_neq, decide_not, Nat.reduceEqDiff, Nat.reduceAdd, decide_true, Bool.not_true, eqp_ptr, updN_nil, updN_cons, modN_nil, modN_cons, inHeap_none, List.getElem?_cons_zero, List.getElem?_cons_succ, op_extV, extV_tup, List.getElem?_cons_zero, List.getElem?_cons_succ, evOpers_ord, stepO_eq, touch_call, nms_fn, nms_ptr, beq_self_eq_true, Bool.not_true, Bool.and_self, envC_trim, C_trim, isCall_call, stepK_gen, stepK_gen, c_lives (k + 9), eqp_ptr, hgt]
  clear hm2
  generalize hG : upd _ (34, 0) (some (aB 16 fun _ => 0#8)) = G
  have K : KG G (4, 0) (4, 1) (m + 2) none l := by rw [← hG]; exact ⟨rfl, rfl, by decide⟩
  have hrf : G (11, 0) = some (RF (.sl (11, 1) 0 (m + 2) none 16) TB) := by rw [← hG]; rfl
  have hob : G (34, 0) = some (aB 16 fun _ => 0#8) := by rw [← hG]; rfl
  clear hG
  have hr := reach_KG K
  have hk : ∀ b, _ := fun b => c_key (k + 427) m b hm20 _ (4, 0) (4, 1) l K.only hll z
  have ho : ∀ b, _ := fun b => c_rounds (k + 427) m b hm20 _ (4, 0) (4, 1) l K.only
  have he1 : m + 2 - 1 = m + 1 := rfl
  have ht : ∀ v, _ := fun v => tr_KG _ v (4, 0) (4, 1) (m + 2) none l K.only
  simp (disch := first | omega | decide | simp only [bs_isCell, bs_length, aW_isCell, aB_isCell, isCell_sl, isCell_isl, isCell_nil, isCell_ptr, isCell_N]) only [ev_ret, regK_some, evOpers_nil, evOpers_cons, evOpers_cons_g, guardK_true, put_some, evX_t, evX_c, outR_some, pickV_true, op_mv, op_pick, op_bin, op_call, callV_fn, andThen_normal, retK_ret, resVal_tmp, nms_I, List.set_cons_zero, List.set_cons_succ, List.getD_cons_zero, List.getD_cons_succ, List.map_cons, List.map_nil, List.flatMap_cons, List.flatMap_nil, List.nil_append, List.append_nil, outOf_Bo, Option.map_some, Nat.reduceAdd, Nat.reduceSub, cellAt_ptr, ld1K_some, ldK_some, op_ld1, op_ld, op_fa, faV_ptr, List.all_cons, List.all_nil, Bool.and_true, Nat.reduceLT, if_true, Nat.add_zero, decide_true, aB_cells, aB_eql, Nat.add_zero, N_sub, N_eql, Nat.reduceLT, Nat.reduceAdd, decide_true, Bool.not_false, Bool.not_true, op_chk, chkV_ptr, op_len, lenV_some, lenS_sl, updN_nil, modN_nil, Option.map_some, evOpers_ord, evOpers_ord_g, guardO_true, stepO_eq, only_at, touch_ld1, touch_ld, touch_call, nms_fn, nms_ptr, List.contains_cons, List.contains_nil, beq_self_eq_true, Bool.or_true, Bool.or_false, ordOk, apartFrom, List.all_cons, List.all_nil, Nat.testBit, Nat.reduceShiftRight, Nat.reduceAnd, Nat.reduceBEq, Bool.not_true, Bool.not_false, Bool.and_self, Bool.and_true, Bool.and_false, Nat.reduceSub, Nat.reduceLT, bne, envC_trim, C_trim, trimO_pure, isCall_ld1, isCall_ld, isCall_call, Bool.and_false, Bool.and_true, ordK_gen, stepK_gen, stepK_gen, ordK_gen, RF_k, hr, hk, ho, ht, hrf, hob, hz2, he1, same_self]

theorem keys_big (k n : Nat) (hn : n = 4 ∨ n = 8) (key : List (BitVec 8)) (hk : key.length = 4 * n) (i : Nat) (hi : n + 7 ≤ i) (hi2 : i < 9223372036854775808) : F C (k + 430) 7 [.isl (bs key) key.length, N i] [] = some (Bo true, [], []) := by
  rw [F_succ f7]
  obtain ⟨m, hm⟩ : ∃ m, m = n + 5 := ⟨_, rfl⟩
  have hm2 : n + 7 = m + 2 := by omega
  have hm20 : m ≤ 20 := by omega
  obtain ⟨l, hl⟩ : ∃ l, l = W n key := ⟨_, rfl⟩
  have hll : l.length = 16 * (m + 2) := by rw [hl, W_length n key hk, hm2]
  have h3 : ¬ i < m + 2 := by omega
  have h4 : m + 2 ≤ i := by omega
  have hz2 : keyAt m l (i : Int) = fun _ => 0#8 := if_neg (by omega)
  simp (disch := first | omega | decide | simp only [bs_isCell, bs_length, aW_isCell, aB_isCell, isCell_sl, isCell_isl, isCell_nil, isCell_ptr, isCell_N]) only [funSem_eq, ev_seq, ev_region, regK_some, evOpers_nil, evOpers_cons, put_some, evX_t, evX_c, op_mv, op_call, callV_fn, andThen_normal, List.set_cons_zero, List.set_cons_succ, List.getD_cons_zero, List.getD_cons_succ, List.map_cons, List.map_nil, List.nil_append, List.cons_append, repUn_succ, List.replicate_zero, List.length_cons, List.length_nil, Nat.reduceAdd, Nat.reduceSub, Nat.zero_add, Nat.add_zero, aB_rep, Nat.add_zero, Nat.zero_add, Nat.reduceAdd, updN_nil, modN_nil, Nat.reduceSub, stepK_gen, stepK_gen, L7]
  rw [c_new (k + 29) n _ hn _ _ key hk [] (snap_isl _ _), hm2, ← hl]
  simp (disch := first | omega | decide | simp only [bs_isCell, bs_length, aW_isCell, aB_isCell, isCell_sl, isCell_isl, isCell_nil, isCell_ptr, isCell_N]) only [ev_seq, ev_region, regK_some, evOpers_nil, evOpers_cons, put_some, evX_t, evX_c, outR_some, op_mv, op_call, callV_fn, andThen_normal, List.set_cons_zero, List.set_cons_succ, List.getD_cons_zero, List.getD_cons_succ, List.map_cons, List.map_nil, List.length_cons, List.length_nil, Nat.reduceAdd, Nat.zero_add, Nat.add_zero, Nat.add_zero, Nat.zero_add, Nat.reduceAdd, updN_nil, updN_cons, modN_nil, List.getElem?_cons_zero, List.getElem?_cons_succ, op_extV, extV_tup, List.getElem?_cons_zero, List.getElem?_cons_succ, stepK_gen, stepK_gen]
  rw [c_rnew (k + 29) n _ hn _ _ key hk [] (snap_isl _ _), hm2, ← hl]
  simp (disch := first | omega | decide | simp only [bs_isCell, bs_length, aW_isCell, aB_isCell, isCell_sl, isCell_isl, isCell_nil, isCell_ptr, isCell_N]) only [ev_skip, ev_seq, ev_region, regK_some, evOpers_nil, evOpers_cons, evOpers_cons_g, guardK_true, guardK_true', put_some, put_none, evX_t, evX_c, outR_some, pickV_true, pickV_false, op_mv, op_pick, op_bin, op_un, op_call, callV_fn, andThen_normal, ev_cond, condK_false, List.set_cons_zero, List.set_cons_succ, List.getD_cons_zero, List.getD_cons_succ, List.map_cons, List.map_nil, List.flatMap_cons, List.flatMap_nil, List.nil_append, List.append_nil, List.length_cons, List.length_nil, Bo_neq, Bo_not, Nat.reduceAdd, upd_at, cellsOf_agg, cellAt_ptr, ld1K_some, op_ld1, op_new, op_st, stV_ptr, op_fa, faV_ptr, fill_nil, aggR_some, op_build, Prod.mk.injEq, Nat.reduceEqDiff, and_true, and_false, and_self, if_true, if_false, Nat.zero_add, Nat.add_zero, decide_true, decide_false, Nat.zero_ne_one, aB_st_all, Nat.add_zero, Nat.zero_add, N_neq, N_lss, N_geq, decide_not, Nat.reduceEqDiff, Nat.reduceAdd, decide_false, decide_true, Bool.not_true, op_chk, chkV_ptr, eqp_ptr, op_len, lenV_some, lenS_sl, updN_nil, updN_cons, modN_nil, modN_cons, inHeap_none, List.getElem?_cons_zero, List.getElem?_cons_succ, op_extV, extV_tup, List.getElem?_cons_zero, List.getElem?_cons_succ, evOpers_ord, stepO_eq, touch_call, nms_fn, nms_ptr, beq_self_eq_true, Bool.not_true, Bool.and_self, envC_trim, C_trim, isCall_call, stepK_gen, stepK_gen, c_lives (k + 9), eqp_ptr, RF_k, h3, Nat.zero_le]
  clear hm2
  generalize hG : upd _ (34, 0) (some (aB 16 fun _ => 0#8)) = G
  have K : KG G (4, 0) (4, 1) (m + 2) none l := by rw [← hG]; exact ⟨rfl, rfl, by decide⟩
  have hrf : G (11, 0) = some (RF (.sl (11, 1) 0 (m + 2) none 16) TB) := by rw [← hG]; rfl
  have hob : G (34, 0) = some (aB 16 fun _ => 0#8) := by rw [← hG]; rfl
  clear hG
  have hr := reach_KG K
  have hk : ∀ b, _ := fun b => c_key (k + 427) m b hm20 _ (4, 0) (4, 1) l K.only hll (i : Int)
  rw [I_N] at hk
  have ho : ∀ b, _ := fun b => c_rounds (k + 427) m b hm20 _ (4, 0) (4, 1) l K.only
  have he1 : m + 2 - 1 = m + 1 := rfl
  have ht : ∀ v, _ := fun v => tr_KG _ v (4, 0) (4, 1) (m + 2) none l K.only
  simp (disch := first | omega | decide | simp only [bs_isCell, bs_length, aW_isCell, aB_isCell, isCell_sl, isCell_isl, isCell_nil, isCell_ptr, isCell_N]) only [ev_ret, regK_some, evOpers_nil, evOpers_cons, evOpers_cons_g, guardK_true, put_some, evX_t, evX_c, outR_some, pickV_true, op_mv, op_pick, op_bin, op_call, callV_fn, andThen_normal, retK_ret, resVal_tmp, List.set_cons_zero, List.set_cons_succ, List.getD_cons_zero, List.getD_cons_succ, List.map_cons, List.map_nil, List.flatMap_cons, List.flatMap_nil, List.nil_append, List.append_nil, outOf_Bo, Option.map_some, Nat.reduceAdd, Nat.reduceSub, cellAt_ptr, ld1K_some, ldK_some, op_ld1, op_ld, op_fa, faV_ptr, List.all_cons, List.all_nil, Bool.and_true, Nat.reduceLT, if_true, Nat.add_zero, decide_true, aB_cells, aB_eql, Nat.add_zero, N_sub, N_eql, nms_N, Nat.reduceLT, Nat.reduceAdd, decide_true, Bool.not_false, Bool.not_true, op_chk, chkV_ptr, op_len, lenV_some, lenS_sl, updN_nil, modN_nil, Option.map_some, evOpers_ord, evOpers_ord_g, guardO_true, stepO_eq, only_at, touch_ld1, touch_ld, touch_call, nms_fn, nms_ptr, List.contains_cons, List.contains_nil, beq_self_eq_true, Bool.or_true, Bool.or_false, ordOk, apartFrom, List.all_cons, List.all_nil, Nat.testBit, Nat.reduceShiftRight, Nat.reduceAnd, Nat.reduceBEq, Bool.not_true, Bool.not_false, Bool.and_self, Bool.and_true, Bool.and_false, Nat.reduceSub, Nat.reduceLT, bne, envC_trim, C_trim, trimO_pure, isCall_ld1, isCall_ld, isCall_call, Bool.and_false, Bool.and_true, ordK_gen, stepK_gen, stepK_gen, ordK_gen, RF_k, hr, hk, ho, ht, hrf, hob, hz2, he1, same_self]

theorem keys_mid (k n : Nat) (hn : n = 4 ∨ n = 8) (key : List (BitVec 8)) (hk : key.length = 4 * n) (i : Nat) (hi : i < n + 7) : F C (k + 430) 7 [.isl (bs key) key.length, N i] [] = some (Bo true, [], []) := by
  rw [F_succ f7]
  obtain ⟨m, hm⟩ : ∃ m, m = n + 5 := ⟨_, rfl⟩
  have hm2 : n + 7 = m + 2 := by omega
  have hm20 : m ≤ 20 := by omega
  obtain ⟨l, hl⟩ : ∃ l, l = W n key := ⟨_, rfl⟩
  have hll : l.length = 16 * (m + 2) := by rw [hl, W_length n key hk, hm2]
  have h3 : i < m + 2 := by omega
  have hz2 : keyAt m l (i : Int) = kf l i := if_pos (by omega)
  simp (disch := first | omega | decide | simp only [bs_isCell, bs_length, aW_isCell, aB_isCell, isCell_sl, isCell_isl, isCell_nil, isCell_ptr, isCell_N]) only [funSem_eq, ev_seq, ev_region, regK_some, evOpers_nil, evOpers_cons, put_some, evX_t, evX_c, op_mv, op_call, callV_fn, andThen_normal, List.set_cons_zero, List.set_cons_succ, List.getD_cons_zero, List.getD_cons_succ, List.map_cons, List.map_nil, List.nil_append, List.cons_append, repUn_succ, List.replicate_zero, List.length_cons, List.length_nil, Nat.reduceAdd, Nat.reduceSub, Nat.zero_add, Nat.add_zero, aB_rep, Nat.add_zero, Nat.zero_add, Nat.reduceAdd, updN_nil, modN_nil, Nat.reduceSub, stepK_gen, stepK_gen, L7]
  rw [c_new (k + 29) n _ hn _ _ key hk [] (snap_isl _ _), hm2, ← hl]
  simp (disch := first | omega | decide | simp only [bs_isCell, bs_length, aW_isCell, aB_isCell, isCell_sl, isCell_isl, isCell_nil, isCell_ptr, isCell_N]) only [ev_seq, ev_region, regK_some, evOpers_nil, evOpers_cons, put_some, evX_t, evX_c, outR_some, op_mv, op_call, callV_fn, andThen_normal, List.set_cons_zero, List.set_cons_succ, List.getD_cons_zero, List.getD_cons_succ, List.map_cons, List.map_nil, List.length_cons, List.length_nil, Nat.reduceAdd, Nat.zero_add, Nat.add_zero, Nat.add_zero, Nat.zero_add, Nat.reduceAdd, updN_nil, updN_cons, modN_nil, List.getElem?_cons_zero, List.getElem?_cons_succ, op_extV, extV_tup, List.getElem?_cons_zero, List.getElem?_cons_succ, stepK_gen, stepK_gen]
  rw [c_rnew (k + 29) n _ hn _ _ key hk [] (snap_isl _ _), hm2, ← hl]
  simp (disch := first | omega | decide | simp only [bs_isCell, bs_length, aW_isCell, aB_isCell, isCell_sl, isCell_isl, isCell_nil, isCell_ptr, isCell_N]) only [ev_skip, ev_seq, ev_region, regK_some, evOpers_nil, evOpers_cons, evOpers_cons_g, guardK_true, guardK_true', put_some, put_none, evX_t, evX_c, outR_some, pickV_true, pickV_false, op_mv, op_pick, op_bin, op_un, op_call, callV_fn, andThen_normal, ev_cond, condK_true, condK_false, List.set_cons_zero, List.set_cons_succ, List.getD_cons_zero, List.getD_cons_succ, List.map_cons, List.map_nil, List.flatMap_cons, List.flatMap_nil, List.nil_append, List.append_nil, List.length_cons, List.length_nil, Bo_neq, Bo_not, Nat.reduceAdd, upd_at, cellsOf_agg, cellAt_ptr, ld1K_some, ldK_some, op_ld1, op_ld, op_new, op_st, stV_ptr, op_fa, faV_ptr, fill_nil, aggR_some, op_build, Prod.mk.injEq, Nat.reduceEqDiff, and_true, and_false, and_self, if_true, if_false, Nat.zero_add, Nat.add_zero, decide_true, Nat.one_ne_zero, Nat.zero_ne_one, aB_st_all, Nat.add_zero, Nat.zero_add, N_neq, N_lss, N_geq, N_nat, decide_not, Nat.reduceEqDiff, Nat.reduceAdd, decide_true, Bool.not_true, op_chk, chkV_ptr, eqp_ptr, op_len, lenV_some, lenS_sl, op_iaS, iaSV_sl, updN_nil, updN_cons, modN_nil, modN_cons, inHeap_none, List.getElem?_cons_zero, List.getElem?_cons_succ, op_extV, extV_tup, List.getElem?_cons_zero, List.getElem?_cons_succ, evOpers_ord, stepO_eq, touch_call, nms_fn, nms_ptr, beq_self_eq_true, Bool.not_true, Bool.and_self, envC_trim, C_trim, isCall_call, stepK_gen, stepK_gen, c_lives (k + 9), eqp_ptr, RF_k, h3, Nat.zero_le, kcell' l i (i * 16) rfl]
  clear hm2
  generalize hG : upd _ (34, 0) (some (aB 16 (kf l i))) = G
  have K : KG G (4, 0) (4, 1) (m + 2) none l := by rw [← hG]; exact ⟨rfl, rfl, by decide⟩
  have hrf : G (11, 0) = some (RF (.sl (11, 1) 0 (m + 2) none 16) TB) := by rw [← hG]; rfl
  have hob : G (34, 0) = some (aB 16 (kf l i)) := by rw [← hG]; rfl
  clear hG
  have hr := reach_KG K
  have hk : ∀ b, _ := fun b => c_key (k + 427) m b hm20 _ (4, 0) (4, 1) l K.only hll (i : Int)
  rw [I_N] at hk
  have ho : ∀ b, _ := fun b => c_rounds (k + 427) m b hm20 _ (4, 0) (4, 1) l K.only
  have he1 : m + 2 - 1 = m + 1 := rfl
  have ht : ∀ v, _ := fun v => tr_KG _ v (4, 0) (4, 1) (m + 2) none l K.only
  simp (disch := first | omega | decide | simp only [bs_isCell, bs_length, aW_isCell, aB_isCell, isCell_sl, isCell_isl, isCell_nil, isCell_ptr, isCell_N]) only [ev_ret, regK_some, evOpers_nil, evOpers_cons, evOpers_cons_g, guardK_true, put_some, evX_t, evX_c, outR_some, pickV_true, op_mv, op_pick, op_bin, op_call, callV_fn, andThen_normal, retK_ret, resVal_tmp, List.set_cons_zero, List.set_cons_succ, List.getD_cons_zero, List.getD_cons_succ, List.map_cons, List.map_nil, List.flatMap_cons, List.flatMap_nil, List.nil_append, List.append_nil, outOf_Bo, Option.map_some, Nat.reduceAdd, Nat.reduceSub, cellAt_ptr, ld1K_some, ldK_some, op_ld1, op_ld, op_fa, faV_ptr, List.all_cons, List.all_nil, Bool.and_true, Nat.reduceLT, if_true, Nat.add_zero, decide_true, aB_cells, aB_eql, Nat.add_zero, N_sub, N_eql, nms_N, Nat.reduceLT, Nat.reduceAdd, decide_true, Bool.not_false, Bool.not_true, op_chk, chkV_ptr, op_len, lenV_some, lenS_sl, updN_nil, modN_nil, Option.map_some, evOpers_ord, evOpers_ord_g, guardO_true, stepO_eq, only_at, touch_ld1, touch_ld, touch_call, nms_fn, nms_ptr, List.contains_cons, List.contains_nil, beq_self_eq_true, Bool.or_true, Bool.or_false, ordOk, apartFrom, List.all_cons, List.all_nil, Nat.testBit, Nat.reduceShiftRight, Nat.reduceAnd, Nat.reduceBEq, Bool.not_true, Bool.not_false, Bool.and_self, Bool.and_true, Bool.and_false, Nat.reduceSub, Nat.reduceLT, bne, envC_trim, C_trim, trimO_pure, isCall_ld1, isCall_ld, isCall_call, Bool.and_false, Bool.and_true, ordK_gen, stepK_gen, stepK_gen, ordK_gen, RF_k, hr, hk, ho, ht, hrf, hob, hz2, he1, same_self]

theorem keys_good (k n : Nat) (hn : n = 4 ∨ n = 8) (key : List (BitVec 8)) (hk : key.length = 4 * n) (z : Int) (hz2 : z < 9223372036854775808) : F C (k + 430) 7 [.isl (bs key) key.length, I z] [] = some (Bo true, [], []) := by
  by_cases hz : z < 0
  · exact keys_neg k n hn key hk z hz
  · rw [I_toN z (by omega)]
    by_cases h : z.toNat < n + 7
    · exact keys_mid k n hn key hk z.toNat h
    · exact keys_big k n hn key hk z.toNat (by omega) (by omega)
theorem c_14n (k b : Nat) (H : Heap) (z : Int) : callOp (envC C (k + 2)) H b 14 [NilP, I z] = some ⟨.agg (aB 16 fun _ => 0#8), [], []⟩ := by
  rw [callOp_C l14 rfl rfl, key_nil, aB_calK]
theorem c_15n (k b : Nat) (H : Heap) : callOp (envC C (k + 2)) H b 15 [NilP] = some ⟨N 0, [], []⟩ := by
  rw [callOp_C l15 rfl rfl, rounds_nil, calK_N]
theorem c_17n (k b : Nat) (H : Heap) (s : R) : callOp (envC C (k + 2)) H b 17 [NilP, .agg (aB 16 s)] = some ⟨.agg (aB 16 fun _ => 0#8), [], []⟩ := by
  rw [callOp_C l17 (by simp only [List.flatMap_cons, List.flatMap_nil, nms_nilP, aB_agg_nms, List.append_nil]) (by simp only [List.map_cons, List.map_nil, ren_nilP, aB_agg_ren]), enc_nil, aB_calK]
theorem c_19n (k b : Nat) (H : Heap) (s : R) : callOp (envC C (k + 2)) H b 19 [NilP, .agg (aB 16 s)] = some ⟨.agg (aB 16 fun _ => 0#8), [], []⟩ := by
  rw [callOp_C l19 (by simp only [List.flatMap_cons, List.flatMap_nil, nms_nilP, aB_agg_nms, List.append_nil]) (by simp only [List.map_cons, List.map_nil, ren_nilP, aB_agg_ren]), dec_nil, aB_calK]
theorem fill_one (x : BitVec 8) : fill (aB 16 fun _ => 0#8) [(0, 1, B8 x)] = some (aB 16 (set1 (fun _ => 0#8) 0 x)) := by
  rw [fill_cons, show cellsOf (B8 x) = some [B8 x] from rfl, fillK_some, if_pos ⟨rfl, by rw [aB_length]; omega⟩, fill_nil]
  rfl
theorem keys_bad (k : Nat) (key : List (BitVec 8)) (h16 : key.length ≠ 16) (h32 : key.length ≠ 32) (hb : key.length < 9223372036854775808) (z : Int) : F C (k + 430) 7 [.isl (bs key) key.length, I z] [] = some (Bo true, [], []) := by
  rw [F_succ f7]
  simp (disch := first | omega | decide | simp only [bs_isCell, bs_length, aW_isCell, aB_isCell, isCell_sl, isCell_isl, isCell_nil, isCell_ptr, isCell_N]) only [funSem_eq, ev_seq, ev_region, regK_some, evOpers_nil, evOpers_cons, put_some, evX_t, evX_c, op_mv, op_call, callV_fn, andThen_normal, List.set_cons_zero, List.set_cons_succ, List.getD_cons_zero, List.getD_cons_succ, List.map_cons, List.map_nil, List.nil_append, List.cons_append, repUn_succ, List.replicate_zero, List.length_cons, List.length_nil, Nat.reduceAdd, Nat.reduceSub, Nat.zero_add, Nat.add_zero, aB_rep, Nat.add_zero, Nat.zero_add, Nat.reduceAdd, updN_nil, modN_nil, Nat.reduceSub, stepK_gen, stepK_gen, L7]
  rw [c_bad_of 12 _ _ (by decide) _ _ key [] (snap_isl _ _) (new_bad (k + 428) key h16 h32)]
  simp (disch := first | omega | decide | simp only [bs_isCell, bs_length, aW_isCell, aB_isCell, isCell_sl, isCell_isl, isCell_nil, isCell_ptr, isCell_N]) only [ev_seq, ev_region, regK_some, evOpers_nil, evOpers_cons, put_some, evX_t, evX_c, outR_some, op_mv, op_call, callV_fn, andThen_normal, List.set_cons_zero, List.set_cons_succ, List.getD_cons_zero, List.getD_cons_succ, List.map_cons, List.map_nil, List.length_cons, List.length_nil, Nat.reduceAdd, Nat.zero_add, Nat.add_zero, Nat.add_zero, Nat.zero_add, Nat.reduceAdd, updN_nil, modN_nil, List.getElem?_cons_zero, List.getElem?_cons_succ, op_extV, extV_tup, List.getElem?_cons_zero, List.getElem?_cons_succ, stepK_gen, stepK_gen]
  rw [c_bad_of 16 _ _ (by decide) _ _ key [] (snap_isl _ _) (rnew_bad (k + 428) key hb h16 h32)]
  simp (disch := first | omega | decide | simp only [bs_isCell, bs_length, aW_isCell, aB_isCell, isCell_sl, isCell_isl, isCell_nil, isCell_ptr, isCell_N]) only [ev_skip, ev_ret, ev_seq, ev_region, regK_some, evOpers_nil, evOpers_cons, evOpers_cons_g, guardK_true, guardK_true', put_some, evX_t, evX_c, outR_some, pickV_true, pickV_false, op_mv, op_pick, op_bin, op_un, op_call, callV_fn, andThen_normal, andThen_ret, ev_cond, condK_true, condK_false, retK_ret, resVal_tmp, List.set_cons_zero, List.set_cons_succ, List.getD_cons_zero, List.getD_cons_succ, List.map_cons, List.map_nil, List.length_cons, List.length_nil, Bo_neq, Bo_not, outOf_Bo, Option.map_some, Nat.reduceAdd, fill_nil, aggR_some, op_build, Nat.zero_add, Nat.add_zero, decide_true, aB_eql, Nat.add_zero, Nat.zero_add, N_eql, N_neq, decide_not, Nat.reduceAdd, decide_true, Bool.not_true, eqp_nil, updN_nil, modN_nil, Option.map_some, List.getElem?_cons_zero, List.getElem?_cons_succ, op_extV, extV_tup, List.getElem?_cons_zero, List.getElem?_cons_succ, beq_self_eq_true, Bool.not_true, stepK_gen, stepK_gen, c_lives (k + 9), c_14n (k + 427), c_15n (k + 427), c_17n (k + 427), c_19n (k + 427), fill_one, same_self, eqp_nil]

theorem keys_F (k : Nat) (key : List (BitVec 8)) (hb : key.length < 9223372036854775808) (z : Int) (hz : z < 9223372036854775808) : F C (k + 430) 7 [.isl (bs key) key.length, I z] [] = some (Bo true, [], []) := by
  by_cases h16 : key.length = 16
  · exact keys_good k 4 (.inl rfl) key h16 z hz
  · by_cases h32 : key.length = 32
    · exact keys_good k 8 (.inr rfl) key h32 z hz
    · exact keys_bad k key h16 h32 hb z
end Aes
namespace Go.LE
theorem wf_i64_lt {z : Int} (h : (Lit.int .i64 z).wf = true) : z < 9223372036854775808 := by
  simp [Lit.wf] at h
  omega
end Go.LE

namespace Aes
open Go Go.LE
set_option maxRecDepth 20000

theorem txt_neq (e : EqT) (a b : List (BitVec 8)) : binV .neq e (txt a) (txt b) = some (Bo !(decide (a = b))) := by
  have h := txt_eql e a b
  simp only [binV, txt, strOp, Option.map_some, Bo] at h ⊢
  revert h
  generalize decide (a = b) = x
  intro h
  simp only [Option.some.injEq, LV.v.injEq, Value.bool.injEq] at h ⊢
  rw [← h]
theorem ix_key (key : List (BitVec 8)) (o : Nat) (h : o < key.length) : cellK o 1 (some (bs key)) = some [B8 (key.getD o 0#8)] := by
  rw [bs_cells _ _ 1 (by omega), List.drop_eq_getElem_cons h, List.getD_eq_getElem?_getD, List.getElem?_eq_getElem h]
  rfl
theorem b2sK_e : b2sK (some []) = some ⟨txt [], [], []⟩ := b2sK_bs []
/-- the loop that spoils the copy: a made cipher -/
def lJ (n : Nat) (key : List (BitVec 8)) (s : R) (i : Nat) (st : St) : Prop := ∃ (H : Heap) (o : List (BitVec 8)), st = ⟨[.undef, .undef, .undef, .ptr (1, 0) 0, .undef, .sl (1, 1) 0 key.length none 1, .ptr (1, 2) 0, .undef, .ptr (1, 4) 0, .undef, N i, .undef, .undef, .undef, .undef, .undef, .undef, .undef, .undef, .undef, .undef, .undef, .undef, .undef, .undef, .undef, .undef, .undef, .undef, .undef, .undef, .undef, .undef, .undef, .undef, .undef, .undef, .undef, .undef, .undef, .undef, .undef, .undef, .undef, .undef, .undef, .undef, .undef, .undef, .undef, .undef, .undef, .undef, .undef, .undef, .undef, .undef, .undef, .undef, .undef, Un, Un, Un, Un, Un, Un, Un, Un, Un, Un, Un, Un, Un, Un, Un, Un, .undef], H, 2, 0⟩ ∧
  H (1, 0) = some (aB 16 s) ∧ H (1, 1) = some (bs o) ∧ o.length = key.length ∧ H (1, 2) = some (CF (.sl (1, 3) 0 (n + 7) none 16) TB) ∧ H (1, 3) = some (bs (W n key)) ∧ H (1, 4) = some (RF (.sl (1, 5) 0 (n + 7) none 16) TB) ∧ H (1, 5) = some (bs (W n key))
theorem l_round (k n : Nat) (key : List (BitVec 8)) (hb : key.length < 211106232532992) (s : R) (i : Nat) (hi : i < key.length) (st : St) (hJ : lJ n key s i st) :
    ∃ st1, ev (envC C k) k L4b0 st = some (.normal, st1) ∧ lJ n key s (i + 1) (canon L4k0 st1) := by
  obtain ⟨H, o, rfl, h0, h1, ho, h2, h3, h4, h5⟩ := hJ
  have hc : cellK i 1 (some (bs o)) = some [B8 (o.getD i 0#8)] := ix_key o i (by omega)
  have hs := bs_st o i (o.getD i 0#8 + 1#8) (1, 1) (by omega)
  simp (disch := first | omega | decide | simp only [bs_isCell, bs_length, aW_isCell, aB_isCell, isCell_sl, isCell_isl, isCell_nil, isCell_ptr, isCell_N]) only [ev_skip, ev_seq, ev_block, ev_region, regK_some, evOpers_nil, evOpers_cons, put_some, put_none, evX_t, evX_c, outR_some, op_mv, op_bin, andThen_normal, inBlock_normal, ev_cond, condK_true, List.set_cons_zero, List.set_cons_succ, List.getD_cons_zero, List.getD_cons_succ, List.length_cons, List.length_nil, B8_add, Nat.reduceAdd, cellsOf_B8, cellAt_ptr, ld1K_some, op_ld1, op_st, stV_ptr, Nat.zero_add, Nat.add_zero, decide_true, Nat.mul_one, Nat.add_zero, Nat.zero_add, N_add, N_lss, N_nat, Nat.reduceAdd, decide_true, op_len, lenV_some, lenS_sl, op_iaS, iaSV_sl, updN_nil, modN_nil, modN_cons, Nat.mul_one, stepK_gen, stepK_gen, L4b0, h1, hi, hc, hs]
  refine ⟨_, rfl, ?_⟩
  refine canon_inv [(1, 0), (1, 1), (1, 2), (1, 3), (1, 4), (1, 5)] rfl (by simp only [canonNames, FUEL, reach_cons, reachK_some, reach_nil, nms_ptr, nms_sl, nms_Un, nms_undef, List.flatMap_cons, List.flatMap_nil, List.nil_append, List.cons_append, List.append_nil, List.range_zero, List.map_nil, List.contains_nil, List.contains_cons, Prod.mk.injEq, beq_iff_eq, Bool.or_eq_true, Bool.false_eq_true, Nat.reduceEqDiff, and_false, or_false, if_true, if_false, Nat.one_ne_zero, Nat.zero_ne_one, List.filter_cons, List.filter_nil, bne_iff_ne, ne_eq, not_false_eq_true, upd_at, mask_nil, mask_true, mask_false, nms_N, L4k0, aB_nms, CF_nms, RF_nms, nms_sl, bs_nms, h0, h1, h2, h3, h4, h5]) rfl ⟨_, o.set i (o.getD i 0#8 + 1#8), rfl, ?_, ?_, ?_, ?_, ?_, ?_, ?_⟩
  · exact cN_same (1, 0) rfl (by simp (disch := first | omega | decide | simp only [bs_isCell, bs_length, aW_isCell, aB_isCell, isCell_sl, isCell_isl, isCell_nil, isCell_ptr, isCell_N]) only [upd_at, Prod.mk.injEq, and_false, if_false, Nat.zero_ne_one, h0]) (aB_ren _ _ _)
  · exact cN_same (1, 1) rfl (by simp (disch := first | omega | decide | simp only [bs_isCell, bs_length, aW_isCell, aB_isCell, isCell_sl, isCell_isl, isCell_nil, isCell_ptr, isCell_N]) only [upd_at, if_true, h1]) (bs_ren _ _)
  · rw [List.length_set, ho]
  · refine (cN_one _ _ 2 (1, 2) _ rfl (by simp (disch := first | omega | decide | simp only [bs_isCell, bs_length, aW_isCell, aB_isCell, isCell_sl, isCell_isl, isCell_nil, isCell_ptr, isCell_N]) only [upd_at, Prod.mk.injEq, Nat.reduceEqDiff, and_false, if_false, h2]; rfl)).trans ?_
    rw [CF_ren]; rfl
  · exact cN_same (1, 3) rfl (by simp (disch := first | omega | decide | simp only [bs_isCell, bs_length, aW_isCell, aB_isCell, isCell_sl, isCell_isl, isCell_nil, isCell_ptr, isCell_N]) only [upd_at, Prod.mk.injEq, Nat.reduceEqDiff, and_false, if_false, h3]) (bs_ren _ _)
  · refine (cN_one _ _ 4 (1, 4) _ rfl (by simp (disch := first | omega | decide | simp only [bs_isCell, bs_length, aW_isCell, aB_isCell, isCell_sl, isCell_isl, isCell_nil, isCell_ptr, isCell_N]) only [upd_at, Prod.mk.injEq, Nat.reduceEqDiff, and_false, if_false, h4]; rfl)).trans ?_
    rw [RF_ren]; rfl
  · exact cN_same (1, 5) rfl (by simp (disch := first | omega | decide | simp only [bs_isCell, bs_length, aW_isCell, aB_isCell, isCell_sl, isCell_isl, isCell_nil, isCell_ptr, isCell_N]) only [upd_at, Prod.mk.injEq, Nat.reduceEqDiff, and_false, if_false, h5]) (bs_ren _ _)
/-- .. and where none is made -/
def nJ (len : Nat) (c : Option Nat) (s : R) (i : Nat) (st : St) : Prop := ∃ (H : Heap) (o : List (BitVec 8)), st = ⟨[.undef, .undef, .undef, .ptr (1, 0) 0, .undef, .sl (1, 1) 0 len c 1, NilP, .undef, NilP, .undef, N i, .undef, .undef, .undef, .undef, .undef, .undef, .undef, .undef, .undef, .undef, .undef, .undef, .undef, .undef, .undef, .undef, .undef, .undef, .undef, .undef, .undef, .undef, .undef, .undef, .undef, .undef, .undef, .undef, .undef, .undef, .undef, .undef, .undef, .undef, .undef, .undef, .undef, .undef, .undef, .undef, .undef, .undef, .undef, .undef, .undef, .undef, .undef, .undef, .undef, Un, Un, Un, Un, Un, Un, Un, Un, Un, Un, Un, Un, Un, Un, Un, Un, .undef], H, 2, 0⟩ ∧
  H (1, 0) = some (aB 16 s) ∧ H (1, 1) = some (bs o) ∧ o.length = len
theorem n_round (k len : Nat) (c : Option Nat) (hb : len < 211106232532992) (s : R) (i : Nat) (hi : i < len) (st : St) (hJ : nJ len c s i st) :
    ∃ st1, ev (envC C k) k L4b0 st = some (.normal, st1) ∧ nJ len c s (i + 1) (canon L4k0 st1) := by
  obtain ⟨H, o, rfl, h0, h1, ho⟩ := hJ
  have hc : cellK i 1 (some (bs o)) = some [B8 (o.getD i 0#8)] := ix_key o i (by omega)
  have hs := bs_st o i (o.getD i 0#8 + 1#8) (1, 1) (by omega)
  simp (disch := first | omega | decide | simp only [bs_isCell, bs_length, aW_isCell, aB_isCell, isCell_sl, isCell_isl, isCell_nil, isCell_ptr, isCell_N]) only [ev_skip, ev_seq, ev_block, ev_region, regK_some, evOpers_nil, evOpers_cons, put_some, put_none, evX_t, evX_c, outR_some, op_mv, op_bin, andThen_normal, inBlock_normal, ev_cond, condK_true, List.set_cons_zero, List.set_cons_succ, List.getD_cons_zero, List.getD_cons_succ, List.length_cons, List.length_nil, B8_add, Nat.reduceAdd, cellsOf_B8, cellAt_ptr, ld1K_some, op_ld1, op_st, stV_ptr, Nat.zero_add, Nat.add_zero, decide_true, Nat.mul_one, Nat.add_zero, Nat.zero_add, N_add, N_lss, N_nat, Nat.reduceAdd, decide_true, op_len, lenV_some, lenS_sl, op_iaS, iaSV_sl, updN_nil, modN_nil, modN_cons, Nat.mul_one, stepK_gen, stepK_gen, L4b0, h1, hi, hc, hs]
  refine ⟨_, rfl, ?_⟩
  refine canon_inv [(1, 0), (1, 1)] rfl (by simp only [canonNames, FUEL, reach_cons, reachK_some, reach_nil, nms_ptr, nms_sl, nms_Un, nms_undef, List.flatMap_cons, List.flatMap_nil, List.nil_append, List.cons_append, List.append_nil, List.range_zero, List.map_nil, List.contains_nil, List.contains_cons, Prod.mk.injEq, beq_iff_eq, Bool.or_eq_true, Bool.false_eq_true, and_false, or_false, if_true, if_false, Nat.one_ne_zero, Nat.zero_ne_one, List.filter_cons, List.filter_nil, bne_iff_ne, ne_eq, not_false_eq_true, upd_at, mask_nil, mask_true, mask_false, nms_N, nms_nilP, L4k0, aB_nms, nms_sl, bs_nms, h0, h1]) rfl ⟨_, o.set i (o.getD i 0#8 + 1#8), rfl, ?_, ?_, ?_⟩
  · exact cN_same (1, 0) rfl (by simp (disch := first | omega | decide | simp only [bs_isCell, bs_length, aW_isCell, aB_isCell, isCell_sl, isCell_isl, isCell_nil, isCell_ptr, isCell_N]) only [upd_at, Prod.mk.injEq, and_false, if_false, Nat.zero_ne_one, h0]) (aB_ren _ _ _)
  · exact cN_same (1, 1) rfl (by simp (disch := first | omega | decide | simp only [bs_isCell, bs_length, aW_isCell, aB_isCell, isCell_sl, isCell_isl, isCell_nil, isCell_ptr, isCell_N]) only [upd_at, if_true, h1]) (bs_ren _ _)
  · rw [List.length_set, ho]

theorem blocks_good (k n : Nat) (hn : n = 4 ∨ n = 8) (key : List (BitVec 8)) (hk : key.length = 4 * n) (s : R) : F C (k + 450) 4 [.isl (bs key) key.length, .agg (aB 16 s)] [] = some (Bo true, [], []) := by
  rw [F_succ f4]
  have hk0 : key.length ≠ 0 := by omega
  have hk1 : 0 < key.length := by omega
  have hfr : ∀ H, front H 1 key.length (.isl (bs key) key.length) = some (bs key) := fun H => front_ibytes key key.length rfl
  have hap : ∀ b H m, appX b 1 1 key.length H [] (bs key) (.sl m 0 0 (some 0) 1) = some ⟨.sl (b, 0) 0 key.length none 1, [bs key], []⟩ := fun b H m => appX_e b key.length H m (bs key) hk0 (by omega)
  simp (disch := first | omega | decide | simp only [bs_isCell, bs_length, aW_isCell, aB_isCell, isCell_sl, isCell_isl, isCell_nil, isCell_ptr, isCell_N]) only [funSem_eq, ev_seq, ev_region, regK_some, evOpers_nil, evOpers_cons, put_some, evX_t, evX_c, op_mv, op_call, callV_fn, andThen_normal, List.set_cons_zero, List.set_cons_succ, List.getD_cons_zero, List.getD_cons_succ, List.map_cons, List.map_nil, List.nil_append, List.cons_append, repUn_succ, List.replicate_zero, List.length_cons, List.length_nil, Nat.reduceAdd, Nat.reduceSub, cellsOf_agg, op_box, boxK_some, fill_nil, Nat.zero_add, Nat.add_zero, Nat.add_zero, Nat.zero_add, Nat.reduceAdd, lenOf_isl, op_append, appK_some, appF_some, op_mkrow, rowK_some, updN_nil, updN_cons, modN_nil, Nat.reduceSub, stepK_gen, stepK_gen, L4, hfr, hap]
  rw [c_new (k + 49) n _ hn _ _ key hk [(6, 0)] (by rw [snap_bytes (6, 0) 0 key.length _ key rfl hk0, List.drop_zero, List.take_of_length_le (Nat.le_refl _)])]
  simp (disch := first | omega | decide | simp only [bs_isCell, bs_length, aW_isCell, aB_isCell, isCell_sl, isCell_isl, isCell_nil, isCell_ptr, isCell_N]) only [ev_seq, ev_region, regK_some, evOpers_nil, evOpers_cons, put_some, evX_t, evX_c, outR_some, op_mv, op_call, callV_fn, andThen_normal, List.set_cons_zero, List.set_cons_succ, List.getD_cons_zero, List.getD_cons_succ, List.map_cons, List.map_nil, List.length_cons, List.length_nil, Nat.reduceAdd, Nat.zero_add, Nat.add_zero, Nat.add_zero, Nat.zero_add, Nat.reduceAdd, updN_nil, updN_cons, modN_nil, List.getElem?_cons_zero, List.getElem?_cons_succ, op_extV, extV_tup, List.getElem?_cons_zero, List.getElem?_cons_succ, stepK_gen, stepK_gen]
  rw [c_rnew (k + 49) n _ hn _ _ key hk [] (snap_isl _ _)]
  simp (disch := first | omega | decide | simp only [bs_isCell, bs_length, aW_isCell, aB_isCell, isCell_sl, isCell_isl, isCell_nil, isCell_ptr, isCell_N]) only [ev_skip, ev_seq, ev_block, ev_region, regK_some, evOpers_nil, evOpers_cons, evOpers_cons_g, guardK_true', put_some, evX_t, evX_c, outR_some, pickV_false, op_mv, op_pick, op_bin, op_un, op_call, callV_fn, andThen_normal, ev_cond, condK_false, List.set_cons_zero, List.set_cons_succ, List.getD_cons_zero, List.getD_cons_succ, List.map_nil, List.length_cons, List.length_nil, Bo_neq, Bo_not, ev_loop, Nat.reduceAdd, upd_at, Prod.mk.injEq, Nat.reduceEqDiff, and_true, and_self, if_true, if_false, Nat.zero_add, Nat.add_zero, decide_true, Nat.zero_ne_one, Nat.add_zero, Nat.zero_add, N_neq, decide_not, Nat.reduceEqDiff, Nat.reduceAdd, decide_true, Bool.not_true, eqp_ptr, lenOf_sl, lenOf_isl, updN_nil, updN_cons, modN_nil, inHeap_none, List.getElem?_cons_zero, List.getElem?_cons_succ, op_extV, extV_tup, List.getElem?_cons_zero, List.getElem?_cons_succ, beq_self_eq_true, Bool.not_true, frontK_bs_all, front_sl, stepK_gen, stepK_gen, c_lives (k + 29), op_b2s, b2sV_sl, b2sV_isl, b2sK_bs, hfr, txt_neq, eqp_ptr]
  generalize hL : loopN L4k0 _ _ _ = r
  refine loop_use hL (lJ n key s) key.length (by omega) (fun i st hi hJ => l_round _ n key (by omega) s i hi st hJ) ?_ ?_ ?_
  · refine canon_inv [(2, 0), (6, 0), (9, 0), (9, 1), (16, 0), (16, 1)] rfl (by simp only [canonNames, FUEL, reach_cons, reachK_some, reach_nil, nms_ptr, nms_sl, nms_Un, nms_undef, List.flatMap_cons, List.flatMap_nil, List.nil_append, List.cons_append, List.append_nil, List.range_zero, List.map_nil, List.contains_nil, List.contains_cons, Prod.mk.injEq, beq_iff_eq, Bool.or_eq_true, Bool.false_eq_true, Nat.reduceEqDiff, and_true, and_false, or_false, if_true, if_false, Nat.one_ne_zero, Nat.zero_ne_one, List.filter_cons, List.filter_nil, bne_iff_ne, ne_eq, not_false_eq_true, upd_at, mask_nil, mask_true, mask_false, inHeap_none, nms_N, L4k0, aB_nms, CF_nms, RF_nms, nms_sl, bs_nms]) rfl ⟨_, key, rfl, ?_, ?_, rfl, ?_, ?_, ?_, ?_⟩
    · exact cN_same (2, 0) rfl (by simp (disch := first | omega | decide | simp only [bs_isCell, bs_length, aW_isCell, aB_isCell, isCell_sl, isCell_isl, isCell_nil, isCell_ptr, isCell_N]) only [upd_at, Prod.mk.injEq, Nat.reduceEqDiff, and_true, and_self, if_true, if_false, Nat.zero_ne_one, inHeap_none]) (aB_ren _ _ _)
    · exact cN_same (6, 0) rfl (by simp (disch := first | omega | decide | simp only [bs_isCell, bs_length, aW_isCell, aB_isCell, isCell_sl, isCell_isl, isCell_nil, isCell_ptr, isCell_N]) only [upd_at, Prod.mk.injEq, Nat.reduceEqDiff, and_true, and_self, if_true, if_false, Nat.zero_ne_one, inHeap_none]) (bs_ren _ _)
    · refine (cN_one _ _ 2 (9, 0) _ rfl (by simp (disch := first | omega | decide | simp only [bs_isCell, bs_length, aW_isCell, aB_isCell, isCell_sl, isCell_isl, isCell_nil, isCell_ptr, isCell_N]) only [upd_at, Prod.mk.injEq, Nat.reduceEqDiff, and_true, and_false, and_self, if_true, if_false, Nat.zero_ne_one, inHeap_none]; rfl)).trans ?_
      rw [CF_ren]; rfl
    · exact cN_same (9, 1) rfl (by simp (disch := first | omega | decide | simp only [bs_isCell, bs_length, aW_isCell, aB_isCell, isCell_sl, isCell_isl, isCell_nil, isCell_ptr, isCell_N]) only [upd_at, Prod.mk.injEq, Nat.reduceEqDiff, and_true, and_false, and_self, if_true, if_false, Nat.one_ne_zero, inHeap_none]) (bs_ren _ _)
    · refine (cN_one _ _ 4 (16, 0) _ rfl (by simp (disch := first | omega | decide | simp only [bs_isCell, bs_length, aW_isCell, aB_isCell, isCell_sl, isCell_isl, isCell_nil, isCell_ptr, isCell_N]) only [upd_at, Prod.mk.injEq, Nat.reduceEqDiff, and_true, and_false, and_self, if_true, if_false, Nat.zero_ne_one, inHeap_none]; rfl)).trans ?_
      rw [RF_ren]; rfl
    · exact cN_same (16, 1) rfl (by simp (disch := first | omega | decide | simp only [bs_isCell, bs_length, aW_isCell, aB_isCell, isCell_sl, isCell_isl, isCell_nil, isCell_ptr, isCell_N]) only [upd_at, Prod.mk.injEq, Nat.reduceEqDiff, and_true, and_false, and_self, if_true, if_false, Nat.one_ne_zero, inHeap_none]) (bs_ren _ _)
  · rintro st ⟨H, o, rfl, h0, h1, ho, h2, h3, h4, h5⟩
    apply stop_exit
    simp (disch := first | omega | decide | simp only [bs_isCell, bs_length, aW_isCell, aB_isCell, isCell_sl, isCell_isl, isCell_nil, isCell_ptr, isCell_N]) only [ev_exit, ev_seq, ev_region, regK_some, evOpers_nil, evOpers_cons, stepK_pure, put_some, evX_t, outR_some, op_mv, op_bin, andThen_normal, andThen_exit, ev_cond, condK_false, List.set_cons_zero, List.set_cons_succ, List.getD_cons_zero, List.getD_cons_succ, List.length_cons, List.length_nil, Nat.reduceAdd, Nat.zero_add, Nat.add_zero, decide_false, Nat.add_zero, Nat.zero_add, N_lss, Nat.reduceAdd, Nat.lt_irrefl, decide_false, op_len, lenV_some, lenS_sl, L4b0, Nat.lt_irrefl]
    rfl
  · rintro st ⟨H, o, rfl, h0, h1, ho, h2, h3, h4, h5⟩ rfl
    obtain ⟨m, hm⟩ : ∃ m, m = n + 5 := ⟨_, rfl⟩
    have hm2 : n + 7 = m + 2 := by omega
    have hm20 : m ≤ 20 := by omega
    have hll : (W n key).length = 16 * (m + 2) := by rw [W_length n key hk, hm2]
    rw [hm2] at h2 h4
    have K : KG H (1, 2) (1, 3) (m + 2) none (W n key) := ⟨h2, h3, by decide⟩
    have Q : RG H (1, 4) (1, 5) (m + 2) none (W n key) := ⟨h4, h5, by decide⟩
    have hr := reach_KG K
    have hq := reach_RG Q
    have he : ∀ b s, _ := fun b s => c_enc (k + 389) m b hm20 _ (1, 2) (1, 3) _ K.only hll s
    have hd : ∀ b s, _ := fun b s => c_dec (k + 389) m b hm20 _ (1, 2) (1, 3) _ K.only hll s
    have hre : ∀ b s, _ := fun b s => c_renc (k + 389) m b hm20 _ (1, 4) (1, 5) _ Q.only hll s
    have hrd : ∀ b s, _ := fun b s => c_rdec (k + 389) m b hm20 _ (1, 4) (1, 5) _ Q.only hll s
    have ht : ∀ v, _ := fun v => tr_KG _ v (1, 2) (1, 3) (m + 2) none _ K.only
    have htq : ∀ v, _ := fun v => tr_RG _ v (1, 4) (1, 5) (m + 2) none _ Q.only
    simp (disch := first | omega | decide | simp only [bs_isCell, bs_length, aW_isCell, aB_isCell, isCell_sl, isCell_isl, isCell_nil, isCell_ptr, isCell_N]) only [ev_ret, ev_exit, ev_seq, ev_region, regK_some, evOpers_nil, evOpers_cons, evOpers_cons_g, guardK_true, guardK_true', put_some, evX_t, evX_c, outR_some, pickV_true, pickV_false, op_mv, op_pick, op_bin, op_call, callV_fn, andThen_normal, andThen_exit, inBlock_exit, ev_cond, condK_false, retK_ret, resVal_tmp, List.set_cons_zero, List.set_cons_succ, List.getD_cons_zero, List.getD_cons_succ, List.map_cons, List.map_nil, List.flatMap_cons, List.flatMap_nil, List.nil_append, List.append_nil, List.length_cons, List.length_nil, outOf_Bo, Option.map_some, Nat.reduceAdd, Nat.reduceSub, cellAt_ptr, ldK_some, op_ld, List.all_cons, List.all_nil, Bool.and_true, Nat.reduceLT, if_true, Nat.zero_add, Nat.add_zero, decide_true, decide_false, aB_cells, aB_agg_nms, aB_eql, Nat.add_zero, Nat.zero_add, N_lss, Nat.reduceLT, Nat.reduceAdd, Nat.lt_irrefl, decide_false, decide_true, Bool.not_false, Bool.not_true, eqp_ptr, op_len, lenV_some, lenS_sl, updN_nil, modN_nil, Option.map_some, evOpers_ord_g, guardO_true, guardO_true', stepO_eq, only_at, touch_ld, touch_call, nms_fn, nms_ptr, List.contains_cons, List.contains_nil, beq_self_eq_true, Bool.or_true, Bool.or_false, ordOk, apartFrom, List.all_cons, List.all_nil, Nat.testBit, Nat.reduceShiftRight, Nat.reduceAnd, Nat.reduceBEq, Bool.not_true, Bool.not_false, Bool.and_self, Bool.and_true, Bool.and_false, Nat.reduceSub, Nat.reduceLT, bne, envC_trim, C_trim, trimO_pure, isCall_ld, isCall_call, Bool.and_false, Bool.and_true, ordK_gen, stepK_gen, stepK_gen, ordK_gen, L4b0, h0, Nat.lt_irrefl, hr, hq, he, hd, hre, hrd, ht, htq, same_self, eqp_ptr]

theorem blocks_bad (k K : Nat) (key : List (BitVec 8)) (h16 : key.length ≠ 16) (h32 : key.length ≠ 32) (hb : key.length < 211106232532992) (hk0 : key.length ≠ 0) (hK : K = k + 450) (hk : key.length < k) (s : R) : F C K 4 [.isl (bs key) key.length, .agg (aB 16 s)] [] = some (Bo true, [], []) := by
  subst hK
  rw [F_succ f4]
  have hk1 : 0 < key.length := by omega
  have hfr : ∀ H, front H 1 key.length (.isl (bs key) key.length) = some (bs key) := fun H => front_ibytes key key.length rfl
  have hap : ∀ b H m, appX b 1 1 key.length H [] (bs key) (.sl m 0 0 (some 0) 1) = some ⟨.sl (b, 0) 0 key.length none 1, [bs key], []⟩ := fun b H m => appX_e b key.length H m (bs key) hk0 (by omega)
  simp (disch := first | omega | decide | simp only [bs_isCell, bs_length, aW_isCell, aB_isCell, isCell_sl, isCell_isl, isCell_nil, isCell_ptr, isCell_N]) only [funSem_eq, ev_seq, ev_region, regK_some, evOpers_nil, evOpers_cons, put_some, evX_t, evX_c, op_mv, op_call, callV_fn, andThen_normal, List.set_cons_zero, List.set_cons_succ, List.getD_cons_zero, List.getD_cons_succ, List.map_cons, List.map_nil, List.nil_append, List.cons_append, repUn_succ, List.replicate_zero, List.length_cons, List.length_nil, Nat.reduceAdd, Nat.reduceSub, cellsOf_agg, op_box, boxK_some, fill_nil, Nat.zero_add, Nat.add_zero, Nat.add_zero, Nat.zero_add, Nat.reduceAdd, lenOf_isl, op_append, appK_some, appF_some, op_mkrow, rowK_some, updN_nil, updN_cons, modN_nil, Nat.reduceSub, stepK_gen, stepK_gen, L4, hfr, hap]
  rw [c_bad_of 12 _ _ (by decide) _ _ key [(6, 0)] (by rw [snap_bytes (6, 0) 0 key.length _ key rfl hk0, List.drop_zero, List.take_of_length_le (Nat.le_refl _)]) (new_bad (k + 448) key h16 h32)]
  simp (disch := first | omega | decide | simp only [bs_isCell, bs_length, aW_isCell, aB_isCell, isCell_sl, isCell_isl, isCell_nil, isCell_ptr, isCell_N]) only [ev_seq, ev_region, regK_some, evOpers_nil, evOpers_cons, put_some, evX_t, evX_c, outR_some, op_mv, op_call, callV_fn, andThen_normal, List.set_cons_zero, List.set_cons_succ, List.getD_cons_zero, List.getD_cons_succ, List.map_cons, List.map_nil, List.length_cons, List.length_nil, Nat.reduceAdd, Nat.zero_add, Nat.add_zero, Nat.add_zero, Nat.zero_add, Nat.reduceAdd, updN_nil, modN_nil, List.getElem?_cons_zero, List.getElem?_cons_succ, op_extV, extV_tup, List.getElem?_cons_zero, List.getElem?_cons_succ, stepK_gen, stepK_gen]
  rw [c_bad_of 16 _ _ (by decide) _ _ key [] (snap_isl _ _) (rnew_bad (k + 448) key (by omega) h16 h32)]
  simp (disch := first | omega | decide | simp only [bs_isCell, bs_length, aW_isCell, aB_isCell, isCell_sl, isCell_isl, isCell_nil, isCell_ptr, isCell_N]) only [ev_skip, ev_seq, ev_block, ev_region, regK_some, evOpers_nil, evOpers_cons, evOpers_cons_g, guardK_true', put_some, evX_t, evX_c, outR_some, pickV_false, op_mv, op_pick, op_bin, op_un, op_call, callV_fn, andThen_normal, ev_cond, condK_false, List.set_cons_zero, List.set_cons_succ, List.getD_cons_zero, List.getD_cons_succ, List.map_nil, List.length_cons, List.length_nil, Bo_neq, Bo_not, ev_loop, Nat.reduceAdd, upd_at, Prod.mk.injEq, Nat.reduceEqDiff, and_true, if_true, if_false, Nat.zero_add, Nat.add_zero, decide_true, Nat.add_zero, Nat.zero_add, N_neq, decide_not, Nat.reduceEqDiff, Nat.reduceAdd, decide_true, Bool.not_true, eqp_nil, lenOf_sl, lenOf_isl, updN_nil, modN_nil, inHeap_none, List.getElem?_cons_zero, List.getElem?_cons_succ, op_extV, extV_tup, List.getElem?_cons_zero, List.getElem?_cons_succ, beq_self_eq_true, Bool.not_true, frontK_bs_all, front_sl, stepK_gen, stepK_gen, c_lives (k + 29), op_b2s, b2sV_sl, b2sV_isl, b2sK_bs, hfr, txt_neq, eqp_nil]
  generalize hL : loopN L4k0 _ _ _ = r
  refine loop_use hL (nJ key.length none s) key.length (by omega) (fun i st hi hJ => n_round _ key.length none hb s i hi st hJ) ?_ ?_ ?_
  · refine canon_inv [(2, 0), (6, 0)] rfl (by simp only [canonNames, FUEL, reach_cons, reachK_some, reach_nil, nms_ptr, nms_sl, nms_Un, nms_undef, List.flatMap_cons, List.flatMap_nil, List.nil_append, List.cons_append, List.append_nil, List.range_zero, List.map_nil, List.contains_nil, List.contains_cons, Prod.mk.injEq, beq_iff_eq, Bool.or_eq_true, Bool.false_eq_true, Nat.reduceEqDiff, and_true, or_false, if_true, if_false, List.filter_cons, List.filter_nil, bne_iff_ne, ne_eq, not_false_eq_true, upd_at, mask_nil, mask_true, mask_false, inHeap_none, nms_N, nms_nilP, L4k0, aB_nms, nms_sl, bs_nms]) rfl ⟨_, key, rfl, ?_, ?_, rfl⟩
    · exact cN_same (2, 0) rfl (by simp (disch := first | omega | decide | simp only [bs_isCell, bs_length, aW_isCell, aB_isCell, isCell_sl, isCell_isl, isCell_nil, isCell_ptr, isCell_N]) only [upd_at, Prod.mk.injEq, Nat.reduceEqDiff, and_true, if_true, if_false, inHeap_none]) (aB_ren _ _ _)
    · exact cN_same (6, 0) rfl (by simp (disch := first | omega | decide | simp only [bs_isCell, bs_length, aW_isCell, aB_isCell, isCell_sl, isCell_isl, isCell_nil, isCell_ptr, isCell_N]) only [upd_at, Prod.mk.injEq, Nat.reduceEqDiff, and_true, if_true, if_false, inHeap_none]) (bs_ren _ _)
  · rintro st ⟨H, o, rfl, h0, h1, ho⟩
    apply stop_exit
    simp (disch := first | omega | decide | simp only [bs_isCell, bs_length, aW_isCell, aB_isCell, isCell_sl, isCell_isl, isCell_nil, isCell_ptr, isCell_N]) only [ev_exit, ev_seq, ev_region, regK_some, evOpers_nil, evOpers_cons, stepK_pure, put_some, evX_t, outR_some, op_mv, op_bin, andThen_normal, andThen_exit, ev_cond, condK_false, List.set_cons_zero, List.set_cons_succ, List.getD_cons_zero, List.getD_cons_succ, List.length_cons, List.length_nil, Nat.reduceAdd, Nat.zero_add, Nat.add_zero, decide_false, Nat.add_zero, Nat.zero_add, N_lss, Nat.reduceAdd, Nat.lt_irrefl, decide_false, op_len, lenV_some, lenS_sl, L4b0, Nat.lt_irrefl]
    rfl
  · rintro st ⟨H, o, rfl, h0, h1, ho⟩ rfl
    simp (disch := first | omega | decide | simp only [bs_isCell, bs_length, aW_isCell, aB_isCell, isCell_sl, isCell_isl, isCell_nil, isCell_ptr, isCell_N]) only [ev_ret, ev_exit, ev_seq, ev_region, regK_some, evOpers_nil, evOpers_cons, evOpers_cons_g, guardK_false', guardK_un, put_some, evX_t, evX_c, outR_some, pickV_true, op_mv, op_pick, op_bin, andThen_normal, andThen_exit, inBlock_exit, ev_cond, condK_false, retK_ret, resVal_tmp, List.set_cons_zero, List.set_cons_succ, List.getD_cons_zero, List.getD_cons_succ, List.length_cons, List.length_nil, outOf_Bo, Option.map_some, Nat.reduceAdd, if_true, Nat.zero_add, Nat.add_zero, decide_false, Nat.add_zero, Nat.zero_add, N_lss, Nat.reduceAdd, Nat.lt_irrefl, decide_false, eqp_nil, op_len, lenV_some, lenS_sl, updN_nil, modN_nil, Option.map_some, evOpers_ord_g, guardO_false', guardO_un, stepK_gen, stepK_gen, L4b0, Nat.lt_irrefl, eqp_nil]
theorem blocks_nil (k : Nat) (s : R) : F C (k + 450) 4 [.isl [] 0, .agg (aB 16 s)] [] = some (Bo true, [], []) := by
  rw [F_succ f4]
  have hfr : ∀ H, front H 1 0 (.isl [] 0) = some [] := fun H => rfl
  simp (disch := first | omega | decide | simp only [bs_isCell, bs_length, aW_isCell, aB_isCell, isCell_sl, isCell_isl, isCell_nil, isCell_ptr, isCell_N]) only [funSem_eq, ev_seq, ev_region, regK_some, evOpers_nil, evOpers_cons, put_some, evX_t, evX_c, op_mv, op_call, callV_fn, andThen_normal, List.set_cons_zero, List.set_cons_succ, List.getD_cons_zero, List.getD_cons_succ, List.map_cons, List.map_nil, List.nil_append, List.cons_append, repUn_succ, List.replicate_zero, List.length_cons, List.length_nil, Nat.reduceAdd, Nat.reduceSub, upd_at, cellsOf_agg, op_box, boxK_some, fill_nil, Prod.mk.injEq, Nat.reduceEqDiff, and_true, if_true, if_false, Nat.zero_add, Nat.add_zero, Nat.add_zero, Nat.zero_add, Nat.reduceEqDiff, Nat.reduceAdd, lenOf_isl, op_append, appK_some, appF_some, op_mkrow, rowK_some, updN_nil, updN_cons, modN_nil, modN_cons, inHeap_none, Nat.reduceSub, stepK_gen, appX_e0, appE0_some, stepK_gen, L4, hfr]
  rw [c_bad_of 12 _ _ (by decide) _ _ [] [] (by exact snap_zero _ _ _ _) (new_bad (k + 448) [] (by decide) (by decide))]
  simp (disch := first | omega | decide | simp only [bs_isCell, bs_length, aW_isCell, aB_isCell, isCell_sl, isCell_isl, isCell_nil, isCell_ptr, isCell_N]) only [ev_seq, ev_region, regK_some, evOpers_nil, evOpers_cons, put_some, evX_t, evX_c, outR_some, op_mv, op_call, callV_fn, andThen_normal, List.set_cons_zero, List.set_cons_succ, List.getD_cons_zero, List.getD_cons_succ, List.map_cons, List.map_nil, List.length_cons, List.length_nil, Nat.reduceAdd, Nat.zero_add, Nat.add_zero, Nat.add_zero, Nat.zero_add, Nat.reduceAdd, updN_nil, modN_nil, List.getElem?_cons_zero, List.getElem?_cons_succ, op_extV, extV_tup, List.getElem?_cons_zero, List.getElem?_cons_succ, stepK_gen, stepK_gen]
  rw [c_bad_of 16 _ _ (by decide) _ _ [] [] (by rfl) (rnew_bad (k + 448) [] (by decide) (by decide) (by decide))]
  simp (disch := first | omega | decide | simp only [bs_isCell, bs_length, aW_isCell, aB_isCell, isCell_sl, isCell_isl, isCell_nil, isCell_ptr, isCell_N]) only [ev_skip, ev_seq, ev_block, ev_region, regK_some, evOpers_nil, evOpers_cons, evOpers_cons_g, guardK_true', put_some, evX_t, evX_c, outR_some, pickV_false, op_mv, op_pick, op_bin, op_un, op_call, callV_fn, andThen_normal, ev_cond, condK_false, List.set_cons_zero, List.set_cons_succ, List.getD_cons_zero, List.getD_cons_succ, List.map_nil, List.length_cons, List.length_nil, Bo_neq, Bo_not, ev_loop, Nat.reduceAdd, Nat.zero_add, Nat.add_zero, decide_true, Nat.add_zero, Nat.zero_add, N_neq, decide_not, Nat.reduceAdd, decide_true, Bool.not_true, eqp_nil, lenOf_sl, lenOf_isl, front_sl0, updN_nil, modN_nil, List.getElem?_cons_zero, List.getElem?_cons_succ, op_extV, extV_tup, List.getElem?_cons_zero, List.getElem?_cons_succ, beq_self_eq_true, Bool.not_true, stepK_gen, stepK_gen, c_lives (k + 29), op_b2s, b2sV_sl, b2sV_isl, b2sK_e, hfr, txt_neq, eqp_nil]
  generalize hL : loopN L4k0 _ _ _ = r
  refine loop_use hL (nJ 0 (some 0) s) 0 (by omega) (fun i st hi hJ => absurd hi (by omega)) ?_ ?_ ?_
  · refine canon_inv [(2, 0), (4, 0)] rfl (by simp only [canonNames, FUEL, reach_cons, reachK_some, reach_nil, nms_ptr, nms_sl, nms_Un, nms_undef, List.flatMap_cons, List.flatMap_nil, List.nil_append, List.cons_append, List.append_nil, List.range_zero, List.map_nil, List.contains_nil, List.contains_cons, Prod.mk.injEq, beq_iff_eq, Bool.or_eq_true, Bool.false_eq_true, Nat.reduceEqDiff, and_true, or_false, if_true, if_false, List.filter_cons, List.filter_nil, bne_iff_ne, ne_eq, not_false_eq_true, upd_at, mask_nil, mask_true, mask_false, inHeap_none, nms_N, nms_nilP, L4k0, aB_nms, nms_sl]) rfl ⟨_, [], rfl, ?_, ?_, rfl⟩
    · exact cN_same (2, 0) rfl (by simp (disch := first | omega | decide | simp only [bs_isCell, bs_length, aW_isCell, aB_isCell, isCell_sl, isCell_isl, isCell_nil, isCell_ptr, isCell_N]) only [upd_at, Prod.mk.injEq, Nat.reduceEqDiff, and_true, if_true, if_false, inHeap_none]) (aB_ren _ _ _)
    · exact cN_same (4, 0) rfl (by simp (disch := first | omega | decide | simp only [bs_isCell, bs_length, aW_isCell, aB_isCell, isCell_sl, isCell_isl, isCell_nil, isCell_ptr, isCell_N]) only [upd_at, Prod.mk.injEq, Nat.reduceEqDiff, and_true, if_true, if_false, inHeap_none]; rfl) rfl
  · rintro st ⟨H, o, rfl, h0, h1, ho⟩
    apply stop_exit
    simp (disch := first | omega | decide | simp only [bs_isCell, bs_length, aW_isCell, aB_isCell, isCell_sl, isCell_isl, isCell_nil, isCell_ptr, isCell_N]) only [ev_exit, ev_seq, ev_region, regK_some, evOpers_nil, evOpers_cons, stepK_pure, put_some, evX_t, outR_some, op_mv, op_bin, andThen_normal, andThen_exit, ev_cond, condK_false, List.set_cons_zero, List.set_cons_succ, List.getD_cons_zero, List.getD_cons_succ, List.length_cons, List.length_nil, Nat.reduceAdd, Nat.zero_add, Nat.add_zero, decide_false, Nat.add_zero, Nat.zero_add, N_lss, Nat.reduceAdd, Nat.lt_irrefl, decide_false, op_len, lenV_some, lenS_sl, L4b0, Nat.lt_irrefl]
    rfl
  · rintro st ⟨H, o, rfl, h0, h1, ho⟩ rfl
    simp (disch := first | omega | decide | simp only [bs_isCell, bs_length, aW_isCell, aB_isCell, isCell_sl, isCell_isl, isCell_nil, isCell_ptr, isCell_N]) only [ev_ret, ev_exit, ev_seq, ev_region, regK_some, evOpers_nil, evOpers_cons, evOpers_cons_g, guardK_false', guardK_un, put_some, evX_t, evX_c, outR_some, pickV_true, op_mv, op_pick, op_bin, andThen_normal, andThen_exit, inBlock_exit, ev_cond, condK_false, retK_ret, resVal_tmp, List.set_cons_zero, List.set_cons_succ, List.getD_cons_zero, List.getD_cons_succ, List.length_cons, List.length_nil, outOf_Bo, Option.map_some, Nat.reduceAdd, if_true, Nat.zero_add, Nat.add_zero, decide_false, Nat.add_zero, Nat.zero_add, N_lss, Nat.reduceAdd, Nat.lt_irrefl, decide_false, eqp_nil, op_len, lenV_some, lenS_sl, updN_nil, modN_nil, Option.map_some, evOpers_ord_g, guardO_false', guardO_un, stepK_gen, stepK_gen, L4b0, Nat.lt_irrefl, eqp_nil]
theorem blocks_F (k K : Nat) (key : List (BitVec 8)) (hb : key.length < 211106232532992) (hK : K = k + 450) (hk : key.length < k) (s : R) : F C K 4 [.isl (bs key) key.length, .agg (aB 16 s)] [] = some (Bo true, [], []) := by
  by_cases h16 : key.length = 16
  · subst hK; exact blocks_good k 4 (.inl rfl) key h16 s
  · by_cases h32 : key.length = 32
    · subst hK; exact blocks_good k 8 (.inr rfl) key h32 s
    · by_cases h0 : key.length = 0
      · obtain rfl : key = [] := List.length_eq_zero_iff.1 h0
        subst hK; exact blocks_nil k s
      · exact blocks_bad k K key h16 h32 hb h0 hK hk s
end Aes
