/- Calls on ciphers in the caller's memory. -/
/- lives. -/
/- The laws Apart and Back, evaluated. -/
/- The law First, evaluated. -/
/- The law Keys, evaluated. -/
/- The law Blocks, evaluated. -/
import Derived.Test.YtgabgpgcplkebaaLeZ
set_option linter.unusedVariables false
set_option linter.unusedSimpArgs false

namespace Aes
open Go Go.LE
set_option maxRecDepth 20000

theorem noImm_bs (l : List (BitVec 8)) : (bs l).all (noImm D) = true := by
  rw [List.all_eq_true]; intro x hx; simp only [bs, List.mem_map] at hx; obtain ⟨y, _, rfl⟩ := hx; rfl
theorem noImm_aBs (n : Nat) (f : R) : (aB n f).all (noImm D) = true := by
  rw [List.all_eq_true]; intro x hx; simp only [aB, arr, List.mem_map] at hx; obtain ⟨y, _, rfl⟩ := hx; rfl
theorem resK_any (names : List Nm) (base : Nat) (plain : Bool) (res : CallRes) (h : plainRes res = true) : resK names base plain (some res) = some (backTo names base res) := by
  simp [resK, h]
theorem c_new_of (g K b len : Nat) (hg : lentF g 0 = true) (H : Heap) (B : LV) (key : List (BitVec 8)) (lent : List Nm) (hs : snap H D B = some (.isl (bs key) key.length, lent)) (O : LV → qat)
    (hO : ∀ r, (O r).all (noImm D) = noImm D r) (hOr : ∀ π r, (O r).map (ren D π) = O (ren D π r)) (l : List (BitVec 8))
    (hF : F C K g [.isl (bs key) key.length] [] = some (.tup [.ptr (1, 0) 0, N 0], [], [O (.sl (1, 1) 0 len none 16), bs l])) :
    qbl (envC C K) H b g [B] = some ⟨.tup [.ptr (b, 0) 0, N 0], [O (.sl (b, 1) 0 len none 16), bs l], []⟩ := by
  have hlend : lend H ((envC C K).borrow g) 0 [B] = some ([.isl (bs key) key.length], lent) := by
    rw [lend_cons, lend_nil, envC_borrow, C_bor, if_pos hg, hs, lendC_some, List.append_nil]
  have hn : ([.isl (bs key) key.length] : List LV).flatMap (nms D) = [] := by
    simp only [List.flatMap_cons, List.flatMap_nil, ibs_nms, List.append_nil]
  have ha : ([.isl (bs key) key.length] : List LV).map (ren D (qa1 [])) = [.isl (bs key) key.length] := by
    simp only [List.map_cons, List.map_nil, qbI]
  have hp : plainRes (.tup [.ptr (1, 0) 0, N 0], [], [O (.sl (1, 1) 0 len none 16), bs l]) = true := by
    simp only [plainRes, List.all_nil, List.all_cons, hO, noImm_bs]; rfl
  have hl : lent.any (fun n => ([] : List Nm).contains n) = false := by simp
  rw [callOp_L, hlend, callL_some, hn, show qbd H FUEL [] [] = [] from rfl, callN_eq _ _ _ _ _ hl, ha, List.filterMap_nil, List.map_nil, envC_cal, hF, resK_any _ _ _ _ hp, backTo_eq]
  simp only [List.map_cons, List.map_nil, hOr, qaE, qaX, List.length_cons, List.length_nil, toCaller_1, Nat.zero_add, Nat.reduceAdd, Nat.reduceLT, qbe, List.zipWith_nil_left]
  rfl
theorem noImm_CF (r : LV) (f : R) : (CF r f).all (noImm D) = noImm D r := by rw [CF, List.all_cons, noImm_aBs, Bool.and_true]
theorem c_new (k n b : Nat) (hn : n = 4 ∨ n = 8) (H : Heap) (B : LV) (key : List (BitVec 8)) (hk : key.length = 4 * n) (lent : List Nm) (hs : snap H D B = some (.isl (bs key) key.length, lent)) :
    qbl (envC C (k + 400)) H b 12 [B] = some ⟨.tup [.ptr (b, 0) 0, N 0], [CF (.sl (b, 1) 0 (n + 7) none 16) TB, bs (W n key)], []⟩ :=
  c_new_of 12 _ b (n + 7) (by decide) H B key lent hs (fun r => CF r TB) (fun r => noImm_CF r _) (fun π r => qaV π r _) (W n key) (new_F k n hn key hk)
theorem c_enc (k n b : Nat) (hn : n ≤ 20) (H : Heap) (c m : Nm) (l : List (BitVec 8)) (h : KG H c m (n + 2) none l) (hl : l.length = 16 * (n + 2)) (s : R) :
    qbl (envC C (k + 60)) H b 17 [.ptr c 0, .agg (aB 16 s)] = some ⟨.agg (aB 16 (enc (kf l) n s)), [], [(c, some (CF (.sl m 0 (n + 2) none 16) TB)), (m, some (bs l))]⟩ :=
  callK _ b 17 l17 H c m (n + 2) none l h _ (Pl.pa 16 s Pl.e) _ (fun π => qbO 16 _ π) (enc_F k n hn l hl s)
theorem c_dec (k n b : Nat) (hn : n ≤ 20) (H : Heap) (c m : Nm) (l : List (BitVec 8)) (h : KG H c m (n + 2) none l) (hl : l.length = 16 * (n + 2)) (s : R) :
    qbl (envC C (k + 60)) H b 19 [.ptr c 0, .agg (aB 16 s)] = some ⟨.agg (aB 16 (dec (kf l) n s)), [], [(c, some (CF (.sl m 0 (n + 2) none 16) TB)), (m, some (bs l))]⟩ :=
  callK _ b 19 l19 H c m (n + 2) none l h _ (Pl.pa 16 s Pl.e) _ (fun π => qbO 16 _ π) (dec_F k n hn l hl s)
structure RG (H : Heap) (c m : Nm) (len : Nat) (cap : Option Nat) (l : List (BitVec 8)) : Prop where
  hc : H c = some (RF (.sl m 0 len cap 16) TB)
  hm : H m = some (bs l)
  ne : c ≠ m
/-! ### what reads only -/

theorem same_aB (n : Nat) (f : R) : sameL (aB n f) (aB n f) = true := same_cells fun x hx => by
  simp only [aB, arr, List.mem_map] at hx; obtain ⟨y, _, rfl⟩ := hx; exact same_B8 _
theorem same_CF (m : Nm) (len : Nat) (cap : Option Nat) (f : R) : sameL (CF (.sl m 0 len cap 16) f) (CF (.sl m 0 len cap 16) f) = true := by
  rw [CF, sameL, same_aB, Bool.and_true]; simp [same1]
theorem same_RF (m : Nm) (len : Nat) (cap : Option Nat) (f : R) : sameL (RF (.sl m 0 len cap 16) f) (RF (.sl m 0 len cap 16) f) = true := by
  rw [RF, sameL, same_aB, Bool.and_true]; simp [same1]
theorem tr_KG (H : Heap) (v : LV) (c m : Nm) (len : Nat) (cap : Option Nat) (l : List (BitVec 8)) (h : KG H c m len cap l) : trimO true H (some ⟨v, [], [(c, some (CF (.sl m 0 len cap 16) TB)), (m, some (bs l))]⟩) = some ⟨v, [], []⟩ := by
  refine trimO_same _ _ _ _ fun q hm => ?_
  simp only [List.mem_cons, List.not_mem_nil, or_false] at hm
  rcases hm with rfl | rfl
  · simp only [h.hc, sameO, same_CF]
  · simp only [h.hm, sameO, same_bs]
theorem reach_KG {H : Heap} {c m : Nm} {len : Nat} {cap : Option Nat} {l : List (BitVec 8)} (h : KG H c m len cap l) : qbd H FUEL [] [c] = [c, m] := by
  have hc : ([c] : List Nm).contains m = false := by simp; exact fun e => h.ne e.symm
  simp only [FUEL, qaD, List.contains_nil, Bool.false_eq_true, if_false, h.hc, qaB, qaR, qaT, List.nil_append, List.cons_append, hc, h.hm, qaw, qax]
theorem KG.only {H : Heap} {c m : Nm} {len : Nat} {cap : Option Nat} {l : List (BitVec 8)} (h : KG H c m len cap l) : KG (LE.only [c, m] H) c m len cap l :=
  ⟨by rw [LE.only, if_pos (by simp)]; exact h.hc, by rw [LE.only, if_pos (by simp)]; exact h.hm, h.ne⟩
theorem RG.only {H : Heap} {c m : Nm} {len : Nat} {cap : Option Nat} {l : List (BitVec 8)} (h : RG H c m len cap l) : RG (LE.only [c, m] H) c m len cap l :=
  ⟨by rw [LE.only, if_pos (by simp)]; exact h.hc, by rw [LE.only, if_pos (by simp)]; exact h.hm, h.ne⟩
end Aes

namespace Aes
open Go Go.LE
set_option maxRecDepth 20000

end Aes

namespace Aes
open Go Go.LE
set_option maxRecDepth 20000

/-- the first bytes of a row in memory, lent -/
theorem snap_aB {H : Heap} {m : Nm} {n : Nat} {f : R} (h : H m = some (aB n f)) (len : Nat) (c : Option Nat) (h0 : len ≠ 0) (hl : len ≤ n) :
    snap H D (.sl m 0 len c 1) = some (.isl (bs ((List.range len).map f)) ((List.range len).map f).length, [m]) := by
  rw [aB_bs] at h
  rw [snap_bytes m 0 len c _ h h0, List.drop_zero]
  have e : ((List.range n).map f).take len = (List.range len).map f := by
    rw [← List.map_take, List.take_range, Nat.min_eq_left hl]
  rw [e, List.length_map, List.length_range]

end Aes

namespace Aes
open Go Go.LE
set_option maxRecDepth 20000

end Aes

namespace Aes
open Go Go.LE
set_option maxRecDepth 20000

end Aes
namespace Go.LE
end Go.LE

namespace Aes
open Go Go.LE
set_option maxRecDepth 20000

end Aes
