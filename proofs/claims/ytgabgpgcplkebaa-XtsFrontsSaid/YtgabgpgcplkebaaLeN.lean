/- xts: calls of Encrypt and Decrypt, of both sides, as the laws make them. -/
/- xts: the law Back, evaluated. -/
/- xts: the law Fronts, evaluated. -/
/- xts: the law Units, evaluated. -/
/- xts: the law Units, evaluated. -/
/- xts: the law Units, evaluated. -/
import Derived.Test.YtgabgpgcplkebaaLeW
import Derived.Test.YtgabgpgcplkebaaLeM
import Derived.Test.YtgabgpgcplkebaaLeQ
set_option linter.unusedVariables false
set_option linter.unusedSimpArgs false

namespace Aes
open Go Go.LE Xf
set_option maxRecDepth 20000

theorem c23I (k n base : Nat) (hn : n ≤ 20) (H : Heap) (p a ka b kb : Nm) (la lb : List (BitVec 8)) (X : XG H p a ka b kb n la lb) (hla : la.length = 16 * (n + 2)) (hlb : lb.length = 16 * (n + 2)) (u : BitVec 64) (d : List (BitVec 8)) (h16 : 16 ≤ d.length) (hd2 : d.length ≤ 65536) :
    qbl (envC C (k + 5003)) H base 23 [.ptr p 0, B64 u, .isl (bs d) d.length] = some ⟨.tup [.sl (base, 0) 0 d.length none 1, N 0], [bs (qbj (En false la n) (tw0 n lb u) d false)], modX p a ka b kb n la lb⟩ :=
  c_enI _ 23 n base l23 H p a ka b kb la lb X u d _ d.length (encr23I_F k n hn la lb hla hlb u d h16 hd2)
theorem b23I (k n base : Nat) (H : Heap) (p a ka b kb : Nm) (la lb : List (BitVec 8)) (X : XG H p a ka b kb n la lb) (u : BitVec 64) (d : List (BitVec 8)) (hd : d.length < 16 ∨ 65536 < d.length) (hd2 : d.length < 9223372036854775808) :
    qbl (envC C (k + 5003)) H base 23 [.ptr p 0, B64 u, .isl (bs d) d.length] = some ⟨.tup [Nil, N 30], [], modX p a ka b kb n la lb⟩ :=
  c_badI _ 23 n base l23 H p a ka b kb la lb X u d (encrb23I_F k n la lb u d hd hd2)
theorem c26I (k n base : Nat) (hn : n ≤ 20) (H : Heap) (p a ka b kb : Nm) (la lb : List (BitVec 8)) (X : XG H p a ka b kb n la lb) (hla : la.length = 16 * (n + 2)) (hlb : lb.length = 16 * (n + 2)) (u : BitVec 64) (d : List (BitVec 8)) (h16 : 16 ≤ d.length) (hd2 : d.length ≤ 65536) :
    qbl (envC C (k + 5003)) H base 26 [.ptr p 0, B64 u, .isl (bs d) d.length] = some ⟨.tup [.sl (base, 0) 0 d.length none 1, N 0], [bs (qbj (En true la n) (tw0 n lb u) d true)], modX p a ka b kb n la lb⟩ :=
  c_enI _ 26 n base l26 H p a ka b kb la lb X u d _ d.length (encr26I_F k n hn la lb hla hlb u d h16 hd2)
theorem c23S (k n base : Nat) (hn : n ≤ 20) (H : Heap) (p a ka b kb m : Nm) (la lb : List (BitVec 8)) (X : XG H p a ka b kb n la lb) (hla : la.length = 16 * (n + 2)) (hlb : lb.length = 16 * (n + 2)) (u : BitVec 64) (d L : List (BitVec 8)) (off : Nat) (c : Option Nat) (hm : H m = some (bs L)) (hx : m ∉ [p, a, ka, b, kb]) (hL : (L.drop off).take d.length = d) (h16 : 16 ≤ d.length) (hd2 : d.length ≤ 65536) :
    qbl (envC C (k + 5003)) H base 23 [.ptr p 0, B64 u, .sl m off d.length c 1] = some ⟨.tup [.sl (base, 0) 0 d.length none 1, N 0], [bs (qbj (En false la n) (tw0 n lb u) d false)], modX p a ka b kb n la lb ++ [(m, some (bs L))]⟩ :=
  c_enS _ 23 n base l23 H p a ka b kb m la lb X u d L _ off c hm hx d.length (encr23S_F k n hn la lb hla hlb u d L off c hL h16 hd2)
theorem c26S (k n base : Nat) (hn : n ≤ 20) (H : Heap) (p a ka b kb m : Nm) (la lb : List (BitVec 8)) (X : XG H p a ka b kb n la lb) (hla : la.length = 16 * (n + 2)) (hlb : lb.length = 16 * (n + 2)) (u : BitVec 64) (d L : List (BitVec 8)) (off : Nat) (c : Option Nat) (hm : H m = some (bs L)) (hx : m ∉ [p, a, ka, b, kb]) (hL : (L.drop off).take d.length = d) (h16 : 16 ≤ d.length) (hd2 : d.length ≤ 65536) :
    qbl (envC C (k + 5003)) H base 26 [.ptr p 0, B64 u, .sl m off d.length c 1] = some ⟨.tup [.sl (base, 0) 0 d.length none 1, N 0], [bs (qbj (En true la n) (tw0 n lb u) d true)], modX p a ka b kb n la lb ++ [(m, some (bs L))]⟩ :=
  c_enS _ 26 n base l26 H p a ka b kb m la lb X u d L _ off c hm hx d.length (encr26S_F k n hn la lb hla hlb u d L off c hL h16 hd2)
theorem XG.same6 {H : Heap} {p a ka b kb m : Nm} {n : Nat} {la lb L : List (BitVec 8)} (h : XG H p a ka b kb n la lb) (hm : H m = some (bs L)) : modN (modX p a ka b kb n la lb ++ [(m, some (bs L))]) H = H := by
  simp only [modX, List.cons_append, List.nil_append, qa2, qau, qaA hm, qaA h.hkb, qaA h.hb, qaA h.hka, qaA h.ha, qaA h.hp]
theorem XG.up {H : Heap} {p a ka b kb : Nm} {n : Nat} {la lb : List (BitVec 8)} (h : XG H p a ka b kb n la lb) (m : Nm) (x : Option qat) (hx : m ∉ [p, a, ka, b, kb]) : XG (upd H m x) p a ka b kb n la lb := by
  obtain ⟨m1, m2, m3, m4, m5⟩ := XG.ne6 hx
  exact ⟨by rw [qaq, if_neg (Ne.symm m1)]; exact h.hp, by rw [qaq, if_neg (Ne.symm m2)]; exact h.ha, by rw [qaq, if_neg (Ne.symm m3)]; exact h.hka, by rw [qaq, if_neg (Ne.symm m4)]; exact h.hb, by rw [qaq, if_neg (Ne.symm m5)]; exact h.hkb, h.nd⟩
theorem RXG.up {H : Heap} {p a ka b kb : Nm} {n : Nat} {la lb : List (BitVec 8)} (h : RXG H p a ka b kb n la lb) (m : Nm) (x : Option qat) (hx : m ∉ [p, a, ka, b, kb]) : RXG (upd H m x) p a ka b kb n la lb := by
  obtain ⟨m1, m2, m3, m4, m5⟩ := XG.ne6 hx
  exact ⟨by rw [qaq, if_neg (Ne.symm m1)]; exact h.hp, by rw [qaq, if_neg (Ne.symm m2)]; exact h.ha, by rw [qaq, if_neg (Ne.symm m3)]; exact h.hka, by rw [qaq, if_neg (Ne.symm m4)]; exact h.hb, by rw [qaq, if_neg (Ne.symm m5)]; exact h.hkb, h.nd⟩
theorem inv_En (la : List (BitVec 8)) (n : Nat) : Inv (En false la n) (En true la n) := inv_aes (kf la) n
end Aes

namespace Aes
open Go Go.LE Xf
set_option maxRecDepth 20000

theorem xback_4 (k : Nat) (key : R) (u : BitVec 64) (d : List (BitVec 8)) (h16 : 16 ≤ d.length) (hd2 : d.length ≤ 65536) : F C (k + 5020) 10 [.agg (aB 64 key), Bo false, B64 u, .isl (bs d) d.length] [] = some (Bo true, [], []) := by
  rw [qbK f10]
  simp (disch := first | omega | decide | simp only [qaf, qad, qag, qae, qah, qac, qaa, qab, qai]) only [qba, qbv, qav, qap, qao, qam, qal, qar, qaC, qaH, qas, qaK, qa3, qaY, qaj, qaL, qaF, List.set_cons_zero, List.set_cons_succ, List.getD_cons_zero, List.getD_cons_succ, List.map_cons, List.map_nil, List.nil_append, List.cons_append, qa4, List.replicate_zero, List.length_cons, List.length_nil, Nat.reduceAdd, Nat.reduceSub, qa9, op_box, qb2, Nat.zero_add, Nat.add_zero, Nat.mul_one, Nat.add_zero, Nat.zero_add, N_nat, Nat.reduceAdd, qb6, qbZ, op_slcAV, slcAV_ptr, qaz, qaS, qau, Nat.sub_zero, Nat.mul_one, Nat.reduceSub, qan, qan, L10]
  rw [c_xnew (k + 4618) 4 _ (.inl rfl) _ _ ((List.range 32).map key) (by rw [List.length_map, List.length_range]) [(2, 0)] (snap_aB rfl 32 _ (by decide) (by decide))]
  have hle : ¬ d.length < 16 := by omega
  have hle2 : ¬ 65536 < d.length := by omega
  simp (disch := first | omega | decide | simp only [qaf, qad, qag, qae, qah, qac, qaa, qab, qai]) only [qbv, qav, qap, qao, qam, qal, qbf, qb4, qar, qaC, qaH, qas, qb0, qaK, op_pick, qaJ, op_un, qa3, qaY, qaj, qaL, qaF, List.set_cons_zero, List.set_cons_succ, List.getD_cons_zero, List.getD_cons_succ, List.map_cons, List.map_nil, List.length_cons, List.length_nil, Bo_not, Nat.reduceAdd, Nat.zero_add, Nat.add_zero, decide_true, Nat.add_zero, Nat.zero_add, N_neq, decide_not, Nat.reduceMul, Nat.reduceAdd, decide_true, Bool.not_true, eqp_ptr, qaz, qaS, qau, List.getElem?_cons_zero, List.getElem?_cons_succ, op_extV, qb1, List.getElem?_cons_zero, List.getElem?_cons_succ, Bool.not_true, qan, qan, c_xlives (k + 9), eqp_ptr]
  obtain ⟨la, hla'⟩ : ∃ la, la = W 4 (((List.range 32).map key).take (4 * 4)) := ⟨_, rfl⟩
  obtain ⟨lb, hlb'⟩ : ∃ lb, lb = W 4 (((List.range 32).map key).drop (4 * 4)) := ⟨_, rfl⟩
  have hla : la.length = 16 * (9 + 2) := by rw [hla']; exact W_length 4 _ (by rw [List.length_take, List.length_map, List.length_range]; rfl)
  have hlb : lb.length = 16 * (9 + 2) := by rw [hlb']; exact W_length 4 _ (by rw [List.length_drop, List.length_map, List.length_range])
  generalize hG : upd _ (8, 4) _ = G
  have X : XG G (8, 0) (8, 1) (8, 2) (8, 3) (8, 4) 9 la lb := by rw [← hG, hla', hlb']; exact ⟨rfl, rfl, rfl, rfl, rfl, by decide⟩
  clear hG hla' hlb'
  have hc := fun b => c23I (k + 16) 9 b (by decide) G _ _ _ _ _ la lb X hla hlb u d h16 hd2
  have hm := X.same
  simp (disch := first | omega | decide | simp only [qaf, qad, qag, qae, qah, qac, qaa, qab, qai]) only [qbv, qav, qap, qao, qam, qal, qbf, qb4, qar, qaC, qaH, qas, qb0, qaK, op_pick, qaJ, qa3, qaY, qaj, qaL, qaF, List.set_cons_zero, List.set_cons_succ, List.getD_cons_zero, List.getD_cons_succ, List.map_cons, List.map_nil, List.length_cons, List.length_nil, Nat.reduceAdd, Nat.zero_add, Nat.add_zero, decide_false, Nat.add_zero, Nat.zero_add, qbp, N_gtr, Nat.reduceAdd, decide_false, op_len, qbC, lenS_isl, qaz, qaS, qau, List.getElem?_cons_zero, List.getElem?_cons_succ, op_extV, qb1, List.getElem?_cons_zero, List.getElem?_cons_succ, qan, qan, hc, hm, hle, hle2]
  obtain ⟨t0, ht0⟩ : ∃ t0, t0 = tw0 9 lb u := ⟨_, rfl⟩
  have hI := inv_En la 9
  obtain ⟨U, hU⟩ : ∃ U, U = qbj (En false la 9) t0 d false := ⟨_, rfl⟩
  have hUl : U.length = d.length := by rw [hU, unitP_length _ _ _ _ h16]
  have hUd : qbj (En true la 9) t0 U true = d := by rw [hU]; exact unit_inv hI t0 d false h16
  obtain ⟨V, hV⟩ : ∃ V, V = qbj (En true la 9) t0 d true := ⟨_, rfl⟩
  have hVl : V.length = d.length := by rw [hV, unitP_length _ _ _ _ h16]
  have hVd : qbj (En false la 9) t0 V false = d := by rw [hV]; exact unit_inv hI.symm t0 d true h16
  rw [← ht0, ← hU]
  generalize hG2 : upd G (27, 0) _ = G2
  have X2 : XG G2 (8, 0) (8, 1) (8, 2) (8, 3) (8, 4) 9 la lb := by rw [← hG2]; exact X.up _ _ (by decide)
  have u2 : G2 (27, 0) = some (bs U) := by rw [← hG2]; rfl
  clear hG2 hc hm X
  have hc := fun b => c26S (k + 16) 9 b (by decide) G2 _ _ _ _ _ (27, 0) la lb X2 hla hlb u U U 0 none u2 (by decide) (by rw [List.drop_zero, List.take_of_length_le (Nat.le_refl _)]) (by omega) (by omega)
  rw [hUl, ← ht0, hUd] at hc
  have hm := X2.same6 u2
  simp (disch := first | omega | decide | simp only [qaf, qad, qag, qae, qah, qac, qaa, qab, qai]) only [qav, qap, qao, qam, qal, qar, qaC, qaH, qas, qaK, qa3, qaY, qaj, List.set_cons_zero, List.set_cons_succ, List.getD_cons_zero, List.getD_cons_succ, List.map_cons, List.map_nil, List.length_cons, List.length_nil, Nat.reduceAdd, Nat.zero_add, Nat.add_zero, Nat.add_zero, Nat.zero_add, Nat.reduceAdd, qaz, qaS, qau, List.getElem?_cons_zero, List.getElem?_cons_succ, op_extV, qb1, List.getElem?_cons_zero, List.getElem?_cons_succ, qan, qan, hc, hm]
  generalize hG3 : upd G2 (44, 0) _ = G3
  have X3 : XG G3 (8, 0) (8, 1) (8, 2) (8, 3) (8, 4) 9 la lb := by rw [← hG3]; exact X2.up _ _ (by decide)
  have v3 : G3 (44, 0) = some (bs d) := by rw [← hG3]; rfl
  clear hG3 hc hm X2
  have hc := fun b => c26I (k + 16) 9 b (by decide) G3 _ _ _ _ _ la lb X3 hla hlb u d h16 hd2
  rw [← ht0, ← hV] at hc
  have hm := X3.same
  simp (disch := first | omega | decide | simp only [qaf, qad, qag, qae, qah, qac, qaa, qab, qai]) only [qav, qap, qao, qam, qal, qar, qaC, qaH, qas, qaK, qa3, qaY, qaj, List.set_cons_zero, List.set_cons_succ, List.getD_cons_zero, List.getD_cons_succ, List.map_cons, List.map_nil, List.length_cons, List.length_nil, Nat.reduceAdd, Nat.zero_add, Nat.add_zero, Nat.add_zero, Nat.zero_add, Nat.reduceAdd, qaz, qaS, qau, List.getElem?_cons_zero, List.getElem?_cons_succ, op_extV, qb1, List.getElem?_cons_zero, List.getElem?_cons_succ, qan, qan, hc, hm]
  generalize hG4 : upd G3 (53, 0) _ = G4
  have X4 : XG G4 (8, 0) (8, 1) (8, 2) (8, 3) (8, 4) 9 la lb := by rw [← hG4]; exact X3.up _ _ (by decide)
  have v4 : G4 (44, 0) = some (bs d) := by rw [← hG4]; exact v3
  have w4 : G4 (53, 0) = some (bs V) := by rw [← hG4]; rfl
  clear hG4 hc hm X3
  have hc := fun b => c23S (k + 16) 9 b (by decide) G4 _ _ _ _ _ (53, 0) la lb X4 hla hlb u V V 0 none w4 (by decide) (by rw [List.drop_zero, List.take_of_length_le (Nat.le_refl _)]) (by omega) (by omega)
  rw [hVl, ← ht0, hVd] at hc
  have hm := X4.same6 w4
  have hfi : ∀ H, front H 1 d.length (.isl (bs d) d.length) = some (bs d) := fun H => front_ibytes d d.length rfl
  have hfk : frontK 0 1 d.length (some (bs d)) = some (bs d) := by rw [frontK, if_pos (by rw [qad]; omega), List.drop_zero, bs_take, Nat.mul_one, List.take_of_length_le (Nat.le_refl _)]
  simp (disch := first | omega | decide | simp only [qaf, qad, qag, qae, qah, qac, qaa, qab, qai]) only [qbD, qav, qap, qao, qam, qal, qbf, guardK_true, qar, qaC, qaH, qas, pickV_true, qaK, op_pick, qaJ, qaj, qbi, qbX, List.set_cons_zero, List.set_cons_succ, List.getD_cons_zero, List.getD_cons_succ, List.length_cons, List.length_nil, outOf_Bo, Option.map_some, Nat.reduceAdd, qaq, Prod.mk.injEq, Nat.reduceEqDiff, and_true, if_true, if_false, Nat.zero_add, Nat.add_zero, decide_true, Nat.add_zero, Nat.zero_add, N_eql, Nat.reduceEqDiff, Nat.reduceAdd, decide_true, lenOf_sl, lenOf_isl, qaz, qaS, qau, Option.map_some, List.getElem?_cons_zero, List.getElem?_cons_succ, op_extV, qb1, List.getElem?_cons_zero, List.getElem?_cons_succ, front_sl, qan, qan, hc, hm, v4, op_b2s, b2sV_sl, b2sV_isl, b2sK_bs, hfi, hfk, txt_eql]
theorem xback_8 (k : Nat) (key : R) (u : BitVec 64) (d : List (BitVec 8)) (h16 : 16 ≤ d.length) (hd2 : d.length ≤ 65536) : F C (k + 5020) 10 [.agg (aB 64 key), Bo true, B64 u, .isl (bs d) d.length] [] = some (Bo true, [], []) := by
  rw [qbK f10]
  simp (disch := first | omega | decide | simp only [qaf, qad, qag, qae, qah, qac, qaa, qab, qai]) only [qba, qav, qap, qao, qam, qal, qar, qaC, qaH, qas, qaK, qa3, qaY, qaj, qaL, qbq, List.set_cons_zero, List.set_cons_succ, List.getD_cons_zero, List.getD_cons_succ, List.map_cons, List.map_nil, List.nil_append, List.cons_append, qa4, List.replicate_zero, List.length_cons, List.length_nil, Nat.reduceAdd, Nat.reduceSub, qa9, op_box, qb2, Nat.zero_add, Nat.add_zero, Nat.mul_one, Nat.add_zero, Nat.zero_add, N_nat, Nat.reduceAdd, qb6, qbZ, op_slcAV, slcAV_ptr, qaz, qaS, qau, Nat.sub_zero, Nat.mul_one, Nat.reduceSub, qan, qan, L10]
  rw [c_xnew (k + 4618) 8 _ (.inr rfl) _ _ ((List.range 64).map key) (by rw [List.length_map, List.length_range]) [(2, 0)] (snap_aB rfl 64 _ (by decide) (by decide))]
  have hle : ¬ d.length < 16 := by omega
  have hle2 : ¬ 65536 < d.length := by omega
  simp (disch := first | omega | decide | simp only [qaf, qad, qag, qae, qah, qac, qaa, qab, qai]) only [qbv, qav, qap, qao, qam, qal, qbf, qb4, qar, qaC, qaH, qas, qb0, qaK, op_pick, qaJ, op_un, qa3, qaY, qaj, qaL, qaF, List.set_cons_zero, List.set_cons_succ, List.getD_cons_zero, List.getD_cons_succ, List.map_cons, List.map_nil, List.length_cons, List.length_nil, Bo_not, Nat.reduceAdd, Nat.zero_add, Nat.add_zero, decide_true, Nat.add_zero, Nat.zero_add, N_neq, decide_not, Nat.reduceMul, Nat.reduceAdd, decide_true, Bool.not_true, eqp_ptr, qaz, qaS, qau, List.getElem?_cons_zero, List.getElem?_cons_succ, op_extV, qb1, List.getElem?_cons_zero, List.getElem?_cons_succ, Bool.not_true, qan, qan, c_xlives (k + 9), eqp_ptr]
  obtain ⟨la, hla'⟩ : ∃ la, la = W 8 (((List.range 64).map key).take (4 * 8)) := ⟨_, rfl⟩
  obtain ⟨lb, hlb'⟩ : ∃ lb, lb = W 8 (((List.range 64).map key).drop (4 * 8)) := ⟨_, rfl⟩
  have hla : la.length = 16 * (13 + 2) := by rw [hla']; exact W_length 8 _ (by rw [List.length_take, List.length_map, List.length_range]; rfl)
  have hlb : lb.length = 16 * (13 + 2) := by rw [hlb']; exact W_length 8 _ (by rw [List.length_drop, List.length_map, List.length_range])
  generalize hG : upd _ (10, 4) _ = G
  have X : XG G (10, 0) (10, 1) (10, 2) (10, 3) (10, 4) 13 la lb := by rw [← hG, hla', hlb']; exact ⟨rfl, rfl, rfl, rfl, rfl, by decide⟩
  clear hG hla' hlb'
  have hc := fun b => c23I (k + 16) 13 b (by decide) G _ _ _ _ _ la lb X hla hlb u d h16 hd2
  have hm := X.same
  simp (disch := first | omega | decide | simp only [qaf, qad, qag, qae, qah, qac, qaa, qab, qai]) only [qbv, qav, qap, qao, qam, qal, qbf, qb4, qar, qaC, qaH, qas, qb0, qaK, op_pick, qaJ, qa3, qaY, qaj, qaL, qaF, List.set_cons_zero, List.set_cons_succ, List.getD_cons_zero, List.getD_cons_succ, List.map_cons, List.map_nil, List.length_cons, List.length_nil, Nat.reduceAdd, Nat.zero_add, Nat.add_zero, decide_false, Nat.add_zero, Nat.zero_add, qbp, N_gtr, Nat.reduceAdd, decide_false, op_len, qbC, lenS_isl, qaz, qaS, qau, List.getElem?_cons_zero, List.getElem?_cons_succ, op_extV, qb1, List.getElem?_cons_zero, List.getElem?_cons_succ, qan, qan, hc, hm, hle, hle2]
  obtain ⟨t0, ht0⟩ : ∃ t0, t0 = tw0 13 lb u := ⟨_, rfl⟩
  have hI := inv_En la 13
  obtain ⟨U, hU⟩ : ∃ U, U = qbj (En false la 13) t0 d false := ⟨_, rfl⟩
  have hUl : U.length = d.length := by rw [hU, unitP_length _ _ _ _ h16]
  have hUd : qbj (En true la 13) t0 U true = d := by rw [hU]; exact unit_inv hI t0 d false h16
  obtain ⟨V, hV⟩ : ∃ V, V = qbj (En true la 13) t0 d true := ⟨_, rfl⟩
  have hVl : V.length = d.length := by rw [hV, unitP_length _ _ _ _ h16]
  have hVd : qbj (En false la 13) t0 V false = d := by rw [hV]; exact unit_inv hI.symm t0 d true h16
  rw [← ht0, ← hU]
  generalize hG2 : upd G (29, 0) _ = G2
  have X2 : XG G2 (10, 0) (10, 1) (10, 2) (10, 3) (10, 4) 13 la lb := by rw [← hG2]; exact X.up _ _ (by decide)
  have u2 : G2 (29, 0) = some (bs U) := by rw [← hG2]; rfl
  clear hG2 hc hm X
  have hc := fun b => c26S (k + 16) 13 b (by decide) G2 _ _ _ _ _ (29, 0) la lb X2 hla hlb u U U 0 none u2 (by decide) (by rw [List.drop_zero, List.take_of_length_le (Nat.le_refl _)]) (by omega) (by omega)
  rw [hUl, ← ht0, hUd] at hc
  have hm := X2.same6 u2
  simp (disch := first | omega | decide | simp only [qaf, qad, qag, qae, qah, qac, qaa, qab, qai]) only [qav, qap, qao, qam, qal, qar, qaC, qaH, qas, qaK, qa3, qaY, qaj, List.set_cons_zero, List.set_cons_succ, List.getD_cons_zero, List.getD_cons_succ, List.map_cons, List.map_nil, List.length_cons, List.length_nil, Nat.reduceAdd, Nat.zero_add, Nat.add_zero, Nat.add_zero, Nat.zero_add, Nat.reduceAdd, qaz, qaS, qau, List.getElem?_cons_zero, List.getElem?_cons_succ, op_extV, qb1, List.getElem?_cons_zero, List.getElem?_cons_succ, qan, qan, hc, hm]
  generalize hG3 : upd G2 (46, 0) _ = G3
  have X3 : XG G3 (10, 0) (10, 1) (10, 2) (10, 3) (10, 4) 13 la lb := by rw [← hG3]; exact X2.up _ _ (by decide)
  have v3 : G3 (46, 0) = some (bs d) := by rw [← hG3]; rfl
  clear hG3 hc hm X2
  have hc := fun b => c26I (k + 16) 13 b (by decide) G3 _ _ _ _ _ la lb X3 hla hlb u d h16 hd2
  rw [← ht0, ← hV] at hc
  have hm := X3.same
  simp (disch := first | omega | decide | simp only [qaf, qad, qag, qae, qah, qac, qaa, qab, qai]) only [qav, qap, qao, qam, qal, qar, qaC, qaH, qas, qaK, qa3, qaY, qaj, List.set_cons_zero, List.set_cons_succ, List.getD_cons_zero, List.getD_cons_succ, List.map_cons, List.map_nil, List.length_cons, List.length_nil, Nat.reduceAdd, Nat.zero_add, Nat.add_zero, Nat.add_zero, Nat.zero_add, Nat.reduceAdd, qaz, qaS, qau, List.getElem?_cons_zero, List.getElem?_cons_succ, op_extV, qb1, List.getElem?_cons_zero, List.getElem?_cons_succ, qan, qan, hc, hm]
  generalize hG4 : upd G3 (55, 0) _ = G4
  have X4 : XG G4 (10, 0) (10, 1) (10, 2) (10, 3) (10, 4) 13 la lb := by rw [← hG4]; exact X3.up _ _ (by decide)
  have v4 : G4 (46, 0) = some (bs d) := by rw [← hG4]; exact v3
  have w4 : G4 (55, 0) = some (bs V) := by rw [← hG4]; rfl
  clear hG4 hc hm X3
  have hc := fun b => c23S (k + 16) 13 b (by decide) G4 _ _ _ _ _ (55, 0) la lb X4 hla hlb u V V 0 none w4 (by decide) (by rw [List.drop_zero, List.take_of_length_le (Nat.le_refl _)]) (by omega) (by omega)
  rw [hVl, ← ht0, hVd] at hc
  have hm := X4.same6 w4
  have hfi : ∀ H, front H 1 d.length (.isl (bs d) d.length) = some (bs d) := fun H => front_ibytes d d.length rfl
  have hfk : frontK 0 1 d.length (some (bs d)) = some (bs d) := by rw [frontK, if_pos (by rw [qad]; omega), List.drop_zero, bs_take, Nat.mul_one, List.take_of_length_le (Nat.le_refl _)]
  simp (disch := first | omega | decide | simp only [qaf, qad, qag, qae, qah, qac, qaa, qab, qai]) only [qbD, qav, qap, qao, qam, qal, qbf, guardK_true, qar, qaC, qaH, qas, pickV_true, qaK, op_pick, qaJ, qaj, qbi, qbX, List.set_cons_zero, List.set_cons_succ, List.getD_cons_zero, List.getD_cons_succ, List.length_cons, List.length_nil, outOf_Bo, Option.map_some, Nat.reduceAdd, qaq, Prod.mk.injEq, Nat.reduceEqDiff, and_true, if_true, if_false, Nat.zero_add, Nat.add_zero, decide_true, Nat.add_zero, Nat.zero_add, N_eql, Nat.reduceEqDiff, Nat.reduceAdd, decide_true, lenOf_sl, lenOf_isl, qaz, qaS, qau, Option.map_some, List.getElem?_cons_zero, List.getElem?_cons_succ, op_extV, qb1, List.getElem?_cons_zero, List.getElem?_cons_succ, front_sl, qan, qan, hc, hm, v4, op_b2s, b2sV_sl, b2sV_isl, b2sK_bs, hfi, hfk, txt_eql]
theorem xbackb_4 (k : Nat) (key : R) (u : BitVec 64) (d : List (BitVec 8)) (hd : d.length < 16 ∨ 65536 < d.length) (hd2 : d.length < 9223372036854775808) : F C (k + 5020) 10 [.agg (aB 64 key), Bo false, B64 u, .isl (bs d) d.length] [] = some (Bo true, [], []) := by
  rw [qbK f10]
  simp (disch := first | omega | decide | simp only [qaf, qad, qag, qae, qah, qac, qaa, qab, qai]) only [qba, qbv, qav, qap, qao, qam, qal, qar, qaC, qaH, qas, qaK, qa3, qaY, qaj, qaL, qaF, List.set_cons_zero, List.set_cons_succ, List.getD_cons_zero, List.getD_cons_succ, List.map_cons, List.map_nil, List.nil_append, List.cons_append, qa4, List.replicate_zero, List.length_cons, List.length_nil, Nat.reduceAdd, Nat.reduceSub, qa9, op_box, qb2, Nat.zero_add, Nat.add_zero, Nat.mul_one, Nat.add_zero, Nat.zero_add, N_nat, Nat.reduceAdd, qb6, qbZ, op_slcAV, slcAV_ptr, qaz, qaS, qau, Nat.sub_zero, Nat.mul_one, Nat.reduceSub, qan, qan, L10]
  rw [c_xnew (k + 4618) 4 _ (.inl rfl) _ _ ((List.range 32).map key) (by rw [List.length_map, List.length_range]) [(2, 0)] (snap_aB rfl 32 _ (by decide) (by decide))]
  simp (disch := first | omega | decide | simp only [qaf, qad, qag, qae, qah, qac, qaa, qab, qai]) only [qbv, qav, qap, qao, qam, qal, qbf, qb4, qar, qaC, qaH, qas, qb0, qaK, op_pick, qaJ, op_un, qa3, qaY, qaj, qaL, qaF, List.set_cons_zero, List.set_cons_succ, List.getD_cons_zero, List.getD_cons_succ, List.map_cons, List.map_nil, List.length_cons, List.length_nil, Bo_not, Nat.reduceAdd, Nat.zero_add, Nat.add_zero, decide_true, Nat.add_zero, Nat.zero_add, N_neq, decide_not, Nat.reduceMul, Nat.reduceAdd, decide_true, Bool.not_true, eqp_ptr, qaz, qaS, qau, List.getElem?_cons_zero, List.getElem?_cons_succ, op_extV, qb1, List.getElem?_cons_zero, List.getElem?_cons_succ, Bool.not_true, qan, qan, c_xlives (k + 9), eqp_ptr]
  obtain ⟨la, hla'⟩ : ∃ la, la = W 4 (((List.range 32).map key).take (4 * 4)) := ⟨_, rfl⟩
  obtain ⟨lb, hlb'⟩ : ∃ lb, lb = W 4 (((List.range 32).map key).drop (4 * 4)) := ⟨_, rfl⟩
  have hla : la.length = 16 * (9 + 2) := by rw [hla']; exact W_length 4 _ (by rw [List.length_take, List.length_map, List.length_range]; rfl)
  have hlb : lb.length = 16 * (9 + 2) := by rw [hlb']; exact W_length 4 _ (by rw [List.length_drop, List.length_map, List.length_range])
  generalize hG : upd _ (8, 4) _ = G
  have X : XG G (8, 0) (8, 1) (8, 2) (8, 3) (8, 4) 9 la lb := by rw [← hG, hla', hlb']; exact ⟨rfl, rfl, rfl, rfl, rfl, by decide⟩
  clear hG hla' hlb'
  have hc := fun b => b23I (k + 16) 9 b G _ _ _ _ _ la lb X u d hd hd2
  have hm := X.same
  by_cases h : d.length < 16
  · simp (disch := first | omega | decide | simp only [qaf, qad, qag, qae, qah, qac, qaa, qab, qai]) only [qbD, qav, qap, qao, qam, qal, qbf, guardK_true, guardK_false', qar, qaC, qaH, qas, pickV_true, qaK, op_pick, qaJ, qaj, andThen_ret, qaL, qbq, qbi, qbX, List.set_cons_zero, List.set_cons_succ, List.getD_cons_zero, List.getD_cons_succ, List.length_cons, List.length_nil, outOf_Bo, Option.map_some, Nat.reduceAdd, Nat.zero_add, Nat.add_zero, decide_true, Nat.add_zero, Nat.zero_add, N_eql, qbp, Nat.reduceAdd, decide_true, op_len, qbC, lenS_isl, lenS_nil, qaz, qau, Option.map_some, List.getElem?_cons_zero, List.getElem?_cons_succ, op_extV, qb1, List.getElem?_cons_zero, List.getElem?_cons_succ, qan, qan, hc, hm, h]
  · have h2 : 65536 < d.length := by omega
    simp (disch := first | omega | decide | simp only [qaf, qad, qag, qae, qah, qac, qaa, qab, qai]) only [qbD, qav, qap, qao, qam, qal, qbf, guardK_true, qb4, qar, qaC, qaH, qas, pickV_true, qb0, qaK, op_pick, qaJ, qaj, andThen_ret, qaL, qbq, qbi, qbX, List.set_cons_zero, List.set_cons_succ, List.getD_cons_zero, List.getD_cons_succ, List.length_cons, List.length_nil, outOf_Bo, Option.map_some, Nat.reduceAdd, Nat.zero_add, Nat.add_zero, decide_true, decide_false, Nat.add_zero, Nat.zero_add, N_eql, qbp, N_gtr, Nat.reduceAdd, decide_false, decide_true, op_len, qbC, lenS_isl, lenS_nil, qaz, qau, Option.map_some, List.getElem?_cons_zero, List.getElem?_cons_succ, op_extV, qb1, List.getElem?_cons_zero, List.getElem?_cons_succ, qan, qan, hc, hm, h, h2]
theorem xbackb_8 (k : Nat) (key : R) (u : BitVec 64) (d : List (BitVec 8)) (hd : d.length < 16 ∨ 65536 < d.length) (hd2 : d.length < 9223372036854775808) : F C (k + 5020) 10 [.agg (aB 64 key), Bo true, B64 u, .isl (bs d) d.length] [] = some (Bo true, [], []) := by
  rw [qbK f10]
  simp (disch := first | omega | decide | simp only [qaf, qad, qag, qae, qah, qac, qaa, qab, qai]) only [qba, qav, qap, qao, qam, qal, qar, qaC, qaH, qas, qaK, qa3, qaY, qaj, qaL, qbq, List.set_cons_zero, List.set_cons_succ, List.getD_cons_zero, List.getD_cons_succ, List.map_cons, List.map_nil, List.nil_append, List.cons_append, qa4, List.replicate_zero, List.length_cons, List.length_nil, Nat.reduceAdd, Nat.reduceSub, qa9, op_box, qb2, Nat.zero_add, Nat.add_zero, Nat.mul_one, Nat.add_zero, Nat.zero_add, N_nat, Nat.reduceAdd, qb6, qbZ, op_slcAV, slcAV_ptr, qaz, qaS, qau, Nat.sub_zero, Nat.mul_one, Nat.reduceSub, qan, qan, L10]
  rw [c_xnew (k + 4618) 8 _ (.inr rfl) _ _ ((List.range 64).map key) (by rw [List.length_map, List.length_range]) [(2, 0)] (snap_aB rfl 64 _ (by decide) (by decide))]
  simp (disch := first | omega | decide | simp only [qaf, qad, qag, qae, qah, qac, qaa, qab, qai]) only [qbv, qav, qap, qao, qam, qal, qbf, qb4, qar, qaC, qaH, qas, qb0, qaK, op_pick, qaJ, op_un, qa3, qaY, qaj, qaL, qaF, List.set_cons_zero, List.set_cons_succ, List.getD_cons_zero, List.getD_cons_succ, List.map_cons, List.map_nil, List.length_cons, List.length_nil, Bo_not, Nat.reduceAdd, Nat.zero_add, Nat.add_zero, decide_true, Nat.add_zero, Nat.zero_add, N_neq, decide_not, Nat.reduceMul, Nat.reduceAdd, decide_true, Bool.not_true, eqp_ptr, qaz, qaS, qau, List.getElem?_cons_zero, List.getElem?_cons_succ, op_extV, qb1, List.getElem?_cons_zero, List.getElem?_cons_succ, Bool.not_true, qan, qan, c_xlives (k + 9), eqp_ptr]
  obtain ⟨la, hla'⟩ : ∃ la, la = W 8 (((List.range 64).map key).take (4 * 8)) := ⟨_, rfl⟩
  obtain ⟨lb, hlb'⟩ : ∃ lb, lb = W 8 (((List.range 64).map key).drop (4 * 8)) := ⟨_, rfl⟩
  have hla : la.length = 16 * (13 + 2) := by rw [hla']; exact W_length 8 _ (by rw [List.length_take, List.length_map, List.length_range]; rfl)
  have hlb : lb.length = 16 * (13 + 2) := by rw [hlb']; exact W_length 8 _ (by rw [List.length_drop, List.length_map, List.length_range])
  generalize hG : upd _ (10, 4) _ = G
  have X : XG G (10, 0) (10, 1) (10, 2) (10, 3) (10, 4) 13 la lb := by rw [← hG, hla', hlb']; exact ⟨rfl, rfl, rfl, rfl, rfl, by decide⟩
  clear hG hla' hlb'
  have hc := fun b => b23I (k + 16) 13 b G _ _ _ _ _ la lb X u d hd hd2
  have hm := X.same
  by_cases h : d.length < 16
  · simp (disch := first | omega | decide | simp only [qaf, qad, qag, qae, qah, qac, qaa, qab, qai]) only [qbD, qav, qap, qao, qam, qal, qbf, guardK_true, guardK_false', qar, qaC, qaH, qas, pickV_true, qaK, op_pick, qaJ, qaj, andThen_ret, qaL, qbq, qbi, qbX, List.set_cons_zero, List.set_cons_succ, List.getD_cons_zero, List.getD_cons_succ, List.length_cons, List.length_nil, outOf_Bo, Option.map_some, Nat.reduceAdd, Nat.zero_add, Nat.add_zero, decide_true, Nat.add_zero, Nat.zero_add, N_eql, qbp, Nat.reduceAdd, decide_true, op_len, qbC, lenS_isl, lenS_nil, qaz, qau, Option.map_some, List.getElem?_cons_zero, List.getElem?_cons_succ, op_extV, qb1, List.getElem?_cons_zero, List.getElem?_cons_succ, qan, qan, hc, hm, h]
  · have h2 : 65536 < d.length := by omega
    simp (disch := first | omega | decide | simp only [qaf, qad, qag, qae, qah, qac, qaa, qab, qai]) only [qbD, qav, qap, qao, qam, qal, qbf, guardK_true, qb4, qar, qaC, qaH, qas, pickV_true, qb0, qaK, op_pick, qaJ, qaj, andThen_ret, qaL, qbq, qbi, qbX, List.set_cons_zero, List.set_cons_succ, List.getD_cons_zero, List.getD_cons_succ, List.length_cons, List.length_nil, outOf_Bo, Option.map_some, Nat.reduceAdd, Nat.zero_add, Nat.add_zero, decide_true, decide_false, Nat.add_zero, Nat.zero_add, N_eql, qbp, N_gtr, Nat.reduceAdd, decide_false, decide_true, op_len, qbC, lenS_isl, lenS_nil, qaz, qau, Option.map_some, List.getElem?_cons_zero, List.getElem?_cons_succ, op_extV, qb1, List.getElem?_cons_zero, List.getElem?_cons_succ, qan, qan, hc, hm, h, h2]
theorem xback_F (k : Nat) (key : R) (w : Bool) (u : BitVec 64) (d : List (BitVec 8)) (hd2 : d.length < 9223372036854775808) : F C (k + 5020) 10 [.agg (aB 64 key), Bo w, B64 u, .isl (bs d) d.length] [] = some (Bo true, [], []) := by
  by_cases hd : d.length < 16 ∨ 65536 < d.length
  · cases w
    · exact xbackb_4 k key u d hd hd2
    · exact xbackb_8 k key u d hd hd2
  · cases w
    · exact xback_4 k key u d (by omega) (by omega)
    · exact xback_8 k key u d (by omega) (by omega)
end Aes

namespace Aes
open Go Go.LE Xf
set_option maxRecDepth 20000

theorem xfronts_in (k : Nat) (key : R) (u : BitVec 64) (d : List (BitVec 8)) (h48 : 48 ≤ d.length) (hd4 : d.length ≤ 4096) : F C (k + 5020) 11 [.agg (aB 32 key), B64 u, .isl (bs d) d.length] [] = some (Bo true, [], []) := by
  rw [qbK f11]
  simp (disch := first | omega | decide | simp only [qaf, qad, qag, qae, qah, qac, qaa, qab, qai]) only [qba, qav, qap, qao, qam, qal, qar, qaC, qaH, qas, qaK, qa3, qaY, qaj, List.set_cons_zero, List.set_cons_succ, List.getD_cons_zero, List.getD_cons_succ, List.map_cons, List.map_nil, List.nil_append, List.cons_append, qa4, List.replicate_zero, List.length_cons, List.length_nil, Nat.reduceAdd, Nat.reduceSub, qa9, op_box, qb2, Nat.zero_add, Nat.add_zero, Nat.mul_one, Nat.add_zero, Nat.zero_add, Nat.reduceAdd, qb6, op_slcAV, slcAV_ptr, qaz, qaS, qau, Nat.sub_zero, Nat.mul_one, Nat.reduceSub, qan, qan, L11]
  rw [c_xnew (k + 4618) 4 _ (.inl rfl) _ _ ((List.range 32).map key) (by rw [List.length_map, List.length_range]) [(2, 0)] (snap_aB rfl 32 _ (by decide) (by decide))]
  have hle : ¬ d.length < 48 := by omega
  have hle2 : ¬ 4096 < d.length := by omega
  have h16 : 16 ≤ d.length := by omega
  have hd2 : d.length ≤ 65536 := by omega
  obtain ⟨q, hq⟩ : ∃ q, q = d.length / 16 * 16 - 16 := ⟨_, rfl⟩
  obtain ⟨i, hi⟩ : ∃ i, i = d.length / 16 - 1 := ⟨_, rfl⟩
  have hqi : q = 16 * i := by omega
  have hql : q ≤ d.length := by omega
  simp (disch := first | omega | decide | simp only [qaf, qad, qag, qae, qah, qac, qaa, qab, qai]) only [qbv, qav, qap, qao, qam, qal, qbf, qb4, qar, qaC, qaH, qas, qb0, qaK, op_pick, qaJ, op_un, qa3, qaY, qaj, qaL, qaF, List.set_cons_zero, List.set_cons_succ, List.getD_cons_zero, List.getD_cons_succ, List.map_cons, List.map_nil, List.length_cons, List.length_nil, Bo_not, Nat.reduceAdd, Nat.zero_add, Nat.add_zero, decide_true, decide_false, Nat.add_zero, Nat.zero_add, N_sub, N_mul, N_quo, N_neq, qbp, N_gtr, decide_not, Nat.reduceMul, Nat.reduceAdd, decide_false, decide_true, Bool.not_true, eqp_ptr, op_len, qbC, lenS_isl, qaz, qaS, qau, List.getElem?_cons_zero, List.getElem?_cons_succ, op_extV, qb1, List.getElem?_cons_zero, List.getElem?_cons_succ, Bool.not_true, qan, qan, c_xlives (k + 9), eqp_ptr, hle, hle2, ← hq]
  obtain ⟨la, hla'⟩ : ∃ la, la = W 4 (((List.range 32).map key).take (4 * 4)) := ⟨_, rfl⟩
  obtain ⟨lb, hlb'⟩ : ∃ lb, lb = W 4 (((List.range 32).map key).drop (4 * 4)) := ⟨_, rfl⟩
  have hla : la.length = 16 * (9 + 2) := by rw [hla']; exact W_length 4 _ (by rw [List.length_take, List.length_map, List.length_range]; rfl)
  have hlb : lb.length = 16 * (9 + 2) := by rw [hlb']; exact W_length 4 _ (by rw [List.length_drop, List.length_map, List.length_range])
  generalize hG : upd _ (5, 4) _ = G
  have X : XG G (5, 0) (5, 1) (5, 2) (5, 3) (5, 4) 9 la lb := by rw [← hG, hla', hlb']; exact ⟨rfl, rfl, rfl, rfl, rfl, by decide⟩
  clear hG hla' hlb'
  have hc := fun b => c23I (k + 16) 9 b (by decide) G _ _ _ _ _ la lb X hla hlb u d h16 hd2
  have hm := X.same
  obtain ⟨t0, ht0⟩ : ∃ t0, t0 = tw0 9 lb u := ⟨_, rfl⟩
  have hI := inv_En la 9
  obtain ⟨U, hU⟩ : ∃ U, U = qbj (En false la 9) t0 d false := ⟨_, rfl⟩
  have hUl : U.length = d.length := by rw [hU, unitP_length _ _ _ _ h16]
  obtain ⟨e, he⟩ : ∃ e, e = d.take q := ⟨_, rfl⟩
  have hel : e.length = q := by rw [he, List.length_take]; omega
  have e16 : 16 ≤ e.length := by omega
  have e64 : e.length ≤ 65536 := by omega
  have hUe : U.take q = qbj (En false la 9) t0 e false := by
    rw [hU, he, hqi]; exact unit_front _ _ d false false i (by omega)
  have hUtl : (U.take q).length = q := by rw [List.length_take]; omega
  have hback : qbj (En true la 9) t0 (U.take q) true = e := by rw [hUe]; exact unit_inv hI t0 e false e16
  rw [← ht0, ← hU] at hc
  have hdt : List.take q (bs d) = bs e := by rw [bs_take, he]
  simp (disch := first | omega | decide | simp only [qaf, qad, qag, qae, qah, qac, qaa, qab, qai]) only [qbv, qav, qap, qao, qam, qal, qar, qaC, qaH, qas, qaK, qaJ, qa3, qaY, qaj, qaL, qaF, List.set_cons_zero, List.set_cons_succ, List.getD_cons_zero, List.getD_cons_succ, List.map_cons, List.map_nil, List.length_cons, List.length_nil, Nat.reduceAdd, List.drop_zero, Nat.zero_add, Nat.add_zero, decide_true, Nat.mul_one, Nat.add_zero, Nat.zero_add, N_neq, N_nat, decide_not, Nat.reduceAdd, decide_true, Bool.not_true, op_len, qbC, lenS_sl, lenS_isl, qb6, qbZ, op_slcS, slcV_isl, getD_some, qaz, qaS, qau, Nat.sub_zero, Nat.mul_one, List.getElem?_cons_zero, List.getElem?_cons_succ, op_extV, qb1, List.getElem?_cons_zero, List.getElem?_cons_succ, Bool.not_true, qan, qan, hc, hm, hdt]
  generalize hG2 : upd G (38, 0) _ = G2
  have X2 : XG G2 (5, 0) (5, 1) (5, 2) (5, 3) (5, 4) 9 la lb := by rw [← hG2]; exact X.up _ _ (by decide)
  have u2 : G2 (38, 0) = some (bs U) := by rw [← hG2]; rfl
  clear hG2 hc hm X
  have hc := fun b => c23I (k + 16) 9 b (by decide) G2 _ _ _ _ _ la lb X2 hla hlb u e e16 e64
  have hm := X2.same
  rw [← ht0, hel, ← hUe] at hc
  simp (disch := first | omega | decide | simp only [qaf, qad, qag, qae, qah, qac, qaa, qab, qai]) only [qav, qap, qao, qam, qal, qar, qaC, qaH, qas, qaK, qa3, qaY, qaj, List.set_cons_zero, List.set_cons_succ, List.getD_cons_zero, List.getD_cons_succ, List.map_cons, List.map_nil, List.length_cons, List.length_nil, Nat.reduceAdd, Nat.zero_add, Nat.add_zero, Nat.mul_one, Nat.add_zero, Nat.zero_add, N_nat, Nat.reduceAdd, lenS_sl, qb6, qbZ, op_slcS, slcV_none, getD_some, qaz, qaS, qau, Nat.sub_zero, Nat.mul_one, List.getElem?_cons_zero, List.getElem?_cons_succ, op_extV, qb1, List.getElem?_cons_zero, List.getElem?_cons_succ, qan, qan, hc, hm]
  generalize hG3 : upd G2 (54, 0) _ = G3
  have X3 : XG G3 (5, 0) (5, 1) (5, 2) (5, 3) (5, 4) 9 la lb := by rw [← hG3]; exact X2.up _ _ (by decide)
  have u3 : G3 (38, 0) = some (bs U) := by rw [← hG3]; exact u2
  have v3 : G3 (54, 0) = some (bs (U.take q)) := by rw [← hG3]; rfl
  clear hG3 hc hm X2
  have hc := fun b => c26S (k + 16) 9 b (by decide) G3 _ _ _ _ _ (38, 0) la lb X3 hla hlb u (U.take q) U 0 none u3 (by decide) (by rw [List.drop_zero, hUtl]) (by omega) (by omega)
  rw [hUtl, ← ht0, hback] at hc
  have hm := X3.same6 u3
  have hfi : ∀ H, front H 1 q (.isl (bs e) q) = some (bs e) := fun H => front_ibytes e q hel
  have hfU : frontK 0 1 q (some (bs U)) = some (bs (U.take q)) := by rw [frontK, if_pos (by rw [qad]; omega), List.drop_zero, bs_take, Nat.mul_one]
  have hfV : frontK 0 1 q (some (bs (U.take q))) = some (bs (U.take q)) := by rw [frontK, if_pos (by rw [qad]; omega), List.drop_zero, bs_take, Nat.mul_one, List.take_of_length_le (by omega)]
  have hfe : frontK 0 1 q (some (bs e)) = some (bs e) := by rw [frontK, if_pos (by rw [qad]; omega), List.drop_zero, bs_take, Nat.mul_one, List.take_of_length_le (by omega)]
  simp (disch := first | omega | decide | simp only [qaf, qad, qag, qae, qah, qac, qaa, qab, qai]) only [qbD, qav, qap, qao, qam, qal, qbf, guardK_true, qar, qaC, qaH, qas, pickV_true, qaK, op_pick, qaJ, qaj, qbi, qbX, List.set_cons_zero, List.set_cons_succ, List.getD_cons_zero, List.getD_cons_succ, List.map_nil, List.length_cons, List.length_nil, outOf_Bo, Option.map_some, Nat.reduceAdd, Nat.reduceSub, qaq, List.drop_zero, List.all_cons, List.all_nil, Bool.and_true, Prod.mk.injEq, Nat.reduceEqDiff, Nat.reduceLT, and_true, if_true, if_false, Nat.zero_add, Nat.add_zero, decide_true, Nat.mul_one, Nat.add_zero, Nat.zero_add, N_eql, N_nat, Nat.reduceLT, Nat.reduceEqDiff, Nat.reduceAdd, decide_true, Bool.not_false, Bool.not_true, lenS_sl, lenS_isl, lenOf_sl, lenOf_isl, qb6, qbZ, op_slcS, slcV_none, slcV_isl, getD_some, qaz, qaS, qau, Option.map_some, ibs_nms, Nat.sub_zero, Nat.mul_one, List.getElem?_cons_zero, List.getElem?_cons_succ, op_extV, qb1, List.getElem?_cons_zero, List.getElem?_cons_succ, evOpers_ord_g, guardO_true, qbr, qbV, touch_b2s, List.contains_cons, List.contains_nil, beq_self_eq_true, Bool.or_true, Bool.or_false, ordOk, qaZ, List.all_cons, List.all_nil, Nat.testBit, Nat.reduceShiftRight, Nat.reduceAnd, Nat.reduceBEq, Bool.not_true, Bool.not_false, Bool.and_self, Bool.and_true, Bool.and_false, Nat.reduceSub, Nat.reduceLT, bne, qbh, qbN, qbA, isCall_b2s, Bool.and_false, Bool.and_true, front_sl, qaM, qan, qan, qaM, hc, hm, u3, v3, hdt, op_b2s, b2sV_sl, b2sV_isl, b2sK_bs, hfi, hfU, hfV, hfe, txt_eql, qaT, ibs_nms]
theorem xfronts_out (k : Nat) (key : R) (u : BitVec 64) (d : List (BitVec 8)) (hd : d.length < 48 ∨ 4096 < d.length) (hd2 : d.length < 9223372036854775808) : F C (k + 5020) 11 [.agg (aB 32 key), B64 u, .isl (bs d) d.length] [] = some (Bo true, [], []) := by
  rw [qbK f11]
  simp (disch := first | omega | decide | simp only [qaf, qad, qag, qae, qah, qac, qaa, qab, qai]) only [qba, qav, qap, qao, qam, qal, qar, qaC, qaH, qas, qaK, qa3, qaY, qaj, List.set_cons_zero, List.set_cons_succ, List.getD_cons_zero, List.getD_cons_succ, List.map_cons, List.map_nil, List.nil_append, List.cons_append, qa4, List.replicate_zero, List.length_cons, List.length_nil, Nat.reduceAdd, Nat.reduceSub, qa9, op_box, qb2, Nat.zero_add, Nat.add_zero, Nat.mul_one, Nat.add_zero, Nat.zero_add, Nat.reduceAdd, qb6, op_slcAV, slcAV_ptr, qaz, qaS, qau, Nat.sub_zero, Nat.mul_one, Nat.reduceSub, qan, qan, L11]
  rw [c_xnew (k + 4618) 4 _ (.inl rfl) _ _ ((List.range 32).map key) (by rw [List.length_map, List.length_range]) [(2, 0)] (snap_aB rfl 32 _ (by decide) (by decide))]
  by_cases h : d.length < 48
  · simp (disch := first | omega | decide | simp only [qaf, qad, qag, qae, qah, qac, qaa, qab, qai]) only [qbv, qbD, qav, qap, qao, qam, qal, qbf, qb4, guardK_false', qar, qaC, qaH, qas, pickV_true, qb0, qaK, op_pick, qaJ, op_un, qa3, qaY, qaj, andThen_ret, qaL, qbq, qaF, qbi, qbX, List.set_cons_zero, List.set_cons_succ, List.getD_cons_zero, List.getD_cons_succ, List.map_nil, List.length_cons, List.length_nil, Bo_not, outOf_Bo, Option.map_some, Nat.reduceAdd, Nat.zero_add, Nat.add_zero, decide_true, Nat.add_zero, Nat.zero_add, N_neq, qbp, decide_not, Nat.reduceMul, Nat.reduceAdd, decide_true, Bool.not_true, eqp_ptr, op_len, qbC, lenS_isl, qaz, qaS, qau, Option.map_some, List.getElem?_cons_zero, List.getElem?_cons_succ, op_extV, qb1, List.getElem?_cons_zero, List.getElem?_cons_succ, Bool.not_true, qan, qan, c_xlives (k + 9), eqp_ptr, h]
  · have h2 : 4096 < d.length := by omega
    simp (disch := first | omega | decide | simp only [qaf, qad, qag, qae, qah, qac, qaa, qab, qai]) only [qbv, qbD, qav, qap, qao, qam, qal, qbf, qb4, qar, qaC, qaH, qas, qb0, qaK, op_pick, qaJ, op_un, qa3, qaY, qaj, andThen_ret, qaL, qbq, qaF, qbi, qbX, List.set_cons_zero, List.set_cons_succ, List.getD_cons_zero, List.getD_cons_succ, List.map_nil, List.length_cons, List.length_nil, Bo_not, outOf_Bo, Option.map_some, Nat.reduceAdd, Nat.zero_add, Nat.add_zero, decide_true, decide_false, Nat.add_zero, Nat.zero_add, N_neq, qbp, N_gtr, decide_not, Nat.reduceMul, Nat.reduceAdd, decide_false, decide_true, Bool.not_true, eqp_ptr, op_len, qbC, lenS_isl, qaz, qaS, qau, Option.map_some, List.getElem?_cons_zero, List.getElem?_cons_succ, op_extV, qb1, List.getElem?_cons_zero, List.getElem?_cons_succ, Bool.not_true, qan, qan, c_xlives (k + 9), eqp_ptr, h, h2]
theorem xfronts_F (k : Nat) (key : R) (u : BitVec 64) (d : List (BitVec 8)) (hd2 : d.length < 9223372036854775808) : F C (k + 5020) 11 [.agg (aB 32 key), B64 u, .isl (bs d) d.length] [] = some (Bo true, [], []) := by
  by_cases hd : d.length < 48 ∨ 4096 < d.length
  · exact xfronts_out k key u d hd hd2
  · exact xfronts_in k key u d (by omega) (by omega)
end Aes

namespace Aes
open Go Go.LE Xf
set_option maxRecDepth 20000

end Aes

namespace Aes
open Go Go.LE Xf
set_option maxRecDepth 20000

end Aes

namespace Aes
open Go Go.LE Xf
set_option maxRecDepth 20000

end Aes
