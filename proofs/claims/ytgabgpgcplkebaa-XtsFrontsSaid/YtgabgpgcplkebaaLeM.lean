/- xts, the document's: tweaks, evaluated. -/
/- xts, the document's: a block at a place, evaluated. -/
/- xts, the document's: a unit, evaluated: calls, the loop. -/
/- xts, the document's: a unit, evaluated. -/
/- xts, the document's: a unit, evaluated. -/
/- xts, the document's: a unit, evaluated. -/
/- xts, the document's: a unit, evaluated. -/
/- xts, the document's: a unit, evaluated. -/
/- xts, the document's: Encrypt and Decrypt, evaluated, and called on a pair in the caller's memory. -/
import Derived.Test.YtgabgpgcplkebaaLeR
import Derived.Test.YtgabgpgcplkebaaLeS
set_option linter.unusedVariables false
set_option linter.unusedSimpArgs false

namespace Aes
open Go Go.LE Xf
set_option maxRecDepth 20000

def RA (i n : Nat) : qat := RF (.sl (0, i) 0 (n + 2) none 16) TB
theorem RA_nms (i n : Nat) : (RA i n).flatMap (nms D) = [(0, i)] := by rw [RA, RF_nms]; rfl
theorem RA_ren (i n : Nat) (names : List Nm) : (RA i n).map (ren D (qb5 names)) = RA i n := by rw [RA, RF_ren, qaX, qby]; rfl
/-- the document's pair, as an argument -/
structure PR (H : Heap) (n : Nat) (la lb : List (BitVec 8)) : Prop where
  g0 : H (0, 0) = some PO
  g1 : H (0, 1) = some (RA 2 n)
  g2 : H (0, 2) = some (bs la)
  g3 : H (0, 3) = some (RA 4 n)
  g4 : H (0, 4) = some (bs lb)
theorem PR.cn {H : Heap} {n : Nat} {la lb : List (BitVec 8)} (h : PR H n la lb) (names : List Nm) : PR (cN names H) n la lb :=
  ⟨by rw [qbF, h.g0, Option.map_some, PO_ren], by rw [qbF, h.g1, Option.map_some, RA_ren], by rw [qbF, h.g2, Option.map_some, qaE], by rw [qbF, h.g3, Option.map_some, RA_ren], by rw [qbF, h.g4, Option.map_some, qaE]⟩
theorem PR.up {H : Heap} {n : Nat} {la lb : List (BitVec 8)} (h : PR H n la lb) (m : Nm) (x : Option qat) (hm : m.1 ≠ 0) : PR (upd H m x) n la lb := by
  have e : ∀ j, upd H m x (0, j) = H (0, j) := fun j => by
    rw [qaq, if_neg (fun h => hm (by rw [← h]))]
  exact ⟨by rw [e]; exact h.g0, by rw [e]; exact h.g1, by rw [e]; exact h.g2, by rw [e]; exact h.g3, by rw [e]; exact h.g4⟩

/-- the first i tweaks' bytes -/
def twl (t0 : BitVec 128) : Nat → List (BitVec 8)
  | 0 => []
  | i + 1 => twl t0 i ++ (List.range 16).map (byteOf (tws t0 i))
def tJ0 (n : Nat) (la lb : List (BitVec 8)) (t0 : BitVec 128) (w i : Nat) (st : St) : Prop := ∃ (H : Heap),
  (i = 0 ∧ st = ⟨[.undef, .undef, N w, .undef, .undef, .undef, .undef, .undef, .undef, .ptr (1, 0) 0, Nil, N 0, .undef, .undef, .undef, .undef, .undef, .undef, .undef, .undef, .undef, .undef, .undef, .undef, .undef, .undef, .undef, .undef, .undef, .undef, .undef, .undef, .undef, .undef, .undef, .undef, .undef, .undef, .undef, .undef, .undef, .undef, .undef], H, 2, 5⟩ ∧ PR H n la lb ∧ H (1, 0) = some [B64 (lo (tws t0 0)), B64 (Xf.hi (tws t0 0))]) ∨
  (0 < i ∧ st = ⟨[.undef, .undef, N w, .undef, .undef, .undef, .undef, .undef, .undef, .ptr (1, 0) 0, .sl (1, 1) 0 i none 16, N i, .undef, .undef, .undef, .undef, .undef, .undef, .undef, .undef, .undef, .undef, .undef, .undef, .undef, .undef, .undef, .undef, .undef, .undef, .undef, .undef, .undef, .undef, .undef, .undef, .undef, .undef, .undef, .undef, .undef, .undef, .undef], H, 2, 5⟩ ∧ PR H n la lb ∧ H (1, 0) = some [B64 (lo (tws t0 i)), B64 (Xf.hi (tws t0 i))] ∧ H (1, 1) = some (bs (twl t0 i)))
theorem tJ0.of_z {n : Nat} {la lb : List (BitVec 8)} {t0 : BitVec 128} {w : Nat} {st : St} (h : tJ0 n la lb t0 w 0 st) : ∃ (H : Heap), st = ⟨[.undef, .undef, N w, .undef, .undef, .undef, .undef, .undef, .undef, .ptr (1, 0) 0, Nil, N 0, .undef, .undef, .undef, .undef, .undef, .undef, .undef, .undef, .undef, .undef, .undef, .undef, .undef, .undef, .undef, .undef, .undef, .undef, .undef, .undef, .undef, .undef, .undef, .undef, .undef, .undef, .undef, .undef, .undef, .undef, .undef], H, 2, 5⟩ ∧ PR H n la lb ∧ H (1, 0) = some [B64 (lo (tws t0 0)), B64 (Xf.hi (tws t0 0))] := by
  obtain ⟨H, ⟨_, h⟩ | ⟨h, _⟩⟩ := h
  · exact ⟨H, h⟩
  · exact absurd h (by omega)
theorem tJ0.of_s {n : Nat} {la lb : List (BitVec 8)} {t0 : BitVec 128} {w i : Nat} {st : St} (h : tJ0 n la lb t0 w i st) (hi : 0 < i) : ∃ (H : Heap), st = ⟨[.undef, .undef, N w, .undef, .undef, .undef, .undef, .undef, .undef, .ptr (1, 0) 0, .sl (1, 1) 0 i none 16, N i, .undef, .undef, .undef, .undef, .undef, .undef, .undef, .undef, .undef, .undef, .undef, .undef, .undef, .undef, .undef, .undef, .undef, .undef, .undef, .undef, .undef, .undef, .undef, .undef, .undef, .undef, .undef, .undef, .undef, .undef, .undef], H, 2, 5⟩ ∧ PR H n la lb ∧ H (1, 0) = some [B64 (lo (tws t0 i)), B64 (Xf.hi (tws t0 i))] ∧ H (1, 1) = some (bs (twl t0 i)) := by
  obtain ⟨H, ⟨h, _⟩ | ⟨_, h⟩⟩ := h
  · exact absurd h (by omega)
  · exact ⟨H, h⟩

end Aes

namespace Aes
open Go Go.LE Xf
set_option maxRecDepth 20000

theorem PR.skip {H : Heap} {n : Nat} {la lb : List (BitVec 8)} (P : PR H n la lb) (rest : List Nm) : qbd H 60 [] ((0, 0) :: (0, 1) :: (0, 2) :: (0, 3) :: (0, 4) :: rest) = qbd H 51 [(0, 0), (0, 1), (0, 2), (0, 3), (0, 4)] rest := by
  rw [qaD, P.g0, qaB, PO_nms, if_neg (by decide)]
  simp only [List.cons_append, List.nil_append]
  rw [qaD, P.g1, qaB, RA_nms, if_neg (by decide)]
  simp only [List.cons_append, List.nil_append]
  rw [qaD, P.g2, qaB, qaw, if_neg (by decide)]
  simp only [List.cons_append, List.nil_append]
  rw [qaD, P.g3, qaB, RA_nms, if_neg (by decide)]
  simp only [List.cons_append, List.nil_append]
  rw [qaD, P.g4, qaB, qaw, if_neg (by decide)]
  simp only [List.cons_append, List.nil_append]
  rw [qaD, if_pos (by decide), qaD, if_pos (by decide), qaD, if_pos (by decide), qaD, if_pos (by decide)]
def oA (y t : R) (i : Nat) : List (BitVec 8) := (List.range i).map fun j => y j ^^^ t j
def aJ0 (n : Nat) (la lb : List (BitVec 8)) (y t : R) (i : Nat) (st : St) : Prop := ∃ (H : Heap),
  (i = 0 ∧ st = ⟨[.undef, .undef, .undef, .undef, .undef, .undef, .ptr (1, 0) 0, .undef, .undef, .ptr (1, 1) 0, .undef, Nil, N 0, .undef, .undef, .undef, .undef, .undef, .undef, .undef, .undef, .undef, .undef, .undef, .undef, .undef, .undef, .undef, .undef, .undef, .undef, .undef, .undef, .undef, .undef, .undef, .undef, .undef, .undef, .undef, .undef, .undef, .undef, .undef, .undef, .undef, .undef, .undef, .undef, .undef, .undef, .undef, .undef, .undef, .undef], H, 2, 5⟩ ∧ PR H n la lb ∧ H (1, 0) = some (aB 16 t) ∧ H (1, 1) = some (aB 16 y)) ∨
  (0 < i ∧ st = ⟨[.undef, .undef, .undef, .undef, .undef, .undef, .ptr (1, 0) 0, .undef, .undef, .ptr (1, 1) 0, .undef, .sl (1, 2) 0 i none 1, N i, .undef, .undef, .undef, .undef, .undef, .undef, .undef, .undef, .undef, .undef, .undef, .undef, .undef, .undef, .undef, .undef, .undef, .undef, .undef, .undef, .undef, .undef, .undef, .undef, .undef, .undef, .undef, .undef, .undef, .undef, .undef, .undef, .undef, .undef, .undef, .undef, .undef, .undef, .undef, .undef, .undef, .undef], H, 2, 5⟩ ∧ PR H n la lb ∧ H (1, 0) = some (aB 16 t) ∧ H (1, 1) = some (aB 16 y) ∧ H (1, 2) = some (bs (oA y t i)))
theorem aJ0.of_z {n : Nat} {la lb : List (BitVec 8)} {y t : R} {st : St} (h : aJ0 n la lb y t 0 st) : ∃ (H : Heap), st = ⟨[.undef, .undef, .undef, .undef, .undef, .undef, .ptr (1, 0) 0, .undef, .undef, .ptr (1, 1) 0, .undef, Nil, N 0, .undef, .undef, .undef, .undef, .undef, .undef, .undef, .undef, .undef, .undef, .undef, .undef, .undef, .undef, .undef, .undef, .undef, .undef, .undef, .undef, .undef, .undef, .undef, .undef, .undef, .undef, .undef, .undef, .undef, .undef, .undef, .undef, .undef, .undef, .undef, .undef, .undef, .undef, .undef, .undef, .undef, .undef], H, 2, 5⟩ ∧ PR H n la lb ∧ H (1, 0) = some (aB 16 t) ∧ H (1, 1) = some (aB 16 y) := by
  obtain ⟨H, ⟨_, h⟩ | ⟨h, _⟩⟩ := h
  · exact ⟨H, h⟩
  · exact absurd h (by omega)
theorem aJ0.of_s {n i : Nat} {la lb : List (BitVec 8)} {y t : R} {st : St} (h : aJ0 n la lb y t i st) (hi : 0 < i) : ∃ (H : Heap), st = ⟨[.undef, .undef, .undef, .undef, .undef, .undef, .ptr (1, 0) 0, .undef, .undef, .ptr (1, 1) 0, .undef, .sl (1, 2) 0 i none 1, N i, .undef, .undef, .undef, .undef, .undef, .undef, .undef, .undef, .undef, .undef, .undef, .undef, .undef, .undef, .undef, .undef, .undef, .undef, .undef, .undef, .undef, .undef, .undef, .undef, .undef, .undef, .undef, .undef, .undef, .undef, .undef, .undef, .undef, .undef, .undef, .undef, .undef, .undef, .undef, .undef, .undef, .undef], H, 2, 5⟩ ∧ PR H n la lb ∧ H (1, 0) = some (aB 16 t) ∧ H (1, 1) = some (aB 16 y) ∧ H (1, 2) = some (bs (oA y t i)) := by
  obtain ⟨H, ⟨h, _⟩ | ⟨_, h⟩⟩ := h
  · exact absurd h (by omega)
  · exact ⟨H, h⟩

end Aes

namespace Aes
open Go Go.LE Xf
set_option maxRecDepth 20000

def mod5R (n : Nat) (la lb : List (BitVec 8)) : List (Nm × Option qat) := [((0, 0), some PO), ((0, 1), some (RA 2 n)), ((0, 2), some (bs la)), ((0, 3), some (RA 4 n)), ((0, 4), some (bs lb))]
theorem PR.same {H : Heap} {n : Nat} {la lb : List (BitVec 8)} (h : PR H n la lb) : modN (mod5R n la lb) H = H := by
  simp only [mod5R, qa2, qau, qaA h.g4, qaA h.g3, qaA h.g2, qaA h.g1, qaA h.g0]
theorem PR.tr {H : Heap} {n : Nat} {la lb : List (BitVec 8)} (h : PR H n la lb) (v : LV) (news : List qat) : trimO true H (some ⟨v, news, mod5R n la lb⟩) = some ⟨v, news, []⟩ := by
  refine trimO_same _ _ _ _ fun q hm => ?_
  simp only [mod5R, List.mem_cons, List.not_mem_nil, or_false] at hm
  rcases hm with rfl | rfl | rfl | rfl | rfl
  · simp only [h.g0, sameO]; rfl
  · simp only [h.g1, sameO, RA, same_RF]
  · simp only [h.g2, sameO, same_bs]
  · simp only [h.g3, sameO, RA, same_RF]
  · simp only [h.g4, sameO, same_bs]
theorem PR.reach {H : Heap} {n : Nat} {la lb : List (BitVec 8)} (h : PR H n la lb) : qbd H FUEL [] [(0, 0)] = five := by
  simp only [qay, FUEL, qaD, qaB, qax, qaI, qaT, nms_B8, nms_B32, nms_B64, nms_I, nms_Bo, nms_Un, qa6, nms_Hf, List.flatMap_cons, List.flatMap_nil, List.nil_append, List.cons_append, List.append_nil, List.range_zero, List.map_nil, List.map_cons, List.contains_nil, List.contains_cons, Prod.mk.injEq, beq_iff_eq, Bool.or_eq_true, Bool.false_eq_true, Nat.reduceEqDiff, Nat.reduceBEq, and_true, true_and, and_false, false_and, or_false, or_true, false_or, if_true, if_false, reduceIte, Nat.one_ne_zero, Nat.zero_ne_one, List.filter_cons, List.filter_nil, bne_iff_ne, ne_eq, not_false_eq_true, not_true_eq_false, qaq, Nat.reduceAdd, qbb, qa5, qaW, qbG, qa0, range_one, qbQ, range_three, List.getElem?_cons_zero, List.getElem?_cons_succ, nms_N, qbE, nms_nilP, PO_nms, RA_nms, qaw, h.g0, h.g1, h.g2, h.g3, h.g4]; rfl
def En (back : Bool) (la : List (BitVec 8)) (n : Nat) : R → R := if back then dec (kf la) n else enc (kf la) n
def urJ (n : Nat) (la lb : List (BitVec 8)) (t0 : BitVec 128) (d : List (BitVec 8)) (back : Bool) (w i : Nat) (st : St) : Prop := ∃ (H : Heap),
  (i = 0 ∧ st = ⟨[.ptr (0, 0) 0, .undef, .isl (bs d) d.length, Bo back, .undef, .undef, .undef, .undef, .undef, .undef, N (d.length / 16), N (d.length % 16), .sl (1, 0) 0 (d.length / 16 + 1) none 16, Nil, N w, N 0, .undef, .undef, .undef, .undef, .undef, .undef, .undef, .undef, .undef, .undef, .undef, .undef, .undef, .undef, .undef, .undef, .undef, .undef, .undef, .undef, .undef, .undef, .undef, .undef, .undef, .undef, .undef, .undef, .undef, .undef, .undef, .undef, .undef, .undef, .undef, .undef, .undef, .undef, .undef, .undef, .undef, .undef, .undef, .undef, .undef, .undef, .undef, .undef, .undef, .undef, .undef, .undef, .undef, .undef, .undef, .undef, .undef, .undef, .undef, .undef, .undef, .undef, .undef, .undef, .undef, .undef, .undef, .undef, .undef, .undef, .undef, .undef, .undef, .undef, .undef, .undef, .undef, .undef, .undef, .undef, .undef, .undef, .undef, .undef, .undef, .undef, .undef, .undef, .undef, .undef, .undef, .undef, .undef, .undef, .undef, .undef, .undef, .undef, .undef, .undef, .undef, .undef, .undef, .undef, .undef, .undef, .undef, .undef], H, 2, 5⟩ ∧ PR H n la lb ∧ H (1, 0) = some (bs (twl t0 (d.length / 16 + 1)))) ∨
  (0 < i ∧ st = ⟨[.ptr (0, 0) 0, .undef, .isl (bs d) d.length, Bo back, .undef, .undef, .undef, .undef, .undef, .undef, N (d.length / 16), N (d.length % 16), .sl (1, 0) 0 (d.length / 16 + 1) none 16, .sl (1, 1) 0 (16 * i) none 1, N w, N i, .undef, .undef, .undef, .undef, .undef, .undef, .undef, .undef, .undef, .undef, .undef, .undef, .undef, .undef, .undef, .undef, .undef, .undef, .undef, .undef, .undef, .undef, .undef, .undef, .undef, .undef, .undef, .undef, .undef, .undef, .undef, .undef, .undef, .undef, .undef, .undef, .undef, .undef, .undef, .undef, .undef, .undef, .undef, .undef, .undef, .undef, .undef, .undef, .undef, .undef, .undef, .undef, .undef, .undef, .undef, .undef, .undef, .undef, .undef, .undef, .undef, .undef, .undef, .undef, .undef, .undef, .undef, .undef, .undef, .undef, .undef, .undef, .undef, .undef, .undef, .undef, .undef, .undef, .undef, .undef, .undef, .undef, .undef, .undef, .undef, .undef, .undef, .undef, .undef, .undef, .undef, .undef, .undef, .undef, .undef, .undef, .undef, .undef, .undef, .undef, .undef, .undef, .undef, .undef, .undef, .undef, .undef, .undef], H, 2, 5⟩ ∧ PR H n la lb ∧ H (1, 0) = some (bs (twl t0 (d.length / 16 + 1))) ∧ H (1, 1) = some (bs (done (En back la n) t0 d i)))
theorem urJ.of_z {n : Nat} {la lb : List (BitVec 8)} {t0 : BitVec 128} {d : List (BitVec 8)} {back : Bool} {w : Nat} {st : St} (h : urJ n la lb t0 d back w 0 st) : ∃ (H : Heap), st = ⟨[.ptr (0, 0) 0, .undef, .isl (bs d) d.length, Bo back, .undef, .undef, .undef, .undef, .undef, .undef, N (d.length / 16), N (d.length % 16), .sl (1, 0) 0 (d.length / 16 + 1) none 16, Nil, N w, N 0, .undef, .undef, .undef, .undef, .undef, .undef, .undef, .undef, .undef, .undef, .undef, .undef, .undef, .undef, .undef, .undef, .undef, .undef, .undef, .undef, .undef, .undef, .undef, .undef, .undef, .undef, .undef, .undef, .undef, .undef, .undef, .undef, .undef, .undef, .undef, .undef, .undef, .undef, .undef, .undef, .undef, .undef, .undef, .undef, .undef, .undef, .undef, .undef, .undef, .undef, .undef, .undef, .undef, .undef, .undef, .undef, .undef, .undef, .undef, .undef, .undef, .undef, .undef, .undef, .undef, .undef, .undef, .undef, .undef, .undef, .undef, .undef, .undef, .undef, .undef, .undef, .undef, .undef, .undef, .undef, .undef, .undef, .undef, .undef, .undef, .undef, .undef, .undef, .undef, .undef, .undef, .undef, .undef, .undef, .undef, .undef, .undef, .undef, .undef, .undef, .undef, .undef, .undef, .undef, .undef, .undef, .undef, .undef], H, 2, 5⟩ ∧ PR H n la lb ∧ H (1, 0) = some (bs (twl t0 (d.length / 16 + 1))) := by
  obtain ⟨H, ⟨_, h⟩ | ⟨h, _⟩⟩ := h
  · exact ⟨H, h⟩
  · exact absurd h (by omega)
theorem urJ.of_s {n i : Nat} {la lb : List (BitVec 8)} {t0 : BitVec 128} {d : List (BitVec 8)} {back : Bool} {w : Nat} {st : St} (h : urJ n la lb t0 d back w i st) (hi : 0 < i) : ∃ (H : Heap), st = ⟨[.ptr (0, 0) 0, .undef, .isl (bs d) d.length, Bo back, .undef, .undef, .undef, .undef, .undef, .undef, N (d.length / 16), N (d.length % 16), .sl (1, 0) 0 (d.length / 16 + 1) none 16, .sl (1, 1) 0 (16 * i) none 1, N w, N i, .undef, .undef, .undef, .undef, .undef, .undef, .undef, .undef, .undef, .undef, .undef, .undef, .undef, .undef, .undef, .undef, .undef, .undef, .undef, .undef, .undef, .undef, .undef, .undef, .undef, .undef, .undef, .undef, .undef, .undef, .undef, .undef, .undef, .undef, .undef, .undef, .undef, .undef, .undef, .undef, .undef, .undef, .undef, .undef, .undef, .undef, .undef, .undef, .undef, .undef, .undef, .undef, .undef, .undef, .undef, .undef, .undef, .undef, .undef, .undef, .undef, .undef, .undef, .undef, .undef, .undef, .undef, .undef, .undef, .undef, .undef, .undef, .undef, .undef, .undef, .undef, .undef, .undef, .undef, .undef, .undef, .undef, .undef, .undef, .undef, .undef, .undef, .undef, .undef, .undef, .undef, .undef, .undef, .undef, .undef, .undef, .undef, .undef, .undef, .undef, .undef, .undef, .undef, .undef, .undef, .undef, .undef, .undef], H, 2, 5⟩ ∧ PR H n la lb ∧ H (1, 0) = some (bs (twl t0 (d.length / 16 + 1))) ∧ H (1, 1) = some (bs (done (En back la n) t0 d i)) := by
  obtain ⟨H, ⟨h, _⟩ | ⟨_, h⟩⟩ := h
  · exact absurd h (by omega)
  · exact ⟨H, h⟩

end Aes

namespace Aes
open Go Go.LE Xf
set_option maxRecDepth 20000

end Aes

namespace Aes
open Go Go.LE Xf
set_option maxRecDepth 20000

end Aes

namespace Aes
open Go Go.LE Xf
set_option maxRecDepth 20000

end Aes

namespace Aes
open Go Go.LE Xf
set_option maxRecDepth 20000

end Aes

namespace Aes
open Go Go.LE Xf
set_option maxRecDepth 20000

end Aes

namespace Aes
open Go Go.LE Xf
set_option maxRecDepth 20000

/-- the document's pair in memory -/
structure RXG (H : Heap) (p a ka b kb : Nm) (n : Nat) (la lb : List (BitVec 8)) : Prop where
  hp : H p = some [.ptr a 0, .ptr b 0]
  ha : H a = some (RF (.sl ka 0 (n + 2) none 16) TB)
  hka : H ka = some (bs la)
  hb : H b = some (RF (.sl kb 0 (n + 2) none 16) TB)
  hkb : H kb = some (bs lb)
  nd : [p, a, ka, b, kb].Nodup
def modRX (p a ka b kb : Nm) (n : Nat) (la lb : List (BitVec 8)) : List (Nm × Option qat) :=
  [(p, some [.ptr a 0, .ptr b 0]), (a, some (RF (.sl ka 0 (n + 2) none 16) TB)), (ka, some (bs la)), (b, some (RF (.sl kb 0 (n + 2) none 16) TB)), (kb, some (bs lb))]
theorem RXG.same {H : Heap} {p a ka b kb : Nm} {n : Nat} {la lb : List (BitVec 8)} (h : RXG H p a ka b kb n la lb) : modN (modRX p a ka b kb n la lb) H = H := by
  simp only [modRX, qa2, qau, qaA h.hkb, qaA h.hb, qaA h.hka, qaA h.ha, qaA h.hp]
theorem RXG.ne {H : Heap} {p a ka b kb : Nm} {n : Nat} {la lb : List (BitVec 8)} (h : RXG H p a ka b kb n la lb) : (a ≠ p ∧ ka ≠ p ∧ b ≠ p ∧ kb ≠ p) ∧ (ka ≠ a ∧ b ≠ a ∧ kb ≠ a) ∧ (b ≠ ka ∧ kb ≠ ka) ∧ kb ≠ b := by
  have := h.nd
  simp only [List.nodup_cons, List.mem_cons, List.not_mem_nil, or_false, not_or, List.nodup_nil, not_false_eq_true, and_true] at this
  obtain ⟨⟨h1, h2, h3, h4⟩, ⟨h5, h6, h7⟩, ⟨h8, h9⟩, h10⟩ := this
  exact ⟨⟨fun e => h1 e.symm, fun e => h2 e.symm, fun e => h3 e.symm, fun e => h4 e.symm⟩, ⟨fun e => h5 e.symm, fun e => h6 e.symm, fun e => h7 e.symm⟩, ⟨fun e => h8 e.symm, fun e => h9 e.symm⟩, fun e => h10 e.symm⟩
theorem RXG.reach {H : Heap} {p a ka b kb : Nm} {n : Nat} {la lb : List (BitVec 8)} (h : RXG H p a ka b kb n la lb) : Go.LE.qbd H FUEL [] [p] = [p, a, ka, b, kb] := by
  obtain ⟨⟨h1, h2, h3, h4⟩, ⟨h5, h6, h7⟩, ⟨h8, h9⟩, h10⟩ := h.ne
  have f : ∀ (x : Nm) (l : List Nm), x ∉ l → l.contains x = false := fun x l hl => by simpa using hl
  exact ((qak (by rfl) h.hp rfl).trans <| (qak (f _ _ (by simp [h1])) h.ha (RF_nms _ _)).trans <| (qak (f _ _ (by simp [h2, h5])) h.hka (qaw _)).trans <|
    (qak (f _ _ (by simp [h3, h6, h8])) h.hb (RF_nms _ _)).trans <| (qak (f _ _ (by simp [h4, h7, h9, h10])) h.hkb (qaw _)).trans <| qax _ _ _)
theorem RXG.cee {H : Heap} {p a ka b kb : Nm} {n : Nat} {la lb : List (BitVec 8)} (h : RXG H p a ka b kb n la lb) : qa1 [p, a, ka, b, kb] p = some (0, 0) ∧ qa1 [p, a, ka, b, kb] a = some (0, 1) ∧ qa1 [p, a, ka, b, kb] ka = some (0, 2) ∧ qa1 [p, a, ka, b, kb] b = some (0, 3) ∧ qa1 [p, a, ka, b, kb] kb = some (0, 4) := by
  obtain ⟨⟨h1, h2, h3, h4⟩, ⟨h5, h6, h7⟩, ⟨h8, h9⟩, h10⟩ := h.ne
  refine ⟨?_, ?_, ?_, ?_, ?_⟩ <;> simp [qa1, idx, h1, h2, h3, h4, h5, h6, h7, h8, h9, h10, Ne.symm h1, Ne.symm h2, Ne.symm h3, Ne.symm h4, Ne.symm h5, Ne.symm h6, Ne.symm h7, Ne.symm h8, Ne.symm h9, Ne.symm h10]
end Aes
