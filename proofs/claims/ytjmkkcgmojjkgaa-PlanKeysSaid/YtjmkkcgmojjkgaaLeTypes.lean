/- A head and a root as the reckoner has them. -/
import Derived.Test.YtjmkkcgmojjkgaaLePTab
set_option linter.unusedVariables false
set_option linter.unusedSimpArgs false
namespace Plan
open Go Go.LE

structure Head where
  g : BitVec 64
  s : Int
  sl : Int
  j : Int
  sg : Int
  t : Int
  m : Int
  l : Int
  nm : Nat → BitVec 8

structure Root where
  c : BitVec 64
  k : Bool
  f : Int
  tr : Nat → BitVec 8

def PaC (t m l : Int) : Cells := [I t, I m, I l]
def HdC (h : Head) : Cells := B64 h.g :: I h.s :: I h.sl :: I h.j :: I h.sg :: I h.t :: I h.m :: I h.l :: aB 16 h.nm
def RtC (r : Root) : Cells := B64 r.c :: Bo r.k :: I r.f :: aB 32 r.tr
def Pa (t m l : Int) : LV := .agg (PaC t m l)
def Hd (h : Head) : LV := .agg (HdC h)
def Rt (r : Root) : LV := .agg (RtC r)
def r0 : Root := ⟨0#64, false, 0, fun _ => 0#8⟩

theorem aB_take (n : Nat) (g : Nat → BitVec 8) : (aB n g).take n = aB n g := List.take_of_length_le (by rw [aB_length]; exact Nat.le_refl _)

theorem cellsOf_Hd (h : Head) : cellsOf (Hd h) = some (HdC h) := nf rfl
theorem cellsOf_Rt (r : Root) : cellsOf (Rt r) = some (RtC r) := nf rfl
theorem cellsOf_Pa (t m l : Int) : cellsOf (Pa t m l) = some (PaC t m l) := nf rfl
theorem agg_HdC (h : Head) : LV.agg (HdC h) = Hd h := nf rfl
theorem agg_RtC (r : Root) : LV.agg (RtC r) = Rt r := nf rfl
theorem agg_PaC (t m l : Int) : LV.agg (PaC t m l) = Pa t m l := nf rfl
theorem HdC_length (h : Head) : (HdC h).length = 24 := by simp [HdC, aB_length]
theorem RtC_length (r : Root) : (RtC r).length = 35 := by simp [RtC, aB_length]
theorem PaC_length (t m l : Int) : (PaC t m l).length = 3 := nf rfl

theorem Hd_all (h : Head) : cellK 0 24 (some (HdC h)) = some (HdC h) := by
  rw [cellK_some, if_pos (by rw [HdC_length]; exact Nat.le_refl _), List.drop_zero, List.take_of_length_le (by rw [HdC_length]; exact Nat.le_refl _)]
theorem Rt_all (r : Root) : cellK 0 35 (some (RtC r)) = some (RtC r) := by
  rw [cellK_some, if_pos (by rw [RtC_length]; exact Nat.le_refl _), List.drop_zero, List.take_of_length_le (by rw [RtC_length]; exact Nat.le_refl _)]
theorem Hd_0 (h : Head) : cellK 0 1 (some (HdC h)) = some [B64 h.g] := nf rfl
theorem Hd_1 (h : Head) : cellK 1 1 (some (HdC h)) = some [I h.s] := nf rfl
theorem Hd_2 (h : Head) : cellK 2 1 (some (HdC h)) = some [I h.sl] := nf rfl
theorem Hd_3 (h : Head) : cellK 3 1 (some (HdC h)) = some [I h.j] := nf rfl
theorem Hd_4 (h : Head) : cellK 4 1 (some (HdC h)) = some [I h.sg] := nf rfl
theorem Hd_5 (h : Head) : cellK 5 3 (some (HdC h)) = some (PaC h.t h.m h.l) := nf rfl
theorem Pa_0 (t m l : Int) : cellK 0 1 (some (PaC t m l)) = some [I t] := nf rfl
theorem Pa_1 (t m l : Int) : cellK 1 1 (some (PaC t m l)) = some [I m] := nf rfl
theorem Pa_2 (t m l : Int) : cellK 2 1 (some (PaC t m l)) = some [I l] := nf rfl
theorem Rt_0 (r : Root) : cellK 0 1 (some (RtC r)) = some [B64 r.c] := nf rfl
theorem Rt_1 (r : Root) : cellK 1 1 (some (RtC r)) = some [Bo r.k] := nf rfl
theorem Rt_2 (r : Root) : cellK 2 1 (some (RtC r)) = some [I r.f] := nf rfl
theorem Rt_3 (r : Root) : cellK 3 32 (some (RtC r)) = some (aB 32 r.tr) := by
  rw [cellK_some, if_pos (by rw [RtC_length]; decide)]
  simp only [RtC, List.drop_succ_cons, List.drop_zero, aB_take]
theorem HdC_isCell (h : Head) : (HdC h).all isCell = true := by
  simp only [HdC, List.all_cons, aB_isCell, isCell_B64, isCell_I, Bool.and_self]
theorem RtC_isCell (r : Root) : (RtC r).all isCell = true := by
  simp only [RtC, List.all_cons, aB_isCell, isCell_B64, isCell_I, isCell_Bo, Bool.and_self]
theorem Rt_st1 (m : Nm) (b : Bool) (r : Root) : stK 1 1 m (some [Bo b]) (some (RtC r)) = some ⟨Un, [], [(m, some (RtC { r with k := b }))]⟩ := by
  rw [stK_some, if_pos ⟨rfl, by rw [RtC_length]; decide, rfl⟩]; rfl
theorem Rt_st2 (m : Nm) (f : Int) (r : Root) : stK 1 2 m (some [I f]) (some (RtC r)) = some ⟨Un, [], [(m, some (RtC { r with f := f }))]⟩ := by
  rw [stK_some, if_pos ⟨rfl, by rw [RtC_length]; decide, rfl⟩]; rfl
theorem Rt_st (m : Nm) (r r' : Root) : stK 35 0 m (some (RtC r')) (some (RtC r)) = some ⟨Un, [], [(m, some (RtC r'))]⟩ := by
  rw [stK_some, if_pos ⟨RtC_length _, by rw [RtC_length]; decide, RtC_isCell _⟩]
  simp only [splice, List.take_zero, List.nil_append, RtC_length, Nat.zero_add, List.drop_of_length_le (by rw [RtC_length]; exact Nat.le_refl _ : (RtC r).length ≤ 35), List.append_nil]

theorem Hd_nms (h : Head) : nms D (Hd h) = [] := by
  show (HdC h).flatMap (nms 7) = []
  simp only [HdC, List.flatMap_cons, aB_nms7, nms7_B64, nms7_I, List.nil_append]
theorem Rt_nms (r : Root) : nms D (Rt r) = [] := by
  show (RtC r).flatMap (nms 7) = []
  simp only [RtC, List.flatMap_cons, aB_nms7, nms7_B64, nms7_I, nms7_Bo, List.nil_append]
theorem Hd_ren (π : Nm → Option Nm) (h : Head) : ren D π (Hd h) = Hd h := by
  show LV.agg ((HdC h).map (ren 7 π)) = _
  simp only [HdC, Hd, List.map_cons, aB_ren7, ren7_B64, ren7_I]
theorem Rt_ren (π : Nm → Option Nm) (r : Root) : ren D π (Rt r) = Rt r := by
  show LV.agg ((RtC r).map (ren 7 π)) = _
  simp only [RtC, Rt, List.map_cons, aB_ren7, ren7_B64, ren7_I, ren7_Bo]
theorem Pa_nms (t m l : Int) : nms D (Pa t m l) = [] := nf rfl
theorem Pa_ren (π : Nm → Option Nm) (t m l : Int) : ren D π (Pa t m l) = Pa t m l := nf rfl
theorem Rt_nms7 (r : Root) : nms 7 (Rt r) = [] := by
  show (RtC r).flatMap (nms 6) = []
  rw [List.flatMap_eq_nil_iff]
  intro x hx
  simp only [RtC, List.mem_cons, aB, arr, List.mem_map, List.mem_range] at hx
  rcases hx with rfl | rfl | rfl | ⟨i, _, rfl⟩ <;> rfl
theorem Rt_ren7 (π : Nm → Option Nm) (r : Root) : ren 7 π (Rt r) = Rt r := by
  show LV.agg ((RtC r).map (ren 6 π)) = _
  rw [Rt]
  congr 1
theorem HdC_nms (h : Head) : (HdC h).flatMap (nms D) = [] := by
  simp only [HdC, List.flatMap_cons, aB_nms, nms_B64, nms_I, List.nil_append]
theorem RtC_nms (r : Root) : (RtC r).flatMap (nms D) = [] := by
  simp only [RtC, List.flatMap_cons, aB_nms, nms_B64, nms_I, nms_Bo, List.nil_append]
theorem HdC_ren (π : Nm → Option Nm) (h : Head) : (HdC h).map (ren D π) = HdC h := by
  simp only [HdC, List.map_cons, aB_ren, ren_B64, ren_I]
theorem RtC_ren (π : Nm → Option Nm) (r : Root) : (RtC r).map (ren D π) = RtC r := by
  simp only [RtC, List.map_cons, aB_ren, ren_B64, ren_I, ren_Bo]
theorem r0_build : ([B64 0#64, Bo false, I 0] ++ List.replicate 32 (B8 0#8)) = RtC r0 := by rw [aB_rep]; rfl
theorem r0_cons : (B64 0#64 :: Bo false :: I 0 :: List.replicate 32 (B8 0#8)) = RtC r0 := r0_build
theorem Hd_calK (b : Nat) (h : Head) : calK b (some (Hd h, [], [])) = some ⟨Hd h, [], []⟩ := calK_plain b fun _ => Hd_ren _ h
theorem Hd_outOf (st : St) (h : Head) : outOf 0 st (Hd h) = (Hd h, [], []) := outOf_plain (Hd_nms h) fun _ => Hd_ren _ h

def Rt_same (r r' : Root) : Bool := r.c == r'.c && (r.k == r'.k && (r.f == r'.f && aB_same 32 r.tr r'.tr))
theorem Rt_eqv (r r' : Root) : eqR [(1, .int), (1, .bool), (33, .int)] (RtC r) (RtC r') = some (Rt_same r r') := by
  have h1 : ((r.c.toNat : Int) == (r'.c.toNat : Int)) = (r.c == r'.c) := by rw [Bool.eq_iff_iff]; simp [BitVec.toNat_inj, Int.ofNat_inj]
  have e : ∀ x : Root, (aB 33 fun i => if i = 0 then 0#8 else x.tr (i - 1)) = B8 0#8 :: aB 32 x.tr := fun x => by rw [aB_succ]; rfl
  have h3 : eqU .int (I r.f :: aB 32 r.tr) (I r'.f :: aB 32 r'.tr) = some (r.f == r'.f && aB_same 32 r.tr r'.tr) := by
    simp only [I, eqU, leafEq, if_true, aB_eqU]
  have l1 : ∀ x : Root, (I x.f :: aB 32 x.tr).length = 33 := fun x => by simp [aB_length]
  have t1 : ∀ x : Root, (I x.f :: aB 32 x.tr).take 33 = I x.f :: aB 32 x.tr := fun x => List.take_of_length_le (by rw [l1]; exact Nat.le_refl _)
  have d1 : ∀ x : Root, (I x.f :: aB 32 x.tr).drop 33 = [] := fun x => List.drop_of_length_le (by rw [l1]; exact Nat.le_refl _)
  have c3 : eqR [(33, Leaf.int)] (I r.f :: aB 32 r.tr) (I r'.f :: aB 32 r'.tr) = some (r.f == r'.f && aB_same 32 r.tr r'.tr) := by
    rw [eqR.eq_def]
    simp only [l1, t1, d1, h3, Nat.le_refl, and_self, if_true]
    simp [eqR]
  have c2 : eqR [(1, Leaf.bool), (33, Leaf.int)] (Bo r.k :: I r.f :: aB 32 r.tr) (Bo r'.k :: I r'.f :: aB 32 r'.tr) = some (r.k == r'.k && (r.f == r'.f && aB_same 32 r.tr r'.tr)) := by
    rw [eqR.eq_def]
    simp only [List.length_cons, List.take_succ_cons, List.take_zero, List.drop_succ_cons, List.drop_zero, c3]
    rw [if_pos (by omega)]
    simp [eqU, leafEq, Bo]
  rw [eqR.eq_def]
  simp only [RtC, List.length_cons, List.take_succ_cons, List.take_zero, List.drop_succ_cons, List.drop_zero, c2]
  rw [if_pos (by omega)]
  simp only [B64, eqU, leafEq, if_true, h1, Bool.and_true, Rt_same]
theorem Rt_eql (r r' : Root) : binV .eql (.flat [(1, .int), (1, .bool), (33, .int)]) (Rt r) (Rt r') = some (Bo (Rt_same r r')) := by
  have h := Rt_eqv r r'
  simp [binV, eqV, aggOf, Rt, h, Bo]
theorem Rt_same_self (r : Root) : Rt_same r r = true := by
  simp only [Rt_same, beq_self_eq_true, (aB_same_iff 32 r.tr r.tr).2 fun _ _ => rfl, Bool.and_self]

/-- the zero root with some counter and tree -/
theorem build_tree (c : BitVec 64) (tr : Nat → BitVec 8) : fill (RtC r0) [(0, 1, B64 c), (3, 32, .agg (aB 32 tr))] = some (RtC ⟨c, false, 0, tr⟩) := by
  have e1 : splice (RtC r0) 0 [B64 c] = RtC ⟨c, false, 0, fun _ => 0#8⟩ := nf rfl
  have e2 : splice (RtC ⟨c, false, 0, fun _ => 0#8⟩) 3 (aB 32 tr) = RtC ⟨c, false, 0, tr⟩ := by
    simp only [splice, RtC, List.take_succ_cons, List.take_zero, aB_length, Nat.reduceAdd, List.drop_succ_cons, List.drop_zero, List.cons_append, List.nil_append,
      List.drop_of_length_le (by rw [aB_length]; exact Nat.le_refl _ : (aB 32 fun _ => 0#8).length ≤ 32), List.append_nil]
  simp only [fill, cellsOf_B64, cellsOf_agg, List.length_cons, List.length_nil, RtC_length, aB_length, e1, e2, Nat.reduceAdd, Nat.reduceLeDiff, and_self, if_true]

end Plan
