/- A head, a root as arguments: opened. -/
import Derived.Test.YtjmkkcgmojjkgaaRows
import Derived.WalkKit
import Derived.Test.YtjmkkcgmojjkgaaLeTypes
import Derived.Test.YtjmkkcgmojjkgaaLeLeaves
set_option linter.unusedVariables false
set_option linter.unusedSimpArgs false
namespace Go.Proofs.Ytjmkkcgmojjkgaa
open Go.ChangeShapes Go.WideShapes Go.ChangeAt Go.RowKit Go.LE

def vH (x : Plan.Head) : List Value := .int .u64 (x.g.toNat : Int) :: .int .i64 x.s :: .int .i64 x.sl :: .int .i64 x.j :: .int .i64 x.sg :: .int .i64 x.t :: .int .i64 x.m :: .int .i64 x.l :: vB 16 x.nm
def vR (x : Plan.Root) : List Value := .int .u64 (x.c.toNat : Int) :: .bool x.k :: .int .i64 x.f :: vB 32 x.tr
def headL : List (Nat × LK) := [(0, .int .u64), (1, .int .i64), (2, .int .i64), (3, .int .i64), (4, .int .i64), (5, .int .i64), (6, .int .i64), (7, .int .i64)] ++ (List.range 16).map fun i => (8 + i, LK.int .u8)
def rootL : List (Nat × LK) := [(0, .int .u64), (1, .bool), (2, .int .i64)] ++ (List.range 32).map fun i => (3 + i, LK.int .u8)
theorem leavesH : leaves Try.prog 4 27 = some headL := by kernel_rfl
theorem leavesR : leaves Try.prog 4 30 = some rootL := by kernel_rfl
theorem cells27 : Try.prog.cellsOf 27 = 24 := by kernel_rfl
theorem cells30 : Try.prog.cellsOf 30 = 35 := by kernel_rfl

theorem rep_vH (R : Imm) (p : Places) (x : Plan.Head) : Rep R p (Plan.HdC x) (vH x) := .v (.v (.v (.v (.v (.v (.v (.v (rep_vB R p 16 x.nm))))))))
theorem rep_vR (R : Imm) (p : Places) (x : Plan.Root) : Rep R p (Plan.RtC x) (vR x) := .v (.v (.v (rep_vB R p 32 x.tr)))

section
variable {H : Type} {enc : TypeId × Value → H} {W : World} {base b : Nat} {sp : Nat → Bool} {held : Bool} {v : Value} {d : DataW H} {p : List MemPlace}

theorem split8 {A : Type} : ∀ (cs : List A) (c0 c1 c2 c3 c4 c5 c6 c7 : A), cs[0]? = some c0 → cs[1]? = some c1 → cs[2]? = some c2 → cs[3]? = some c3 → cs[4]? = some c4 → cs[5]? = some c5 → cs[6]? = some c6 → cs[7]? = some c7 →
    cs = c0 :: c1 :: c2 :: c3 :: c4 :: c5 :: c6 :: c7 :: cs.drop 8 := by
  intro cs c0 c1 c2 c3 c4 c5 c6 c7 h0 h1 h2 h3 h4 h5 h6 h7
  match cs with
  | [] => simp at h0
  | [_] => simp at h1
  | [_, _] => simp at h2
  | [_, _, _] => simp at h3
  | [_, _, _, _] => simp at h4
  | [_, _, _, _, _] => simp at h5
  | [_, _, _, _, _, _] => simp at h6
  | [_, _, _, _, _, _, _] => simp at h7
  | _ :: _ :: _ :: _ :: _ :: _ :: _ :: _ :: rest => simp at h0 h1 h2 h3 h4 h5 h6 h7; simp [*]
theorem split3 {A : Type} : ∀ (cs : List A) (c0 c1 c2 : A), cs[0]? = some c0 → cs[1]? = some c1 → cs[2]? = some c2 → cs = c0 :: c1 :: c2 :: cs.drop 3 := by
  intro cs c0 c1 c2 h0 h1 h2
  match cs with
  | [] => simp at h0
  | [_] => simp at h1
  | [_, _] => simp at h2
  | _ :: _ :: _ :: rest => simp at h0 h1 h2; simp [*]

theorem open_head (hv : Value.okWide Try.prog W .any base 27 v) (h : DataW.Trod enc Try.prog W b sp held 27 v d p) : ∃ x : Plan.Head, v = .agg (vH x).toArray ∧ p = [] := by
  obtain ⟨cs, rfl, hlen, hq, hp⟩ := open_leaves 4 Try.underlying27 leavesH hv h
  rw [cells27] at hlen
  have hm : ∀ q ∈ ([(0, .int .u64), (1, .int .i64), (2, .int .i64), (3, .int .i64), (4, .int .i64), (5, .int .i64), (6, .int .i64), (7, .int .i64)] : List (Nat × LK)), q ∈ headL := fun q h => List.mem_append_left _ h
  obtain ⟨g, h0, w0⟩ := leaf_int (hq _ (hm (0, .int .u64) (by simp)))
  obtain ⟨s, h1, w1⟩ := leaf_int (hq _ (hm (1, .int .i64) (by simp)))
  obtain ⟨sl, h2, w2⟩ := leaf_int (hq _ (hm (2, .int .i64) (by simp)))
  obtain ⟨j, h3, w3⟩ := leaf_int (hq _ (hm (3, .int .i64) (by simp)))
  obtain ⟨sg, h4, w4⟩ := leaf_int (hq _ (hm (4, .int .i64) (by simp)))
  obtain ⟨t, h5, w5⟩ := leaf_int (hq _ (hm (5, .int .i64) (by simp)))
  obtain ⟨m, h6, w6⟩ := leaf_int (hq _ (hm (6, .int .i64) (by simp)))
  obtain ⟨l, h7, w7⟩ := leaf_int (hq _ (hm (7, .int .i64) (by simp)))
  obtain ⟨nm, hn⟩ := leaf_bytes 8 16 hlen fun i hi => hq (8 + i, .int .u8) (List.mem_append_right _ (List.mem_map.2 ⟨i, List.mem_range.2 hi, rfl⟩))
  obtain ⟨x, hx⟩ := wf_u64 w0
  refine ⟨⟨x, s, sl, j, sg, t, m, l, nm⟩, ?_, hp⟩
  rw [split8 cs _ _ _ _ _ _ _ _ h0 h1 h2 h3 h4 h5 h6 h7, hn, hx]
  rfl

theorem open_root (hv : Value.okWide Try.prog W .any base 30 v) (h : DataW.Trod enc Try.prog W b sp held 30 v d p) : ∃ x : Plan.Root, v = .agg (vR x).toArray ∧ p = [] := by
  obtain ⟨cs, rfl, hlen, hq, hp⟩ := open_leaves 4 Try.underlying30 leavesR hv h
  rw [cells30] at hlen
  have hm : ∀ q ∈ ([(0, .int .u64), (1, .bool), (2, .int .i64)] : List (Nat × LK)), q ∈ rootL := fun q h => List.mem_append_left _ h
  obtain ⟨g, h0, w0⟩ := leaf_int (hq _ (hm (0, .int .u64) (by simp)))
  obtain ⟨k, h1⟩ := leaf_bool (hq _ (hm (1, .bool) (by simp)))
  obtain ⟨f, h2, w2⟩ := leaf_int (hq _ (hm (2, .int .i64) (by simp)))
  obtain ⟨tr, hn⟩ := leaf_bytes 3 32 hlen fun i hi => hq (3 + i, .int .u8) (List.mem_append_right _ (List.mem_map.2 ⟨i, List.mem_range.2 hi, rfl⟩))
  obtain ⟨x, hx⟩ := wf_u64 w0
  refine ⟨⟨x, k, f, tr⟩, ?_, hp⟩
  rw [split3 cs _ _ _ h0 h1 h2, hn, hx]
  rfl
end
end Go.Proofs.Ytjmkkcgmojjkgaa
