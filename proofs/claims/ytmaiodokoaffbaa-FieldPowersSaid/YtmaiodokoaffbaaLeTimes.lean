/- The product of halves, evaluated. -/
import Derived.Test.YtmaiodokoaffbaaLeHalf
import Derived.Test.YtmaiodokoaffbaaLeBox
set_option linter.unusedVariables false
set_option linter.unusedSimpArgs false
namespace Field
open Go Go.LE

/-- 128 bits as a half -/
def lo (x : BitVec 128) : BitVec 64 := x.setWidth 64
def hi (x : BitVec 128) : BitVec 64 := (x >>> 64).setWidth 64
def Hv (x : BitVec 128) : LV := Hf (lo x) (hi x)
def hc (x : BitVec 128) : Cells := [B64 (lo x), B64 (hi x)]

theorem lo_bit (x : BitVec 128) (i : Nat) : (lo x).getLsbD i = (decide (i < 64) && x.getLsbD i) := by simp [lo, BitVec.getLsbD_setWidth]
theorem hi_bit (x : BitVec 128) (i : Nat) : (hi x).getLsbD i = (decide (i < 64) && x.getLsbD (64 + i)) := by simp [hi, BitVec.getLsbD_setWidth, BitVec.getLsbD_ushiftRight]

theorem lo_xor (x y : BitVec 128) : lo x ^^^ lo y = lo (x ^^^ y) := by simp [lo]
theorem hi_xor (x y : BitVec 128) : hi x ^^^ hi y = hi (x ^^^ y) := by
  apply BitVec.eq_of_getLsbD_eq; intro i h
  simp only [BitVec.getLsbD_xor, hi_bit, h, decide_true, Bool.true_and]

theorem dbl_lo (x : BitVec 128) : lo x <<< 1 ^^^ (hi x >>> 63) * 135#64 = lo (GF.dbl 135#128 x) := by
  have ht : hi x >>> 63 = if x.getLsbD 127 = true then 1#64 else 0#64 := by
    have bit : ∀ i, (hi x >>> 63).getLsbD i = (decide (i = 0) && x.getLsbD 127) := by
      intro i
      rw [BitVec.getLsbD_ushiftRight, hi_bit]
      by_cases h0 : i = 0
      · subst h0; rfl
      · have h1 : ¬ 63 + i < 64 := by omega
        rw [decide_eq_false h0, decide_eq_false h1, Bool.false_and, Bool.false_and]
    apply BitVec.eq_of_getLsbD_eq; intro i h
    rw [bit]
    by_cases hx : x.getLsbD 127 = true
    · rw [if_pos hx, hx, BitVec.getLsbD_one]; simp
    · have hx' : x.getLsbD 127 = false := by simpa using hx
      rw [if_neg hx, hx']; simp
  unfold GF.dbl
  rw [ht, ← lo_xor]
  congr 1
  · apply BitVec.eq_of_getLsbD_eq; intro i h
    simp only [BitVec.getLsbD_shiftLeft, lo_bit, h, decide_true, Bool.true_and]
    have h1 : i < 128 := by omega
    have h2 : i - 1 < 64 := by omega
    simp [h1, h2]
  · by_cases hx : x.getLsbD 127 = true
    · rw [if_pos hx, if_pos hx]; rfl
    · rw [if_neg hx, if_neg hx]; rfl

theorem dbl_hi (x : BitVec 128) : hi x <<< 1 ||| lo x >>> 63 = hi (GF.dbl 135#128 x) := by
  have h135 : ∀ i, (135#128).getLsbD (64 + i) = false := by
    intro i
    have : (135#128).toNat < 2 ^ (64 + i) := Nat.lt_of_lt_of_le (by decide : (135#128).toNat < 2 ^ 64) (Nat.pow_le_pow_right (by decide) (by omega))
    rw [BitVec.getLsbD]
    exact Nat.testBit_lt_two_pow this
  apply BitVec.eq_of_getLsbD_eq; intro i h
  unfold GF.dbl
  simp only [BitVec.getLsbD_or, BitVec.getLsbD_shiftLeft, BitVec.getLsbD_ushiftRight, hi_bit, lo_bit, BitVec.getLsbD_xor, h, decide_true, Bool.true_and]
  have h0 : ((if x.getLsbD (128 - 1) = true then 135#128 else 0#128) : BitVec 128).getLsbD (64 + i) = false := by
    split
    · exact h135 i
    · simp
  rw [h0, Bool.xor_false]
  have h3 : 64 + i < 128 := by omega
  by_cases hi0 : i = 0
  · subst hi0; simp
  · have h1 : ¬ 63 + i < 64 := by omega
    have h2 : i - 1 < 64 := by omega
    have h4 : 64 + (i - 1) = 64 + i - 1 := by omega
    have h5 : ¬ i < 1 := by omega
    have h6 : ¬ 64 + i < 1 := by omega
    simp [h1, h2, h3, h4, h5, h6]

theorem dbl_F (k : Nat) (x : BitVec 128) : F C (k + 1) 19 [Hf (lo x) (hi x)] [] = some (Hf (lo (GF.dbl 135#128 x)) (hi (GF.dbl 135#128 x)), [], []) := by
  rw [double_F, dbl_lo, dbl_hi]

end Field
