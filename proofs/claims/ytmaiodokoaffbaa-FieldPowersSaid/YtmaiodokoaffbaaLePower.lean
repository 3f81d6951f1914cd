/- Powers of x, evaluated. -/
import Derived.Test.YtmaiodokoaffbaaLeTimesF
set_option linter.unusedVariables false
set_option linter.unusedSimpArgs false
namespace Field
open Go Go.LE

theorem I_and1 (e : EqT) (n : Nat) (h : n < 4611686018427387904) : binV .and e (I (n : Int)) (I 1) = some (I ((n % 2 : Nat) : Int)) := by
  simp only [binV, I, binI, if_true, bitI, Option.map_some]
  have e1 : (BitVec.ofInt IntKind.i64.bits (n : Int) &&& BitVec.ofInt IntKind.i64.bits 1).toNat = n % 2 := by
    rw [BitVec.ofInt_natCast, BitVec.toNat_and, BitVec.toNat_ofNat, Nat.mod_eq_of_lt (Nat.lt_trans h (by decide))]
    exact Nat.and_one_is_mod n
  rw [e1, w64]
  omega

theorem I_shr1 (e : EqT) (n : Nat) : binV .shr e (I (n : Int)) (B64 1#64) = some (I ((n / 2 : Nat) : Int)) := by
  have : (B64 1#64) = .v (.int .u64 1) := rfl
  rw [this]
  simp only [binV, I, binI]
  rw [if_neg (by decide)]
  simp only [Option.map_some]
  congr 3
  rw [Int.fdiv_eq_ediv_of_nonneg _ (by decide)]
  rfl

def gp : Nat → Nat → BitVec 128 → BitVec 128 → BitVec 128
  | 0, _, p, _ => p
  | m + 1, n, p, x => if n = 0 then p else gp m (n / 2) (if n % 2 = 1 then GF.mul 135#128 p x else p) (GF.mul 135#128 x x)

def npow (x : BitVec 128) : Nat → BitVec 128
  | 0 => 1#128
  | n + 1 => GF.mul 135#128 x (npow x n)

theorem mulA (a b c : BitVec 128) : GF.mul 135#128 (GF.mul 135#128 a b) c = GF.mul 135#128 a (GF.mul 135#128 b c) := GF.mul_assoc _ _ _ _ (by decide)
theorem mul1 (a : BitVec 128) : GF.mul 135#128 a 1#128 = a := GF.mul_one _ _ (by decide)
theorem one1 (a : BitVec 128) : GF.mul 135#128 1#128 a = a := GF.one_mul _ _ (by decide)

theorem npow_add (x : BitVec 128) (a b : Nat) : npow x (a + b) = GF.mul 135#128 (npow x a) (npow x b) := by
  induction a with
  | zero => rw [Nat.zero_add]; exact (one1 _).symm
  | succ a ih => rw [Nat.succ_add]; simp only [npow]; rw [ih, mulA]

theorem npow_sq (x : BitVec 128) (a : Nat) : npow (GF.mul 135#128 x x) a = npow x (2 * a) := by
  induction a with
  | zero => rfl
  | succ a ih => rw [show 2 * (a + 1) = (2 * a + 1) + 1 from rfl]; simp only [npow]; rw [ih, mulA]

theorem npow_two (n : Nat) : npow 2#128 n = GF.dblN 135#128 n 1#128 := by
  induction n with
  | zero => rfl
  | succ n ih => rw [npow, ih, GF.dblN_succ, GF.mul_comm _ _ _ (by decide), GF.mul_two _ _ (by decide)]

theorem gp_eq : ∀ (m n : Nat) (p x : BitVec 128), n < 2 ^ m → gp (m + 1) n p x = GF.mul 135#128 p (npow x n) := by
  intro m
  induction m with
  | zero =>
    intro n p x h
    have : n = 0 := by simpa using h
    subst this
    rw [gp, if_pos rfl, npow, mul1]
  | succ m ih =>
    intro n p x h
    rw [gp]
    by_cases h0 : n = 0
    · rw [if_pos h0, h0, npow, mul1]
    · rw [if_neg h0, ih _ _ _ (by rw [Nat.pow_succ] at h; omega), npow_sq]
      by_cases h1 : n % 2 = 1
      · rw [if_pos h1, mulA]
        congr 1
        have : n = 2 * (n / 2) + 1 := by omega
        conv => rhs; rw [this, npow]
      · rw [if_neg h1]
        congr 2
        omega

end Field
