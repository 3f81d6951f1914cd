/- Whole numbers that are not below zero. -/
import Derived.Test.YtpkifhjlmkbdpaaDoorLeArr
set_option linter.unusedVariables false
set_option linter.unusedSimpArgs false
namespace Go.LE

def N (i : Nat) : LV := I (i : Int)
theorem I_N (i : Nat) : I (i : Int) = N i := rfl
theorem I_toN (z : Int) (h : 0 ≤ z) : I z = N z.toNat := by rw [N, Int.toNat_of_nonneg h]

section
variable (e : EqT) (a b : Nat)
theorem N_add (h : a + b < 9223372036854775808) : binV .add e (N a) (N b) = some (N (a + b)) := by
  rw [N, N, I_add _ _ _ (by omega), ← Int.natCast_add]; rfl
theorem N_sub (h : b ≤ a) (ha : a < 9223372036854775808) : binV .sub e (N a) (N b) = some (N (a - b)) := by
  rw [N, N, I_sub _ _ _ (by omega), ← Int.natCast_sub h]; rfl
theorem N_mul (h : a * b < 9223372036854775808) : binV .mul e (N a) (N b) = some (N (a * b)) := by
  have e1 : (a : Int) * (b : Int) = ((a * b : Nat) : Int) := (Int.natCast_mul a b).symm
  rw [N, N, I_mul _ _ _ (by rw [e1]; omega), e1]; rfl
theorem N_quo (hb : 0 < b) (h : a < 9223372036854775808) : binV .quo e (N a) (N b) = some (N (a / b)) := by
  have e1 : (a : Int).tdiv (b : Int) = ((a / b : Nat) : Int) := rfl
  have h2 : a / b ≤ a := Nat.div_le_self a b
  have key : ∀ q : Nat, q ≤ a → -9223372036854775808 ≤ (q : Int) ∧ (q : Int) < 9223372036854775808 := by omega
  rw [N, N, I_quo _ _ _ (by omega) (by rw [e1]; exact key _ h2), e1]; rfl
theorem N_rem (hb : 0 < b) : binV .rem e (N a) (N b) = some (N (a % b)) := by
  rw [N, N, I_rem _ _ _ (by omega)]; rfl
theorem N_shl (hb : b < 64) (h : a * 2 ^ b < 9223372036854775808) : binV .shl e (N a) (N b) = some (N (a * 2 ^ b)) := by
  have e1 : (a : Int) * 2 ^ ((b : Int).toNat) = ((a * 2 ^ b : Nat) : Int) := by simp
  rw [N, N, I_shl _ _ _ (by omega) (by omega) (by rw [e1]; omega), e1]; rfl
theorem N_shr (hb : b < 64) : binV .shr e (N a) (N b) = some (N (a / 2 ^ b)) := by
  rw [N, N, I_shr _ _ _ (by omega) (by omega)]
  congr 2
theorem N_eql : binV .eql e (N a) (N b) = some (Bo (decide (a = b))) := by
  rw [N, N, I_eql]; congr 2; rw [Bool.eq_iff_iff, beq_iff_eq, decide_eq_true_iff]; omega
theorem N_neq : binV .neq e (N a) (N b) = some (Bo (decide (a ≠ b))) := by
  rw [N, N, I_neq]; congr 2; rw [Bool.eq_iff_iff, bne_iff_ne, decide_eq_true_iff]; omega
theorem N_lss : binV .lss e (N a) (N b) = some (Bo (decide (a < b))) := by rw [N, N, I_lss]; congr 2; exact decide_eq_decide.2 (by omega)
theorem N_leq : binV .leq e (N a) (N b) = some (Bo (decide (a ≤ b))) := by rw [N, N, I_leq]; congr 2; exact decide_eq_decide.2 (by omega)
theorem N_gtr : binV .gtr e (N a) (N b) = some (Bo (decide (b < a))) := by rw [N, N, I_gtr]; congr 2; exact decide_eq_decide.2 (by omega)
theorem N_geq : binV .geq e (N a) (N b) = some (Bo (decide (b ≤ a))) := by rw [N, N, I_geq]; congr 2; exact decide_eq_decide.2 (by omega)
theorem N_nat : natOf (N a) = some a := by rw [N, I_nat _ (by omega)]; rfl
end

theorem ofInt_nat (w i : Nat) : BitVec.ofInt w (i : Int) = BitVec.ofNat w i := by
  apply BitVec.eq_of_toNat_eq; simp
theorem cvt_N_8 (i : Nat) : cvtV .u8 (N i) = some (B8 (BitVec.ofNat 8 i)) := by rw [N, cvt_I_8, ofInt_nat]
theorem cvt_N_32 (i : Nat) : cvtV .u32 (N i) = some (B32 (BitVec.ofNat 32 i)) := by rw [N, cvt_I_32, ofInt_nat]
theorem cvt_N_64 (i : Nat) : cvtV .u64 (N i) = some (B64 (BitVec.ofNat 64 i)) := by rw [N, cvt_I_64, ofInt_nat]
theorem cvt_8_N (x : BitVec 8) : cvtV .i64 (B8 x) = some (N x.toNat) := cvt_8_I x
theorem cvt_32_N (x : BitVec 32) : cvtV .i64 (B32 x) = some (N x.toNat) := cvt_32_I x
theorem cvt_64_N (x : BitVec 64) (h : x.toNat < 9223372036854775808) : cvtV .i64 (B64 x) = some (N x.toNat) := by
  rw [cvt_I64, N, BitVec.toInt_eq_toNat_cond, if_pos (by omega)]
theorem cvt_N_N (i : Nat) (h : i < 9223372036854775808) : cvtV .i64 (N i) = some (N i) := cvt_II _ (by omega)

theorem B8_shlN (e : EqT) (x : BitVec 8) (i : Nat) : binV .shl e (B8 x) (N i) = some (B8 (x <<< i)) := B8_shlI _ _ (i : Int) (by omega)
theorem B8_shrN (e : EqT) (x : BitVec 8) (i : Nat) : binV .shr e (B8 x) (N i) = some (B8 (x >>> i)) := B8_shrI _ _ (i : Int) (by omega)
theorem B32_shlN (e : EqT) (x : BitVec 32) (i : Nat) : binV .shl e (B32 x) (N i) = some (B32 (x <<< i)) := B32_shlI _ _ (i : Int) (by omega)
theorem B32_shrN (e : EqT) (x : BitVec 32) (i : Nat) : binV .shr e (B32 x) (N i) = some (B32 (x >>> i)) := B32_shrI _ _ (i : Int) (by omega)
theorem B64_shlN (e : EqT) (x : BitVec 64) (i : Nat) : binV .shl e (B64 x) (N i) = some (B64 (x <<< i)) := B64_shlI _ _ (i : Int) (by omega)
theorem B64_shrN (e : EqT) (x : BitVec 64) (i : Nat) : binV .shr e (B64 x) (N i) = some (B64 (x >>> i)) := B64_shrI _ _ (i : Int) (by omega)

theorem N_neg (i : Nat) (h : i < 9223372036854775808) : unV .neg (N i) = some (I (-(i : Int))) := by
  simp only [unV, N, I, w64 (0 - (i : Int)) (by omega)]
  congr 3; omega

theorem nms_N (i : Nat) : nms D (N i) = [] := nf rfl
theorem ren_N (π : Nm → Option Nm) (i : Nat) : ren D π (N i) = N i := nf rfl
theorem cellsOf_N (i : Nat) : cellsOf (N i) = some [N i] := nf rfl
theorem isCell_N (i : Nat) : isCell (N i) = true := nf rfl
theorem calK_N (b : Nat) (i : Nat) : calK b (some (N i, [], [])) = some ⟨N i, [], []⟩ := calK_I b _
theorem outOf_N (st : St) (i : Nat) : outOf 0 st (N i) = (N i, [], []) := outOf_I st _

theorem nm_beq (a b c d : Nat) : (((a, b) : Nm) == (c, d)) = (a == c && b == d) := nf rfl

end Go.LE
