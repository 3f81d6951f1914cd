/- Numbers as words of bits: what operations make of them. -/
import Derived.Test.YtpkifhjlmkbdpaaDoorLeRow
set_option linter.unusedVariables false
set_option linter.unusedSimpArgs false
namespace Go.LE
/-- an equation that holds by unfolding, as one that is rewritten with (so that no later check must find the unfolding anew) -/
theorem nf {A : Sort _} {a b : A} (h : a = b) : a = b := h

def U (k : IntKind) {n : Nat} (x : BitVec n) : LV := .v (.int k x.toNat)
def B8 (x : BitVec 8) : LV := .v (.int .u8 x.toNat)
def B32 (x : BitVec 32) : LV := .v (.int .u32 x.toNat)
def B64 (x : BitVec 64) : LV := .v (.int .u64 x.toNat)
def I (n : Int) : LV := .v (.int .i64 n)
def Bo (b : Bool) : LV := .v (.bool b)
def Un : LV := .v (.tuple #[])

section
variable {k : IntKind} {n : Nat}

theorem wrap_of_nat (hk : k.bits = n) (hs : k.signed = false) (m : Nat) : k.wrap (m : Int) = ((BitVec.ofNat n m).toNat : Int) := by
  unfold IntKind.wrap
  simp only [hs, Bool.false_and, Bool.false_eq_true, if_false, hk, BitVec.toNat_ofNat]
  norm_cast

theorem wrap_of_int (hk : k.bits = n) (hs : k.signed = false) (m : Int) : k.wrap m = ((BitVec.ofInt n m).toNat : Int) := by
  unfold IntKind.wrap
  simp only [hs, Bool.false_and, Bool.false_eq_true, if_false, hk, BitVec.toNat_ofInt]
  rw [Int.toNat_of_nonneg]
  · norm_cast
  · exact Int.emod_nonneg _ (by have : (0 : Int) < 2 ^ n := Int.pow_pos (by decide); norm_cast; exact Nat.ne_of_gt (Nat.two_pow_pos n))

theorem ofInt_toNat (x : BitVec n) : BitVec.ofInt n (x.toNat : Int) = x := by
  rw [BitVec.ofInt_natCast]; simp

variable (hk : k.bits = n) (hs : k.signed = false) (e : EqT) (x y : BitVec n)
include hk hs

theorem U_add : binV .add e (U k x) (U k y) = some (U k (x + y)) := by
  simp only [binV, U, binI, if_true, Option.map_some]
  rw [show (x.toNat : Int) + (y.toNat : Int) = ((x.toNat + y.toNat : Nat) : Int) by push_cast; rfl, wrap_of_nat hk hs, BitVec.ofNat_add, BitVec.ofNat_toNat, BitVec.ofNat_toNat]
  simp

theorem U_mul : binV .mul e (U k x) (U k y) = some (U k (x * y)) := by
  simp only [binV, U, binI, if_true, Option.map_some]
  rw [show (x.toNat : Int) * (y.toNat : Int) = ((x.toNat * y.toNat : Nat) : Int) by push_cast; rfl, wrap_of_nat hk hs, BitVec.ofNat_mul, BitVec.ofNat_toNat, BitVec.ofNat_toNat]
  simp

theorem U_sub : binV .sub e (U k x) (U k y) = some (U k (x - y)) := by
  simp only [binV, U, binI, if_true, Option.map_some]
  rw [wrap_of_int hk hs]
  congr 5
  rw [Int.sub_eq_add_neg, BitVec.ofInt_add, BitVec.ofInt_neg, ofInt_toNat, ofInt_toNat, ← BitVec.sub_eq_add_neg]

theorem U_and : binV .and e (U k x) (U k y) = some (U k (x &&& y)) := by
  subst hk
  simp only [binV, U, binI, if_true, bitI, Option.map_some, ofInt_toNat]
  rw [wrap_of_nat rfl hs, BitVec.ofNat_toNat, BitVec.setWidth_eq]

theorem U_or : binV .or e (U k x) (U k y) = some (U k (x ||| y)) := by
  subst hk
  simp only [binV, U, binI, if_true, bitI, Option.map_some, ofInt_toNat]
  rw [wrap_of_nat rfl hs, BitVec.ofNat_toNat, BitVec.setWidth_eq]

theorem U_xor : binV .xor e (U k x) (U k y) = some (U k (x ^^^ y)) := by
  subst hk
  simp only [binV, U, binI, if_true, bitI, Option.map_some, ofInt_toNat]
  rw [wrap_of_nat rfl hs, BitVec.ofNat_toNat, BitVec.setWidth_eq]

theorem U_andNot : binV .andNot e (U k x) (U k y) = some (U k (x &&& ~~~y)) := by
  subst hk
  simp only [binV, U, binI, if_true, bitI, Option.map_some, ofInt_toNat]
  rw [wrap_of_nat rfl hs, BitVec.ofNat_toNat, BitVec.setWidth_eq]

theorem U_shl (k' : IntKind) (m : Nat) : binV .shl e (U k x) (.v (.int k' m)) = some (U k (x <<< m)) := by
  subst hk
  simp only [binV, U, binI]
  rw [if_neg (by omega)]
  simp only [Option.map_some, Int.toNat_natCast]
  rw [show (x.toNat : Int) * 2 ^ min m k.bits = ((x.toNat * 2 ^ min m k.bits : Nat) : Int) by push_cast; rfl, wrap_of_nat rfl hs]
  congr 3
  rw [Int.ofNat_inj]
  rw [BitVec.toNat_ofNat, BitVec.toNat_shiftLeft, Nat.shiftLeft_eq]
  by_cases h : m ≤ k.bits
  · rw [Nat.min_eq_left h]
  · rw [Nat.min_eq_right (by omega), Nat.mul_mod_left, show m = k.bits + (m - k.bits) by omega, Nat.pow_add, Nat.mul_comm (2 ^ k.bits), ← Nat.mul_assoc, Nat.mul_mod_left]

omit hs in
theorem U_shr (k' : IntKind) (m : Nat) : binV .shr e (U k x) (.v (.int k' m)) = some (U k (x >>> m)) := by
  subst hk
  simp only [binV, U, binI]
  rw [if_neg (by omega)]
  simp only [Option.map_some, Int.toNat_natCast]
  rw [Int.fdiv_eq_ediv_of_nonneg _ (Int.le_of_lt (Int.pow_pos (by decide)))]
  rw [show (x.toNat : Int) / 2 ^ min m k.bits = ((x.toNat / 2 ^ min m k.bits : Nat) : Int) by push_cast; rfl]
  congr 4
  rw [BitVec.toNat_ushiftRight, Nat.shiftRight_eq_div_pow]
  by_cases h : m ≤ k.bits
  · rw [Nat.min_eq_left h]
  · rw [Nat.min_eq_right (by omega), Nat.div_eq_of_lt x.isLt, Nat.div_eq_of_lt]
    exact Nat.lt_of_lt_of_le x.isLt (Nat.pow_le_pow_right (by decide) (by omega))

omit hk hs in
theorem U_rem (hy : (y == 0#n) = false) : binV .rem e (U k x) (U k y) = some (U k (x % y)) := by
  have h0 : ¬ ((y.toNat : Int) = 0) := by
    intro h
    have : y = 0#n := by apply BitVec.eq_of_toNat_eq; simpa using h
    simp [this] at hy
  simp only [binV, U, binI, if_true, if_neg h0, Option.map_some, BitVec.toNat_umod]
  rw [Int.ofNat_tmod]

theorem U_quo (hy : (y == 0#n) = false) : binV .quo e (U k x) (U k y) = some (U k (x / y)) := by
  have h0 : ¬ ((y.toNat : Int) = 0) := by
    intro h
    have : y = 0#n := by apply BitVec.eq_of_toNat_eq; simpa using h
    simp [this] at hy
  simp only [binV, U, binI, if_true, if_neg h0, Option.map_some]
  subst hk
  rw [show (x.toNat : Int).tdiv (y.toNat : Int) = ((x.toNat / y.toNat : Nat) : Int) from rfl, wrap_of_nat rfl hs, ← BitVec.toNat_udiv, BitVec.ofNat_toNat, BitVec.setWidth_eq]

omit hk hs
theorem U_eql : binV .eql e (U k x) (U k y) = some (Bo (x == y)) := by
  simp only [binV, U, binI, if_true, cmpI, Option.map_some, Bo]
  congr 3
  rw [Bool.eq_iff_iff]
  simp [BitVec.toNat_inj, Int.ofNat_inj]

theorem U_neq : binV .neq e (U k x) (U k y) = some (Bo (x != y)) := by
  simp only [binV, U, binI, if_true, cmpI, Option.map_some, Bo]
  congr 3
  rw [Bool.eq_iff_iff]
  simp [BitVec.toNat_inj, Int.ofNat_inj]

theorem U_lss : binV .lss e (U k x) (U k y) = some (Bo (decide (x < y))) := by
  simp only [binV, U, binI, if_true, cmpI, Option.map_some, Bo, BitVec.lt_def, Int.ofNat_lt]

theorem U_leq : binV .leq e (U k x) (U k y) = some (Bo (decide (x ≤ y))) := by
  simp only [binV, U, binI, if_true, cmpI, Option.map_some, Bo, BitVec.le_def, Int.ofNat_le]

theorem U_gtr : binV .gtr e (U k x) (U k y) = some (Bo (decide (y < x))) := by
  simp only [binV, U, binI, if_true, cmpI, Option.map_some, Bo, BitVec.lt_def, gt_iff_lt, Int.ofNat_lt]

theorem U_geq : binV .geq e (U k x) (U k y) = some (Bo (decide (y ≤ x))) := by
  simp only [binV, U, binI, if_true, cmpI, Option.map_some, Bo, BitVec.le_def, ge_iff_le, Int.ofNat_le]

include hk hs
theorem U_not : unV .xor (U k x) = some (U k (~~~x)) := by
  subst hk
  simp only [unV, U, hs, Bool.false_eq_true, if_false, bitI, Option.map_some, ofInt_toNat]
  rw [wrap_of_nat rfl hs, BitVec.ofNat_toNat, BitVec.setWidth_eq]
  have : BitVec.ofInt k.bits k.max = BitVec.allOnes k.bits := by
    cases k <;> first | (exfalso; revert hs; decide) | (simp [IntKind.bits, IntKind.max, IntKind.signed])
  rw [this, BitVec.allOnes_xor]

theorem U_neg : unV .neg (U k x) = some (U k (-x)) := by
  simp only [unV, U]
  rw [wrap_of_int hk hs]
  congr 4
  rw [Int.zero_sub, BitVec.ofInt_neg, ofInt_toNat]

end

section
variable (e : EqT) (x y : BitVec 8)
theorem B8_add : binV .add e (B8 x) (B8 y) = some (B8 (x + y)) := U_add (k := .u8) rfl rfl e x y
theorem B8_mul : binV .mul e (B8 x) (B8 y) = some (B8 (x * y)) := U_mul (k := .u8) rfl rfl e x y
theorem B8_sub : binV .sub e (B8 x) (B8 y) = some (B8 (x - y)) := U_sub (k := .u8) rfl rfl e x y
theorem B8_and : binV .and e (B8 x) (B8 y) = some (B8 (x &&& y)) := U_and (k := .u8) rfl rfl e x y
theorem B8_or : binV .or e (B8 x) (B8 y) = some (B8 (x ||| y)) := U_or (k := .u8) rfl rfl e x y
theorem B8_xor : binV .xor e (B8 x) (B8 y) = some (B8 (x ^^^ y)) := U_xor (k := .u8) rfl rfl e x y
theorem B8_andNot : binV .andNot e (B8 x) (B8 y) = some (B8 (x &&& ~~~y)) := U_andNot (k := .u8) rfl rfl e x y
theorem B8_rem (hy : (y == 0#8) = false) : binV .rem e (B8 x) (B8 y) = some (B8 (x % y)) := U_rem (k := .u8) e x y hy
theorem B8_quo (hy : (y == 0#8) = false) : binV .quo e (B8 x) (B8 y) = some (B8 (x / y)) := U_quo (k := .u8) rfl rfl e x y hy
theorem B8_eql : binV .eql e (B8 x) (B8 y) = some (Bo (x == y)) := U_eql (k := .u8) e x y
theorem B8_neq : binV .neq e (B8 x) (B8 y) = some (Bo (x != y)) := U_neq (k := .u8) e x y
theorem B8_lss : binV .lss e (B8 x) (B8 y) = some (Bo (decide (x < y))) := U_lss (k := .u8) e x y
theorem B8_leq : binV .leq e (B8 x) (B8 y) = some (Bo (decide (x ≤ y))) := U_leq (k := .u8) e x y
theorem B8_gtr : binV .gtr e (B8 x) (B8 y) = some (Bo (decide (y < x))) := U_gtr (k := .u8) e x y
theorem B8_geq : binV .geq e (B8 x) (B8 y) = some (Bo (decide (y ≤ x))) := U_geq (k := .u8) e x y
theorem B8_shl8 (z : BitVec 8) : binV .shl e (B8 x) (B8 z) = some (B8 (x <<< z.toNat)) := U_shl (k := .u8) rfl rfl e x _ _
theorem B8_shr8 (z : BitVec 8) : binV .shr e (B8 x) (B8 z) = some (B8 (x >>> z.toNat)) := U_shr (k := .u8) rfl e x _ _
theorem B8_shl32 (z : BitVec 32) : binV .shl e (B8 x) (B32 z) = some (B8 (x <<< z.toNat)) := U_shl (k := .u8) rfl rfl e x _ _
theorem B8_shr32 (z : BitVec 32) : binV .shr e (B8 x) (B32 z) = some (B8 (x >>> z.toNat)) := U_shr (k := .u8) rfl e x _ _
theorem B8_shl64 (z : BitVec 64) : binV .shl e (B8 x) (B64 z) = some (B8 (x <<< z.toNat)) := U_shl (k := .u8) rfl rfl e x _ _
theorem B8_shr64 (z : BitVec 64) : binV .shr e (B8 x) (B64 z) = some (B8 (x >>> z.toNat)) := U_shr (k := .u8) rfl e x _ _
theorem B8_shlI (z : Int) (h : 0 ≤ z) : binV .shl e (B8 x) (I z) = some (B8 (x <<< z.toNat)) := by
  obtain ⟨m, rfl⟩ := Int.eq_ofNat_of_zero_le h
  exact U_shl (k := .u8) rfl rfl e x _ _
theorem B8_shrI (z : Int) (h : 0 ≤ z) : binV .shr e (B8 x) (I z) = some (B8 (x >>> z.toNat)) := by
  obtain ⟨m, rfl⟩ := Int.eq_ofNat_of_zero_le h
  exact U_shr (k := .u8) rfl e x _ _
theorem B8_not : unV .xor (B8 x) = some (B8 (~~~x)) := U_not (k := .u8) rfl rfl x
theorem B8_neg : unV .neg (B8 x) = some (B8 (-x)) := U_neg (k := .u8) rfl rfl x
theorem B8_nat : natOf (B8 x) = some x.toNat := by simp [natOf, LE.intOf, B8]
end

section
variable (e : EqT) (x y : BitVec 32)
theorem B32_add : binV .add e (B32 x) (B32 y) = some (B32 (x + y)) := U_add (k := .u32) rfl rfl e x y
theorem B32_mul : binV .mul e (B32 x) (B32 y) = some (B32 (x * y)) := U_mul (k := .u32) rfl rfl e x y
theorem B32_sub : binV .sub e (B32 x) (B32 y) = some (B32 (x - y)) := U_sub (k := .u32) rfl rfl e x y
theorem B32_and : binV .and e (B32 x) (B32 y) = some (B32 (x &&& y)) := U_and (k := .u32) rfl rfl e x y
theorem B32_or : binV .or e (B32 x) (B32 y) = some (B32 (x ||| y)) := U_or (k := .u32) rfl rfl e x y
theorem B32_xor : binV .xor e (B32 x) (B32 y) = some (B32 (x ^^^ y)) := U_xor (k := .u32) rfl rfl e x y
theorem B32_andNot : binV .andNot e (B32 x) (B32 y) = some (B32 (x &&& ~~~y)) := U_andNot (k := .u32) rfl rfl e x y
theorem B32_rem (hy : (y == 0#32) = false) : binV .rem e (B32 x) (B32 y) = some (B32 (x % y)) := U_rem (k := .u32) e x y hy
theorem B32_quo (hy : (y == 0#32) = false) : binV .quo e (B32 x) (B32 y) = some (B32 (x / y)) := U_quo (k := .u32) rfl rfl e x y hy
theorem B32_eql : binV .eql e (B32 x) (B32 y) = some (Bo (x == y)) := U_eql (k := .u32) e x y
theorem B32_neq : binV .neq e (B32 x) (B32 y) = some (Bo (x != y)) := U_neq (k := .u32) e x y
theorem B32_lss : binV .lss e (B32 x) (B32 y) = some (Bo (decide (x < y))) := U_lss (k := .u32) e x y
theorem B32_leq : binV .leq e (B32 x) (B32 y) = some (Bo (decide (x ≤ y))) := U_leq (k := .u32) e x y
theorem B32_gtr : binV .gtr e (B32 x) (B32 y) = some (Bo (decide (y < x))) := U_gtr (k := .u32) e x y
theorem B32_geq : binV .geq e (B32 x) (B32 y) = some (Bo (decide (y ≤ x))) := U_geq (k := .u32) e x y
theorem B32_shl8 (z : BitVec 8) : binV .shl e (B32 x) (B8 z) = some (B32 (x <<< z.toNat)) := U_shl (k := .u32) rfl rfl e x _ _
theorem B32_shr8 (z : BitVec 8) : binV .shr e (B32 x) (B8 z) = some (B32 (x >>> z.toNat)) := U_shr (k := .u32) rfl e x _ _
theorem B32_shl32 (z : BitVec 32) : binV .shl e (B32 x) (B32 z) = some (B32 (x <<< z.toNat)) := U_shl (k := .u32) rfl rfl e x _ _
theorem B32_shr32 (z : BitVec 32) : binV .shr e (B32 x) (B32 z) = some (B32 (x >>> z.toNat)) := U_shr (k := .u32) rfl e x _ _
theorem B32_shl64 (z : BitVec 64) : binV .shl e (B32 x) (B64 z) = some (B32 (x <<< z.toNat)) := U_shl (k := .u32) rfl rfl e x _ _
theorem B32_shr64 (z : BitVec 64) : binV .shr e (B32 x) (B64 z) = some (B32 (x >>> z.toNat)) := U_shr (k := .u32) rfl e x _ _
theorem B32_shlI (z : Int) (h : 0 ≤ z) : binV .shl e (B32 x) (I z) = some (B32 (x <<< z.toNat)) := by
  obtain ⟨m, rfl⟩ := Int.eq_ofNat_of_zero_le h
  exact U_shl (k := .u32) rfl rfl e x _ _
theorem B32_shrI (z : Int) (h : 0 ≤ z) : binV .shr e (B32 x) (I z) = some (B32 (x >>> z.toNat)) := by
  obtain ⟨m, rfl⟩ := Int.eq_ofNat_of_zero_le h
  exact U_shr (k := .u32) rfl e x _ _
theorem B32_not : unV .xor (B32 x) = some (B32 (~~~x)) := U_not (k := .u32) rfl rfl x
theorem B32_neg : unV .neg (B32 x) = some (B32 (-x)) := U_neg (k := .u32) rfl rfl x
theorem B32_nat : natOf (B32 x) = some x.toNat := by simp [natOf, LE.intOf, B32]
end

section
variable (e : EqT) (x y : BitVec 64)
theorem B64_add : binV .add e (B64 x) (B64 y) = some (B64 (x + y)) := U_add (k := .u64) rfl rfl e x y
theorem B64_mul : binV .mul e (B64 x) (B64 y) = some (B64 (x * y)) := U_mul (k := .u64) rfl rfl e x y
theorem B64_sub : binV .sub e (B64 x) (B64 y) = some (B64 (x - y)) := U_sub (k := .u64) rfl rfl e x y
theorem B64_and : binV .and e (B64 x) (B64 y) = some (B64 (x &&& y)) := U_and (k := .u64) rfl rfl e x y
theorem B64_or : binV .or e (B64 x) (B64 y) = some (B64 (x ||| y)) := U_or (k := .u64) rfl rfl e x y
theorem B64_xor : binV .xor e (B64 x) (B64 y) = some (B64 (x ^^^ y)) := U_xor (k := .u64) rfl rfl e x y
theorem B64_andNot : binV .andNot e (B64 x) (B64 y) = some (B64 (x &&& ~~~y)) := U_andNot (k := .u64) rfl rfl e x y
theorem B64_rem (hy : (y == 0#64) = false) : binV .rem e (B64 x) (B64 y) = some (B64 (x % y)) := U_rem (k := .u64) e x y hy
theorem B64_quo (hy : (y == 0#64) = false) : binV .quo e (B64 x) (B64 y) = some (B64 (x / y)) := U_quo (k := .u64) rfl rfl e x y hy
theorem B64_eql : binV .eql e (B64 x) (B64 y) = some (Bo (x == y)) := U_eql (k := .u64) e x y
theorem B64_neq : binV .neq e (B64 x) (B64 y) = some (Bo (x != y)) := U_neq (k := .u64) e x y
theorem B64_lss : binV .lss e (B64 x) (B64 y) = some (Bo (decide (x < y))) := U_lss (k := .u64) e x y
theorem B64_leq : binV .leq e (B64 x) (B64 y) = some (Bo (decide (x ≤ y))) := U_leq (k := .u64) e x y
theorem B64_gtr : binV .gtr e (B64 x) (B64 y) = some (Bo (decide (y < x))) := U_gtr (k := .u64) e x y
theorem B64_geq : binV .geq e (B64 x) (B64 y) = some (Bo (decide (y ≤ x))) := U_geq (k := .u64) e x y
theorem B64_shl8 (z : BitVec 8) : binV .shl e (B64 x) (B8 z) = some (B64 (x <<< z.toNat)) := U_shl (k := .u64) rfl rfl e x _ _
theorem B64_shr8 (z : BitVec 8) : binV .shr e (B64 x) (B8 z) = some (B64 (x >>> z.toNat)) := U_shr (k := .u64) rfl e x _ _
theorem B64_shl32 (z : BitVec 32) : binV .shl e (B64 x) (B32 z) = some (B64 (x <<< z.toNat)) := U_shl (k := .u64) rfl rfl e x _ _
theorem B64_shr32 (z : BitVec 32) : binV .shr e (B64 x) (B32 z) = some (B64 (x >>> z.toNat)) := U_shr (k := .u64) rfl e x _ _
theorem B64_shl64 (z : BitVec 64) : binV .shl e (B64 x) (B64 z) = some (B64 (x <<< z.toNat)) := U_shl (k := .u64) rfl rfl e x _ _
theorem B64_shr64 (z : BitVec 64) : binV .shr e (B64 x) (B64 z) = some (B64 (x >>> z.toNat)) := U_shr (k := .u64) rfl e x _ _
theorem B64_shlI (z : Int) (h : 0 ≤ z) : binV .shl e (B64 x) (I z) = some (B64 (x <<< z.toNat)) := by
  obtain ⟨m, rfl⟩ := Int.eq_ofNat_of_zero_le h
  exact U_shl (k := .u64) rfl rfl e x _ _
theorem B64_shrI (z : Int) (h : 0 ≤ z) : binV .shr e (B64 x) (I z) = some (B64 (x >>> z.toNat)) := by
  obtain ⟨m, rfl⟩ := Int.eq_ofNat_of_zero_le h
  exact U_shr (k := .u64) rfl e x _ _
theorem B64_not : unV .xor (B64 x) = some (B64 (~~~x)) := U_not (k := .u64) rfl rfl x
theorem B64_neg : unV .neg (B64 x) = some (B64 (-x)) := U_neg (k := .u64) rfl rfl x
theorem B64_nat : natOf (B64 x) = some x.toNat := by simp [natOf, LE.intOf, B64]
end


/-! ### numbers that go from one kind to another -/

def cvtV (k : IntKind) : LV → Option LV
  | .v (.int _ n) => some (.v (.int k (k.wrap n)))
  | _ => none

theorem cvt_U {k k' : IntKind} {n m : Nat} (hk : k'.bits = m) (hs : k'.signed = false) (x : BitVec n) : cvtV k' (U k x) = some (U k' (x.setWidth m)) := by
  simp only [cvtV, U]
  rw [wrap_of_nat hk hs, BitVec.ofNat_toNat]

theorem cvt_UI {k' : IntKind} {m : Nat} (hk : k'.bits = m) (hs : k'.signed = false) (z : Int) : cvtV k' (I z) = some (U k' (BitVec.ofInt m z)) := by
  simp only [cvtV, U, I]
  rw [wrap_of_int hk hs]

theorem w64 (z : Int) (h : -9223372036854775808 ≤ z ∧ z < 9223372036854775808) : IntKind.i64.wrap z = z := by
  simp [IntKind.wrap, IntKind.bits, IntKind.signed]
  omega

theorem cvt_IU {k : IntKind} {n : Nat} (x : BitVec n) (h : n < 64) : cvtV .i64 (U k x) = some (I x.toNat) := by
  simp only [cvtV, U, I]
  rw [w64]
  have := x.isLt
  have : 2 ^ n ≤ 2 ^ 63 := Nat.pow_le_pow_right (by decide) (by omega)
  omega

theorem cvt_II (z : Int) (h : -9223372036854775808 ≤ z ∧ z < 9223372036854775808) : cvtV .i64 (I z) = some (I z) := by
  simp only [cvtV, I, w64 z h]

theorem cvt_I64 (x : BitVec 64) : cvtV .i64 (B64 x) = some (I x.toInt) := by
  simp only [cvtV, B64, I]
  congr 3
  simp only [IntKind.wrap, IntKind.bits, IntKind.signed, Bool.true_and, BitVec.toInt_eq_toNat_cond]
  have := x.isLt
  simp
  omega

theorem cvt_8_8 (x : BitVec 8) : cvtV .u8 (B8 x) = some (B8 (x.setWidth 8)) := cvt_U (k := .u8) (k' := .u8) rfl rfl x
theorem cvt_8_32 (x : BitVec 8) : cvtV .u32 (B8 x) = some (B32 (x.setWidth 32)) := cvt_U (k := .u8) (k' := .u32) rfl rfl x
theorem cvt_8_64 (x : BitVec 8) : cvtV .u64 (B8 x) = some (B64 (x.setWidth 64)) := cvt_U (k := .u8) (k' := .u64) rfl rfl x
theorem cvt_32_8 (x : BitVec 32) : cvtV .u8 (B32 x) = some (B8 (x.setWidth 8)) := cvt_U (k := .u32) (k' := .u8) rfl rfl x
theorem cvt_32_32 (x : BitVec 32) : cvtV .u32 (B32 x) = some (B32 (x.setWidth 32)) := cvt_U (k := .u32) (k' := .u32) rfl rfl x
theorem cvt_32_64 (x : BitVec 32) : cvtV .u64 (B32 x) = some (B64 (x.setWidth 64)) := cvt_U (k := .u32) (k' := .u64) rfl rfl x
theorem cvt_64_8 (x : BitVec 64) : cvtV .u8 (B64 x) = some (B8 (x.setWidth 8)) := cvt_U (k := .u64) (k' := .u8) rfl rfl x
theorem cvt_64_32 (x : BitVec 64) : cvtV .u32 (B64 x) = some (B32 (x.setWidth 32)) := cvt_U (k := .u64) (k' := .u32) rfl rfl x
theorem cvt_64_64 (x : BitVec 64) : cvtV .u64 (B64 x) = some (B64 (x.setWidth 64)) := cvt_U (k := .u64) (k' := .u64) rfl rfl x
theorem cvt_I_8 (z : Int) : cvtV .u8 (I z) = some (B8 (BitVec.ofInt 8 z)) := cvt_UI (k' := .u8) rfl rfl z
theorem cvt_I_32 (z : Int) : cvtV .u32 (I z) = some (B32 (BitVec.ofInt 32 z)) := cvt_UI (k' := .u32) rfl rfl z
theorem cvt_I_64 (z : Int) : cvtV .u64 (I z) = some (B64 (BitVec.ofInt 64 z)) := cvt_UI (k' := .u64) rfl rfl z
theorem cvt_8_I (x : BitVec 8) : cvtV .i64 (B8 x) = some (I x.toNat) := cvt_IU (k := .u8) x (by decide)
theorem cvt_32_I (x : BitVec 32) : cvtV .i64 (B32 x) = some (I x.toNat) := cvt_IU (k := .u32) x (by decide)

/-! ### whole numbers -/

section
variable (e : EqT) (a b : Int)
theorem I_add (h : -9223372036854775808 ≤ a + b ∧ a + b < 9223372036854775808) : binV .add e (I a) (I b) = some (I (a + b)) := by simp only [binV, I, binI, if_true, Option.map_some, w64 _ h]
theorem I_sub (h : -9223372036854775808 ≤ a - b ∧ a - b < 9223372036854775808) : binV .sub e (I a) (I b) = some (I (a - b)) := by simp only [binV, I, binI, if_true, Option.map_some, w64 _ h]
theorem I_mul (h : -9223372036854775808 ≤ a * b ∧ a * b < 9223372036854775808) : binV .mul e (I a) (I b) = some (I (a * b)) := by simp only [binV, I, binI, if_true, Option.map_some, w64 _ h]
theorem I_quo (hb : b ≠ 0) (h : -9223372036854775808 ≤ a.tdiv b ∧ a.tdiv b < 9223372036854775808) : binV .quo e (I a) (I b) = some (I (a.tdiv b)) := by simp only [binV, I, binI, if_true, Option.map_some, w64 _ h, if_neg hb]
theorem I_rem (hb : b ≠ 0) : binV .rem e (I a) (I b) = some (I (a.tmod b)) := by simp only [binV, I, binI, if_true, Option.map_some, if_neg hb]
theorem I_shl (z : Int) (hz : 0 ≤ z) (h : z < 64) (hb : -9223372036854775808 ≤ a * 2 ^ z.toNat ∧ a * 2 ^ z.toNat < 9223372036854775808) : binV .shl e (I a) (I z) = some (I (a * 2 ^ z.toNat)) := by
  simp only [binV, I, binI]
  rw [if_neg (by omega)]
  simp only [Option.map_some]
  rw [Nat.min_eq_left (by simp [IntKind.bits]; omega), w64 _ hb]
theorem I_shr (z : Int) (hz : 0 ≤ z) (h : z < 64) : binV .shr e (I a) (I z) = some (I (a / 2 ^ z.toNat)) := by
  simp only [binV, I, binI]
  rw [if_neg (by omega)]
  simp only [Option.map_some]
  rw [Nat.min_eq_left (by simp [IntKind.bits]; omega), Int.fdiv_eq_ediv_of_nonneg _ (Int.le_of_lt (Int.pow_pos (by decide)))]
theorem I_eql : binV .eql e (I a) (I b) = some (Bo (a == b)) := by simp only [binV, I, binI, if_true, cmpI, Option.map_some, Bo]
theorem I_neq : binV .neq e (I a) (I b) = some (Bo (a != b)) := by simp only [binV, I, binI, if_true, cmpI, Option.map_some, Bo]
theorem I_lss : binV .lss e (I a) (I b) = some (Bo (decide (a < b))) := by simp only [binV, I, binI, if_true, cmpI, Option.map_some, Bo]
theorem I_leq : binV .leq e (I a) (I b) = some (Bo (decide (a ≤ b))) := by simp only [binV, I, binI, if_true, cmpI, Option.map_some, Bo]
theorem I_gtr : binV .gtr e (I a) (I b) = some (Bo (decide (b < a))) := by simp only [binV, I, binI, if_true, cmpI, Option.map_some, Bo, gt_iff_lt]
theorem I_geq : binV .geq e (I a) (I b) = some (Bo (decide (b ≤ a))) := by simp only [binV, I, binI, if_true, cmpI, Option.map_some, Bo, ge_iff_le]
theorem I_nat (h : 0 ≤ a) : natOf (I a) = some a.toNat := by simp [natOf, LE.intOf, I, h]
end
theorem Bo_eql (a b : Bool) : binV .eql .bool (Bo a) (Bo b) = some (Bo (a == b)) := nf rfl
theorem Bo_neq (a b : Bool) : binV .neq .bool (Bo a) (Bo b) = some (Bo (!(a == b))) := nf rfl
theorem Bo_not (a : Bool) : unV .not (Bo a) = some (Bo (!a)) := nf rfl

end Go.LE
