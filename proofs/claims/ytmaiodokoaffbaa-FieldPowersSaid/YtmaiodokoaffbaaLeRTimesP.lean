/- The document's product of tweaks: the plain part. -/
import Derived.Test.YtmaiodokoaffbaaLeFromBits
set_option linter.unusedVariables false
set_option linter.unusedSimpArgs false
namespace Field
open Go Go.LE

abbrev X (m : Nat) : BitVec 128 := GF.dblN 135#128 m 1#128
def V (p : Nat → Bool) : BitVec 128 := GF.sumTo p X 256

theorem sum_flip (p : Nat → Bool) (f : Nat → BitVec 128) (i : Nat) : ∀ n, GF.sumTo (set1 p i (!p i)) f n = GF.sumTo p f n ^^^ (if i < n then f i else 0#128) := by
  intro n
  induction n with
  | zero => simp [GF.sumTo]
  | succ n ih =>
    simp only [GF.sumTo, ih]
    by_cases h : i = n
    · subst h
      have h1 : (if i < i then f i else 0#128) = 0#128 := if_neg (Nat.lt_irrefl _)
      have h2 : (if i < i + 1 then f i else 0#128) = f i := if_pos (Nat.lt_succ_self _)
      rw [set1_same, h1, h2]
      cases p i
      · simp
      · simp [BitVec.xor_assoc]
    · rw [set1_other _ _ _ _ (fun e => h e.symm)]
      have : (i < n + 1) ↔ (i < n) := by omega
      simp only [this]
      rw [BitVec.xor_assoc, BitVec.xor_comm (if i < n then f i else 0#128), ← BitVec.xor_assoc]

theorem V_flip (p : Nat → Bool) (i : Nat) (h : i < 256) : V (set1 p i (!p i)) = V p ^^^ X i := by
  rw [V, sum_flip, if_pos h]; rfl
theorem V_off (p : Nat → Bool) (i : Nat) (h : i < 256) (hp : p i = true) : V (set1 p i false) = V p ^^^ X i := by
  rw [← V_flip p i h, hp]; rfl

theorem sum_bit (p : Nat → Bool) : ∀ n, n ≤ 128 → ∀ j, j < 128 → (GF.sumTo p X n).getLsbD j = (decide (j < n) && p j) := by
  intro n
  induction n with
  | zero => intro _ j _; simp [GF.sumTo]
  | succ n ih =>
    intro hn j hj
    rw [GF.sumTo, BitVec.getLsbD_xor, ih (by omega) j hj]
    have hx : (X n).getLsbD j = decide (j = n) := by
      rw [X, GF.dblN_one _ (by decide) _ (by omega), BitVec.getLsbD_twoPow]
      have hn2 : n < 128 := by omega
      simp only [hn2, decide_true, Bool.true_and]
      exact decide_eq_decide.2 ⟨fun h => h.symm, fun h => h.symm⟩
    by_cases h : j = n
    · subst h
      cases hp : p j <;> simp [hx]
    · have h1 : (j < n + 1) ↔ (j < n) := by omega
      simp only [h1]
      cases hp : p n <;> simp [hx, h]

theorem sum_ofBits (p : Nat → Bool) : GF.sumTo p X 128 = ofBits p := by
  apply BitVec.eq_of_getLsbD_eq
  intro j hj
  rw [sum_bit p 128 (by omega) j hj, ofBits_bit]

theorem sum_above (p : Nat → Bool) (f : Nat → BitVec 128) (h : ∀ m, 128 ≤ m → m < 256 → p m = false) : ∀ d, d ≤ 128 → GF.sumTo p f (128 + d) = GF.sumTo p f 128 := by
  intro d
  induction d with
  | zero => intro _; rfl
  | succ d ih =>
    intro hd
    rw [← Nat.add_assoc, GF.sumTo, ih (by omega), h (128 + d) (by omega) (by omega)]
    simp

theorem V_ofBits (p : Nat → Bool) (h : ∀ m, 128 ≤ m → m < 256 → p m = false) : V p = ofBits p := by
  rw [V, show 256 = 128 + 128 from rfl, sum_above p X h 128 (by omega), sum_ofBits]

theorem ofBits_self (a : BitVec 128) : ofBits (fun j => a.getLsbD j) = a := by
  apply BitVec.eq_of_getLsbD_eq
  intro j hj
  rw [ofBits_bit]; simp [hj]

theorem dblN_sum (i : Nat) (p : Nat → Bool) (f : Nat → BitVec 128) : ∀ n, GF.dblN 135#128 i (GF.sumTo p f n) = GF.sumTo p (fun k => GF.dblN 135#128 i (f k)) n := by
  intro n
  induction n with
  | zero => exact GF.dblN_zero _ _
  | succ n ih =>
    rw [GF.sumTo, GF.dblN_xor, ih, GF.sumTo]
    congr 1
    split
    · rfl
    · exact GF.dblN_zero _ _

/-- the row i of the product -/
theorem row_eq (b : BitVec 128) (i : Nat) : GF.sumTo (fun k => b.getLsbD k) (fun k => X (i + k)) 128 = GF.dblN 135#128 i b := by
  have e : GF.sumTo (fun k => b.getLsbD k) X 128 = b := by rw [sum_ofBits, ofBits_self]
  have e2 := dblN_sum i (fun k => b.getLsbD k) X 128
  rw [e] at e2
  rw [e2]
  apply GF.sumTo_congr
  · intro _ _; rfl
  · intro k _ _
    rw [X, GF.dblN_add]

theorem X_red (i : Nat) (h : 128 ≤ i) : X i ^^^ X (i - 128) ^^^ X (i - 127) ^^^ X (i - 126) ^^^ X (i - 121) = 0#128 := by
  obtain ⟨d, rfl⟩ : ∃ d, i = d + 128 := ⟨i - 128, by omega⟩
  have e0 : X (d + 128) = GF.dblN 135#128 d 135#128 := by rw [X, GF.dblN_add, GF.dblN_one_n _ (by decide)]
  have e1 : ∀ c, X (d + c) = GF.dblN 135#128 d (X c) := fun c => by rw [X, GF.dblN_add]
  have k0 : X 0 = 1#128 := by decide
  have k1 : X 1 = 2#128 := by decide
  have k2 : X 2 = 4#128 := by decide
  have k7 : X 7 = 128#128 := by decide
  rw [show d + 128 - 128 = d + 0 by omega, show d + 128 - 127 = d + 1 by omega, show d + 128 - 126 = d + 2 by omega, show d + 128 - 121 = d + 7 by omega, e0, e1 0, e1 1, e1 2, e1 7, k0, k1, k2, k7,
    ← GF.dblN_xor, ← GF.dblN_xor, ← GF.dblN_xor, ← GF.dblN_xor]
  rw [show (135#128 ^^^ 1#128 ^^^ 2#128 ^^^ 4#128 ^^^ 128#128) = 0#128 by decide, GF.dblN_zero]

end Field
