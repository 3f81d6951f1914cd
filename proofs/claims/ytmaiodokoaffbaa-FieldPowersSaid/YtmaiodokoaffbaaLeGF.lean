set_option linter.unusedVariables false
set_option linter.unusedSimpArgs false
/- The field of polynomials over bits below degree n, modulo x^n + r: 'dbl r' is times x. -/
namespace GF
variable {n : Nat}

def dbl (r : BitVec n) (x : BitVec n) : BitVec n := (x <<< 1) ^^^ (if x.getLsbD (n - 1) then r else 0#n)

def dblN (r : BitVec n) : Nat → BitVec n → BitVec n
  | 0, x => x
  | k + 1, x => dblN r k (dbl r x)

/-- the sum over i < k of (b's bit i) times f i -/
def sumTo (p : Nat → Bool) (f : Nat → BitVec n) : Nat → BitVec n
  | 0 => 0#n
  | k + 1 => sumTo p f k ^^^ (if p k then f k else 0#n)

def mul (r : BitVec n) (a b : BitVec n) : BitVec n := sumTo (fun i => b.getLsbD i) (fun i => dblN r i a) n

theorem xor_self_cancel (a b : BitVec n) : a ^^^ (a ^^^ b) = b := by rw [← BitVec.xor_assoc, BitVec.xor_self, BitVec.zero_xor]

theorem xor4 (a b c d : BitVec n) : (a ^^^ b) ^^^ (c ^^^ d) = (a ^^^ c) ^^^ (b ^^^ d) := by
  rw [BitVec.xor_assoc, BitVec.xor_assoc, ← BitVec.xor_assoc b, BitVec.xor_comm b c, BitVec.xor_assoc c]

theorem ite_xor (p q : Bool) (r : BitVec n) : (if (p ^^ q) = true then r else 0#n) = (if p = true then r else 0#n) ^^^ (if q = true then r else 0#n) := by
  cases p <;> cases q <;> simp

theorem dbl_zero (r : BitVec n) : dbl r 0#n = 0#n := by simp [dbl]

theorem dbl_xor (r a b : BitVec n) : dbl r (a ^^^ b) = dbl r a ^^^ dbl r b := by
  unfold dbl
  rw [BitVec.getLsbD_xor, ite_xor, BitVec.shiftLeft_xor_distrib, xor4]

theorem dblN_zero (r : BitVec n) (k : Nat) : dblN r k 0#n = 0#n := by
  induction k with
  | zero => rfl
  | succ k ih => simp only [dblN, dbl_zero, ih]

theorem dblN_xor (r : BitVec n) (k : Nat) : ∀ a b, dblN r k (a ^^^ b) = dblN r k a ^^^ dblN r k b := by
  induction k with
  | zero => intro a b; rfl
  | succ k ih => intro a b; simp only [dblN, dbl_xor, ih]

theorem dblN_succ (r : BitVec n) (k : Nat) : ∀ a, dblN r (k + 1) a = dbl r (dblN r k a) := by
  induction k with
  | zero => intro a; rfl
  | succ k ih => intro a; show dblN r (k + 1) (dbl r a) = _; rw [ih]; rfl

theorem dblN_add (r : BitVec n) (j k : Nat) (a : BitVec n) : dblN r (j + k) a = dblN r j (dblN r k a) := by
  induction j with
  | zero => rw [Nat.zero_add]; rfl
  | succ j ih => rw [Nat.succ_add, dblN_succ, dblN_succ, ih]

theorem sumTo_congr {p q : Nat → Bool} {f g : Nat → BitVec n} (k : Nat) (hp : ∀ i, i < k → p i = q i) (hf : ∀ i, i < k → p i = true → f i = g i) : sumTo p f k = sumTo q g k := by
  induction k with
  | zero => rfl
  | succ k ih =>
    simp only [sumTo]
    rw [ih (fun i h => hp i (by omega)) (fun i h => hf i (by omega)), ← hp k (by omega)]
    by_cases h : p k = true
    · rw [if_pos h, if_pos h, hf k (by omega) h]
    · rw [if_neg h, if_neg h]

theorem sumTo_false (f : Nat → BitVec n) (k : Nat) : sumTo (fun _ => false) f k = 0#n := by
  induction k with
  | zero => rfl
  | succ k ih => simp [sumTo, ih]

theorem sumTo_pxor (p q : Nat → Bool) (f : Nat → BitVec n) (k : Nat) : sumTo (fun i => p i ^^ q i) f k = sumTo p f k ^^^ sumTo q f k := by
  induction k with
  | zero => simp [sumTo]
  | succ k ih => simp only [sumTo]; rw [ih, ite_xor, xor4]

theorem sumTo_map {m : Nat} (F : BitVec n → BitVec m) (h0 : F 0#n = 0#m) (hx : ∀ a b, F (a ^^^ b) = F a ^^^ F b) (p : Nat → Bool) (f : Nat → BitVec n) (k : Nat) :
    F (sumTo p f k) = sumTo p (fun i => F (f i)) k := by
  induction k with
  | zero => exact h0
  | succ k ih =>
    simp only [sumTo]; rw [hx, ih]
    by_cases h : p k = true
    · rw [if_pos h, if_pos h]
    · rw [if_neg h, if_neg h, h0]

theorem sumTo_fxor (p : Nat → Bool) (f g : Nat → BitVec n) (k : Nat) : sumTo p (fun i => f i ^^^ g i) k = sumTo p f k ^^^ sumTo p g k := by
  induction k with
  | zero => simp [sumTo]
  | succ k ih =>
    simp only [sumTo]; rw [ih]
    by_cases h : p k = true
    · simp only [if_pos h]; rw [xor4]
    · simp [if_neg h]

theorem mul_zero (r a : BitVec n) : mul r a 0#n = 0#n := by
  unfold mul
  rw [sumTo_congr n (q := fun _ => false) (g := fun i => dblN r i a) (fun i _ => by simp) (fun _ _ _ => rfl), sumTo_false]

theorem mul_xor (r a b c : BitVec n) : mul r a (b ^^^ c) = mul r a b ^^^ mul r a c := by
  unfold mul
  rw [← sumTo_pxor]
  exact sumTo_congr n (fun i _ => by simp) (fun _ _ _ => rfl)

theorem zero_mul (r b : BitVec n) : mul r 0#n b = 0#n := by
  unfold mul
  rw [sumTo_congr n (q := fun i => b.getLsbD i) (g := fun _ => 0#n) (fun _ _ => rfl) (fun i _ _ => dblN_zero r i)]
  have h := sumTo_map (n := n) (m := n) (fun _ => 0#n) rfl (fun _ _ => by simp) (fun i => b.getLsbD i) (fun _ => 0#n) n
  exact h.symm

theorem xor_mul (r a b c : BitVec n) : mul r (a ^^^ b) c = mul r a c ^^^ mul r b c := by
  unfold mul
  rw [← sumTo_fxor]
  exact sumTo_congr n (fun _ _ => rfl) (fun i _ _ => dblN_xor r i a b)

theorem dbl_mul (r a b : BitVec n) : mul r (dbl r a) b = dbl r (mul r a b) := by
  unfold mul
  rw [sumTo_map (dbl r) (dbl_zero r) (dbl_xor r)]
  exact sumTo_congr n (fun _ _ => rfl) (fun i _ _ => by rw [← dblN_succ]; rfl)

/-- below n doublings of 1 nothing runs over -/
theorem dblN_one (r : BitVec n) (hn : 0 < n) (i : Nat) (h : i < n) : dblN r i 1#n = BitVec.twoPow n i := by
  induction i with
  | zero => ext j hj; simp [dblN]
  | succ i ih =>
    rw [dblN_succ, ih (by omega)]
    unfold dbl
    have : (BitVec.twoPow n i).getLsbD (n - 1) = false := by simp [BitVec.getLsbD_twoPow]; omega
    rw [this]
    simp only [Bool.false_eq_true, if_false, BitVec.xor_zero]
    ext j hj
    simp
    by_cases h0 : j = 0
    · subst h0; simp
    · simp [h0]; constructor <;> intro h <;> omega

theorem dblN_one_n (r : BitVec n) (hn : 0 < n) : dblN r n 1#n = r := by
  obtain ⟨m, rfl⟩ : ∃ m, n = m + 1 := ⟨n - 1, by omega⟩
  rw [dblN_succ, dblN_one r hn m (by omega)]
  unfold dbl
  have : (BitVec.twoPow (m + 1) m).getLsbD (m + 1 - 1) = true := by simp
  rw [this]
  simp only [if_true]
  have h0 : (BitVec.twoPow (m + 1) m) <<< 1 = 0#(m + 1) := by
    ext j hj
    simp
    omega
  rw [h0, BitVec.zero_xor]

theorem sumTo_twoPow (b : BitVec n) (k : Nat) (hk : k ≤ n) (j : Nat) (hj : j < n) :
    (sumTo (fun i => b.getLsbD i) (fun i => BitVec.twoPow n i) k).getLsbD j = (decide (j < k) && b.getLsbD j) := by
  induction k with
  | zero => simp [sumTo]
  | succ k ih =>
    simp only [sumTo]
    rw [BitVec.getLsbD_xor, ih (by omega)]
    by_cases h : b.getLsbD k = true
    · rw [if_pos h, BitVec.getLsbD_twoPow]
      by_cases e : j = k
      · subst e; simp [h, hj]
      · have : decide (k = j) = false := by simp; omega
        simp only [this, Bool.and_false, Bool.xor_false]
        congr 1
        simp; omega
    · rw [if_neg h]
      by_cases e : j = k
      · subst e; simp at h; simp [h]
      · simp only [BitVec.getLsbD_zero, Bool.xor_false]
        congr 1
        simp; omega

theorem one_mul (r b : BitVec n) (hn : 0 < n) : mul r 1#n b = b := by
  unfold mul
  rw [sumTo_congr n (q := fun i => b.getLsbD i) (g := fun i => BitVec.twoPow n i) (fun _ _ => rfl) (fun i h _ => dblN_one r hn i h)]
  apply BitVec.eq_of_getLsbD_eq
  intro j hj
  rw [sumTo_twoPow b n (Nat.le_refl _) j hj]
  simp [hj]

/-- two maps that respect sums and doublings are one map, if they are at 1 -/
theorem same_of_one (r : BitVec n) (hn : 0 < n) (f g : BitVec n → BitVec n) (f0 : f 0#n = 0#n) (g0 : g 0#n = 0#n)
    (fx : ∀ a b, f (a ^^^ b) = f a ^^^ f b) (gx : ∀ a b, g (a ^^^ b) = g a ^^^ g b) (fd : ∀ a, f (dbl r a) = dbl r (f a)) (gd : ∀ a, g (dbl r a) = dbl r (g a))
    (h1 : f 1#n = g 1#n) (b : BitVec n) : f b = g b := by
  have fN : ∀ k, f (dblN r k 1#n) = dblN r k (f 1#n) := by
    intro k; induction k with
    | zero => rfl
    | succ k ih => rw [dblN_succ, fd, ih, ← dblN_succ]
  have gN : ∀ k, g (dblN r k 1#n) = dblN r k (g 1#n) := by
    intro k; induction k with
    | zero => rfl
    | succ k ih => rw [dblN_succ, gd, ih, ← dblN_succ]
  have hb := one_mul r b hn
  rw [← hb]
  unfold mul
  rw [sumTo_map f f0 fx, sumTo_map g g0 gx]
  exact sumTo_congr n (fun _ _ => rfl) (fun i _ _ => by rw [fN, gN, h1])

theorem mul_one (r a : BitVec n) (hn : 0 < n) : mul r a 1#n = a :=
  same_of_one r hn (fun a => mul r a 1#n) (fun a => a) (zero_mul r _) rfl (fun a b => xor_mul r a b _) (fun _ _ => rfl) (fun a => dbl_mul r a _) (fun _ => rfl) (one_mul r _ hn) a

theorem dblN_dbl (r : BitVec n) (k : Nat) (a : BitVec n) : dblN r k (dbl r a) = dbl r (dblN r k a) := by rw [← dblN_succ]; rfl

theorem mul_r (r a : BitVec n) (hn : 0 < n) : mul r a r = dblN r n a :=
  same_of_one r hn (fun a => mul r a r) (fun a => dblN r n a) (zero_mul r _) (dblN_zero r n) (fun a b => xor_mul r a b _) (dblN_xor r n) (fun a => dbl_mul r a _)
    (dblN_dbl r n) ((one_mul r r hn).trans (dblN_one_n r hn).symm) a

theorem mul_dbl (r a b : BitVec n) (hn : 0 < n) : mul r a (dbl r b) = dbl r (mul r a b) := by
  obtain ⟨m, rfl⟩ : ∃ m, n = m + 1 := ⟨n - 1, by omega⟩
  have e1 : mul r a (dbl r b) = mul r a (b <<< 1) ^^^ (if b.getLsbD m then dblN r (m + 1) a else 0#(m + 1)) := by
    show mul r a ((b <<< 1) ^^^ (if b.getLsbD (m + 1 - 1) then r else 0#(m + 1))) = _
    rw [mul_xor]
    congr 1
    rw [Nat.add_sub_cancel]
    by_cases h : b.getLsbD m = true
    · rw [if_pos h, if_pos h, mul_r r a hn]
    · rw [if_neg h, if_neg h, mul_zero]
  have e2 : ∀ k, k ≤ m → sumTo (fun i => (b <<< 1).getLsbD i) (fun i => dblN r i a) (k + 1) = dbl r (sumTo (fun i => b.getLsbD i) (fun i => dblN r i a) k) := by
    intro k hk
    induction k with
    | zero => simp [sumTo, dbl_zero]
    | succ k ih =>
      rw [show sumTo (fun i => (b <<< 1).getLsbD i) (fun i => dblN r i a) (k + 1 + 1) = sumTo (fun i => (b <<< 1).getLsbD i) (fun i => dblN r i a) (k + 1) ^^^ (if (b <<< 1).getLsbD (k + 1) then dblN r (k + 1) a else 0#(m + 1)) from rfl]
      rw [ih (by omega)]
      rw [show sumTo (fun i => b.getLsbD i) (fun i => dblN r i a) (k + 1) = sumTo (fun i => b.getLsbD i) (fun i => dblN r i a) k ^^^ (if b.getLsbD k then dblN r k a else 0#(m + 1)) from rfl]
      rw [dbl_xor]
      congr 1
      have : (b <<< 1).getLsbD (k + 1) = b.getLsbD k := by simp [BitVec.getLsbD_shiftLeft]; intro _; omega
      rw [this]
      by_cases h : b.getLsbD k = true
      · rw [if_pos h, if_pos h, dblN_succ]
      · rw [if_neg h, if_neg h, dbl_zero]
  rw [e1]
  show sumTo (fun i => (b <<< 1).getLsbD i) (fun i => dblN r i a) (m + 1) ^^^ _ = dbl r (sumTo (fun i => b.getLsbD i) (fun i => dblN r i a) m ^^^ (if b.getLsbD m then dblN r m a else 0#(m + 1)))
  rw [e2 m (Nat.le_refl _), dbl_xor]
  congr 1
  by_cases h : b.getLsbD m = true
  · rw [if_pos h, if_pos h, dblN_succ]
  · rw [if_neg h, if_neg h, dbl_zero]

theorem mul_comm (r a b : BitVec n) (hn : 0 < n) : mul r a b = mul r b a :=
  same_of_one r hn (fun b => mul r a b) (fun b => mul r b a) (mul_zero r a) (zero_mul r a) (mul_xor r a) (fun b c => xor_mul r b c a)
    (fun b => mul_dbl r a b hn) (fun b => dbl_mul r b a) ((mul_one r a hn).trans (one_mul r a hn).symm) b

theorem mul_assoc (r a b c : BitVec n) (hn : 0 < n) : mul r (mul r a b) c = mul r a (mul r b c) :=
  same_of_one r hn (fun c => mul r (mul r a b) c) (fun c => mul r a (mul r b c)) (mul_zero r _) (by rw [mul_zero, mul_zero]) (mul_xor r _) (fun x y => by rw [mul_xor, mul_xor])
    (fun x => mul_dbl r _ x hn) (fun x => by rw [mul_dbl r _ _ hn, mul_dbl r _ _ hn]) (by rw [mul_one r _ hn, mul_one r _ hn]) c

theorem mul_two (r a : BitVec n) (hn : 1 < n) : mul r a (2#n) = dbl r a := by
  have h2 : (2#n) = dbl r 1#n := by
    have h := dblN_one r (by omega) 1 hn
    rw [show dblN r 1 1#n = dbl r 1#n from rfl] at h
    rw [h]
    apply BitVec.eq_of_toNat_eq
    simp [BitVec.toNat_twoPow]
  rw [h2, mul_dbl r _ _ (by omega), mul_one r _ (by omega)]

theorem dbl_half (r b : BitVec n) : dbl r (b >>> 1) = (b >>> 1) <<< 1 := by
  unfold dbl
  have : (b >>> 1).getLsbD (n - 1) = false := by
    rw [BitVec.getLsbD_ushiftRight]
    exact BitVec.getLsbD_of_ge _ _ (by omega)
  rw [this]
  simp

theorem low_split (b : BitVec n) : (b &&& 1#n) ^^^ ((b >>> 1) <<< 1) = b := by
  apply BitVec.eq_of_getLsbD_eq
  intro i hi
  simp only [BitVec.getLsbD_xor, BitVec.getLsbD_and, BitVec.getLsbD_shiftLeft, BitVec.getLsbD_ushiftRight, BitVec.getLsbD_one]
  by_cases h : i = 0
  · subst h; simp [hi]
  · have h1 : 1 + (i - 1) = i := by omega
    simp [h, hi, h1]

theorem mul_step (r a b : BitVec n) (hn : 0 < n) : mul r a b = (if b &&& 1#n = 1#n then a else 0#n) ^^^ mul r (dbl r a) (b >>> 1) := by
  have h1 : mul r a b = mul r a (b &&& 1#n) ^^^ mul r a ((b >>> 1) <<< 1) := by rw [← mul_xor, low_split]
  rw [h1, ← dbl_half r, mul_dbl r _ _ hn, ← dbl_mul]
  congr 1
  split
  · rename_i h; rw [h, mul_one r a hn]
  · rename_i h
    have : b &&& 1#n = 0#n := by
      apply BitVec.eq_of_getLsbD_eq
      intro i hi
      simp only [BitVec.getLsbD_and, BitVec.getLsbD_one, BitVec.getLsbD_zero]
      by_cases h0 : i = 0
      · subst h0
        cases hb : b.getLsbD 0
        · simp
        · exfalso; apply h
          apply BitVec.eq_of_getLsbD_eq
          intro j hj
          simp only [BitVec.getLsbD_and, BitVec.getLsbD_one]
          by_cases h0 : j = 0
          · subst h0; simp [hb, hj]
          · simp [h0]
      · simp [h0]
    rw [this, mul_zero]

end GF
