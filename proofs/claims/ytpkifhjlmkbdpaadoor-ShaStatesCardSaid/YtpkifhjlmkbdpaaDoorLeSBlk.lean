/- Some blocks, reckoned round by round. (Printed by wip/tools/mkblk.py.) -/
import Derived.Test.YtpkifhjlmkbdpaaDoorLeSRSum
set_option linter.unusedVariables false
set_option linter.unusedSimpArgs false
namespace Sha
open Go Go.LE

def toV (l : List (BitVec 32)) : Nat → BitVec 32 := vec8 (l.getD 0 0#32) (l.getD 1 0#32) (l.getD 2 0#32) (l.getD 3 0#32) (l.getD 4 0#32) (l.getD 5 0#32) (l.getD 6 0#32) (l.getD 7 0#32)
def stepL (l : List (BitVec 32)) (k w : BitVec 32) : List (BitVec 32) := let s := toV l
  [one s k w + two s, s 0, s 1, s 2, s 3 + one s k w, s 4, s 5, s 6]
def addL (a b : List (BitVec 32)) : List (BitVec 32) := List.zipWith (· + ·) a b

theorem set_take (L : List (BitVec 32)) (i : Nat) (h : i < L.length) : set1 (fun j => (L.take i).getD j 0#32) i (L.getD i 0#32) = fun j => (L.take (i + 1)).getD j 0#32 := by
  funext j
  simp only [set1, List.getD_eq_getElem?_getD, List.getElem?_take]
  by_cases hj : j = i
  · subst hj; simp
  · rw [if_neg hj]
    by_cases h2 : j < i
    · rw [if_pos h2, if_pos (by omega)]
    · rw [if_neg h2, if_neg (by omega)]

theorem W_list (p : Nat → BitVec 8) (L : List (BitVec 32)) (hl : L.length = 64) (h : ∀ i, i < 64 → wstep p (fun j => (L.take i).getD j 0#32) i = L.getD i 0#32) :
    ∀ i, i ≤ 64 → W p i = fun j => (L.take i).getD j 0#32 := by
  intro i
  induction i with
  | zero => intro _; funext j; simp [W]
  | succ i ih => intro hi; rw [W, ih (by omega), h i (by omega), set_take L i (by omega)]

theorem R_list (w : Nat → BitVec 32) (S : List (List (BitVec 32))) (h : ∀ i, i < 64 → stepL (S.getD i []) (kc i) (w i) = S.getD (i + 1) []) :
    ∀ i, i ≤ 64 → R (toV (S.getD 0 [])) w i = toV (S.getD i []) := by
  intro i
  induction i with
  | zero => intro _; rfl
  | succ i ih => intro hi; rw [R, ih (by omega), ← h i (by omega)]; rfl

theorem add_toV (a b c : List (BitVec 32)) (h : ∀ j, j < 8 → toV a j + toV b j = toV c j) : addW (toV a) (toV b) = toV c := by
  funext j
  by_cases hj : j < 8
  · exact h j hj
  · obtain ⟨d, rfl⟩ : ∃ d, j = d + 8 := ⟨j - 8, by omega⟩
    show (0#32 : BitVec 32) + 0#32 = 0#32
    decide

theorem blk_list (p : Nat → BitVec 8) (L : List (BitVec 32)) (S : List (List (BitVec 32))) (c : List (BitVec 32)) (hl : L.length = 64) (h1 : ∀ i, i < 64 → wstep p (fun j => (L.take i).getD j 0#32) i = L.getD i 0#32)
    (h2 : ∀ i, i < 64 → stepL (S.getD i []) (kc i) (L.getD i 0#32) = S.getD (i + 1) []) (h3 : ∀ j, j < 8 → toV (S.getD 0 []) j + toV (S.getD 64 []) j = toV c j) : blk (toV (S.getD 0 [])) p = toV c := by
  have e : W p 64 = fun j => L.getD j 0#32 := by
    rw [W_list p L hl h1 64 (Nat.le_refl _), List.take_of_length_le (by omega)]
  rw [blk, e, R_list _ S h2 64 (Nat.le_refl _), add_toV _ _ c h3]

def p_abc : List (BitVec 8) := [97#8, 98#8, 99#8, 128#8, 0#8, 0#8, 0#8, 0#8, 0#8, 0#8, 0#8, 0#8, 0#8, 0#8, 0#8, 0#8, 0#8, 0#8, 0#8, 0#8, 0#8, 0#8, 0#8, 0#8, 0#8, 0#8, 0#8, 0#8, 0#8, 0#8, 0#8, 0#8, 0#8, 0#8, 0#8, 0#8, 0#8, 0#8, 0#8, 0#8, 0#8, 0#8, 0#8, 0#8, 0#8, 0#8, 0#8, 0#8, 0#8, 0#8, 0#8, 0#8, 0#8, 0#8, 0#8, 0#8, 0#8, 0#8, 0#8, 0#8, 0#8, 0#8, 0#8, 24#8]
def L_abc : List (BitVec 32) := [0x61626380#32, 0x00000000#32, 0x00000000#32, 0x00000000#32, 0x00000000#32, 0x00000000#32, 0x00000000#32, 0x00000000#32, 0x00000000#32, 0x00000000#32, 0x00000000#32, 0x00000000#32, 0x00000000#32, 0x00000000#32, 0x00000000#32, 0x00000018#32, 0x61626380#32, 0x000f0000#32, 0x7da86405#32, 0x600003c6#32, 0x3e9d7b78#32, 0x0183fc00#32, 0x12dcbfdb#32, 0xe2e2c38e#32, 0xc8215c1a#32, 0xb73679a2#32, 0xe5bc3909#32, 0x32663c5b#32, 0x9d209d67#32, 0xec8726cb#32, 0x702138a4#32, 0xd3b7973b#32, 0x93f5997f#32, 0x3b68ba73#32, 0xaff4ffc1#32, 0xf10a5c62#32, 0x0a8b3996#32, 0x72af830a#32, 0x9409e33e#32, 0x24641522#32, 0x9f47bf94#32, 0xf0a64f5a#32, 0x3e246a79#32, 0x27333ba3#32, 0x0c4763f2#32, 0x840abf27#32, 0x7a290d5d#32, 0x065c43da#32, 0xfb3e89cb#32, 0xcc7617db#32, 0xb9e66c34#32, 0xa9993667#32, 0x84badedd#32, 0xc21462bc#32, 0x1487472c#32, 0xb20f7a99#32, 0xef57b9cd#32, 0xebe6b238#32, 0x9fe3095e#32, 0x78bc8d4b#32, 0xa43fcf15#32, 0x668b2ff8#32, 0xeeaba2cc#32, 0x12b1edeb#32]
def S_abc : List (List (BitVec 32)) := [[0x6a09e667#32, 0xbb67ae85#32, 0x3c6ef372#32, 0xa54ff53a#32, 0x510e527f#32, 0x9b05688c#32, 0x1f83d9ab#32, 0x5be0cd19#32],
  [0x5d6aebcd#32, 0x6a09e667#32, 0xbb67ae85#32, 0x3c6ef372#32, 0xfa2a4622#32, 0x510e527f#32, 0x9b05688c#32, 0x1f83d9ab#32],
  [0x5a6ad9ad#32, 0x5d6aebcd#32, 0x6a09e667#32, 0xbb67ae85#32, 0x78ce7989#32, 0xfa2a4622#32, 0x510e527f#32, 0x9b05688c#32],
  [0xc8c347a7#32, 0x5a6ad9ad#32, 0x5d6aebcd#32, 0x6a09e667#32, 0xf92939eb#32, 0x78ce7989#32, 0xfa2a4622#32, 0x510e527f#32],
  [0xd550f666#32, 0xc8c347a7#32, 0x5a6ad9ad#32, 0x5d6aebcd#32, 0x24e00850#32, 0xf92939eb#32, 0x78ce7989#32, 0xfa2a4622#32],
  [0x04409a6a#32, 0xd550f666#32, 0xc8c347a7#32, 0x5a6ad9ad#32, 0x43ada245#32, 0x24e00850#32, 0xf92939eb#32, 0x78ce7989#32],
  [0x2b4209f5#32, 0x04409a6a#32, 0xd550f666#32, 0xc8c347a7#32, 0x714260ad#32, 0x43ada245#32, 0x24e00850#32, 0xf92939eb#32],
  [0xe5030380#32, 0x2b4209f5#32, 0x04409a6a#32, 0xd550f666#32, 0x9b27a401#32, 0x714260ad#32, 0x43ada245#32, 0x24e00850#32],
  [0x85a07b5f#32, 0xe5030380#32, 0x2b4209f5#32, 0x04409a6a#32, 0x0c657a79#32, 0x9b27a401#32, 0x714260ad#32, 0x43ada245#32],
  [0x8e04ecb9#32, 0x85a07b5f#32, 0xe5030380#32, 0x2b4209f5#32, 0x32ca2d8c#32, 0x0c657a79#32, 0x9b27a401#32, 0x714260ad#32],
  [0x8c87346b#32, 0x8e04ecb9#32, 0x85a07b5f#32, 0xe5030380#32, 0x1cc92596#32, 0x32ca2d8c#32, 0x0c657a79#32, 0x9b27a401#32],
  [0x4798a3f4#32, 0x8c87346b#32, 0x8e04ecb9#32, 0x85a07b5f#32, 0x436b23e8#32, 0x1cc92596#32, 0x32ca2d8c#32, 0x0c657a79#32],
  [0xf71fc5a9#32, 0x4798a3f4#32, 0x8c87346b#32, 0x8e04ecb9#32, 0x816fd6e9#32, 0x436b23e8#32, 0x1cc92596#32, 0x32ca2d8c#32],
  [0x87912990#32, 0xf71fc5a9#32, 0x4798a3f4#32, 0x8c87346b#32, 0x1e578218#32, 0x816fd6e9#32, 0x436b23e8#32, 0x1cc92596#32],
  [0xd932eb16#32, 0x87912990#32, 0xf71fc5a9#32, 0x4798a3f4#32, 0x745a48de#32, 0x1e578218#32, 0x816fd6e9#32, 0x436b23e8#32],
  [0xc0645fde#32, 0xd932eb16#32, 0x87912990#32, 0xf71fc5a9#32, 0x0b92f20c#32, 0x745a48de#32, 0x1e578218#32, 0x816fd6e9#32],
  [0xb0fa238e#32, 0xc0645fde#32, 0xd932eb16#32, 0x87912990#32, 0x07590dcd#32, 0x0b92f20c#32, 0x745a48de#32, 0x1e578218#32],
  [0x21da9a9b#32, 0xb0fa238e#32, 0xc0645fde#32, 0xd932eb16#32, 0x8034229c#32, 0x07590dcd#32, 0x0b92f20c#32, 0x745a48de#32],
  [0xc2fbd9d1#32, 0x21da9a9b#32, 0xb0fa238e#32, 0xc0645fde#32, 0x846ee454#32, 0x8034229c#32, 0x07590dcd#32, 0x0b92f20c#32],
  [0xfe777bbf#32, 0xc2fbd9d1#32, 0x21da9a9b#32, 0xb0fa238e#32, 0xcc899961#32, 0x846ee454#32, 0x8034229c#32, 0x07590dcd#32],
  [0xe1f20c33#32, 0xfe777bbf#32, 0xc2fbd9d1#32, 0x21da9a9b#32, 0xb0638179#32, 0xcc899961#32, 0x846ee454#32, 0x8034229c#32],
  [0x9dc68b63#32, 0xe1f20c33#32, 0xfe777bbf#32, 0xc2fbd9d1#32, 0x8ada8930#32, 0xb0638179#32, 0xcc899961#32, 0x846ee454#32],
  [0xc2606d6d#32, 0x9dc68b63#32, 0xe1f20c33#32, 0xfe777bbf#32, 0xe1257970#32, 0x8ada8930#32, 0xb0638179#32, 0xcc899961#32],
  [0xa7a3623f#32, 0xc2606d6d#32, 0x9dc68b63#32, 0xe1f20c33#32, 0x49f5114a#32, 0xe1257970#32, 0x8ada8930#32, 0xb0638179#32],
  [0xc5d53d8d#32, 0xa7a3623f#32, 0xc2606d6d#32, 0x9dc68b63#32, 0xaa47c347#32, 0x49f5114a#32, 0xe1257970#32, 0x8ada8930#32],
  [0x1c2c2838#32, 0xc5d53d8d#32, 0xa7a3623f#32, 0xc2606d6d#32, 0x2823ef91#32, 0xaa47c347#32, 0x49f5114a#32, 0xe1257970#32],
  [0xcde8037d#32, 0x1c2c2838#32, 0xc5d53d8d#32, 0xa7a3623f#32, 0x14383d8e#32, 0x2823ef91#32, 0xaa47c347#32, 0x49f5114a#32],
  [0xb62ec4bc#32, 0xcde8037d#32, 0x1c2c2838#32, 0xc5d53d8d#32, 0xc74c6516#32, 0x14383d8e#32, 0x2823ef91#32, 0xaa47c347#32],
  [0x77d37528#32, 0xb62ec4bc#32, 0xcde8037d#32, 0x1c2c2838#32, 0xedffbff8#32, 0xc74c6516#32, 0x14383d8e#32, 0x2823ef91#32],
  [0x363482c9#32, 0x77d37528#32, 0xb62ec4bc#32, 0xcde8037d#32, 0x6112a3b7#32, 0xedffbff8#32, 0xc74c6516#32, 0x14383d8e#32],
  [0xa0060b30#32, 0x363482c9#32, 0x77d37528#32, 0xb62ec4bc#32, 0xade79437#32, 0x6112a3b7#32, 0xedffbff8#32, 0xc74c6516#32],
  [0xea992a22#32, 0xa0060b30#32, 0x363482c9#32, 0x77d37528#32, 0x0109ab3a#32, 0xade79437#32, 0x6112a3b7#32, 0xedffbff8#32],
  [0x73b33bf5#32, 0xea992a22#32, 0xa0060b30#32, 0x363482c9#32, 0xba591112#32, 0x0109ab3a#32, 0xade79437#32, 0x6112a3b7#32],
  [0x98e12507#32, 0x73b33bf5#32, 0xea992a22#32, 0xa0060b30#32, 0x9cd9f5f6#32, 0xba591112#32, 0x0109ab3a#32, 0xade79437#32],
  [0xfe604df5#32, 0x98e12507#32, 0x73b33bf5#32, 0xea992a22#32, 0x59249dd3#32, 0x9cd9f5f6#32, 0xba591112#32, 0x0109ab3a#32],
  [0xa9a7738c#32, 0xfe604df5#32, 0x98e12507#32, 0x73b33bf5#32, 0x085f3833#32, 0x59249dd3#32, 0x9cd9f5f6#32, 0xba591112#32],
  [0x65a0cfe4#32, 0xa9a7738c#32, 0xfe604df5#32, 0x98e12507#32, 0xf4b002d6#32, 0x085f3833#32, 0x59249dd3#32, 0x9cd9f5f6#32],
  [0x41a65cb1#32, 0x65a0cfe4#32, 0xa9a7738c#32, 0xfe604df5#32, 0x0772a26b#32, 0xf4b002d6#32, 0x085f3833#32, 0x59249dd3#32],
  [0x34df1604#32, 0x41a65cb1#32, 0x65a0cfe4#32, 0xa9a7738c#32, 0xa507a53d#32, 0x0772a26b#32, 0xf4b002d6#32, 0x085f3833#32],
  [0x6dc57a8a#32, 0x34df1604#32, 0x41a65cb1#32, 0x65a0cfe4#32, 0xf0781bc8#32, 0xa507a53d#32, 0x0772a26b#32, 0xf4b002d6#32],
  [0x79ea687a#32, 0x6dc57a8a#32, 0x34df1604#32, 0x41a65cb1#32, 0x1efbc0a0#32, 0xf0781bc8#32, 0xa507a53d#32, 0x0772a26b#32],
  [0xd6670766#32, 0x79ea687a#32, 0x6dc57a8a#32, 0x34df1604#32, 0x26352d63#32, 0x1efbc0a0#32, 0xf0781bc8#32, 0xa507a53d#32],
  [0xdf46652f#32, 0xd6670766#32, 0x79ea687a#32, 0x6dc57a8a#32, 0x838b2711#32, 0x26352d63#32, 0x1efbc0a0#32, 0xf0781bc8#32],
  [0x17aa0dfe#32, 0xdf46652f#32, 0xd6670766#32, 0x79ea687a#32, 0xdecd4715#32, 0x838b2711#32, 0x26352d63#32, 0x1efbc0a0#32],
  [0x9d4baf93#32, 0x17aa0dfe#32, 0xdf46652f#32, 0xd6670766#32, 0xfda24c2e#32, 0xdecd4715#32, 0x838b2711#32, 0x26352d63#32],
  [0x26628815#32, 0x9d4baf93#32, 0x17aa0dfe#32, 0xdf46652f#32, 0xa80f11f0#32, 0xfda24c2e#32, 0xdecd4715#32, 0x838b2711#32],
  [0x72ab4b91#32, 0x26628815#32, 0x9d4baf93#32, 0x17aa0dfe#32, 0xb7755da1#32, 0xa80f11f0#32, 0xfda24c2e#32, 0xdecd4715#32],
  [0xa14c14b0#32, 0x72ab4b91#32, 0x26628815#32, 0x9d4baf93#32, 0xd57b94a9#32, 0xb7755da1#32, 0xa80f11f0#32, 0xfda24c2e#32],
  [0x4172328d#32, 0xa14c14b0#32, 0x72ab4b91#32, 0x26628815#32, 0xfecf0bc6#32, 0xd57b94a9#32, 0xb7755da1#32, 0xa80f11f0#32],
  [0x05757ceb#32, 0x4172328d#32, 0xa14c14b0#32, 0x72ab4b91#32, 0xbd714038#32, 0xfecf0bc6#32, 0xd57b94a9#32, 0xb7755da1#32],
  [0xf11bfaa8#32, 0x05757ceb#32, 0x4172328d#32, 0xa14c14b0#32, 0x6e5c390c#32, 0xbd714038#32, 0xfecf0bc6#32, 0xd57b94a9#32],
  [0x7a0508a1#32, 0xf11bfaa8#32, 0x05757ceb#32, 0x4172328d#32, 0x52f1ccf7#32, 0x6e5c390c#32, 0xbd714038#32, 0xfecf0bc6#32],
  [0x886e7a22#32, 0x7a0508a1#32, 0xf11bfaa8#32, 0x05757ceb#32, 0x49231c1e#32, 0x52f1ccf7#32, 0x6e5c390c#32, 0xbd714038#32],
  [0x101fd28f#32, 0x886e7a22#32, 0x7a0508a1#32, 0xf11bfaa8#32, 0x529e7d00#32, 0x49231c1e#32, 0x52f1ccf7#32, 0x6e5c390c#32],
  [0xf5702fdb#32, 0x101fd28f#32, 0x886e7a22#32, 0x7a0508a1#32, 0x9f4787c3#32, 0x529e7d00#32, 0x49231c1e#32, 0x52f1ccf7#32],
  [0x3ec45cdb#32, 0xf5702fdb#32, 0x101fd28f#32, 0x886e7a22#32, 0xe50e1b4f#32, 0x9f4787c3#32, 0x529e7d00#32, 0x49231c1e#32],
  [0x38cc9913#32, 0x3ec45cdb#32, 0xf5702fdb#32, 0x101fd28f#32, 0x54cb266b#32, 0xe50e1b4f#32, 0x9f4787c3#32, 0x529e7d00#32],
  [0xfcd1887b#32, 0x38cc9913#32, 0x3ec45cdb#32, 0xf5702fdb#32, 0x9b5e906c#32, 0x54cb266b#32, 0xe50e1b4f#32, 0x9f4787c3#32],
  [0xc062d46f#32, 0xfcd1887b#32, 0x38cc9913#32, 0x3ec45cdb#32, 0x7e44008e#32, 0x9b5e906c#32, 0x54cb266b#32, 0xe50e1b4f#32],
  [0xffb70472#32, 0xc062d46f#32, 0xfcd1887b#32, 0x38cc9913#32, 0x6d83bfc6#32, 0x7e44008e#32, 0x9b5e906c#32, 0x54cb266b#32],
  [0xb6ae8fff#32, 0xffb70472#32, 0xc062d46f#32, 0xfcd1887b#32, 0xb21bad3d#32, 0x6d83bfc6#32, 0x7e44008e#32, 0x9b5e906c#32],
  [0xb85e2ce9#32, 0xb6ae8fff#32, 0xffb70472#32, 0xc062d46f#32, 0x961f4894#32, 0xb21bad3d#32, 0x6d83bfc6#32, 0x7e44008e#32],
  [0x04d24d6c#32, 0xb85e2ce9#32, 0xb6ae8fff#32, 0xffb70472#32, 0x948d25b6#32, 0x961f4894#32, 0xb21bad3d#32, 0x6d83bfc6#32],
  [0xd39a2165#32, 0x04d24d6c#32, 0xb85e2ce9#32, 0xb6ae8fff#32, 0xfb121210#32, 0x948d25b6#32, 0x961f4894#32, 0xb21bad3d#32],
  [0x506e3058#32, 0xd39a2165#32, 0x04d24d6c#32, 0xb85e2ce9#32, 0x5ef50f24#32, 0xfb121210#32, 0x948d25b6#32, 0x961f4894#32]]
def c_abc : List (BitVec 32) := [0xba7816bf#32, 0x8f01cfea#32, 0x414140de#32, 0x5dae2223#32, 0xb00361a3#32, 0x96177a9c#32, 0xb410ff61#32, 0xf20015ad#32]
theorem blk_abc : blk (toV (S_abc.getD 0 [])) (chunk p_abc 0) = toV c_abc :=
  blk_list _ L_abc S_abc c_abc rfl (by decide +kernel) (by decide +kernel) (by decide +kernel)

end Sha
