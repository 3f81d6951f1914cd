/- Rows of cells of one kind, as functions of the place. -/
import Derived.Test.YtpkifhjlmkbdpaaDoorLeLoop
set_option linter.unusedVariables false
set_option linter.unusedSimpArgs false
namespace Go.LE

def set1 {A : Type} (g : Nat → A) (i : Nat) (x : A) : Nat → A := fun j => if j = i then x else g j
theorem set1_same {A : Type} (g : Nat → A) (i : Nat) (x : A) : set1 g i x i = x := by simp [set1]
theorem set1_other {A : Type} (g : Nat → A) (i j : Nat) (x : A) (h : j ≠ i) : set1 g i x j = g j := by simp [set1, h]

/-! ### aB: rows of B8 -/
def aB (n : Nat) (g : Nat → BitVec 8) : Cells := arr n fun i => B8 (g i)
theorem aB_rep (n : Nat) (x : BitVec 8) : List.replicate n (B8 x) = aB n fun _ => x := rep_arr n _
theorem aB_length (n : Nat) (g : Nat → BitVec 8) : (aB n g).length = n := arr_length _ _
theorem aB_ext (n : Nat) {f g : Nat → BitVec 8} (h : ∀ i, i < n → f i = g i) : aB n f = aB n g := arr_ext n fun i hi => by rw [h i hi]
theorem aB_put1 (g : Nat → BitVec 8) (i : Nat) (x : BitVec 8) : put1 (fun j => B8 (g j)) i (B8 x) = fun j => B8 (set1 g i x j) := by
  funext j; simp only [put1, set1]; split <;> rfl
theorem aB_cell (n : Nat) (g : Nat → BitVec 8) (i : Nat) (h : i < n) : cellK i 1 (some (aB n g)) = some [B8 (g i)] := cell_arr n _ i h
theorem aB_cells (n : Nat) (g : Nat → BitVec 8) : cellK 0 n (some (aB n g)) = some (aB n g) := cells_arr n _
theorem aB_sub (n : Nat) (g : Nat → BitVec 8) (i m : Nat) (h : i + m ≤ n) : cellK i m (some (aB n g)) = some (aB m fun j => g (i + j)) := cells_arr_sub n _ i m h
theorem aB_st (off n : Nat) (m : Nm) (x : BitVec 8) (g : Nat → BitVec 8) (h : off < n) : stK 1 off m (some [B8 x]) (some (aB n g)) = some ⟨Un, [], [(m, some (aB n (set1 g off x)))]⟩ := by
  rw [aB, st_arr off n m _ _ h rfl, aB_put1]; rfl
theorem aB_st_all (n : Nat) (m : Nm) (f g : Nat → BitVec 8) : stK n 0 m (some (aB n g)) (some (aB n f)) = some ⟨Un, [], [(m, some (aB n g))]⟩ := st_arr_all n m _ _ fun _ _ => rfl
theorem aB_nms (n : Nat) (g : Nat → BitVec 8) : (aB n g).flatMap (nms D) = [] := arr_nms n _ fun _ _ => rfl
theorem aB_ren (n : Nat) (g : Nat → BitVec 8) (π : Nm → Option Nm) : (aB n g).map (ren D π) = aB n g := arr_ren n _ π fun _ _ => rfl
theorem aB_ren7 (n : Nat) (g : Nat → BitVec 8) (π : Nm → Option Nm) : (aB n g).map (ren 7 π) = aB n g := by
  simp only [aB, arr, List.map_map]
  apply List.map_congr_left
  intro i hi
  rfl
theorem aB_nms7 (n : Nat) (g : Nat → BitVec 8) : (aB n g).flatMap (nms 7) = [] := by
  rw [List.flatMap_eq_nil_iff]
  intro x hx
  simp only [aB, arr, List.mem_map, List.mem_range] at hx
  obtain ⟨i, hi, rfl⟩ := hx
  rfl
theorem aB_agg_nms (n : Nat) (g : Nat → BitVec 8) : nms D (.agg (aB n g)) = [] := by
  rw [show nms D (.agg (aB n g)) = (aB n g).flatMap (nms 7) from rfl, aB_nms7]
theorem aB_agg_ren (n : Nat) (g : Nat → BitVec 8) (π : Nm → Option Nm) : ren D π (.agg (aB n g)) = .agg (aB n g) := by
  rw [show ren D π (.agg (aB n g)) = .agg ((aB n g).map (ren 7 π)) from rfl, aB_ren7]
theorem aB_calK (b n : Nat) (g : Nat → BitVec 8) : calK b (some (.agg (aB n g), [], [])) = some ⟨.agg (aB n g), [], []⟩ := calK_plain b fun _ => aB_agg_ren n g _
theorem aB_outOf (st : St) (n : Nat) (g : Nat → BitVec 8) : outOf 0 st (.agg (aB n g)) = (.agg (aB n g), [], []) := outOf_plain (aB_agg_nms n g) fun _ => aB_agg_ren n g _
theorem aB_ix1 (len n : Nat) (g : Nat → BitVec 8) (j : Nat) (h : j < len) (h2 : j < n) : ix1V len 1 (.agg (aB n g)) (some j) = some (B8 (g j)) := by
  rw [aB, ix1V_arr _ _ _ _ _ h (by omega), Nat.mul_one]
theorem aB_isCell (n : Nat) (g : Nat → BitVec 8) : (aB n g).all isCell = true := by
  rw [List.all_eq_true]
  intro x hx
  simp only [aB, arr, List.mem_map, List.mem_range] at hx
  obtain ⟨i, hi, rfl⟩ := hx
  rfl
theorem aB_succ (n : Nat) (g : Nat → BitVec 8) : aB (n + 1) g = B8 (g 0) :: aB n fun i => g (i + 1) := arr_succ n _
theorem aB_zero (g : Nat → BitVec 8) : aB 0 g = [] := nf rfl

def aB_same (n : Nat) (f g : Nat → BitVec 8) : Bool := decide (∀ i, i < n → f i = g i)
theorem aB_eqU (n : Nat) (f g : Nat → BitVec 8) : eqU .int (aB n f) (aB n g) = some (aB_same n f g) := by
  induction n generalizing f g with
  | zero => simp [aB_zero, aB_same, eqU]
  | succ n ih =>
    rw [aB_succ, aB_succ]
    have h0 : leafEq .int (.int .u8 (f 0).toNat) (.int .u8 (g 0).toNat) = some (decide (f 0 = g 0)) := by
      simp only [leafEq, if_true]
      congr 1
      rw [Bool.eq_iff_iff, beq_iff_eq, decide_eq_true_iff]
      constructor; · intro h; exact BitVec.eq_of_toNat_eq (by omega)
      · intro h; rw [h]
    simp only [B8, eqU, h0, ih]
    congr 1
    simp only [aB_same]
    rw [Bool.eq_iff_iff]
    simp only [Bool.and_eq_true, decide_eq_true_iff]
    constructor
    · rintro ⟨h1, h2⟩ i hi
      cases i with
      | zero => exact h1
      | succ i => exact h2 i (by omega)
    · intro h
      exact ⟨h 0 (by omega), fun i hi => h (i + 1) (by omega)⟩
theorem aB_eql (n : Nat) (f g : Nat → BitVec 8) : binV .eql (.flat [(n, .int)]) (.agg (aB n f)) (.agg (aB n g)) = some (Bo (aB_same n f g)) := by
  have h : eqR [(n, Leaf.int)] (aB n f) (aB n g) = some (aB_same n f g) := by
    rw [eqR.eq_def]
    simp only [aB_length, Nat.le_refl, and_self, if_true]
    rw [List.take_of_length_le (by rw [aB_length]; exact Nat.le_refl _), List.take_of_length_le (by rw [aB_length]; exact Nat.le_refl _), aB_eqU,
      List.drop_of_length_le (by rw [aB_length]; exact Nat.le_refl _), List.drop_of_length_le (by rw [aB_length]; exact Nat.le_refl _)]
    simp [eqR]
  simp [binV, eqV, aggOf, h, Bo]
theorem aB_same_iff (n : Nat) (f g : Nat → BitVec 8) : aB_same n f g = true ↔ ∀ i, i < n → f i = g i := by simp [aB_same]

/-! ### aW: rows of B32 -/
def aW (n : Nat) (g : Nat → BitVec 32) : Cells := arr n fun i => B32 (g i)
theorem aW_rep (n : Nat) (x : BitVec 32) : List.replicate n (B32 x) = aW n fun _ => x := rep_arr n _
theorem aW_length (n : Nat) (g : Nat → BitVec 32) : (aW n g).length = n := arr_length _ _
theorem aW_ext (n : Nat) {f g : Nat → BitVec 32} (h : ∀ i, i < n → f i = g i) : aW n f = aW n g := arr_ext n fun i hi => by rw [h i hi]
theorem aW_put1 (g : Nat → BitVec 32) (i : Nat) (x : BitVec 32) : put1 (fun j => B32 (g j)) i (B32 x) = fun j => B32 (set1 g i x j) := by
  funext j; simp only [put1, set1]; split <;> rfl
theorem aW_cell (n : Nat) (g : Nat → BitVec 32) (i : Nat) (h : i < n) : cellK i 1 (some (aW n g)) = some [B32 (g i)] := cell_arr n _ i h
theorem aW_cells (n : Nat) (g : Nat → BitVec 32) : cellK 0 n (some (aW n g)) = some (aW n g) := cells_arr n _
theorem aW_sub (n : Nat) (g : Nat → BitVec 32) (i m : Nat) (h : i + m ≤ n) : cellK i m (some (aW n g)) = some (aW m fun j => g (i + j)) := cells_arr_sub n _ i m h
theorem aW_st (off n : Nat) (m : Nm) (x : BitVec 32) (g : Nat → BitVec 32) (h : off < n) : stK 1 off m (some [B32 x]) (some (aW n g)) = some ⟨Un, [], [(m, some (aW n (set1 g off x)))]⟩ := by
  rw [aW, st_arr off n m _ _ h rfl, aW_put1]; rfl
theorem aW_st_all (n : Nat) (m : Nm) (f g : Nat → BitVec 32) : stK n 0 m (some (aW n g)) (some (aW n f)) = some ⟨Un, [], [(m, some (aW n g))]⟩ := st_arr_all n m _ _ fun _ _ => rfl
theorem aW_nms (n : Nat) (g : Nat → BitVec 32) : (aW n g).flatMap (nms D) = [] := arr_nms n _ fun _ _ => rfl
theorem aW_ren (n : Nat) (g : Nat → BitVec 32) (π : Nm → Option Nm) : (aW n g).map (ren D π) = aW n g := arr_ren n _ π fun _ _ => rfl
theorem aW_ren7 (n : Nat) (g : Nat → BitVec 32) (π : Nm → Option Nm) : (aW n g).map (ren 7 π) = aW n g := by
  simp only [aW, arr, List.map_map]
  apply List.map_congr_left
  intro i hi
  rfl
theorem aW_nms7 (n : Nat) (g : Nat → BitVec 32) : (aW n g).flatMap (nms 7) = [] := by
  rw [List.flatMap_eq_nil_iff]
  intro x hx
  simp only [aW, arr, List.mem_map, List.mem_range] at hx
  obtain ⟨i, hi, rfl⟩ := hx
  rfl
theorem aW_agg_nms (n : Nat) (g : Nat → BitVec 32) : nms D (.agg (aW n g)) = [] := by
  rw [show nms D (.agg (aW n g)) = (aW n g).flatMap (nms 7) from rfl, aW_nms7]
theorem aW_agg_ren (n : Nat) (g : Nat → BitVec 32) (π : Nm → Option Nm) : ren D π (.agg (aW n g)) = .agg (aW n g) := by
  rw [show ren D π (.agg (aW n g)) = .agg ((aW n g).map (ren 7 π)) from rfl, aW_ren7]
theorem aW_calK (b n : Nat) (g : Nat → BitVec 32) : calK b (some (.agg (aW n g), [], [])) = some ⟨.agg (aW n g), [], []⟩ := calK_plain b fun _ => aW_agg_ren n g _
theorem aW_outOf (st : St) (n : Nat) (g : Nat → BitVec 32) : outOf 0 st (.agg (aW n g)) = (.agg (aW n g), [], []) := outOf_plain (aW_agg_nms n g) fun _ => aW_agg_ren n g _
theorem aW_ix1 (len n : Nat) (g : Nat → BitVec 32) (j : Nat) (h : j < len) (h2 : j < n) : ix1V len 1 (.agg (aW n g)) (some j) = some (B32 (g j)) := by
  rw [aW, ix1V_arr _ _ _ _ _ h (by omega), Nat.mul_one]
theorem aW_isCell (n : Nat) (g : Nat → BitVec 32) : (aW n g).all isCell = true := by
  rw [List.all_eq_true]
  intro x hx
  simp only [aW, arr, List.mem_map, List.mem_range] at hx
  obtain ⟨i, hi, rfl⟩ := hx
  rfl
theorem aW_succ (n : Nat) (g : Nat → BitVec 32) : aW (n + 1) g = B32 (g 0) :: aW n fun i => g (i + 1) := arr_succ n _
theorem aW_zero (g : Nat → BitVec 32) : aW 0 g = [] := nf rfl

def aW_same (n : Nat) (f g : Nat → BitVec 32) : Bool := decide (∀ i, i < n → f i = g i)
theorem aW_eqU (n : Nat) (f g : Nat → BitVec 32) : eqU .int (aW n f) (aW n g) = some (aW_same n f g) := by
  induction n generalizing f g with
  | zero => simp [aW_zero, aW_same, eqU]
  | succ n ih =>
    rw [aW_succ, aW_succ]
    have h0 : leafEq .int (.int .u32 (f 0).toNat) (.int .u32 (g 0).toNat) = some (decide (f 0 = g 0)) := by
      simp only [leafEq, if_true]
      congr 1
      rw [Bool.eq_iff_iff, beq_iff_eq, decide_eq_true_iff]
      constructor; · intro h; exact BitVec.eq_of_toNat_eq (by omega)
      · intro h; rw [h]
    simp only [B32, eqU, h0, ih]
    congr 1
    simp only [aW_same]
    rw [Bool.eq_iff_iff]
    simp only [Bool.and_eq_true, decide_eq_true_iff]
    constructor
    · rintro ⟨h1, h2⟩ i hi
      cases i with
      | zero => exact h1
      | succ i => exact h2 i (by omega)
    · intro h
      exact ⟨h 0 (by omega), fun i hi => h (i + 1) (by omega)⟩
theorem aW_eql (n : Nat) (f g : Nat → BitVec 32) : binV .eql (.flat [(n, .int)]) (.agg (aW n f)) (.agg (aW n g)) = some (Bo (aW_same n f g)) := by
  have h : eqR [(n, Leaf.int)] (aW n f) (aW n g) = some (aW_same n f g) := by
    rw [eqR.eq_def]
    simp only [aW_length, Nat.le_refl, and_self, if_true]
    rw [List.take_of_length_le (by rw [aW_length]; exact Nat.le_refl _), List.take_of_length_le (by rw [aW_length]; exact Nat.le_refl _), aW_eqU,
      List.drop_of_length_le (by rw [aW_length]; exact Nat.le_refl _), List.drop_of_length_le (by rw [aW_length]; exact Nat.le_refl _)]
    simp [eqR]
  simp [binV, eqV, aggOf, h, Bo]
theorem aW_same_iff (n : Nat) (f g : Nat → BitVec 32) : aW_same n f g = true ↔ ∀ i, i < n → f i = g i := by simp [aW_same]

/-! ### aD: rows of B64 -/
def aD (n : Nat) (g : Nat → BitVec 64) : Cells := arr n fun i => B64 (g i)
theorem aD_rep (n : Nat) (x : BitVec 64) : List.replicate n (B64 x) = aD n fun _ => x := rep_arr n _
theorem aD_length (n : Nat) (g : Nat → BitVec 64) : (aD n g).length = n := arr_length _ _
theorem aD_ext (n : Nat) {f g : Nat → BitVec 64} (h : ∀ i, i < n → f i = g i) : aD n f = aD n g := arr_ext n fun i hi => by rw [h i hi]
theorem aD_put1 (g : Nat → BitVec 64) (i : Nat) (x : BitVec 64) : put1 (fun j => B64 (g j)) i (B64 x) = fun j => B64 (set1 g i x j) := by
  funext j; simp only [put1, set1]; split <;> rfl
theorem aD_cell (n : Nat) (g : Nat → BitVec 64) (i : Nat) (h : i < n) : cellK i 1 (some (aD n g)) = some [B64 (g i)] := cell_arr n _ i h
theorem aD_cells (n : Nat) (g : Nat → BitVec 64) : cellK 0 n (some (aD n g)) = some (aD n g) := cells_arr n _
theorem aD_sub (n : Nat) (g : Nat → BitVec 64) (i m : Nat) (h : i + m ≤ n) : cellK i m (some (aD n g)) = some (aD m fun j => g (i + j)) := cells_arr_sub n _ i m h
theorem aD_st (off n : Nat) (m : Nm) (x : BitVec 64) (g : Nat → BitVec 64) (h : off < n) : stK 1 off m (some [B64 x]) (some (aD n g)) = some ⟨Un, [], [(m, some (aD n (set1 g off x)))]⟩ := by
  rw [aD, st_arr off n m _ _ h rfl, aD_put1]; rfl
theorem aD_st_all (n : Nat) (m : Nm) (f g : Nat → BitVec 64) : stK n 0 m (some (aD n g)) (some (aD n f)) = some ⟨Un, [], [(m, some (aD n g))]⟩ := st_arr_all n m _ _ fun _ _ => rfl
theorem aD_nms (n : Nat) (g : Nat → BitVec 64) : (aD n g).flatMap (nms D) = [] := arr_nms n _ fun _ _ => rfl
theorem aD_ren (n : Nat) (g : Nat → BitVec 64) (π : Nm → Option Nm) : (aD n g).map (ren D π) = aD n g := arr_ren n _ π fun _ _ => rfl
theorem aD_ren7 (n : Nat) (g : Nat → BitVec 64) (π : Nm → Option Nm) : (aD n g).map (ren 7 π) = aD n g := by
  simp only [aD, arr, List.map_map]
  apply List.map_congr_left
  intro i hi
  rfl
theorem aD_nms7 (n : Nat) (g : Nat → BitVec 64) : (aD n g).flatMap (nms 7) = [] := by
  rw [List.flatMap_eq_nil_iff]
  intro x hx
  simp only [aD, arr, List.mem_map, List.mem_range] at hx
  obtain ⟨i, hi, rfl⟩ := hx
  rfl
theorem aD_agg_nms (n : Nat) (g : Nat → BitVec 64) : nms D (.agg (aD n g)) = [] := by
  rw [show nms D (.agg (aD n g)) = (aD n g).flatMap (nms 7) from rfl, aD_nms7]
theorem aD_agg_ren (n : Nat) (g : Nat → BitVec 64) (π : Nm → Option Nm) : ren D π (.agg (aD n g)) = .agg (aD n g) := by
  rw [show ren D π (.agg (aD n g)) = .agg ((aD n g).map (ren 7 π)) from rfl, aD_ren7]
theorem aD_calK (b n : Nat) (g : Nat → BitVec 64) : calK b (some (.agg (aD n g), [], [])) = some ⟨.agg (aD n g), [], []⟩ := calK_plain b fun _ => aD_agg_ren n g _
theorem aD_outOf (st : St) (n : Nat) (g : Nat → BitVec 64) : outOf 0 st (.agg (aD n g)) = (.agg (aD n g), [], []) := outOf_plain (aD_agg_nms n g) fun _ => aD_agg_ren n g _
theorem aD_ix1 (len n : Nat) (g : Nat → BitVec 64) (j : Nat) (h : j < len) (h2 : j < n) : ix1V len 1 (.agg (aD n g)) (some j) = some (B64 (g j)) := by
  rw [aD, ix1V_arr _ _ _ _ _ h (by omega), Nat.mul_one]
theorem aD_isCell (n : Nat) (g : Nat → BitVec 64) : (aD n g).all isCell = true := by
  rw [List.all_eq_true]
  intro x hx
  simp only [aD, arr, List.mem_map, List.mem_range] at hx
  obtain ⟨i, hi, rfl⟩ := hx
  rfl
theorem aD_succ (n : Nat) (g : Nat → BitVec 64) : aD (n + 1) g = B64 (g 0) :: aD n fun i => g (i + 1) := arr_succ n _
theorem aD_zero (g : Nat → BitVec 64) : aD 0 g = [] := nf rfl

def aD_same (n : Nat) (f g : Nat → BitVec 64) : Bool := decide (∀ i, i < n → f i = g i)
theorem aD_eqU (n : Nat) (f g : Nat → BitVec 64) : eqU .int (aD n f) (aD n g) = some (aD_same n f g) := by
  induction n generalizing f g with
  | zero => simp [aD_zero, aD_same, eqU]
  | succ n ih =>
    rw [aD_succ, aD_succ]
    have h0 : leafEq .int (.int .u64 (f 0).toNat) (.int .u64 (g 0).toNat) = some (decide (f 0 = g 0)) := by
      simp only [leafEq, if_true]
      congr 1
      rw [Bool.eq_iff_iff, beq_iff_eq, decide_eq_true_iff]
      constructor; · intro h; exact BitVec.eq_of_toNat_eq (by omega)
      · intro h; rw [h]
    simp only [B64, eqU, h0, ih]
    congr 1
    simp only [aD_same]
    rw [Bool.eq_iff_iff]
    simp only [Bool.and_eq_true, decide_eq_true_iff]
    constructor
    · rintro ⟨h1, h2⟩ i hi
      cases i with
      | zero => exact h1
      | succ i => exact h2 i (by omega)
    · intro h
      exact ⟨h 0 (by omega), fun i hi => h (i + 1) (by omega)⟩
theorem aD_eql (n : Nat) (f g : Nat → BitVec 64) : binV .eql (.flat [(n, .int)]) (.agg (aD n f)) (.agg (aD n g)) = some (Bo (aD_same n f g)) := by
  have h : eqR [(n, Leaf.int)] (aD n f) (aD n g) = some (aD_same n f g) := by
    rw [eqR.eq_def]
    simp only [aD_length, Nat.le_refl, and_self, if_true]
    rw [List.take_of_length_le (by rw [aD_length]; exact Nat.le_refl _), List.take_of_length_le (by rw [aD_length]; exact Nat.le_refl _), aD_eqU,
      List.drop_of_length_le (by rw [aD_length]; exact Nat.le_refl _), List.drop_of_length_le (by rw [aD_length]; exact Nat.le_refl _)]
    simp [eqR]
  simp [binV, eqV, aggOf, h, Bo]
theorem aD_same_iff (n : Nat) (f g : Nat → BitVec 64) : aD_same n f g = true ↔ ∀ i, i < n → f i = g i := by simp [aD_same]

/-! ### aO: rows of Bo -/
def aO (n : Nat) (g : Nat → Bool) : Cells := arr n fun i => Bo (g i)
theorem aO_rep (n : Nat) (x : Bool) : List.replicate n (Bo x) = aO n fun _ => x := rep_arr n _
theorem aO_length (n : Nat) (g : Nat → Bool) : (aO n g).length = n := arr_length _ _
theorem aO_ext (n : Nat) {f g : Nat → Bool} (h : ∀ i, i < n → f i = g i) : aO n f = aO n g := arr_ext n fun i hi => by rw [h i hi]
theorem aO_put1 (g : Nat → Bool) (i : Nat) (x : Bool) : put1 (fun j => Bo (g j)) i (Bo x) = fun j => Bo (set1 g i x j) := by
  funext j; simp only [put1, set1]; split <;> rfl
theorem aO_cell (n : Nat) (g : Nat → Bool) (i : Nat) (h : i < n) : cellK i 1 (some (aO n g)) = some [Bo (g i)] := cell_arr n _ i h
theorem aO_cells (n : Nat) (g : Nat → Bool) : cellK 0 n (some (aO n g)) = some (aO n g) := cells_arr n _
theorem aO_sub (n : Nat) (g : Nat → Bool) (i m : Nat) (h : i + m ≤ n) : cellK i m (some (aO n g)) = some (aO m fun j => g (i + j)) := cells_arr_sub n _ i m h
theorem aO_st (off n : Nat) (m : Nm) (x : Bool) (g : Nat → Bool) (h : off < n) : stK 1 off m (some [Bo x]) (some (aO n g)) = some ⟨Un, [], [(m, some (aO n (set1 g off x)))]⟩ := by
  rw [aO, st_arr off n m _ _ h rfl, aO_put1]; rfl
theorem aO_st_all (n : Nat) (m : Nm) (f g : Nat → Bool) : stK n 0 m (some (aO n g)) (some (aO n f)) = some ⟨Un, [], [(m, some (aO n g))]⟩ := st_arr_all n m _ _ fun _ _ => rfl
theorem aO_nms (n : Nat) (g : Nat → Bool) : (aO n g).flatMap (nms D) = [] := arr_nms n _ fun _ _ => rfl
theorem aO_ren (n : Nat) (g : Nat → Bool) (π : Nm → Option Nm) : (aO n g).map (ren D π) = aO n g := arr_ren n _ π fun _ _ => rfl
theorem aO_ren7 (n : Nat) (g : Nat → Bool) (π : Nm → Option Nm) : (aO n g).map (ren 7 π) = aO n g := by
  simp only [aO, arr, List.map_map]
  apply List.map_congr_left
  intro i hi
  rfl
theorem aO_nms7 (n : Nat) (g : Nat → Bool) : (aO n g).flatMap (nms 7) = [] := by
  rw [List.flatMap_eq_nil_iff]
  intro x hx
  simp only [aO, arr, List.mem_map, List.mem_range] at hx
  obtain ⟨i, hi, rfl⟩ := hx
  rfl
theorem aO_agg_nms (n : Nat) (g : Nat → Bool) : nms D (.agg (aO n g)) = [] := by
  rw [show nms D (.agg (aO n g)) = (aO n g).flatMap (nms 7) from rfl, aO_nms7]
theorem aO_agg_ren (n : Nat) (g : Nat → Bool) (π : Nm → Option Nm) : ren D π (.agg (aO n g)) = .agg (aO n g) := by
  rw [show ren D π (.agg (aO n g)) = .agg ((aO n g).map (ren 7 π)) from rfl, aO_ren7]
theorem aO_calK (b n : Nat) (g : Nat → Bool) : calK b (some (.agg (aO n g), [], [])) = some ⟨.agg (aO n g), [], []⟩ := calK_plain b fun _ => aO_agg_ren n g _
theorem aO_outOf (st : St) (n : Nat) (g : Nat → Bool) : outOf 0 st (.agg (aO n g)) = (.agg (aO n g), [], []) := outOf_plain (aO_agg_nms n g) fun _ => aO_agg_ren n g _
theorem aO_ix1 (len n : Nat) (g : Nat → Bool) (j : Nat) (h : j < len) (h2 : j < n) : ix1V len 1 (.agg (aO n g)) (some j) = some (Bo (g j)) := by
  rw [aO, ix1V_arr _ _ _ _ _ h (by omega), Nat.mul_one]
theorem aO_isCell (n : Nat) (g : Nat → Bool) : (aO n g).all isCell = true := by
  rw [List.all_eq_true]
  intro x hx
  simp only [aO, arr, List.mem_map, List.mem_range] at hx
  obtain ⟨i, hi, rfl⟩ := hx
  rfl
theorem aO_succ (n : Nat) (g : Nat → Bool) : aO (n + 1) g = Bo (g 0) :: aO n fun i => g (i + 1) := arr_succ n _
theorem aO_zero (g : Nat → Bool) : aO 0 g = [] := nf rfl

def aO_same (n : Nat) (f g : Nat → Bool) : Bool := decide (∀ i, i < n → f i = g i)
theorem aO_eqU (n : Nat) (f g : Nat → Bool) : eqU .bool (aO n f) (aO n g) = some (aO_same n f g) := by
  induction n generalizing f g with
  | zero => simp [aO_zero, aO_same, eqU]
  | succ n ih =>
    rw [aO_succ, aO_succ]
    have h0 : leafEq .bool (.bool (f 0)) (.bool (g 0)) = some (decide (f 0 = g 0)) := by
      simp only [leafEq]
      congr 1
      
      
      
    simp only [Bo, eqU, h0, ih]
    congr 1
    simp only [aO_same]
    rw [Bool.eq_iff_iff]
    simp only [Bool.and_eq_true, decide_eq_true_iff]
    constructor
    · rintro ⟨h1, h2⟩ i hi
      cases i with
      | zero => exact h1
      | succ i => exact h2 i (by omega)
    · intro h
      exact ⟨h 0 (by omega), fun i hi => h (i + 1) (by omega)⟩
theorem aO_eql (n : Nat) (f g : Nat → Bool) : binV .eql (.flat [(n, .bool)]) (.agg (aO n f)) (.agg (aO n g)) = some (Bo (aO_same n f g)) := by
  have h : eqR [(n, Leaf.bool)] (aO n f) (aO n g) = some (aO_same n f g) := by
    rw [eqR.eq_def]
    simp only [aO_length, Nat.le_refl, and_self, if_true]
    rw [List.take_of_length_le (by rw [aO_length]; exact Nat.le_refl _), List.take_of_length_le (by rw [aO_length]; exact Nat.le_refl _), aO_eqU,
      List.drop_of_length_le (by rw [aO_length]; exact Nat.le_refl _), List.drop_of_length_le (by rw [aO_length]; exact Nat.le_refl _)]
    simp [eqR]
  simp [binV, eqV, aggOf, h, Bo]
theorem aO_same_iff (n : Nat) (f g : Nat → Bool) : aO_same n f g = true ↔ ∀ i, i < n → f i = g i := by simp [aO_same]

/-! ### aI: rows of I -/
def aI (n : Nat) (g : Nat → Int) : Cells := arr n fun i => I (g i)
theorem aI_rep (n : Nat) (x : Int) : List.replicate n (I x) = aI n fun _ => x := rep_arr n _
theorem aI_length (n : Nat) (g : Nat → Int) : (aI n g).length = n := arr_length _ _
theorem aI_ext (n : Nat) {f g : Nat → Int} (h : ∀ i, i < n → f i = g i) : aI n f = aI n g := arr_ext n fun i hi => by rw [h i hi]
theorem aI_put1 (g : Nat → Int) (i : Nat) (x : Int) : put1 (fun j => I (g j)) i (I x) = fun j => I (set1 g i x j) := by
  funext j; simp only [put1, set1]; split <;> rfl
theorem aI_cell (n : Nat) (g : Nat → Int) (i : Nat) (h : i < n) : cellK i 1 (some (aI n g)) = some [I (g i)] := cell_arr n _ i h
theorem aI_cells (n : Nat) (g : Nat → Int) : cellK 0 n (some (aI n g)) = some (aI n g) := cells_arr n _
theorem aI_sub (n : Nat) (g : Nat → Int) (i m : Nat) (h : i + m ≤ n) : cellK i m (some (aI n g)) = some (aI m fun j => g (i + j)) := cells_arr_sub n _ i m h
theorem aI_st (off n : Nat) (m : Nm) (x : Int) (g : Nat → Int) (h : off < n) : stK 1 off m (some [I x]) (some (aI n g)) = some ⟨Un, [], [(m, some (aI n (set1 g off x)))]⟩ := by
  rw [aI, st_arr off n m _ _ h rfl, aI_put1]; rfl
theorem aI_st_all (n : Nat) (m : Nm) (f g : Nat → Int) : stK n 0 m (some (aI n g)) (some (aI n f)) = some ⟨Un, [], [(m, some (aI n g))]⟩ := st_arr_all n m _ _ fun _ _ => rfl
theorem aI_nms (n : Nat) (g : Nat → Int) : (aI n g).flatMap (nms D) = [] := arr_nms n _ fun _ _ => rfl
theorem aI_ren (n : Nat) (g : Nat → Int) (π : Nm → Option Nm) : (aI n g).map (ren D π) = aI n g := arr_ren n _ π fun _ _ => rfl
theorem aI_ren7 (n : Nat) (g : Nat → Int) (π : Nm → Option Nm) : (aI n g).map (ren 7 π) = aI n g := by
  simp only [aI, arr, List.map_map]
  apply List.map_congr_left
  intro i hi
  rfl
theorem aI_nms7 (n : Nat) (g : Nat → Int) : (aI n g).flatMap (nms 7) = [] := by
  rw [List.flatMap_eq_nil_iff]
  intro x hx
  simp only [aI, arr, List.mem_map, List.mem_range] at hx
  obtain ⟨i, hi, rfl⟩ := hx
  rfl
theorem aI_agg_nms (n : Nat) (g : Nat → Int) : nms D (.agg (aI n g)) = [] := by
  rw [show nms D (.agg (aI n g)) = (aI n g).flatMap (nms 7) from rfl, aI_nms7]
theorem aI_agg_ren (n : Nat) (g : Nat → Int) (π : Nm → Option Nm) : ren D π (.agg (aI n g)) = .agg (aI n g) := by
  rw [show ren D π (.agg (aI n g)) = .agg ((aI n g).map (ren 7 π)) from rfl, aI_ren7]
theorem aI_calK (b n : Nat) (g : Nat → Int) : calK b (some (.agg (aI n g), [], [])) = some ⟨.agg (aI n g), [], []⟩ := calK_plain b fun _ => aI_agg_ren n g _
theorem aI_outOf (st : St) (n : Nat) (g : Nat → Int) : outOf 0 st (.agg (aI n g)) = (.agg (aI n g), [], []) := outOf_plain (aI_agg_nms n g) fun _ => aI_agg_ren n g _
theorem aI_ix1 (len n : Nat) (g : Nat → Int) (j : Nat) (h : j < len) (h2 : j < n) : ix1V len 1 (.agg (aI n g)) (some j) = some (I (g j)) := by
  rw [aI, ix1V_arr _ _ _ _ _ h (by omega), Nat.mul_one]
theorem aI_isCell (n : Nat) (g : Nat → Int) : (aI n g).all isCell = true := by
  rw [List.all_eq_true]
  intro x hx
  simp only [aI, arr, List.mem_map, List.mem_range] at hx
  obtain ⟨i, hi, rfl⟩ := hx
  rfl
theorem aI_succ (n : Nat) (g : Nat → Int) : aI (n + 1) g = I (g 0) :: aI n fun i => g (i + 1) := arr_succ n _
theorem aI_zero (g : Nat → Int) : aI 0 g = [] := nf rfl

def aI_same (n : Nat) (f g : Nat → Int) : Bool := decide (∀ i, i < n → f i = g i)
theorem aI_eqU (n : Nat) (f g : Nat → Int) : eqU .int (aI n f) (aI n g) = some (aI_same n f g) := by
  induction n generalizing f g with
  | zero => simp [aI_zero, aI_same, eqU]
  | succ n ih =>
    rw [aI_succ, aI_succ]
    have h0 : leafEq .int (.int .i64 (f 0)) (.int .i64 (g 0)) = some (decide (f 0 = g 0)) := by
      simp only [leafEq, if_true]
      congr 1
      
      
      
    simp only [I, eqU, h0, ih]
    congr 1
    simp only [aI_same]
    rw [Bool.eq_iff_iff]
    simp only [Bool.and_eq_true, decide_eq_true_iff]
    constructor
    · rintro ⟨h1, h2⟩ i hi
      cases i with
      | zero => exact h1
      | succ i => exact h2 i (by omega)
    · intro h
      exact ⟨h 0 (by omega), fun i hi => h (i + 1) (by omega)⟩
theorem aI_eql (n : Nat) (f g : Nat → Int) : binV .eql (.flat [(n, .int)]) (.agg (aI n f)) (.agg (aI n g)) = some (Bo (aI_same n f g)) := by
  have h : eqR [(n, Leaf.int)] (aI n f) (aI n g) = some (aI_same n f g) := by
    rw [eqR.eq_def]
    simp only [aI_length, Nat.le_refl, and_self, if_true]
    rw [List.take_of_length_le (by rw [aI_length]; exact Nat.le_refl _), List.take_of_length_le (by rw [aI_length]; exact Nat.le_refl _), aI_eqU,
      List.drop_of_length_le (by rw [aI_length]; exact Nat.le_refl _), List.drop_of_length_le (by rw [aI_length]; exact Nat.le_refl _)]
    simp [eqR]
  simp [binV, eqV, aggOf, h, Bo]
theorem aI_same_iff (n : Nat) (f g : Nat → Int) : aI_same n f g = true ↔ ∀ i, i < n → f i = g i := by simp [aI_same]

end Go.LE
