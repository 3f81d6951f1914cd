/- Loops by an invariant; long rows of cells as functions of the place. -/
import Derived.Test.YtpkifhjlmkbdpaaDoorLeEvalO
set_option linter.unusedVariables false
set_option linter.unusedSimpArgs false
namespace Go.LE

theorem loop_run {f : St → Option (Ex × St)} {keep : List Bool} (S : Nat → Heap → St) (Q : Nat → Heap → Prop) (n : Nat)
    (round : ∀ i H, i < n → Q i H → ∃ st1, f (S i H) = some (.normal, st1) ∧ ∃ H1, canon keep st1 = S (i + 1) H1 ∧ Q (i + 1) H1)
    (stop : ∀ H, Q n H → ∃ x st1, f (S n H) = some (x, st1) ∧ (match x with | .normal => False | _ => True))
    {k : Nat} (hk : n < k) {st : St} {r : Option (Ex × St)} (hL : loopN keep f k st = r) (h0 : ∃ H, canon keep st = S 0 H ∧ Q 0 H) :
    ∃ H, Q n H ∧ r = f (S n H) := by
  subst hL
  obtain ⟨m, rfl⟩ : ∃ m, k = m + n + 1 := ⟨k - n - 1, by omega⟩
  have go : ∀ (d i : Nat) (st : St) (H : Heap), i + d = n → canon keep st = S i H → Q i H → ∃ H', Q n H' ∧ loopN keep f (m + d + 1) st = f (S n H') := by
    intro d
    induction d with
    | zero =>
      intro i st H hi hc hq
      obtain rfl : i = n := by omega
      obtain ⟨x, st1, h1, h2⟩ := stop H hq
      refine ⟨H, hq, ?_⟩
      rw [h1]
      cases x with
      | normal => exact h2.elim
      | exit j => exact loopN_stop hc h1
      | ret => exact loopN_ret hc h1
    | succ d ih =>
      intro i st H hi hc hq
      obtain ⟨st1, h1, H1, hc1, hq1⟩ := round i H (by omega) hq
      obtain ⟨H', hq', e⟩ := ih (i + 1) st1 H1 (by omega) hc1 hq1
      refine ⟨H', hq', ?_⟩
      rw [← e]
      exact loopN_next hc h1
  obtain ⟨H, hc, hq⟩ := h0
  exact go n 0 st H (by omega) hc hq

/-- by an invariant of the states at a round's begin -/
theorem loop_inv {f : St → Option (Ex × St)} {keep : List Bool} (J : Nat → St → Prop) (n : Nat)
    (round : ∀ i st, i < n → J i st → ∃ st1, f st = some (.normal, st1) ∧ J (i + 1) (canon keep st1))
    (stop : ∀ st, J n st → ∃ x st1, f st = some (x, st1) ∧ (match x with | .normal => False | _ => True))
    {k : Nat} (hk : n < k) {st : St} {r : Option (Ex × St)} (hL : loopN keep f k st = r) (h0 : J 0 (canon keep st)) :
    ∃ st', J n st' ∧ r = f st' := by
  subst hL
  obtain ⟨m, rfl⟩ : ∃ m, k = m + n + 1 := ⟨k - n - 1, by omega⟩
  have go : ∀ (d i : Nat) (st : St), i + d = n → J i (canon keep st) → ∃ st', J n st' ∧ loopN keep f (m + d + 1) st = f st' := by
    intro d
    induction d with
    | zero =>
      intro i st hi hj
      obtain rfl : i = n := by omega
      obtain ⟨x, st1, h1, h2⟩ := stop _ hj
      refine ⟨_, hj, ?_⟩
      rw [h1]
      cases x with
      | normal => exact h2.elim
      | exit j => exact loopN_stop rfl h1
      | ret => exact loopN_ret rfl h1
    | succ d ih =>
      intro i st hi hj
      obtain ⟨st1, h1, hj1⟩ := round i _ (by omega) hj
      obtain ⟨st', hj', e⟩ := ih (i + 1) st1 (by omega) hj1
      refine ⟨st', hj', ?_⟩
      rw [← e]
      exact loopN_next rfl h1
  exact go n 0 st (by omega) h0

theorem loop_use {goal : Prop} {f : St → Option (Ex × St)} {keep : List Bool} {k : Nat} {st : St} {r : Option (Ex × St)} (hL : loopN keep f k st = r) (J : Nat → St → Prop) (n : Nat) (hk : n < k)
    (round : ∀ i st, i < n → J i st → ∃ st1, f st = some (.normal, st1) ∧ J (i + 1) (canon keep st1)) (h0 : J 0 (canon keep st))
    (stop : ∀ st, J n st → ∃ x st1, f st = some (x, st1) ∧ (match x with | .normal => False | _ => True))
    (next : ∀ st', J n st' → r = f st' → goal) : goal := by
  obtain ⟨st', h1, h2⟩ := loop_inv J n round stop hk hL h0
  exact next st' h1 h2

theorem canon_inv {P : St → Prop} {keep : List Bool} {tm tm' tm'' : List LV} {H : Heap} {nx np : Nat} (names : List Nm) (h0 : mask keep tm = tm')
    (hn : canonNames H np tm' = names) (h2 : tm'.map (ren D (canonMap names)) = tm'') (hp : P ⟨tm'', cN names H, 2, np⟩) : P (canon keep ⟨tm, H, nx, np⟩) := by
  rw [canon_mem h0 hn h2]
  exact hp

theorem stop_exit {f : St → Option (Ex × St)} {st st1 : St} {i : Nat} (h : f st = some (.exit i, st1)) : ∃ x st1, f st = some (x, st1) ∧ (match x with | .normal => False | _ => True) := ⟨_, _, h, trivial⟩
theorem stop_ret {f : St → Option (Ex × St)} {st st1 : St} (h : f st = some (.ret, st1)) : ∃ x st1, f st = some (x, st1) ∧ (match x with | .normal => False | _ => True) := ⟨_, _, h, trivial⟩

/-! ### rows of cells -/

def arr (n : Nat) (f : Nat → LV) : Cells := (List.range n).map f

theorem rep_arr (n : Nat) (x : LV) : List.replicate n x = arr n fun _ => x := by
  apply List.ext_getElem <;> simp [arr]
theorem arr_length (n : Nat) (f : Nat → LV) : (arr n f).length = n := by simp [arr]
theorem arr_get (n : Nat) (f : Nat → LV) (i : Nat) (h : i < n) : (arr n f)[i]? = some (f i) := by simp [arr, h]
theorem arr_getElem (n : Nat) (f : Nat → LV) (i : Nat) (h : i < (arr n f).length) : (arr n f)[i] = f i := by simp [arr]
theorem arr_ext (n : Nat) {f g : Nat → LV} (h : ∀ i, i < n → f i = g i) : arr n f = arr n g := by
  apply List.ext_getElem
  · simp [arr]
  · intro i h1 h2
    simp only [arr_getElem]
    exact h i (by simpa [arr] using h1)
theorem list_arr (xs : Cells) (n : Nat) (h : xs.length = n) : xs = arr n fun i => xs.getD i .undef := by
  subst h
  apply List.ext_getElem
  · simp [arr]
  · intro i h1 h2
    simp [arr, h1]
theorem arr_succ (n : Nat) (f : Nat → LV) : arr (n + 1) f = f 0 :: arr n fun i => f (i + 1) := by
  simp only [arr, List.range_succ_eq_map, List.map_cons, List.map_map]
  rfl
theorem arr_zero (f : Nat → LV) : arr 0 f = [] := nf rfl

theorem cell_arr (n : Nat) (f : Nat → LV) (i : Nat) (h : i < n) : cellK i 1 (some (arr n f)) = some [f i] := by
  have h1 : i + 1 ≤ (arr n f).length := by rw [arr_length]; omega
  rw [cellK_some, if_pos h1]
  congr 1
  apply List.ext_getElem
  · simp only [List.length_take, List.length_drop, List.length_cons, List.length_nil]; omega
  · intro j h2 h3
    obtain rfl : j = 0 := by simp at h3; exact h3
    simp [arr]
theorem cells_arr (n : Nat) (f : Nat → LV) : cellK 0 n (some (arr n f)) = some (arr n f) := by
  rw [cellK_some, if_pos (by rw [arr_length]; omega), List.drop_zero, List.take_of_length_le (by rw [arr_length]; exact Nat.le_refl _)]
theorem cells_arr_sub (n : Nat) (f : Nat → LV) (i m : Nat) (h : i + m ≤ n) : cellK i m (some (arr n f)) = some (arr m fun j => f (i + j)) := by
  have h1 : i + m ≤ (arr n f).length := by rw [arr_length]; omega
  rw [cellK_some, if_pos h1]
  congr 1
  apply List.ext_getElem
  · simp only [List.length_take, List.length_drop, arr_length]; omega
  · intro j h2 h3
    simp [arr]

def put1 (f : Nat → LV) (i : Nat) (x : LV) : Nat → LV := fun j => if j = i then x else f j

theorem splice_arr (n : Nat) (f : Nat → LV) (i : Nat) (x : LV) (h : i < n) : splice (arr n f) i [x] = arr n (put1 f i x) := by
  have e : splice (arr n f) i [x] = (arr n f).set i x := by
    rw [List.set_eq_take_append_cons_drop, if_pos (by rw [arr_length]; exact h)]
    simp [splice]
  rw [e]
  apply List.ext_getElem
  · simp [arr]
  · intro j h1 h2
    rw [List.getElem_set]
    simp only [arr_getElem, put1]
    by_cases hj : i = j
    · rw [if_pos hj, if_pos hj.symm]
    · rw [if_neg hj, if_neg (fun h => hj h.symm)]

/-- a store into one cell -/
theorem st_arr (off n : Nat) (m : Nm) (x : LV) (f : Nat → LV) (h : off < n) (hx : isCell x = true) :
    stK 1 off m (some [x]) (some (arr n f)) = some ⟨Un, [], [(m, some (arr n (put1 f off x)))]⟩ := by
  rw [stK_some, if_pos ⟨rfl, by rw [arr_length]; omega, by simp [hx]⟩, splice_arr _ _ _ _ h]
theorem st_arr_all (n : Nat) (m : Nm) (f g : Nat → LV) (hx : ∀ i, i < n → isCell (g i) = true) :
    stK n 0 m (some (arr n g)) (some (arr n f)) = some ⟨Un, [], [(m, some (arr n g))]⟩ := by
  have h1 : (arr n g).all isCell = true := by
    rw [List.all_eq_true]
    intro x hx'
    simp only [arr, List.mem_map, List.mem_range] at hx'
    obtain ⟨i, hi, rfl⟩ := hx'
    exact hx i hi
  rw [stK_some, if_pos ⟨arr_length _ _, by rw [arr_length]; omega, h1⟩]
  simp [splice, arr_length]

theorem arr_nms (n : Nat) (f : Nat → LV) (h : ∀ i, i < n → nms D (f i) = []) : (arr n f).flatMap (nms D) = [] := by
  rw [List.flatMap_eq_nil_iff]
  intro x hx
  simp only [arr, List.mem_map, List.mem_range] at hx
  obtain ⟨i, hi, rfl⟩ := hx
  exact h i hi
theorem arr_ren (n : Nat) (f : Nat → LV) (π : Nm → Option Nm) (h : ∀ i, i < n → ren D π (f i) = f i) : (arr n f).map (ren D π) = arr n f := by
  simp only [arr, List.map_map]
  apply List.map_congr_left
  intro i hi
  exact h i (List.mem_range.1 hi)
theorem ix1V_arr (len size n : Nat) (f : Nat → LV) (j : Nat) (h : j < len) (h2 : j * size < n) : ix1V len size (.agg (arr n f)) (some j) = some (f (j * size)) := by
  rw [ix1V_agg, if_pos h, arr_get _ _ _ h2]

/-- rows given cell by cell -/
theorem cellK_cons (off n : Nat) (c : LV) (cs : Cells) : cellK off n (some (c :: cs)) = if off + n ≤ (c :: cs).length then some (((c :: cs).drop off).take n) else none := cellK_some _ _ _
theorem stK_cons (n off : Nat) (m : Nm) (ys : Cells) (c : LV) (cs : Cells) :
    stK n off m (some ys) (some (c :: cs)) = if ys.length = n ∧ off + n ≤ (c :: cs).length ∧ ys.all isCell = true then some ⟨Un, [], [(m, some (splice (c :: cs) off ys))]⟩ else none := stK_some _ _ _ _ _

theorem ix1V_cons (len size : Nat) (c : LV) (cs : Cells) (j : Nat) : ix1V len size (.agg (c :: cs)) (some j) = if j < len then (c :: cs)[j * size]? else none := ix1V_agg _ _ _ _
theorem iaV_lt (n size : Nat) (nm : Nm) (off j : Nat) (h : j < n) : iaV n size (.ptr nm off) (some j) = some (.ptr nm (off + j * size)) := by
  rw [iaV_ptr, if_pos h]

theorem repUn_succ (n : Nat) : List.replicate (n + 1) Un = Un :: List.replicate n Un := List.replicate_succ

end Go.LE
