/- Soundness of the two-sided operations. -/
import Derived.Test.YtpkifhjlmkbdpaaDoorLeMem
import Derived.Laws.StructEq
import Derived.ChangeKeysEq
set_option linter.unusedVariables false
set_option linter.unusedSimpArgs false
namespace Go.LE
variable {P : Program} {R : Imm} {p : Places}

/-! ### flat values held against each other -/

def eqL : List Leaf → List Value → List Value → Option Bool
  | [], [], [] => some true
  | l :: ls, x :: xs, y :: ys => match leafEq l x y, eqL ls xs ys with | some a, some b => some (a && b) | _, _ => none
  | _, _, _ => none

theorem eqL_length : ∀ {ls : List Leaf} {xs ys : List Value} {b : Bool}, eqL ls xs ys = some b → xs.length = ls.length ∧ ys.length = ls.length
  | [], [], [], _, _ => ⟨rfl, rfl⟩
  | l :: ls, x :: xs, y :: ys, b, h => by
    simp only [eqL] at h
    cases h1 : leafEq l x y with
    | none => simp [h1] at h
    | some a => cases h2 : eqL ls xs ys with
      | none => simp [h1, h2] at h
      | some c => obtain ⟨e1, e2⟩ := eqL_length h2; simp [e1, e2]
  | [], _ :: _, _, _, h => by simp [eqL] at h
  | [], [], _ :: _, _, h => by simp [eqL] at h
  | _ :: _, [], _, _, h => by simp [eqL] at h
  | _ :: _, _ :: _, [], _, h => by simp [eqL] at h

theorem eqL_append : ∀ (ls ms : List Leaf) (xs ys : List Value) (b : Bool), eqL (ls ++ ms) xs ys = some b →
    ∃ b1 b2, eqL ls (xs.take ls.length) (ys.take ls.length) = some b1 ∧ eqL ms (xs.drop ls.length) (ys.drop ls.length) = some b2 ∧ b = (b1 && b2)
  | [], ms, xs, ys, b, h => ⟨true, b, by simp [eqL], by simpa using h, by simp⟩
  | l :: ls, ms, x :: xs, y :: ys, b, h => by
    simp only [List.cons_append, eqL] at h
    cases h1 : leafEq l x y with
    | none => simp [h1] at h
    | some a => cases h2 : eqL (ls ++ ms) xs ys with
      | none => simp [h1, h2] at h
      | some c =>
        simp [h1, h2] at h
        obtain ⟨b1, b2, e1, e2, e3⟩ := eqL_append ls ms xs ys c h2
        refine ⟨a && b1, b2, by simp [eqL, h1, e1], by simpa using e2, ?_⟩
        rw [← h, e3, Bool.and_assoc]
  | l :: ls, ms, [], _, b, h => by simp [eqL] at h
  | l :: ls, ms, _ :: _, [], b, h => by simp [eqL] at h

def expand : List (Nat × Leaf) → List Leaf
  | [] => []
  | (n, l) :: rs => List.replicate n l ++ expand rs

theorem expand_runsOf : ∀ ls, expand (runsOf ls) = ls
  | [] => rfl
  | l :: ls => by
    have ih := expand_runsOf ls
    simp only [runsOf]
    cases hr : runsOf ls with
    | nil => rw [hr] at ih; simp [expand] at ih ⊢; exact ih
    | cons q rs =>
      obtain ⟨n, m⟩ := q
      rw [hr] at ih
      simp only
      split
      · rename_i hs
        have : l = m := by cases l <;> cases m <;> simp_all [sameLeaf]
        subst this
        simp only [expand] at ih ⊢
        rw [List.replicate_succ, List.cons_append, ih]
      · simp only [expand] at ih ⊢
        rw [ih]; rfl

theorem eqU_rep : ∀ (l : Leaf) (xs ys : Cells) (us vs : List Value) (b : Bool), Rep R p xs us → Rep R p ys vs → eqU l xs ys = some b → eqL (List.replicate xs.length l) us vs = some b := by
  intro l xs
  induction xs with
  | nil =>
    intro ys us vs b hx hy h
    cases ys with
    | nil => cases hx; cases hy; simpa [eqU, eqL] using h
    | cons _ _ => simp [eqU] at h
  | cons x xs ih =>
    intro ys us vs b hx hy h
    cases ys with
    | nil => cases x <;> simp [eqU] at h
    | cons y ys =>
      cases x with
      | v u => cases y with
        | v v =>
          obtain ⟨u', us, rfl, h1, h2⟩ := hx.uncons
          obtain ⟨v', vs, rfl, h3, h4⟩ := hy.uncons
          cases h1; cases h3
          simp only [eqU] at h
          cases e1 : leafEq l u v with
          | none => simp [e1] at h
          | some a => cases e2 : eqU l xs ys with
            | none => simp [e1, e2] at h
            | some c =>
              simp [e1, e2] at h
              simp only [List.length_cons, List.replicate_succ, eqL, e1, ih ys us vs c h2 h4 e2]
              rw [h]
        | _ => simp [eqU] at h
      | _ => simp [eqU] at h

theorem eqR_rep : ∀ (rs : List (Nat × Leaf)) (xs ys : Cells) (us vs : List Value) (b : Bool), Rep R p xs us → Rep R p ys vs → eqR rs xs ys = some b → eqL (expand rs) us vs = some b
  | [], xs, ys, us, vs, b, hx, hy, h => by
    cases xs with
    | nil => cases ys with
      | nil => cases hx; cases hy; simpa [eqR, eqL, expand] using h
      | cons _ _ => simp [eqR] at h
    | cons _ _ => simp [eqR] at h
  | (n, l) :: rs, xs, ys, us, vs, b, hx, hy, h => by
    simp only [eqR] at h
    split at h
    · rename_i hn
      cases h1 : eqU l (xs.take n) (ys.take n) with
      | none => simp [h1] at h
      | some a => cases h2 : eqR rs (xs.drop n) (ys.drop n) with
        | none => simp [h1, h2] at h
        | some c =>
          simp [h1, h2] at h
          have e1 := eqU_rep l _ _ _ _ a (hx.take n) (hy.take n) h1
          have e2 := eqR_rep rs _ _ _ _ c (hx.drop n) (hy.drop n) h2
          rw [List.length_take, Nat.min_eq_left hn.1] at e1
          have join : ∀ (ls ms : List Leaf) (us vs : List Value) (k : Nat) (a c : Bool), ls.length = k → eqL ls (us.take k) (vs.take k) = some a → eqL ms (us.drop k) (vs.drop k) = some c → eqL (ls ++ ms) us vs = some (a && c) := by
            intro ls
            induction ls with
            | nil => intro ms us vs k a c hk q1 q2; simp at hk; subst hk; simp [eqL] at q1; subst q1; simpa using q2
            | cons l ls ih =>
              intro ms us vs k a c hk q1 q2
              cases k with
              | zero => simp at hk
              | succ k =>
                cases us with
                | nil => simp [eqL] at q1
                | cons u us => cases vs with
                  | nil => simp [eqL] at q1
                  | cons v vs =>
                    simp only [List.take_succ_cons, eqL] at q1
                    simp only [List.drop_succ_cons] at q2
                    cases z1 : leafEq l u v with
                    | none => simp [z1] at q1
                    | some a1 => cases z2 : eqL ls (us.take k) (vs.take k) with
                      | none => simp [z1, z2] at q1
                      | some a2 =>
                        simp [z1, z2] at q1
                        simp only [List.cons_append, eqL, z1, ih ms us vs k a2 c (by simpa using hk) z2 q2]
                        rw [← q1, Bool.and_assoc]
          rw [← h]
          exact join _ _ _ _ n _ _ (by simp) e1 e2
    · cases h

theorem run_leaf {t : TypeId} {l : Leaf} {x y : Value} {b : Bool} {w : World} (d : Nat)
    (ht : (P.underlying t = some .bool ∧ l = .bool) ∨ (∃ k, P.underlying t = some (.int k) ∧ l = .int) ∨ (P.underlying t = some .string ∧ l = .str))
    (h : leafEq l x y = some b) : (Op.equalIn (d + 1) t x y).run P w = .ok b w := by
  rcases ht with ⟨hu, rfl⟩ | ⟨k, hu, rfl⟩ | ⟨hu, rfl⟩
  · cases x <;> cases y <;> simp [leafEq] at h
    subst h
    exact run_equalIn_bool' w d t _ _ hu
  · cases x <;> cases y <;> simp [leafEq] at h
    obtain ⟨rfl, rfl⟩ := h
    exact run_equalIn_int w d t _ _ _ _ hu
  · cases x <;> cases y <;> simp [leafEq] at h
    subst h
    exact run_equalIn_string w d t _ _ hu

theorem run_part_agg {t : TypeId} {n off : Nat} {xs : Array Value} {w : World} (ha : isAggT P t = some true) (hs : szOf P t = some n) :
    (part t xs off).run P w = .ok (.agg (xs.extract off (off + n))) w := by
  simp [part, run_isAggT ha, run_szOf hs]

theorem run_part_one {t : TypeId} {off : Nat} {xs : Array Value} {v : Value} {w : World} (ha : isAggT P t = some false) (hv : xs[off]? = some v) :
    (part t xs off).run P w = .ok v w := by
  simp [part, run_isAggT ha, hv]

/-- what 'equalIn' answers at a flat type -/
def EqOk (P : Program) (d : Nat) (t : TypeId) (ls : List Leaf) : Prop :=
  (isAggT P t = some true → ∀ (xs ys : Array Value) (b : Bool) (w : World), eqL ls xs.toList ys.toList = some b → (Op.equalIn d t (.agg xs) (.agg ys)).run P w = .ok b w) ∧
  (isAggT P t = some false → ∀ (x y : Value) (b : Bool) (w : World), eqL ls [x] [y] = some b → (Op.equalIn d t x y).run P w = .ok b w)

theorem seg_run {d : Nat} {t : TypeId} {ls : List Leaf} {n off : Nat} {agg : Bool} (ok : EqOk P d t ls) (hs : szOf P t = some n) (ha : isAggT P t = some agg) (hl : ls.length = n)
    (h1 : agg = false → n = 1) (xs ys : Array Value) (b : Bool) (w : World) (h : eqL ls ((xs.toList.drop off).take n) ((ys.toList.drop off).take n) = some b) :
    ∃ u v, (part t xs off).run P w = .ok u w ∧ (part t ys off).run P w = .ok v w ∧ (Op.equalIn d t u v).run P w = .ok b w := by
  cases agg with
  | true =>
    refine ⟨_, _, run_part_agg ha hs, run_part_agg ha hs, ok.1 ha _ _ b w ?_⟩
    rw [← h]
    congr 1 <;> (simp [Array.toList_extract, List.extract_eq_take_drop])
  | false =>
    have hn := h1 rfl
    subst hn
    obtain ⟨e1, e2⟩ := eqL_length h
    rw [hl] at e1 e2
    obtain ⟨u, hu⟩ : ∃ u, (xs.toList.drop off).take 1 = [u] := by
      cases hq : (xs.toList.drop off).take 1 with
      | nil => simp [hq] at e1
      | cons u r => cases r with
        | nil => exact ⟨u, rfl⟩
        | cons _ _ => simp [hq] at e1
    obtain ⟨v, hv⟩ : ∃ u, (ys.toList.drop off).take 1 = [u] := by
      cases hq : (ys.toList.drop off).take 1 with
      | nil => simp [hq] at e2
      | cons u r => cases r with
        | nil => exact ⟨u, rfl⟩
        | cons _ _ => simp [hq] at e2
    have get : ∀ (zs : Array Value) (z : Value), (zs.toList.drop off).take 1 = [z] → zs[off]? = some z := by
      intro zs z hz
      have := congrArg (fun l => l[0]?) hz
      simpa [List.getElem?_take, List.getElem?_drop] using this
    rw [hu, hv] at h
    exact ⟨u, v, run_part_one ha (get xs u hu), run_part_one ha (get ys v hv), ok.2 ha u v b w h⟩

theorem run_items {d : Nat} {e : TypeId} {ls : List Leaf} {n : Nat} {agg : Bool} (ok : EqOk P d e ls) (hs : szOf P e = some n) (ha : isAggT P e = some agg) (hl : ls.length = n)
    (h1 : agg = false → n = 1) (xs ys : Array Value) : ∀ (m i : Nat) (b : Bool) (w : World), eqL (List.replicate m ls).flatten (xs.toList.drop (i * n)) (ys.toList.drop (i * n)) = some b →
      (Op.eqItems d e n xs ys (List.range' i m)).run P w = .ok b w := by
  intro m
  induction m with
  | zero =>
    intro i b w h
    have : b = true := by
      cases hx : xs.toList.drop (i * n) <;> cases hy : ys.toList.drop (i * n) <;> simp [hx, hy, eqL] at h
      exact h
    simp [Op.eqItems, this]
  | succ m ih =>
    intro i b w h
    rw [List.replicate_succ, List.flatten_cons] at h
    obtain ⟨b1, b2, e1, e2, rfl⟩ := eqL_append _ _ _ _ _ h
    rw [hl] at e1 e2
    obtain ⟨u, v, p1, p2, p3⟩ := seg_run (off := i * n) ok hs ha hl h1 xs ys b1 w e1
    rw [List.drop_drop, List.drop_drop, show i * n + n = (i + 1) * n by rw [Nat.succ_mul]] at e2
    simp only [List.range'_succ, Op.eqItems, Sem.run_bind, p1, p2, p3, Result.andThen_ok]
    cases b1
    · simp
    · simpa using ih (i + 1) b2 w e2

theorem run_fields {d : Nat} (g : TypeId → Option (List Leaf)) (ok : ∀ t ls, g t = some ls → EqOk P d t ls) (xs ys : Array Value) : ∀ (fs : List Field) (at_ : Nat) (ls : List Leaf) (b : Bool) (w : World),
    flatFields P g fs at_ = some ls → eqL ls (xs.toList.drop at_) (ys.toList.drop at_) = some b → (Op.eqFields d xs ys fs).run P w = .ok b w := by
  intro fs
  induction fs with
  | nil =>
    intro at_ ls b w hf h
    simp [flatFields] at hf
    subst hf
    have : b = true := by
      cases hx : xs.toList.drop at_ <;> cases hy : ys.toList.drop at_ <;> simp [hx, hy, eqL] at h
      exact h
    simp [Op.eqFields, this]
  | cons f fs ih =>
    intro at_ ls b w hf h
    simp only [flatFields] at hf
    cases hg : g f.type with
    | none => simp [hg] at hf
    | some k => cases hs : szOf P f.type with
      | none => simp [hg, hs] at hf
      | some k' => cases ha : isAggT P f.type with
        | none => simp [hg, hs, ha] at hf
        | some agg =>
          simp only [hg, hs, ha] at hf
          split at hf
          · rename_i hc
            obtain ⟨c1, c2, c3, c4⟩ := hc
            cases hr : flatFields P g fs (at_ + k') with
            | none => simp [hr] at hf
            | some rest =>
              simp [hr] at hf
              subst hf
              obtain ⟨b1, b2, e1, e2, rfl⟩ := eqL_append _ _ _ _ _ h
              rw [c3] at e1 e2
              obtain ⟨u, v, p1, p2, p3⟩ := seg_run (off := at_) (ok _ _ hg) hs ha c3 c4 xs ys b1 w e1
              rw [List.drop_drop, List.drop_drop] at e2
              subst c2
              simp only [Op.eqFields, c1, ne_eq, not_false_eq_true, if_true, Sem.run_bind, p1, p2, p3, Result.andThen_ok]
              cases b1
              · simp
              · simpa using ih _ rest b2 w hr e2
          · cases hf

theorem flat_ok : ∀ (f d : Nat) (t : TypeId) (ls : List Leaf), flatT P f t = some ls → EqOk P (d + f) t ls := by
  intro f
  induction f with
  | zero => intro d t ls h; simp [flatT] at h
  | succ f ih =>
    intro d t ls h
    have hd : d + (f + 1) = (d + f) + 1 := rfl
    rw [hd]
    simp only [flatT] at h
    have plain : ∀ (l : Leaf), ls = [l] → isAggT P t = some false → ((P.underlying t = some .bool ∧ l = .bool) ∨ (∃ k, P.underlying t = some (.int k) ∧ l = .int) ∨ (P.underlying t = some .string ∧ l = .str)) →
        EqOk P ((d + f) + 1) t ls := by
      rintro l rfl ha ht
      refine ⟨fun ha' => by rw [ha] at ha'; simp at ha', fun _ x y b w hb => ?_⟩
      simp only [eqL] at hb
      cases hl : leafEq l x y with
      | none => simp [hl] at hb
      | some c => simp [hl] at hb; subst hb; exact run_leaf _ ht hl
    cases hu : P.underlying t with
    | none => simp [hu] at h
    | some td =>
      cases td with
      | bool => simp [hu] at h; exact plain .bool h.symm (by simp [isAggT, hu]) (.inl ⟨hu, rfl⟩)
      | int k => simp [hu] at h; exact plain .int h.symm (by simp [isAggT, hu]) (.inr (.inl ⟨k, hu, rfl⟩))
      | string => simp [hu] at h; exact plain .str h.symm (by simp [isAggT, hu]) (.inr (.inr ⟨hu, rfl⟩))
      | array n e =>
        simp only [hu] at h
        cases h1 : flatT P f e with
        | none => simp [h1] at h
        | some k => cases h2 : szOf P e with
          | none => simp [h1, h2] at h
          | some k' => cases h3 : isAggT P e with
            | none => simp [h1, h2, h3] at h
            | some agg =>
              simp only [h1, h2, h3] at h
              split at h
              · rename_i hc
                simp at h
                subst h
                refine ⟨fun _ xs ys b w hb => ?_, fun ha => by simp [isAggT, hu] at ha⟩
                obtain ⟨i, hi⟩ : ∃ i, P.info? e = some i := by
                  unfold szOf at h2
                  cases hi : P.info? e with
                  | none => simp [hi] at h2
                  | some i => exact ⟨i, rfl⟩
                rw [run_equalIn_array w (d + f) xs ys hu hi]
                have hz : P.cellsOf e = k' := by
                  unfold szOf at h2
                  simp [Program.cellsOf, h2]
                rw [hz, List.range_eq_range']
                exact run_items (ih d e k h1) h2 h3 hc.1 hc.2 xs ys n 0 b w (by simpa using hb)
              · cases h
      | struct fs =>
        simp only [hu] at h
        split at h
        · cases h
        · rename_i hst
          refine ⟨fun _ xs ys b w hb => ?_, fun ha => by simp [isAggT, hu] at ha⟩
          have hf : P.fieldsOf t = fs := by simp [Program.fieldsOf, hu]
          rw [run_equalIn_struct w (d + f) t xs ys (by rw [hu, hf]) (by simpa using hst), hf]
          exact run_fields (flatT P f) (fun t ls h => ih d t ls h) xs ys fs.toList 0 ls b w h (by simpa using hb)
      | _ => simp [hu] at h

end Go.LE
