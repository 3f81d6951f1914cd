/- Soundness of the operations that look at no memory: slices, elements, fields; and all together. -/
import Derived.Test.YtpkifhjlmkbdpaaDoorLeOpsPure
set_option linter.unusedVariables false
set_option linter.unusedSimpArgs false
namespace Go.LE
variable {P : Program} {R : Imm} {p : Places} {gl : Nat → Option Cells}

theorem sl_mk {nm : Nm} {b o s off l h m size : Nat} (hp : p nm = some (.at b o s)) (h1 : l ≤ h) (h2 : h ≤ m) :
    Rep1 R p (.sl nm (off + l * size) (h - l) (some (m - l)) size) (.slice (some (if m = l then ⟨b, o + off, none⟩ else Addr.add ⟨b, o + off, none⟩ (l * size))) (h - l) (m - l)) := by
  by_cases e : m = l
  · obtain rfl : h = l := by omega
    rw [if_pos e, e, Nat.sub_self]
    exact .sl0 (by simp) .nil
  · rw [if_neg e, Addr.add_lit, Nat.add_assoc]
    exact .sl hp (by omega) (by simp) (by simp) .nil

theorem run_sliceAt_array {t e : TypeId} {n size : Nat} {a : Addr} {lo hi mx : Option Value} {l h m : Nat} {w : World} (hu : P.underlying t = some (.array n e)) (hs : szOf P e = some size)
    (hl : OptN lo 0 l) (hh : OptN hi n h) (hm : OptN mx n m) (h1 : l ≤ h) (h2 : h ≤ m) (h3 : m ≤ n) (h4 : mx.isSome = true → hi.isSome = true) :
    (Instr.sliceAt t (.pointer (some a)) lo hi mx).run P w = .ok (.slice (some (if m = l then a else a.add (l * size))) (h - l) (m - l)) w := by
  simp only [Instr.sliceAt, Sem.run_bind, run_underlying hu, Result.andThen_ok, Instr.sureAddr, Sem.run_pure, run_sliceBounds hl hh hm h1 h2 h3 h4, run_szOf hs]

theorem run_sliceAt_ptr {t u e : TypeId} {n size : Nat} {a : Addr} {lo hi mx : Option Value} {l h m : Nat} {w : World} (hu : P.underlying t = some (.pointer u)) (hv : P.underlying u = some (.array n e))
    (hs : szOf P e = some size) (hl : OptN lo 0 l) (hh : OptN hi n h) (hm : OptN mx n m) (h1 : l ≤ h) (h2 : h ≤ m) (h3 : m ≤ n) (h4 : mx.isSome = true → hi.isSome = true) :
    (Instr.sliceAt t (.pointer (some a)) lo hi mx).run P w = .ok (.slice (some (if m = l then a else a.add (l * size))) (h - l) (m - l)) w := by
  simp only [Instr.sliceAt, Instr.slice, Sem.run_bind, run_underlying hu, run_underlying hv, Result.andThen_ok, asAddr, Sem.run_pure, run_sliceBounds hl hh hm h1 h2 h3 h4, run_szOf hs]

theorem run_sliceAt_slice {t e : TypeId} {size len cap : Nat} {a : Option Addr} {lo hi mx : Option Value} {l h m : Nat} {w : World} (hu : P.underlying t = some (.slice e)) (hs : szOf P e = some size)
    (hl : OptN lo 0 l) (hh : OptN hi len h) (hm : OptN mx cap m) (h1 : l ≤ h) (h2 : h ≤ m) (h3 : m ≤ cap) (h4 : mx.isSome = true → hi.isSome = true) :
    (Instr.sliceAt t (.slice a len cap) lo hi mx).run P w = .ok (.slice (if m = l then a else a.map (·.add (l * size))) (h - l) (m - l)) w := by
  simp only [Instr.sliceAt, Instr.slice, Sem.run_bind, run_underlying hu, Result.andThen_ok, Sem.run_pure, run_sliceBounds hl hh hm h1 h2 h3 h4, run_szOf hs]

/-- what an array's slice is to the reckoner -/
def slcA (n size : Nat) (X : LV) (l h m : Nat) : Option LV :=
  if l ≤ h ∧ h ≤ m ∧ m ≤ n then match X with
    | .ptr nm off => some (.sl nm (off + l * size) (h - l) (some (m - l)) size)
    | .ipt xs => some (.isl ((xs.drop (l * size)).take ((h - l) * size)) (h - l))
    | _ => none else none

theorem slcA_rep {n size : Nat} {X z : LV} {x : Value} {l h m : Nat} (hx : Rep1 R p X x) (hz : slcA n size X l h m = some z) :
    ∃ a, x = .pointer (some a) ∧ l ≤ h ∧ h ≤ m ∧ m ≤ n ∧ Rep1 R p z (.slice (some (if m = l then a else a.add (l * size))) (h - l) (m - l)) := by
  unfold slcA at hz
  split at hz
  · rename_i hb
    obtain ⟨h1, h2, h3⟩ := hb
    split at hz
    · obtain rfl := Option.some.inj hz
      cases hx
      rename_i b o s hp _
      exact ⟨_, rfl, h1, h2, h3, sl_mk hp h1 h2⟩
    · obtain rfl := Option.some.inj hz
      cases hx
      rename_i b o cs hR hr _
      refine ⟨_, rfl, h1, h2, h3, ?_⟩
      by_cases e : m = l
      · obtain rfl : h = l := by omega
        rw [Nat.sub_self]
        exact .isl0 .nil
      · rw [if_neg e, Addr.add_lit]
        exact isl_rep hR hr _ _ _ _ (by omega)
    · cases hz
  · cases hz

theorem pureOp_slcA {tm : List LV} {n size : Nat} {x : LX} {lo hi mx : Option LX} {z : LV} (h : pureOp gl tm (.slcA n size x lo hi mx) = some z) :
    ∃ l h m, optNat gl tm 0 lo = some l ∧ optNat gl tm n hi = some h ∧ optNat gl tm n mx = some m ∧ (mx.isSome = true → hi.isSome = true) ∧ slcA n size (evX gl tm x) l h m = some z := by
  simp only [pureOp] at h
  split at h
  · rename_i l h' m e1 e2 e3
    split at h
    · rename_i hb
      refine ⟨l, h', m, e1, e2, e3, hb.2.2.2, ?_⟩
      unfold slcA
      rw [if_pos ⟨hb.1, hb.2.1, hb.2.2.1⟩]
      exact h
    · cases h
  · cases h

theorem slcS_rep {ρ : Operand → Value} {tm : List LV} (hX : ∀ x, Rep1 R p (evX gl tm (compX x)) (ρ x)) {size : Nat} {x : Operand} {lo hi mx : Option Operand} {z : LV}
    (hz : pureOp gl tm (.slcS size (compX x) (lo.map compX) (hi.map compX) (mx.map compX)) = some z) :
    ∃ a len cap l h m, ρ x = .slice a len cap ∧ OptN (lo.map ρ) 0 l ∧ OptN (hi.map ρ) len h ∧ OptN (mx.map ρ) cap m ∧ l ≤ h ∧ h ≤ m ∧ m ≤ cap ∧ ((mx.map ρ).isSome = true → (hi.map ρ).isSome = true) ∧
      Rep1 R p z (.slice (if m = l then a else a.map (·.add (l * size))) (h - l) (m - l)) := by
  have hx := hX x
  simp only [pureOp] at hz
  split at hz
  · -- a slice whose room is known
    rename_i nm off len c es hev
    rw [hev] at hx
    split at hz
    · rename_i l h m e1 e2 e3
      split at hz
      · rename_i hb
        obtain ⟨h1, h2, h3, rfl, h4⟩ := hb
        obtain rfl := Option.some.inj hz
        have o1 := optNat_rep hX e1
        have o2 := optNat_rep hX e2
        have o3 := optNat_rep hX e3
        generalize hy : ρ x = y at hx
        cases hx with
        | sl0 hk _ =>
          have := hk c rfl
          subst this
          obtain rfl : m = 0 := by omega
          obtain rfl : h = 0 := by omega
          obtain rfl : l = 0 := by omega
          exact ⟨_, _, _, 0, 0, 0, rfl, o1, o2, o3, h1, h2, h3, by simpa using h4, .sl0 (by simp) .nil⟩
        | sl hp hl hk _ _ =>
          have := hk c rfl
          subst this
          refine ⟨_, _, _, l, h, m, rfl, o1, o2, o3, h1, h2, h3, by simpa using h4, ?_⟩
          have := sl_mk (R := R) (size := es) (off := off) hp h1 h2
          by_cases e : m = l
          · simpa [e] using this
          · simpa [e] using this
      · cases hz
    · cases hz
  · -- a slice whose room is not known
    rename_i nm off len es hev
    rw [hev] at hx
    split at hz
    · rename_i hmx
      obtain rfl : mx = none := by cases mx <;> simp at hmx; rfl
      split at hz
      · rename_i l h e1 e2
        split at hz
        · rename_i hb
          obtain ⟨h1, h2, rfl⟩ := hb
          obtain rfl := Option.some.inj hz
          have o1 := optNat_rep hX e1
          have o2 := optNat_rep hX e2
          generalize hy : ρ x = y at hx
          cases hx with
          | sl0 hk _ =>
            obtain rfl : h = 0 := by omega
            obtain rfl : l = 0 := by omega
            exact ⟨_, _, _, 0, 0, 0, rfl, o1, o2, .inl ⟨rfl, rfl⟩, h1, Nat.le_refl _, Nat.le_refl _, by simp, .sl0 (by simp) .nil⟩
          | @sl _ _ _ _ _ b o s c _ _ hp hl hk hs _ =>
            refine ⟨_, _, _, l, h, c, rfl, o1, o2, .inl ⟨rfl, rfl⟩, h1, by omega, Nat.le_refl _, by simp, ?_⟩
            by_cases e : c = l
            · obtain rfl : h = l := by omega
              simp only [e, if_true, Nat.sub_self]
              exact .sl0 (by simp) .nil
            · rw [if_neg e]
              simp only [Option.map_some, Addr.add_lit, Nat.add_assoc]
              refine .sl hp (by omega) (by simp) (fun _ => ?_) .nil
              have := hs rfl
              have e3 : l * es + (c - l) * es = c * es := by rw [← Nat.add_mul]; congr 1; omega
              omega
        · cases hz
      · cases hz
    · rename_i hmx
      obtain ⟨mo, rfl⟩ : ∃ mo, mx = some mo := by cases mx <;> simp at hmx; exact ⟨_, rfl⟩
      split at hz
      · rename_i l h m e1 e2 e4
        split at hz
        · rename_i hb
          obtain ⟨h1, h2, h3, rfl, h5⟩ := hb
          obtain rfl := Option.some.inj hz
          have o1 := optNat_rep hX e1
          have o2 := optNat_rep hX e2
          obtain ⟨k, hk⟩ := natOf_rep (hX mo) (show natOf (evX gl tm (compX mo)) = some m from e4)
          generalize hy : ρ x = y at hx
          cases hx with
          | sl0 hk' _ =>
            obtain rfl : m = 0 := by omega
            obtain rfl : h = 0 := by omega
            obtain rfl : l = 0 := by omega
            exact ⟨_, _, _, 0, 0, 0, rfl, o1, o2, .inr ⟨k, by simp [hk]⟩, h1, h2, Nat.le_refl _, by simpa using h5, .sl0 (by simp) .nil⟩
          | @sl _ _ _ _ _ b o s c _ _ hp hl hk' hs _ =>
            refine ⟨_, _, _, l, h, m, rfl, o1, o2, .inr ⟨k, by simp [hk]⟩, h1, h2, by omega, by simpa using h5, ?_⟩
            have := sl_mk (R := R) (size := es) (off := off) hp h1 h2
            by_cases e : m = l
            · simpa [e] using this
            · simpa [e] using this
        · cases hz
      · cases hz
  · -- a slice of what is never written
    rename_i xs len hev
    rw [hev] at hx
    split at hz
    · rename_i hmx
      obtain rfl : mx = none := by cases mx <;> simp at hmx; rfl
      split at hz
      · rename_i l h e1 e2
        split at hz
        · rename_i hb
          obtain ⟨h1, h2⟩ := hb
          obtain rfl := Option.some.inj hz
          have o1 := optNat_rep hX e1
          have o2 := optNat_rep hX e2
          generalize hy : ρ x = y at hx
          cases hx with
          | @isl0 _ a c _ _ _ =>
            obtain rfl : h = 0 := by omega
            obtain rfl : l = 0 := by omega
            exact ⟨_, _, _, 0, 0, c, rfl, o1, o2, .inl ⟨rfl, rfl⟩, h1, by omega, Nat.le_refl _, by simp, .isl0 .nil⟩
          | @isl _ _ b o c cs _ _ hR hr hl _ =>
            refine ⟨_, _, _, l, h, c, rfl, o1, o2, .inl ⟨rfl, rfl⟩, h1, by omega, Nat.le_refl _, by simp, ?_⟩
            by_cases e : c = l
            · obtain rfl : h = l := by omega
              rw [Nat.sub_self]
              exact .isl0 .nil
            · rw [if_neg e]
              simp only [Option.map_some, Addr.add_lit]
              exact isl_rep hR hr _ _ _ _ (by omega)
        · cases hz
      · cases hz
    · cases hz
  · -- nil
    rename_i hev
    rw [hev] at hx
    split at hz
    · rename_i hmx
      obtain rfl : mx = none := by cases mx <;> simp at hmx; rfl
      split at hz
      · rename_i l h e1 e2
        split at hz
        · rename_i hb
          obtain ⟨rfl, rfl⟩ := hb
          obtain rfl := Option.some.inj hz
          have o1 := optNat_rep hX e1
          have o2 := optNat_rep hX e2
          generalize hy : ρ x = y at hx
          cases hx
          exact ⟨_, _, _, 0, 0, 0, rfl, o1, o2, .inl ⟨rfl, rfl⟩, Nat.le_refl _, Nat.le_refl _, Nat.le_refl _, by simp, .v .nil⟩
        · cases hz
      · cases hz
    · cases hz
  · cases hz

end Go.LE
