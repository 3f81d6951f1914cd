/- Soundness of append and copy. -/
import Derived.Test.YtpkifhjlmkbdpaaDoorLeOpsHeap3
set_option linter.unusedVariables false
set_option linter.unusedSimpArgs false
namespace Go.LE
variable {P : Program} {R : Imm} {p : Places} {gl : Nat → Option Cells} {H : Heap} {w : World} {E : Env}

theorem growBy_le (n : Nat) : ∀ r c, c ≤ n + (n + 768) / 4 → Builtin.growBy n r c ≤ n + (n + 768) / 4
  | 0, c, h => h
  | r + 1, c, h => by
    simp only [Builtin.growBy]
    split
    · exact h
    · exact growBy_le n r _ (by omega)

theorem nextcap_le {n c : Nat} (h : c < n) : Builtin.nextslicecap n c ≤ 2 * n + 192 := by
  unfold Builtin.nextslicecap
  split
  · omega
  · split
    · omega
    · have := growBy_le n 4 c (by omega)
      omega

section
variable {t u e : TypeId} {d : TypeDesc} {size bytes sLen sCap k : Nat} {a : Option Addr} {y : Value} {ty : TypeId} {new : Array Value} {z : Array Value}
variable (hu : P.underlying t = some (.slice e)) (hv : P.underlying u = some d) (hd : ∀ k, d ≠ .int k) (hs : szOf P e = some size)
include hu hv hd hs

theorem run_append_fits (hk : ∀ w : World, (Builtin.lenOf y).run P w = .ok k w) (hn : (Builtin.firstCells size k y).run P w = .ok new w) (hfit : sLen + k ≤ sCap) :
    (Builtin.append_ #[t, u] ty #[.slice a sLen sCap, y]).run P w =
      (match a with | some a => (storeCells (a.add (sLen * size)) new.toList).run P w | none => .ok () w).andThen fun _ w' => .ok (.slice a (sLen + k) sCap) w' := by
  have hz : (match d with | .int _ => true | _ => false) = false := by cases d <;> first | rfl | exact absurd rfl (hd _)
  simp only [Builtin.append_, List.getElem?_toArray, List.getElem?_cons_zero, List.getElem?_cons_succ, Sem.run_bind, run_underlying hu, run_underlying hv, run_szOf hs, Result.andThen_ok, Sem.run_pure, hz,
    Bool.false_eq_true, if_false, hk, Bool.not_false, if_true, hn, hfit]
  cases a <;> simp only [Sem.run_bind, Sem.run_pure, Result.andThen_ok]

theorem run_append_grows (hb : bytesIn P e = some bytes) (hzr : zeroOf P e = some z) (hzs : z.size = size) (hpos : 0 < size) (hk : ∀ w : World, (Builtin.lenOf y).run P w = .ok k w)
    (hn : ∀ w' : World, w'.heap = w.heap → (Builtin.firstCells size k y).run P w' = .ok new w') {old : Array Value} (ho : ∀ w' : World, w'.heap = w.heap → (Builtin.firstCells size sLen (.slice a sLen sCap)).run P w' = .ok old w')
    (hgrow : sCap < sLen + k) (h1 : (sLen + k) * bytes ≤ 2 ^ 44) (h2 : bytes ≤ 2 ^ 20) (h3 : 0 < bytes) :
    ∃ (c : Nat) (rest : Array Value) (w' : World), sLen + k ≤ c ∧ rest.size = (c - (sLen + k)) * size ∧ w'.heap = w.heap.push (.cells (old ++ new ++ rest) e (0, 0)) ∧
      (w'.os = w.os ∧ w'.output = w.output ∧ w'.tape = w.tape) ∧ (Builtin.append_ #[t, u] ty #[.slice a sLen sCap, y]).run P w = .ok (.slice (some ⟨w.heap.size, 0, none⟩) (sLen + k) c) w' := by
  have hz : (match d with | .int _ => true | _ => false) = false := by cases d <;> first | rfl | exact absurd rfl (hd _)
  obtain ⟨zv, hz1, hz2⟩ := run_zeroOf hzr
  obtain ⟨i, hi1⟩ : ∃ i, P.info? e = some i := by
    unfold bytesIn at hb
    cases hi : P.info? e with
    | none => simp [hi] at hb
    | some i => exact ⟨i, rfl⟩
  have hi2 : i.bytes = bytes := by simpa [bytesIn, hi1] using hb
  have hi3 : ∀ w : World, (typeInfo e).run P w = .ok i w := fun w => run_info hi1
  have hcapb : ¬ (Builtin.nextslicecap (sLen + k) sCap * i.bytes > 2 ^ 48) := by
    have h5 := nextcap_le hgrow
    have h6 : Builtin.nextslicecap (sLen + k) sCap * bytes ≤ (2 * (sLen + k) + 192) * bytes := Nat.mul_le_mul_right _ h5
    have h7 : (2 * (sLen + k) + 192) * bytes = 2 * ((sLen + k) * bytes) + 192 * bytes := by rw [Nat.add_mul, Nat.mul_assoc]
    rw [hi2]
    omega
  have hle : ∀ q, sLen + k ≤ Question.cut (.appendCap (sLen + k) sCap e) q := fun q => by simp [Question.cut]
  refine ⟨Question.cut (.appendCap (sLen + k) sCap e) (w.tape w.drawn (.appendCap (sLen + k) sCap e)),
    Builtin.zeroCells z (Question.cut (.appendCap (sLen + k) sCap e) (w.tape w.drawn (.appendCap (sLen + k) sCap e)) - (sLen + k)),
    { w with drawn := w.drawn + 1, heap := w.heap.push (.cells (old ++ new ++ Builtin.zeroCells z (Question.cut (.appendCap (sLen + k) sCap e) (w.tape w.drawn (.appendCap (sLen + k) sCap e)) - (sLen + k))) e (0, 0)) },
    hle _, by simp [Builtin.zeroCells, hzs], rfl, ⟨rfl, rfl, rfl⟩, ?_⟩
  simp only [Builtin.append_, List.getElem?_toArray, List.getElem?_cons_zero, List.getElem?_cons_succ, Sem.run_bind, run_underlying hu, run_underlying hv, run_szOf hs, Result.andThen_ok, Sem.run_pure, hz,
    Bool.false_eq_true, if_false, hk, Bool.not_false, if_true]
  rw [if_neg (by omega)]
  have hbz : ¬ i.bytes = 0 := by omega
  simp only [Sem.run_bind, hi3, Result.andThen_ok, hbz, or_false, and_false, if_false, hcapb, run_choose, Question.forced, Bool.false_eq_true, run_askRoom, Bool.not_false, if_true]
  rw [ho { w with drawn := w.drawn + 1 } rfl]
  simp only [Result.andThen_ok]
  rw [hn { w with drawn := w.drawn + 1 } rfl]
  simp only [Result.andThen_ok, hz1, hz2, newRow, Sem.run_bind, run_newObj, Sem.run_pure]
end
end Go.LE
