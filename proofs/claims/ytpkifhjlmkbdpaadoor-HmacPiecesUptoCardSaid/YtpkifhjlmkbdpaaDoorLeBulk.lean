/- What the bound on the arguments' bulk gives: how long they are. -/
import Derived.Test.YtpkifhjlmkbdpaaDoorRows
import Derived.Test.YtpkifhjlmkbdpaaDoorLeE
set_option linter.unusedVariables false
set_option linter.unusedSimpArgs false

namespace Go.Proofs.YtpkifhjlmkbdpaaDoor
open Go Go.LE

theorem bulk_one {H : Type} (d : DataW H) : 1 ≤ Rows.uptoBulk d := by
  cases d <;> first | simp [Rows.uptoBulk] | (rename_i l; cases l <;> simp [Rows.uptoBulk])
theorem bulk_all {H : Type} (l : List (DataW H)) : l.length ≤ Rows.uptoBulkAll l := by
  induction l with
  | nil => exact Nat.zero_le _
  | cons x r ih => have := bulk_one x; simp only [Rows.uptoBulkAll, List.length_cons]; omega
theorem bulk_len {H : Type} {d : DataW H} {n : Nat} (h : SlLen d n) : n ≤ Rows.uptoBulk d := by
  rcases h with ⟨rfl, _⟩ | ⟨l, s, rfl, rfl⟩
  · exact Nat.zero_le _
  · have := bulk_all l; simp only [Rows.uptoBulk]; omega
theorem bulk_lens {H : Type} {d : DataW H} {L : List (List (BitVec 8))} (h : SlLens d L) : L.flatten.length ≤ Rows.uptoBulk d ∧ L.length ≤ Rows.uptoBulk d := by
  rcases h with ⟨rfl, _⟩ | ⟨l, s, rfl, hl, hq⟩
  · exact ⟨Nat.zero_le _, Nat.zero_le _⟩
  · have h1 : ∀ (L : List (List (BitVec 8))) (l : List (DataW H)), l.length = L.length → (∀ (i : Nat) b x, L[i]? = some b → l[i]? = some x → SlLen x b.length) → L.flatten.length ≤ Rows.uptoBulkAll l := by
      intro L
      induction L with
      | nil => intro l _ _; exact Nat.zero_le _
      | cons b L ih =>
        intro l hl hq
        cases l with
        | nil => simp at hl
        | cons x l =>
          have h2 := ih l (by simpa using hl) fun i b x h1 h2 => hq (i + 1) b x (by simpa using h1) (by simpa using h2)
          have h3 := bulk_len (hq 0 b x rfl rfl)
          simp only [List.flatten_cons, List.length_append, Rows.uptoBulkAll]
          omega
    have h2 := h1 L l hl hq
    have h3 := bulk_all l
    simp only [Rows.uptoBulk]
    omega
end Go.Proofs.YtpkifhjlmkbdpaaDoor
