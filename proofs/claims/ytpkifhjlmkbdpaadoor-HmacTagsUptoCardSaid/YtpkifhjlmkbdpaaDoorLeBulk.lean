/- What the bound on the arguments' bulk gives: how long they are. -/
import Derived.Test.YtpkifhjlmkbdpaaDoorRows
import Derived.Test.YtpkifhjlmkbdpaaDoorLeE
set_option linter.unusedVariables false
set_option linter.unusedSimpArgs false

namespace Go.Proofs.YtpkifhjlmkbdpaaDoor
open Go Go.LE

theorem bulk_one {H : Type} (d : DataW H) : 1 ≤ Rows.uptoBulk d := by
  cases d <;> first | simp [Rows.uptoBulk] | (rename_i l; cases l <;> simp [Rows.uptoBulk])
theorem bulk_all {H : Type} (l : List (DataW H)) : l.length ≤ Rows.uptoBulkAll l := by
  induction l with
  | nil => exact Nat.zero_le _
  | cons x r ih => have := bulk_one x; simp only [Rows.uptoBulkAll, List.length_cons]; omega
theorem bulk_len {H : Type} {d : DataW H} {n : Nat} (h : SlLen d n) : n ≤ Rows.uptoBulk d := by
  rcases h with ⟨rfl, _⟩ | ⟨l, s, rfl, rfl⟩
  · exact Nat.zero_le _
  · have := bulk_all l; simp only [Rows.uptoBulk]; omega
end Go.Proofs.YtpkifhjlmkbdpaaDoor
