/- HmacReady, evaluated. -/
import Derived.Test.YtpkifhjlmkbdpaaDoorLeX
set_option linter.unusedVariables false
set_option linter.unusedSimpArgs false

namespace Sha
open Go Go.LE

def cp (k : List (BitVec 8)) (i j : Nat) : BitVec 8 := if j < i then k.getD j 0#8 else 0#8
theorem cp_zero (k : List (BitVec 8)) : cp k 0 = fun _ => 0#8 := by funext j; simp [cp]
/-- a key made ready, as bytes -/
def rl (key : List (BitVec 8)) : List (BitVec 8) := (List.range 64).map (rdy key)
end Sha
