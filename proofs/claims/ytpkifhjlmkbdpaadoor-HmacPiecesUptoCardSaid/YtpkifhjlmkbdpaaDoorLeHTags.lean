/- HmacTags, evaluated. -/
import Derived.Test.YtpkifhjlmkbdpaaDoorLeHDerives
set_option linter.unusedVariables false
set_option linter.unusedSimpArgs false

namespace Sha
open Go Go.LE

end Sha
