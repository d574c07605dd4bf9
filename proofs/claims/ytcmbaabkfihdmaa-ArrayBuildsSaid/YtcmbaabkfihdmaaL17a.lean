/- Layer 17: the example. -/
import Derived.Test.YtcmbaabkfihdmaaVExt
import Derived.Test.YtcmbaabkfihdmaaVIr
import Derived.WalkKit
set_option linter.unusedVariables false
namespace Go.Proofs.Ytcmbaabkfihdmaa.I
open Go Go.V
theorem c36_ok : Go.V.Call tab E 36 [] [] (.bool true) [] := Go.V.Call.run (ext := ext) (fun h => h) (fuel := 300) (n := 40) (by kernel_rfl)
end Go.Proofs.Ytcmbaabkfihdmaa.I
