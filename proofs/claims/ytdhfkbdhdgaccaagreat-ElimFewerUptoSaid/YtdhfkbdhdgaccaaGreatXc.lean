/- The functions of this seat, told in the small language: printed by a program of this session, checked by the kernel against the translation. -/
import Derived.Test.YtdhfkbdhdgaccaaGreatXs
import Derived.Test.YtdhfkbdhdgaccaaGreatProg
import Derived.KernelRfl
set_option maxRecDepth 100000
set_option linter.unusedSimpArgs false
set_option linter.unusedVariables false
namespace Go.Proofs.YtdhfkbdhdgaccaaGreat
namespace Ev
open Go
open XCode (region block loop)
end Ev
end Go.Proofs.YtdhfkbdhdgaccaaGreat
