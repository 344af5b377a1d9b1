/- The functions of this seat, told in the small language: printed by a program of this session, checked by the kernel against the translation. -/
import Derived.Test.YtncmainjcffanaaGreatXs
import Derived.Test.YtncmainjcffanaaGreatProg
import Derived.KernelRfl
set_option maxRecDepth 100000
set_option linter.unusedSimpArgs false
set_option linter.unusedVariables false
namespace Go.Proofs.YtncmainjcffanaaGreat
namespace Ev
open Go
open XCode (region block loop)
end Ev
end Go.Proofs.YtncmainjcffanaaGreat
