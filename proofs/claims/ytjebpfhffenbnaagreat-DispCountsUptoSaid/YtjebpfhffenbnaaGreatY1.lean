/- DispLevels: what hangs on the eliminators' level. -/
import Derived.Test.YtjebpfhffenbnaaGreatV6
import Derived.Test.YtjebpfhffenbnaaGreatW5
namespace Go.Proofs.YtjebpfhffenbnaaGreat
namespace Ev
open Go
set_option maxRecDepth 100000
set_option linter.unusedSimpArgs false
set_option linter.unusedVariables false
end Ev
end Go.Proofs.YtjebpfhffenbnaaGreat
