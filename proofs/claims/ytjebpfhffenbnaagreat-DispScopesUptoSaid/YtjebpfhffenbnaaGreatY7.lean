/- DispCounts. -/
import Derived.Test.YtjebpfhffenbnaaGreatY6
import Derived.Test.YtjebpfhffenbnaaGreatY4
namespace Go.Proofs.YtjebpfhffenbnaaGreat
namespace Ev
open Go
set_option maxRecDepth 100000
set_option linter.unusedSimpArgs false
set_option linter.unusedVariables false
section
attribute [local simp] allD_map_d sks_map_d tk tn tks initA EndsM one_sos one_cos one_ars one_ts
end
end Ev
end Go.Proofs.YtjebpfhffenbnaaGreat
