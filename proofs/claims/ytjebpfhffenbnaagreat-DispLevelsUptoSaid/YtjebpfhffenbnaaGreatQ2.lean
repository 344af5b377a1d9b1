/- Variables counted, scopes, shifts. -/
import Derived.Test.YtjebpfhffenbnaaGreatQ1
namespace Go.Proofs.YtjebpfhffenbnaaGreat
namespace Ev
open Go
set_option maxRecDepth 100000
set_option linter.unusedSimpArgs false
set_option linter.unusedVariables false
attribute [local simp] allD_map_d sks_map_d tk tn tks initA EndsM
end Ev
end Go.Proofs.YtjebpfhffenbnaaGreat
