/- posit's laws: constants that terms name; variables counted (the document's). -/
import Derived.Test.YtjebpfhffenbnaaGreatO4
namespace Go.Proofs.YtjebpfhffenbnaaGreat
namespace Ev
open Go
set_option maxRecDepth 100000
set_option linter.unusedSimpArgs false
set_option linter.unusedVariables false
section
attribute [local simp] allD_map_d sks_map_d tk tn tks initA EndsM
end
end Ev
end Go.Proofs.YtjebpfhffenbnaaGreat
