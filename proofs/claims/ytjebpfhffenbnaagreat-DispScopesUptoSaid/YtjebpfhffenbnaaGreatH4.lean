/- sig: formers', constructors', decoders' types. -/
import Derived.Test.YtjebpfhffenbnaaGreatH3
namespace Go.Proofs.YtjebpfhffenbnaaGreat
namespace Ev
open Go
set_option maxRecDepth 100000
set_option linter.unusedSimpArgs false
set_option linter.unusedVariables false
attribute [local simp] allD_map_d sks_map_d tk tn tks one_sos one_cos one_ars one_ts

def rightT (t : T) : T := if checkM t = 0 then t else zT
end Ev
end Go.Proofs.YtjebpfhffenbnaaGreat
