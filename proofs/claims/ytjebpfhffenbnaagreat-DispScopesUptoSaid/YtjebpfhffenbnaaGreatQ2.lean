/- Variables counted, scopes, shifts. -/
import Derived.Test.YtjebpfhffenbnaaGreatQ1
namespace Go.Proofs.YtjebpfhffenbnaaGreat
namespace Ev
open Go
set_option maxRecDepth 100000
set_option linter.unusedSimpArgs false
set_option linter.unusedVariables false
attribute [local simp] allD_map_d sks_map_d tk tn tks initA EndsM
theorem wi_var {n w c : Int} (h : n < w) : wiT (.mk 1 n []) w c = true := by rw [wiT, if_pos rfl]; simpa using h
end Ev
end Go.Proofs.YtjebpfhffenbnaaGreat
