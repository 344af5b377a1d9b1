/- Several texts in one. -/
import Derived.Test.YtncmainjcffanaaBB
set_option maxRecDepth 100000
set_option linter.unusedSimpArgs false
set_option linter.unusedVariables false
/- TeleAgain. -/
namespace Go.Proofs.Ytncmainjcffanaa
namespace Ev
open Go
attribute [local simp] zah zai tk tn tks
end Ev
end Go.Proofs.Ytncmainjcffanaa
/- TeleScopes. -/
namespace Go.Proofs.Ytncmainjcffanaa
namespace Ev
open Go
attribute [local simp] zah zai tk tn tks
end Ev
end Go.Proofs.Ytncmainjcffanaa
/- TeleBack. -/
namespace Go.Proofs.Ytncmainjcffanaa
namespace Ev
open Go
attribute [local simp] zah zai tk tn tks
end Ev
end Go.Proofs.Ytncmainjcffanaa
/- TeleParts. -/
namespace Go.Proofs.Ytncmainjcffanaa
namespace Ev
open Go
attribute [local simp] zah zai tk tn tks
end Ev
end Go.Proofs.Ytncmainjcffanaa
