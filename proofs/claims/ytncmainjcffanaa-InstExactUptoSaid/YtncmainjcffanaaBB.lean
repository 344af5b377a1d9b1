/- Several texts in one. -/
import Derived.Test.YtncmainjcffanaaBA
import Derived.Test.YtncmainjcffanaaSA
import Derived.RangeFuncNested
set_option maxRecDepth 100000
set_option linter.unusedSimpArgs false
set_option linter.unusedVariables false
/- tele.nest: what each part does. -/
namespace Go.Proofs.Ytncmainjcffanaa
namespace Ev
open Go
attribute [local simp] zah zai tk tn tks
end Ev
end Go.Proofs.Ytncmainjcffanaa
/- What stands behind the closure that slices.Backward hands back. -/
namespace Go.Proofs.Ytncmainjcffanaa
namespace Ev
open Go Go.RowKit
end Ev
end Go.Proofs.Ytncmainjcffanaa
/- Whatever reads as a term reads as no other; what a step keeps,told as the law of a range over a function asks for it. -/
namespace Go.Proofs.Ytncmainjcffanaa
namespace Ev
open Go Go.RowKit
variable {nwI:Nw}
theorem Fr.reads {n:Nat} {G:GS} {st:S} {a:Act} {w w':World} (hk:zlc w w') (fr:Fr n G st a w):Fr n G st a w':=⟨fr.inv.reads hk,fun i=>(fr.slots i).reads hk,fr.size⟩
end Ev
end Go.Proofs.Ytncmainjcffanaa
/- tele.nest. -/
namespace Go.Proofs.Ytncmainjcffanaa
namespace Ev
open Go Go.RowKit
end Ev
end Go.Proofs.Ytncmainjcffanaa
/- TeleVars. -/
namespace Go.Proofs.Ytncmainjcffanaa
namespace Ev
open Go
attribute [local simp] zah zai tk tn tks
end Ev
end Go.Proofs.Ytncmainjcffanaa
/- tele: telescopes put together and taken apart. -/
namespace Go.Proofs.Ytncmainjcffanaa
namespace Ev
open Go
attribute [local simp] zah zai tk tn tks
end Ev
end Go.Proofs.Ytncmainjcffanaa
