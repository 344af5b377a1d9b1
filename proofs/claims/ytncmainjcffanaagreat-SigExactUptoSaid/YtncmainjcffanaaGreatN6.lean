/- porismkeep.Spoils: what it writes over. -/
import Derived.Test.YtncmainjcffanaaGreatN5
namespace Go.Proofs.YtncmainjcffanaaGreat
namespace Ev
open Go
set_option maxRecDepth 100000
set_option linter.unusedSimpArgs false
set_option linter.unusedVariables false
open Go.RowKit (Hid)
theorem Chg.undrew {St : Nat → Nat} {w w' : World} (h : Chg St w w'.drew) : Chg St w w' := ⟨h.os, h.tape, h.output, h.size, h.block, h.free, h.cell⟩
end Ev
end Go.Proofs.YtncmainjcffanaaGreat
