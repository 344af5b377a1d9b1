/- DispLevels: what hangs on the eliminators' level. -/
import Derived.Test.YtjebpfhffenbnaaGreatV6
import Derived.Test.YtjebpfhffenbnaaGreatW5
namespace Go.Proofs.YtjebpfhffenbnaaGreat
namespace Ev
open Go
set_option maxRecDepth 100000
set_option linter.unusedSimpArgs false
set_option linter.unusedVariables false
/-- A motive's parts. -/
def motL (b : Bl) (base k : Int) (so : So) : List T := tyL (vwOf b base so.idx k) 9000 0 so.idx ++ [spT (tC (former b base k)) ((posL k so.idx).map fun p => lv p (finL k so.idx))]
theorem nest_snoc (l : List T) (a t : T) : nestT 4 l (.mk 4 0 [a, t]) = nestT 4 (l ++ [a]) t := by
  induction l with
  | nil => rfl
  | cons x xs ih => rw [List.cons_append]; show T.mk 4 0 [x, nestT 4 xs _] = T.mk 4 0 [x, nestT 4 (xs ++ [a]) t]; rw [ih]
theorem mot_is (b : Bl) (base k : Int) (so : So) : motT b base k so = nestT 4 (motL b base k so) (.mk 2 b.elim []) := by rw [motT, nest_snoc, motL]
end Ev
end Go.Proofs.YtjebpfhffenbnaaGreat
