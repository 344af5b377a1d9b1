/- The row of the law PileMany: whatever number comes in, it returns true. -/
import Derived.Test.YtgiejcndcbanjaaRows
import Derived.Test.YtgiejcndcbanjaaMa
import Derived.Test.YtgiejcndcbanjaaSA
import Derived.WalkKit
import Derived.ProofKit
import Derived.OpenShut
import Derived.Below
import Derived.SizedLaws
set_option maxRecDepth 100000
set_option linter.unusedSimpArgs false
set_option linter.unusedVariables false
namespace Go.Proofs.Ytgiejcndcbanjaa.pileMany
open Go.ChangeShapes Go.WideShapes Go.ChangeAt Go.RowKit Go.Proofs.Ytgiejcndcbanjaa.Ev
theorem own : ownKnob Try.prog.godebug = none := by kernel_rfl
theorem law : ∀ xs, TypAll Try.prog Try.f6.params.toList xs → Pure Try.prog 6 xs [.bool true] := by
  intro xs h
  rw [Try.params6] at h
  match xs, h with
  | [y0], ⟨h0, _⟩ =>
    obtain ⟨x0, rfl, l0⟩ := arg_int h0
    exact many_law x0
theorem lifted (os : Os) (started : os.Started) (H : Type) (enc : TypeId × Value → H) :
    ReturnsInHanded {} Try.checked os 6 .any (Rows.pileManySpec.pre6 enc Try.prog Try.f6 Rows.pileManyRow.domain false) (Rows.pileManySpec.post enc Try.prog Try.f6 false true false false) := by
  refine row_of (C := Try.checked) [3, 4, 38, 36] 4 own started (by kernel_rfl) Try.func6
    (ChangeSpec.witness6 (enc := enc) (C := Try.checked) false ⟨#[], #[.int .i64 0], []⟩ 8 (by kernel_rfl) (by kernel_rfl) (by kernel_rfl) (by kernel_rfl))
    rfl (by kernel_rfl) (by kernel_rfl) (by kernel_rfl) (by kernel_rfl) Try.underlying4 ?_ law
  intro ds hd
  match ds, hd with
  | [y0], _ => rfl
theorem over : Rows.pileManyRow.holds Try.pinned (OpenSpec.ofChange Rows.pileManySpec) :=
  OpenClaim.holds_of_wide 6 Try.f6 rfl rfl rfl rfl rfl rfl rfl ⟨rfl, rfl, rfl, rfl, rfl⟩ rfl rfl rfl rfl rfl (by kernel_rfl) Try.func6 (by kernel_rfl)
    (of_decide_eq_true (by kernel_rfl)) (by unfold Func.isWrapper; first | (rw [if_pos (by decide +kernel)]; kernel_rfl) | (rw [if_neg (by decide +kernel)]; exact ⟨rfl, rfl⟩))
    (fun os started H enc _ => lifted os started H enc)
end Go.Proofs.Ytgiejcndcbanjaa.pileMany
namespace Go.Proofs.Ytgiejcndcbanjaa
theorem pileMany_holds : Rows.PileManySaid := pileMany.over
end Go.Proofs.Ytgiejcndcbanjaa
