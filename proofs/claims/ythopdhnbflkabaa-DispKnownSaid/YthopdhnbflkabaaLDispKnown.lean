/- The row of the law DispKnown: whatever number comes in, it returns true. -/
import Derived.Test.YthopdhnbflkabaaRows
import Derived.Test.YthopdhnbflkabaaV7
import Derived.Test.YthopdhnbflkabaaSA
import Derived.WalkKit
import Derived.ProofKit
import Derived.OpenShut
import Derived.Below
import Derived.SizedLaws
namespace Go.Proofs.Ythopdhnbflkabaa.dispKnown
open Go.ChangeShapes Go.WideShapes Go.ChangeAt Go.RowKit Go.Proofs.Ythopdhnbflkabaa.Ev
set_option maxRecDepth 100000
theorem own : ownKnob Try.prog.godebug = none := by kernel_rfl
theorem law : ∀ xs, TypAll Try.prog Try.f8.params.toList xs → Pure Try.prog 8 xs [.bool true] := by
  intro xs h
  rw [Try.params8] at h
  match xs, h with
  | [y0], ⟨h0, _⟩ =>
    obtain ⟨x0, rfl, l0⟩ := arg_int h0
    exact known11_law x0
theorem lifted (os : Os) (started : os.Started) (H : Type) (enc : TypeId × Value → H) :
    ReturnsInHanded {} Try.checked os 8 .any (Rows.dispKnownSpec.pre6 enc Try.prog Try.f8 Rows.dispKnownRow.domain false) (Rows.dispKnownSpec.post enc Try.prog Try.f8 false true false false) := by
  refine row_of (C := Try.checked) [3, 4, 25, 23] 4 own started (by kernel_rfl) Try.func8
    (ChangeSpec.witness6 (enc := enc) (C := Try.checked) false ⟨#[], #[.int .i64 0], []⟩ 8 (by kernel_rfl) (by kernel_rfl) (by kernel_rfl) (by kernel_rfl))
    rfl (by kernel_rfl) (by kernel_rfl) (by kernel_rfl) (by kernel_rfl) Try.underlying4 ?_ law
  intro ds hd
  match ds, hd with
  | [y0], _ => rfl
theorem over : Rows.dispKnownRow.holds Try.pinned (OpenSpec.ofChange Rows.dispKnownSpec) :=
  OpenClaim.holds_of_wide 8 Try.f8 rfl rfl rfl rfl rfl rfl rfl ⟨rfl, rfl, rfl, rfl, rfl⟩ rfl rfl rfl rfl rfl (by kernel_rfl) Try.func8 (by kernel_rfl)
    (of_decide_eq_true (by kernel_rfl)) (by unfold Func.isWrapper; first | (rw [if_pos (by decide +kernel)]; kernel_rfl) | (rw [if_neg (by decide +kernel)]; exact ⟨rfl, rfl⟩))
    (fun os started H enc _ => lifted os started H enc)
end Go.Proofs.Ythopdhnbflkabaa.dispKnown
namespace Go.Proofs.Ythopdhnbflkabaa
theorem dispKnown_holds : Rows.DispKnownSaid := dispKnown.over
end Go.Proofs.Ythopdhnbflkabaa
