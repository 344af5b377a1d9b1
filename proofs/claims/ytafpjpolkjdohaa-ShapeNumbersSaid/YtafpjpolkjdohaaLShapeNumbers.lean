/- The row of the law ShapeNumbers: whatever block, base and number come in, it returns true, and what came in reads behind the call as it did. -/
import Derived.Test.YtafpjpolkjdohaaRows
import Derived.Test.YtafpjpolkjdohaaS11
import Derived.Test.YtafpjpolkjdohaaS12
import Derived.WalkKit
import Derived.ProofKit
import Derived.OpenShut
import Derived.Below
import Derived.SizedLaws
namespace Go.Proofs.Ytafpjpolkjdohaa.shapeNumbers
open Go.ChangeShapes Go.WideShapes Go.ChangeAt Go.RowKit Go.Proofs.Ytafpjpolkjdohaa.Ev
set_option maxRecDepth 100000
theorem own : ownKnob Try.prog.godebug = none := by kernel_rfl
theorem law : ∀ xs, TypAll Try.prog Try.f12.params.toList xs → Pure Try.prog 12 xs [.bool true] := by
  intro xs h
  rw [Try.params12] at h
  match xs, h with
  | [x, y, z], ⟨h1, h2, h3, _⟩ =>
    obtain ⟨b, rfl⟩ := arg_block h1
    obtain ⟨base, rfl, _⟩ := arg_int h2
    obtain ⟨n, rfl, hn⟩ := arg_int h3
    exact numbers_ok b base n hn
theorem lifted (os : Os) (started : os.Started) (H : Type) (enc : TypeId × Value → H) :
    ReturnsInHanded {} Try.checked os 12 .any (Rows.shapeNumbersSpec.pre6 enc Try.prog Try.f12 Rows.shapeNumbersRow.domain false) (Rows.shapeNumbersSpec.post enc Try.prog Try.f12 false true false false) := by
  refine row_of (C := Try.checked) [3, 4, 24, 22, 63, 57, 59, 51, 61, 52, 54] 4 own started (by kernel_rfl) Try.func12
    (ChangeSpec.witness6 (enc := enc) (C := Try.checked) false ⟨#[], #[.agg #[.slice none 0 0, .slice none 0 0, .int .i64 0], .int .i64 0, .int .i64 0], []⟩ 8 (by kernel_rfl) (by kernel_rfl) (by kernel_rfl) (by kernel_rfl))
    rfl (by kernel_rfl) (by kernel_rfl) (by kernel_rfl) (by kernel_rfl) Try.underlying4 ?_ law
  intro ds hd
  match ds, hd with
  | [a, b, c], _ => rfl
theorem over : Rows.shapeNumbersRow.holds Try.pinned (OpenSpec.ofChange Rows.shapeNumbersSpec) :=
  OpenClaim.holds_of_wide 12 Try.f12 rfl rfl rfl rfl rfl rfl rfl ⟨rfl, rfl, rfl, rfl, rfl⟩ rfl rfl rfl rfl rfl (by kernel_rfl) Try.func12 (by kernel_rfl)
    (of_decide_eq_true (by kernel_rfl)) (by unfold Func.isWrapper; first | (rw [if_pos (by decide +kernel)]; kernel_rfl) | (rw [if_neg (by decide +kernel)]; exact ⟨rfl, rfl⟩))
    (fun os started H enc _ => lifted os started H enc)
end Go.Proofs.Ytafpjpolkjdohaa.shapeNumbers
namespace Go.Proofs.Ytafpjpolkjdohaa
theorem shapeNumbers_holds : Rows.ShapeNumbersSaid := shapeNumbers.over
end Go.Proofs.Ytafpjpolkjdohaa
