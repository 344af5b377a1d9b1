/- The row of the law ShapeExact: whatever block and numbers come in, it returns true, and what came in reads behind the call as it did. -/
import Derived.Test.YtafpjpolkjdohaaRows
import Derived.Test.YtafpjpolkjdohaaS21
import Derived.Test.YtafpjpolkjdohaaS12
import Derived.WalkKit
import Derived.ProofKit
import Derived.OpenShut
import Derived.Below
import Derived.SizedLaws
namespace Go.Proofs.Ytafpjpolkjdohaa.shapeExact
open Go.ChangeShapes Go.WideShapes Go.ChangeAt Go.RowKit Go.Proofs.Ytafpjpolkjdohaa.Ev
set_option maxRecDepth 100000
theorem own : ownKnob Try.prog.godebug = none := by kernel_rfl
theorem law : ∀ xs, TypAll Try.prog Try.f11.params.toList xs → Pure Try.prog 11 xs [.bool true] := by
  intro xs h
  rw [Try.params11] at h
  match xs, h with
  | [y0, y1, y2, y3], ⟨h0, h1, h2, h3, _⟩ =>
    obtain ⟨x0, rfl, l0⟩ := arg_block h0
    obtain ⟨x1, rfl, l1⟩ := arg_int h1
    obtain ⟨x2, rfl, l2⟩ := arg_int h2
    obtain ⟨x3, rfl, l3⟩ := arg_int h3
    exact exact_ok x0 l0 x1 x2 x3 l3
theorem lifted (os : Os) (started : os.Started) (H : Type) (enc : TypeId × Value → H) :
    ReturnsInHanded {} Try.checked os 11 .any (Rows.shapeExactSpec.pre6 enc Try.prog Try.f11 Rows.shapeExactRow.domain false) (Rows.shapeExactSpec.post enc Try.prog Try.f11 false true false false) := by
  refine row_of (C := Try.checked) [3, 4, 24, 22, 63, 57, 59, 51, 61, 52, 54] 4 own started (by kernel_rfl) Try.func11
    (ChangeSpec.witness6 (enc := enc) (C := Try.checked) false ⟨#[], #[.agg #[.slice none 0 0, .slice none 0 0, .int .i64 0], .int .i64 0, .int .i64 0, .int .i64 0], []⟩ 8 (by kernel_rfl) (by kernel_rfl) (by kernel_rfl) (by kernel_rfl))
    rfl (by kernel_rfl) (by kernel_rfl) (by kernel_rfl) (by kernel_rfl) Try.underlying4 ?_ law
  intro ds hd
  match ds, hd with
  | [y0, y1, y2, y3], _ => rfl
theorem over : Rows.shapeExactRow.holds Try.pinned (OpenSpec.ofChange Rows.shapeExactSpec) :=
  OpenClaim.holds_of_wide 11 Try.f11 rfl rfl rfl rfl rfl rfl rfl ⟨rfl, rfl, rfl, rfl, rfl⟩ rfl rfl rfl rfl rfl (by kernel_rfl) Try.func11 (by kernel_rfl)
    (of_decide_eq_true (by kernel_rfl)) (by unfold Func.isWrapper; first | (rw [if_pos (by decide +kernel)]; kernel_rfl) | (rw [if_neg (by decide +kernel)]; exact ⟨rfl, rfl⟩))
    (fun os started H enc _ => lifted os started H enc)
end Go.Proofs.Ytafpjpolkjdohaa.shapeExact
namespace Go.Proofs.Ytafpjpolkjdohaa
theorem shapeExact_holds : Rows.ShapeExactSaid := shapeExact.over
end Go.Proofs.Ytafpjpolkjdohaa
