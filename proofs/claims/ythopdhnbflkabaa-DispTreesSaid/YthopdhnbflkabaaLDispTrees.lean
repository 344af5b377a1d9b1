/- The row of the law DispTrees: whatever three numbers come in, it returns true. -/
import Derived.Test.YthopdhnbflkabaaRows
import Derived.Test.YthopdhnbflkabaaV8
import Derived.Test.YthopdhnbflkabaaSA
import Derived.WalkKit
import Derived.ProofKit
import Derived.OpenShut
import Derived.Below
import Derived.SizedLaws
namespace Go.Proofs.Ythopdhnbflkabaa.dispTrees
open Go.ChangeShapes Go.WideShapes Go.ChangeAt Go.RowKit Go.Proofs.Ythopdhnbflkabaa.Ev
set_option maxRecDepth 100000
theorem own : ownKnob Try.prog.godebug = none := by kernel_rfl
theorem law : ∀ xs, TypAll Try.prog Try.f9.params.toList xs → Pure Try.prog 9 xs [.bool true] := by
  intro xs h
  rw [Try.params9] at h
  match xs, h with
  | [y0, y1, y2], ⟨h0, h1, h2, _⟩ =>
    obtain ⟨x0, rfl, l0⟩ := arg_int h0
    obtain ⟨x1, rfl, l1⟩ := arg_int h1
    obtain ⟨x2, rfl, l2⟩ := arg_int h2
    exact trees11_law x0 x1 x2
theorem lifted (os : Os) (started : os.Started) (H : Type) (enc : TypeId × Value → H) :
    ReturnsInHanded {} Try.checked os 9 .any (Rows.dispTreesSpec.pre6 enc Try.prog Try.f9 Rows.dispTreesRow.domain false) (Rows.dispTreesSpec.post enc Try.prog Try.f9 false true false false) := by
  refine row_of (C := Try.checked) [3, 4, 25, 23] 4 own started (by kernel_rfl) Try.func9
    (ChangeSpec.witness6 (enc := enc) (C := Try.checked) false ⟨#[], #[.int .i64 0, .int .i64 0, .int .i64 0], []⟩ 8 (by kernel_rfl) (by kernel_rfl) (by kernel_rfl) (by kernel_rfl))
    rfl (by kernel_rfl) (by kernel_rfl) (by kernel_rfl) (by kernel_rfl) Try.underlying4 ?_ law
  intro ds hd
  match ds, hd with
  | [y0, y1, y2], _ => rfl
theorem over : Rows.dispTreesRow.holds Try.pinned (OpenSpec.ofChange Rows.dispTreesSpec) :=
  OpenClaim.holds_of_wide 9 Try.f9 rfl rfl rfl rfl rfl rfl rfl ⟨rfl, rfl, rfl, rfl, rfl⟩ rfl rfl rfl rfl rfl (by kernel_rfl) Try.func9 (by kernel_rfl)
    (of_decide_eq_true (by kernel_rfl)) (by unfold Func.isWrapper; first | (rw [if_pos (by decide +kernel)]; kernel_rfl) | (rw [if_neg (by decide +kernel)]; exact ⟨rfl, rfl⟩))
    (fun os started H enc _ => lifted os started H enc)
end Go.Proofs.Ythopdhnbflkabaa.dispTrees
namespace Go.Proofs.Ythopdhnbflkabaa
theorem dispTrees_holds : Rows.DispTreesSaid := dispTrees.over
end Go.Proofs.Ythopdhnbflkabaa
