/- The row of the law PackEnds: whatever number and flag come in, it returns true. -/
import Derived.Test.YtjebpfhffenbnaaRows
import Derived.Test.YtjebpfhffenbnaaMa
import Derived.Test.YtjebpfhffenbnaaSA
import Derived.WalkKit
import Derived.ProofKit
import Derived.OpenShut
import Derived.Below
import Derived.SizedLaws
namespace Go.Proofs.Ytjebpfhffenbnaa.packEnds
open Go.ChangeShapes Go.WideShapes Go.ChangeAt Go.RowKit Go.Proofs.Ytjebpfhffenbnaa.Ev
set_option maxRecDepth 100000
theorem own : ownKnob Try.prog.godebug = none := by kernel_rfl
theorem law : ∀ xs, TypAll Try.prog Try.f6.params.toList xs → Pure Try.prog 6 xs [.bool true] := by
  intro xs h
  rw [Try.params6] at h
  match xs, h with
  | [y0, y1], ⟨h0, h1, _⟩ =>
    obtain ⟨x0, rfl, l0⟩ := arg_int h0
    obtain ⟨x1, rfl, l1⟩ := arg_bool h1
    exact ends03_law x0 x1
theorem lifted (os : Os) (started : os.Started) (H : Type) (enc : TypeId × Value → H) :
    ReturnsInHanded {} Try.checked os 6 .any (Rows.packEndsSpec.pre6 enc Try.prog Try.f6 Rows.packEndsRow.domain false) (Rows.packEndsSpec.post enc Try.prog Try.f6 false true false false) := by
  refine row_of (C := Try.checked) [3, 4, 24, 22] 4 own started (by kernel_rfl) Try.func6
    (ChangeSpec.witness6 (enc := enc) (C := Try.checked) false ⟨#[], #[.int .i64 0, .bool false], []⟩ 8 (by kernel_rfl) (by kernel_rfl) (by kernel_rfl) (by kernel_rfl))
    rfl (by kernel_rfl) (by kernel_rfl) (by kernel_rfl) (by kernel_rfl) Try.underlying4 ?_ law
  intro ds hd
  match ds, hd with
  | [y0, y1], _ => rfl
theorem over : Rows.packEndsRow.holds Try.pinned (OpenSpec.ofChange Rows.packEndsSpec) :=
  OpenClaim.holds_of_wide 6 Try.f6 rfl rfl rfl rfl rfl rfl rfl ⟨rfl, rfl, rfl, rfl, rfl⟩ rfl rfl rfl rfl rfl (by kernel_rfl) Try.func6 (by kernel_rfl)
    (of_decide_eq_true (by kernel_rfl)) (by unfold Func.isWrapper; first | (rw [if_pos (by decide +kernel)]; kernel_rfl) | (rw [if_neg (by decide +kernel)]; exact ⟨rfl, rfl⟩))
    (fun os started H enc _ => lifted os started H enc)
end Go.Proofs.Ytjebpfhffenbnaa.packEnds
namespace Go.Proofs.Ytjebpfhffenbnaa
theorem packEnds_holds : Rows.PackEndsSaid := packEnds.over
end Go.Proofs.Ytjebpfhffenbnaa
