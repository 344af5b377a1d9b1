/- The row of the law PackReads: whatever bytes and place come in -/
import Derived.Test.YtjebpfhffenbnaaRows
import Derived.Test.YtjebpfhffenbnaaZJ
import Derived.WalkKit
import Derived.ProofKit
import Derived.OpenShut
import Derived.Below
import Derived.SizedLaws
namespace Go.Proofs.Ytjebpfhffenbnaa.packReads
open Go.ChangeShapes Go.WideShapes Go.ChangeAt Go.RowKit Go.Proofs.Ytjebpfhffenbnaa.Ev
set_option maxRecDepth 100000
theorem own : ownKnob Try.prog.godebug = none := by kernel_rfl
theorem law : ∀ xs, TypAll Try.prog Try.f4.params.toList xs → Pure Try.prog 4 xs [.bool true] := by
  intro xs h
  rw [Try.params4] at h
  match xs, h with
  | [y0, y1], ⟨h0, h1, _⟩ =>
    obtain ⟨x0, rfl, l0⟩ := arg_bytes h0
    obtain ⟨x1, rfl, l1⟩ := arg_int h1
    exact reads03_law x0 l0.1 x1
theorem lifted (os : Os) (started : os.Started) (H : Type) (enc : TypeId × Value → H) :
    ReturnsInHanded {} Try.checked os 4 .any (Rows.packReadsSpec.pre6 enc Try.prog Try.f4 Rows.packReadsRow.domain false) (Rows.packReadsSpec.post enc Try.prog Try.f4 false true false false) := by
  refine row_of (C := Try.checked) [3, 4, 24, 22, 5, 26] 4 own started (by kernel_rfl) Try.func4
    (ChangeSpec.witness6 (enc := enc) (C := Try.checked) false ⟨#[], #[.slice none 0 0, .int .i64 0], []⟩ 8 (by kernel_rfl) (by kernel_rfl) (by kernel_rfl) (by kernel_rfl))
    rfl (by kernel_rfl) (by kernel_rfl) (by kernel_rfl) (by kernel_rfl) Try.underlying4 ?_ law
  intro ds hd
  match ds, hd with
  | [y0, y1], _ => rfl
theorem over : Rows.packReadsRow.holds Try.pinned (OpenSpec.ofChange Rows.packReadsSpec) :=
  OpenClaim.holds_of_wide 4 Try.f4 rfl rfl rfl rfl rfl rfl rfl ⟨rfl, rfl, rfl, rfl, rfl⟩ rfl rfl rfl rfl rfl (by kernel_rfl) Try.func4 (by kernel_rfl)
    (of_decide_eq_true (by kernel_rfl)) (by unfold Func.isWrapper; first | (rw [if_pos (by decide +kernel)]; kernel_rfl) | (rw [if_neg (by decide +kernel)]; exact ⟨rfl, rfl⟩))
    (fun os started H enc _ => lifted os started H enc)
end Go.Proofs.Ytjebpfhffenbnaa.packReads
namespace Go.Proofs.Ytjebpfhffenbnaa
theorem packReads_holds : Rows.PackReadsSaid := packReads.over
end Go.Proofs.Ytjebpfhffenbnaa
