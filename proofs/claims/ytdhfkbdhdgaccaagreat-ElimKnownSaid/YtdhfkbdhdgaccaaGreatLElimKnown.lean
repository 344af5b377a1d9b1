/- The row of the law ElimKnown: whatever number comes in, it returns true. -/
import Derived.Test.YtdhfkbdhdgaccaaGreatRows
import Derived.Test.YtdhfkbdhdgaccaaGreatMb
import Derived.Test.YtdhfkbdhdgaccaaGreatSA
import Derived.WalkKit
import Derived.ProofKit
import Derived.OpenShut
import Derived.Below
import Derived.SizedLaws
namespace Go.Proofs.YtdhfkbdhdgaccaaGreat.elimKnown
open Go.ChangeShapes Go.WideShapes Go.ChangeAt Go.RowKit Go.Proofs.YtdhfkbdhdgaccaaGreat.Ev
set_option maxRecDepth 100000
theorem own : ownKnob Tryz.prog.godebug = none := by kernel_rfl
theorem law : ∀ xs, TypAll Tryz.prog Tryz.f5.params.toList xs → Pure Tryz.prog 5 xs [.bool true] := by
  intro xs h
  rw [Tryz.params5] at h
  match xs, h with
  | [y0], ⟨h0, _⟩ =>
    obtain ⟨x0, rfl, l0⟩ := arg_int h0
    exact known12_law x0
theorem lifted (os : Os) (started : os.Started) (H : Type) (enc : TypeId × Value → H) :
    ReturnsInHanded {} Tryz.checked os 5 .any (Rows.elimKnownSpec.pre6 enc Tryz.prog Tryz.f5 Rows.elimKnownRow.domain false) (Rows.elimKnownSpec.post enc Tryz.prog Tryz.f5 false true false false) := by
  refine row_of (C := Tryz.checked) [3, 4, 32, 30] 4 own started (by kernel_rfl) Tryz.func5
    (ChangeSpec.witness6 (enc := enc) (C := Tryz.checked) false ⟨#[], #[.int .i64 0], []⟩ 8 (by kernel_rfl) (by kernel_rfl) (by kernel_rfl) (by kernel_rfl))
    rfl (by kernel_rfl) (by kernel_rfl) (by kernel_rfl) (by kernel_rfl) Tryz.underlying4 ?_ law
  intro ds hd
  match ds, hd with
  | [y0], _ => rfl
theorem over : Rows.elimKnownRow.holds Tryz.pinned (OpenSpec.ofChange Rows.elimKnownSpec) :=
  OpenClaim.holds_of_wide 5 Tryz.f5 rfl rfl rfl rfl rfl rfl rfl ⟨rfl, rfl, rfl, rfl, rfl⟩ rfl rfl rfl rfl rfl (by kernel_rfl) Tryz.func5 (by kernel_rfl)
    (of_decide_eq_true (by kernel_rfl)) (by unfold Func.isWrapper; first | (rw [if_pos (by decide +kernel)]; kernel_rfl) | (rw [if_neg (by decide +kernel)]; exact ⟨rfl, rfl⟩))
    (fun os started H enc _ => lifted os started H enc)
end Go.Proofs.YtdhfkbdhdgaccaaGreat.elimKnown
namespace Go.Proofs.YtdhfkbdhdgaccaaGreat
theorem elimKnown_holds : Rows.ElimKnownSaid := elimKnown.over
end Go.Proofs.YtdhfkbdhdgaccaaGreat
