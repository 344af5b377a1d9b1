/- The row of the law PileBent: whatever declaration and number come in -/
import Derived.Test.YtgiejcndcbanjaaGreatRows
import Derived.Test.YtgiejcndcbanjaaGreatMa
import Derived.Test.YtgiejcndcbanjaaGreatSA
import Derived.WalkKit
import Derived.ProofKit
import Derived.OpenShut
import Derived.Below
import Derived.SizedLaws
set_option maxRecDepth 100000
set_option linter.unusedSimpArgs false
set_option linter.unusedVariables false
namespace Go.Proofs.YtgiejcndcbanjaaGreat.pileBent
open Go.ChangeShapes Go.WideShapes Go.ChangeAt Go.RowKit Go.Proofs.YtgiejcndcbanjaaGreat.Ev
theorem own : ownKnob Tryz.prog.godebug = none := by kernel_rfl
theorem law : ∀ xs, TypAll Tryz.prog Tryz.f5.params.toList xs → Pure Tryz.prog 5 xs [.bool true] := by
  intro xs h
  rw [Tryz.params5] at h
  match xs, h with
  | [y0, y1], ⟨h0, h1, _⟩ =>
    obtain ⟨x0, rfl, l0⟩ := arg_decl h0
    obtain ⟨x1, rfl, l1⟩ := arg_int h1
    exact bent_law x0 l0 x1
theorem lifted (os : Os) (started : os.Started) (H : Type) (enc : TypeId × Value → H) :
    ReturnsInHanded {} Tryz.checked os 5 .any (Rows.pileBentSpec.pre6 enc Tryz.prog Tryz.f5 Rows.pileBentRow.domain false) (Rows.pileBentSpec.post enc Tryz.prog Tryz.f5 false true false false) := by
  refine row_of (C := Tryz.checked) [3, 4, 26, 24, 81, 75, 77, 27, 79, 28, 30, 32, 22] 4 own started (by kernel_rfl) Tryz.func5
    (ChangeSpec.witness6 (enc := enc) (C := Tryz.checked) false ⟨#[], #[.agg #[.int .i64 0, .int .i64 0, .int .i64 0, .slice none 0 0, .int .i64 0, .int .i64 0, .slice none 0 0, .slice none 0 0, .slice none 0 0, .int .i64 0], .int .i64 0], []⟩ 8 (by kernel_rfl) (by kernel_rfl) (by kernel_rfl) (by kernel_rfl))
    rfl (by kernel_rfl) (by kernel_rfl) (by kernel_rfl) (by kernel_rfl) Tryz.underlying4 ?_ law
  intro ds hd
  match ds, hd with
  | [y0, y1], _ => rfl
theorem over : Rows.pileBentRow.holds Tryz.pinned (OpenSpec.ofChange Rows.pileBentSpec) :=
  OpenClaim.holds_of_wide 5 Tryz.f5 rfl rfl rfl rfl rfl rfl rfl ⟨rfl, rfl, rfl, rfl, rfl⟩ rfl rfl rfl rfl rfl (by kernel_rfl) Tryz.func5 (by kernel_rfl)
    (of_decide_eq_true (by kernel_rfl)) (by unfold Func.isWrapper; first | (rw [if_pos (by decide +kernel)]; kernel_rfl) | (rw [if_neg (by decide +kernel)]; exact ⟨rfl, rfl⟩))
    (fun os started H enc _ => lifted os started H enc)
end Go.Proofs.YtgiejcndcbanjaaGreat.pileBent
namespace Go.Proofs.YtgiejcndcbanjaaGreat
theorem pileBent_holds : Rows.PileBentSaid := pileBent.over
end Go.Proofs.YtgiejcndcbanjaaGreat
