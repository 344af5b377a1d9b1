/- The row of the law TeleVars: whatever numbers come in it returns true. -/
import Derived.Test.YtghdmjdalighfaaRows
import Derived.Test.YtghdmjdalighfaaR5
import Derived.Test.YtghdmjdalighfaaS12
import Derived.WalkKit
import Derived.ProofKit
import Derived.OpenShut
import Derived.Below
import Derived.SizedLaws
namespace Go.Proofs.Ytghdmjdalighfaa.teleVars
open Go.ChangeShapes Go.WideShapes Go.ChangeAt Go.RowKit Go.Proofs.Ytghdmjdalighfaa.Ev
set_option maxRecDepth 100000
theorem own : ownKnob Try.prog.godebug = none := by kernel_rfl
theorem law : ∀ xs, TypAll Try.prog Try.f5.params.toList xs → Pure Try.prog 5 xs [.bool true] := by
  intro xs h
  rw [Try.params5] at h
  match xs, h with
  | [y0, y1], ⟨h0, h1, _⟩ =>
    obtain ⟨x0, rfl, l0⟩ := arg_int h0
    obtain ⟨x1, rfl, l1⟩ := arg_int h1
    exact televars_law x0 x1
theorem lifted (os : Os) (started : os.Started) (H : Type) (enc : TypeId × Value → H) :
    ReturnsInHanded {} Try.checked os 5 .any (Rows.teleVarsSpec.pre6 enc Try.prog Try.f5 Rows.teleVarsRow.domain false) (Rows.teleVarsSpec.post enc Try.prog Try.f5 false true false false) := by
  refine row_of (C := Try.checked) [3, 4, 24, 22] 4 own started (by kernel_rfl) Try.func5
    (ChangeSpec.witness6 (enc := enc) (C := Try.checked) false ⟨#[], #[.int .i64 0, .int .i64 0], []⟩ 8 (by kernel_rfl) (by kernel_rfl) (by kernel_rfl) (by kernel_rfl))
    rfl (by kernel_rfl) (by kernel_rfl) (by kernel_rfl) (by kernel_rfl) Try.underlying4 ?_ law
  intro ds hd
  match ds, hd with
  | [y0, y1], _ => rfl
theorem over : Rows.teleVarsRow.holds Try.pinned (OpenSpec.ofChange Rows.teleVarsSpec) :=
  OpenClaim.holds_of_wide 5 Try.f5 rfl rfl rfl rfl rfl rfl rfl ⟨rfl, rfl, rfl, rfl, rfl⟩ rfl rfl rfl rfl rfl (by kernel_rfl) Try.func5 (by kernel_rfl)
    (of_decide_eq_true (by kernel_rfl)) (by unfold Func.isWrapper; first | (rw [if_pos (by decide +kernel)]; kernel_rfl) | (rw [if_neg (by decide +kernel)]; exact ⟨rfl, rfl⟩))
    (fun os started H enc _ => lifted os started H enc)
end Go.Proofs.Ytghdmjdalighfaa.teleVars
namespace Go.Proofs.Ytghdmjdalighfaa
theorem teleVars_holds : Rows.TeleVarsSaid := teleVars.over
end Go.Proofs.Ytghdmjdalighfaa
