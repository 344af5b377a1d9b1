/- The row of the law DispExact: whatever block, numbers come in, of bulk at most 1048576, it returns true; the block stays as it was. -/
import Derived.Test.YtncmainjcffanaaGreatRows
import Derived.Test.YtncmainjcffanaaGreatMc
import Derived.Test.YtncmainjcffanaaGreatMa
import Derived.Test.YtncmainjcffanaaGreatSA
import Derived.WalkKit
import Derived.ProofKit
import Derived.OpenShut
import Derived.Below
import Derived.SizedLaws
set_option maxRecDepth 100000
set_option linter.unusedSimpArgs false
set_option linter.unusedVariables false
namespace Go.Proofs.YtncmainjcffanaaGreat.dispExact
open Go.ChangeShapes Go.WideShapes Go.ChangeAt Go.RowKit Go.Proofs.YtncmainjcffanaaGreat.Ev
theorem own : ownKnob Tryz.prog.godebug = none := by kernel_rfl
theorem law : ∀ xs, zGr Tryz.prog Tryz.f6.params.toList xs → zjv xs ≤ 1048576 → Pure Tryz.prog 6 xs [.bool true] := by
  intro xs h hb
  rw [Tryz.params6] at h
  match xs, h, hb with
  | [y0, y1, y2], ⟨h0, h1, h2, _⟩, hb =>
    obtain ⟨x0, rfl, l0⟩ := zJh h0
    obtain ⟨x1, rfl, l1⟩ := zIw h1
    obtain ⟨x2, rfl, l2⟩ := zIw h2
    simp only [zjv, List.map_cons, List.map_nil, List.sum_cons, List.sum_nil] at hb
    exact zBc x0 l0 (by omega) x1 x2
theorem lifted (os : Os) (started : os.Started) (H : Type) (enc : TypeId × Value → H) (F : Stop.Interp) :
    ReturnsInHanded {} Tryz.checked os 6 .any ((Rows.OpenSpec.upto Rows.dispExactSpec).pre6 enc Tryz.prog Tryz.f6 Rows.dispExactUptoRow.domain false) (((Rows.OpenSpec.upto Rows.dispExactSpec).at F).post enc Tryz.prog Tryz.f6 false true false false) := by
  refine zM6 (C := Tryz.checked) [3, 4, 28, 26, 30, 32, 46, 22, 34, 23, 25] 4 own started (by kernel_rfl) Tryz.func6
    (OpenSpec.witness (enc := enc) (C := Tryz.checked) (s := Rows.OpenSpec.upto Rows.dispExactSpec) (k := Rows.uptoSmall) rfl false ⟨#[], #[.agg #[.slice none 0 0, .slice none 0 0, .int .i64 0], .int .i64 0, .int .i64 0], []⟩ 8 (by kernel_rfl) (by kernel_rfl) (by kernel_rfl) (x := ([.agg [.nil, .nil, .lit (.int .i64 0)], .lit (.int .i64 0), .lit (.int .i64 0)], [], [])) (by kernel_rfl) rfl (by kernel_rfl))
    rfl (by kernel_rfl) (by kernel_rfl) (by kernel_rfl) (by kernel_rfl) Tryz.underlying4 ?_ law
  intro ds hd
  match ds, hd with
  | [y0, y1, y2], _ => rfl
theorem over : Rows.dispExactUptoRow.holds Tryz.pinned (Rows.OpenSpec.upto Rows.dispExactSpec) :=
  OpenClaim.holds_of_cond 6 Tryz.f6 rfl rfl rfl rfl rfl rfl rfl ⟨rfl, rfl, rfl, rfl, rfl⟩ rfl rfl rfl rfl rfl (by kernel_rfl) Tryz.func6 (by kernel_rfl)
    (of_decide_eq_true (by kernel_rfl)) (by unfold Func.isWrapper; first | (rw [if_pos (by decide +kernel)]; kernel_rfl) | (rw [if_neg (by decide +kernel)]; exact ⟨rfl, rfl⟩))
    (fun os started H enc _ F => lifted os started H enc F)
end Go.Proofs.YtncmainjcffanaaGreat.dispExact
namespace Go.Proofs.YtncmainjcffanaaGreat
theorem dispExact_holds : Rows.DispExactUptoSaid := dispExact.over
end Go.Proofs.YtncmainjcffanaaGreat
