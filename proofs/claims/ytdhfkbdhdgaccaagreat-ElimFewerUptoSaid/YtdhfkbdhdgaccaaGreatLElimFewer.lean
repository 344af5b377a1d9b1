/- The row of the law ElimFewer: whatever block and numbers come in -/
import Derived.Test.YtdhfkbdhdgaccaaGreatRows
import Derived.Test.YtdhfkbdhdgaccaaGreatMc
import Derived.Test.YtdhfkbdhdgaccaaGreatMa
import Derived.Test.YtdhfkbdhdgaccaaGreatSA
import Derived.WalkKit
import Derived.ProofKit
import Derived.OpenShut
import Derived.Below
import Derived.SizedLaws
set_option maxRecDepth 100000
set_option linter.unusedSimpArgs false
set_option linter.unusedVariables false
namespace Go.Proofs.YtdhfkbdhdgaccaaGreat.elimFewer
open Go.ChangeShapes Go.WideShapes Go.ChangeAt Go.RowKit Go.Proofs.YtdhfkbdhdgaccaaGreat.Ev
theorem own : ownKnob Tryz.prog.godebug = none := by kernel_rfl
theorem law : ∀ xs, zGj Tryz.prog Tryz.f4.params.toList xs → ziq xs ≤ 1048576 → Pure Tryz.prog 4 xs [.bool true] := by
  intro xs h hb
  rw [Tryz.params4] at h
  match xs, h, hb with
  | [y0, y1, y2], ⟨h0, h1, h2, _⟩, hb =>
    obtain ⟨x0, rfl, l0⟩ := zJl h0
    obtain ⟨x1, rfl, l1⟩ := zK6 h1
    obtain ⟨x2, rfl, l2⟩ := zK6 h2
    simp only [ziq, List.map_cons, List.map_nil, List.sum_cons, List.sum_nil] at hb
    exact zDz x0 l0 (by omega) x1 x2
theorem lifted (os : Os) (started : os.Started) (H : Type) (enc : TypeId × Value → H) (F : Stop.Interp) :
    ReturnsInHanded {} Tryz.checked os 4 .any ((Rows.OpenSpec.upto Rows.elimFewerSpec).pre6 enc Tryz.prog Tryz.f4 Rows.elimFewerUptoRow.domain false) (((Rows.OpenSpec.upto Rows.elimFewerSpec).at F).post enc Tryz.prog Tryz.f4 false true false false) := by
  refine zNs (C := Tryz.checked) [3, 4, 32, 30, 59, 38, 40, 22, 61, 23, 25] 4 own started (by kernel_rfl) Tryz.func4
    (OpenSpec.witness (enc := enc) (C := Tryz.checked) (s := Rows.OpenSpec.upto Rows.elimFewerSpec) (k := Rows.uptoSmall) rfl false ⟨#[], #[.agg #[.slice none 0 0, .slice none 0 0, .int .i64 0], .int .i64 0, .int .i64 0], []⟩ 8 (by kernel_rfl) (by kernel_rfl) (by kernel_rfl) (x := ([.agg [.nil, .nil, .lit (.int .i64 0)], .lit (.int .i64 0), .lit (.int .i64 0)], [], [])) (by kernel_rfl) rfl (by kernel_rfl))
    rfl (by kernel_rfl) (by kernel_rfl) (by kernel_rfl) (by kernel_rfl) Tryz.underlying4 ?_ law
  intro ds hd
  match ds, hd with
  | [y0, y1, y2], _ => rfl
theorem over : Rows.elimFewerUptoRow.holds Tryz.pinned (Rows.OpenSpec.upto Rows.elimFewerSpec) :=
  OpenClaim.holds_of_cond 4 Tryz.f4 rfl rfl rfl rfl rfl rfl rfl ⟨rfl, rfl, rfl, rfl, rfl⟩ rfl rfl rfl rfl rfl (by kernel_rfl) Tryz.func4 (by kernel_rfl)
    (of_decide_eq_true (by kernel_rfl)) (by unfold Func.isWrapper; first | (rw [if_pos (by decide +kernel)]; kernel_rfl) | (rw [if_neg (by decide +kernel)]; exact ⟨rfl, rfl⟩))
    (fun os started H enc _ F => lifted os started H enc F)
end Go.Proofs.YtdhfkbdhdgaccaaGreat.elimFewer
namespace Go.Proofs.YtdhfkbdhdgaccaaGreat
theorem elimFewer_holds : Rows.ElimFewerUptoSaid := elimFewer.over
end Go.Proofs.YtdhfkbdhdgaccaaGreat
