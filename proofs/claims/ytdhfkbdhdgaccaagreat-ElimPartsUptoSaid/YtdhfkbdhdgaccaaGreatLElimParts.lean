/- The row of the law ElimParts: whatever block and numbers come in -/
import Derived.Test.YtdhfkbdhdgaccaaGreatRows
import Derived.Test.YtdhfkbdhdgaccaaGreatMc
import Derived.Test.YtdhfkbdhdgaccaaGreatMa
import Derived.Test.YtdhfkbdhdgaccaaGreatSA
import Derived.WalkKit
import Derived.ProofKit
import Derived.OpenShut
import Derived.Below
import Derived.SizedLaws
namespace Go.Proofs.YtdhfkbdhdgaccaaGreat.elimParts
open Go.ChangeShapes Go.WideShapes Go.ChangeAt Go.RowKit Go.Proofs.YtdhfkbdhdgaccaaGreat.Ev
set_option maxRecDepth 100000
theorem own : ownKnob Tryz.prog.godebug = none := by kernel_rfl
theorem law : ∀ xs, zEk Tryz.prog Tryz.f3.params.toList xs → ziq xs ≤ 1048576 → Pure Tryz.prog 3 xs [.bool true] := by
  intro xs h hb
  rw [Tryz.params3] at h
  match xs, h, hb with
  | [y0, y1, y2], ⟨h0, h1, h2, _⟩, hb =>
    obtain ⟨x0, rfl, l0⟩ := zKm h0
    obtain ⟨x1, rfl, l1⟩ := zKh h1
    obtain ⟨x2, rfl, l2⟩ := zKh h2
    simp only [ziq, List.map_cons, List.map_nil, List.sum_cons, List.sum_nil] at hb
    exact zEb x0 l0 (by omega) x1 x2
theorem lifted (os : Os) (started : os.Started) (H : Type) (enc : TypeId × Value → H) (F : Stop.Interp) :
    ReturnsInHanded {} Tryz.checked os 3 .any ((Rows.OpenSpec.upto Rows.elimPartsSpec).pre6 enc Tryz.prog Tryz.f3 Rows.elimPartsUptoRow.domain false) (((Rows.OpenSpec.upto Rows.elimPartsSpec).at F).post enc Tryz.prog Tryz.f3 false true false false) := by
  refine zK9 (C := Tryz.checked) [3, 4, 32, 30, 59, 38, 40, 22, 61, 23, 25] 4 own started (by kernel_rfl) Tryz.func3
    (OpenSpec.witness (enc := enc) (C := Tryz.checked) (s := Rows.OpenSpec.upto Rows.elimPartsSpec) (k := Rows.uptoSmall) rfl false ⟨#[], #[.agg #[.slice none 0 0, .slice none 0 0, .int .i64 0], .int .i64 0, .int .i64 0], []⟩ 8 (by kernel_rfl) (by kernel_rfl) (by kernel_rfl) (x := ([.agg [.nil, .nil, .lit (.int .i64 0)], .lit (.int .i64 0), .lit (.int .i64 0)], [], [])) (by kernel_rfl) rfl (by kernel_rfl))
    rfl (by kernel_rfl) (by kernel_rfl) (by kernel_rfl) (by kernel_rfl) Tryz.underlying4 ?_ law
  intro ds hd
  match ds, hd with
  | [y0, y1, y2], _ => rfl
theorem over : Rows.elimPartsUptoRow.holds Tryz.pinned (Rows.OpenSpec.upto Rows.elimPartsSpec) :=
  OpenClaim.holds_of_cond 3 Tryz.f3 rfl rfl rfl rfl rfl rfl rfl ⟨rfl, rfl, rfl, rfl, rfl⟩ rfl rfl rfl rfl rfl (by kernel_rfl) Tryz.func3 (by kernel_rfl)
    (of_decide_eq_true (by kernel_rfl)) (by unfold Func.isWrapper; first | (rw [if_pos (by decide +kernel)]; kernel_rfl) | (rw [if_neg (by decide +kernel)]; exact ⟨rfl, rfl⟩))
    (fun os started H enc _ F => lifted os started H enc F)
end Go.Proofs.YtdhfkbdhdgaccaaGreat.elimParts
namespace Go.Proofs.YtdhfkbdhdgaccaaGreat
theorem elimParts_holds : Rows.ElimPartsUptoSaid := elimParts.over
end Go.Proofs.YtdhfkbdhdgaccaaGreat
