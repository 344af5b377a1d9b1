/- The row of the law SigExact: whatever block, numbers, argument come in, of bulk at most 1048576, it returns true; the block stays as it was. -/
import Derived.Test.YtncmainjcffanaaGreatRows
import Derived.Test.YtncmainjcffanaaGreatNG
import Derived.Test.YtncmainjcffanaaGreatSA
import Derived.WalkKit
import Derived.ProofKit
import Derived.OpenShut
import Derived.Below
import Derived.SizedLaws
namespace Go.Proofs.YtncmainjcffanaaGreat.sigExact
open Go.ChangeShapes Go.WideShapes Go.ChangeAt Go.RowKit Go.Proofs.YtncmainjcffanaaGreat.Ev
set_option maxRecDepth 100000
theorem own : ownKnob Tryz.prog.godebug = none := by kernel_rfl
theorem law : ∀ xs, TypAll Tryz.prog Tryz.f3.params.toList xs → bulkL xs ≤ 1048576 → Pure Tryz.prog 3 xs [.bool true] := by
  intro xs h hb
  rw [Tryz.params3] at h
  match xs, h, hb with
  | [y0, y1, y2, y3], ⟨h0, h1, h2, h3, _⟩, hb =>
    obtain ⟨x0, rfl, l0⟩ := arg_block h0
    obtain ⟨x1, rfl, l1⟩ := arg_int h1
    obtain ⟨x2, rfl, l2⟩ := arg_int h2
    obtain ⟨x3, rfl, l3⟩ := arg_arg h3
    simp only [bulkL, List.map_cons, List.map_nil, List.sum_cons, List.sum_nil] at hb
    exact sigExact_law x0 x3 l0 l3 (by omega) (by have e1 : bulk (D.int .i64 x1) = 1 := (by simp [bulk]); omega) x1 x2
theorem lifted (os : Os) (started : os.Started) (H : Type) (enc : TypeId × Value → H) (F : Stop.Interp) :
    ReturnsInHanded {} Tryz.checked os 3 .any ((Rows.OpenSpec.upto Rows.sigExactSpec).pre6 enc Tryz.prog Tryz.f3 Rows.sigExactUptoRow.domain false) (((Rows.OpenSpec.upto Rows.sigExactSpec).at F).post enc Tryz.prog Tryz.f3 false true false false) := by
  refine row_upto (C := Tryz.checked) [3, 4, 28, 26, 30, 32, 46, 22, 34, 23, 25] 4 own started (by kernel_rfl) Tryz.func3
    (OpenSpec.witness (enc := enc) (C := Tryz.checked) (s := Rows.OpenSpec.upto Rows.sigExactSpec) (k := Rows.uptoSmall) rfl false ⟨#[], #[.agg #[.slice none 0 0, .slice none 0 0, .int .i64 0], .int .i64 0, .int .i64 0, .agg #[.bool false, .int .i64 0, .int .i64 0, .slice none 0 0, .slice none 0 0, .int .i64 0, .slice none 0 0]], []⟩ 8 (by kernel_rfl) (by kernel_rfl) (by kernel_rfl) (x := ([.agg [.nil, .nil, .lit (.int .i64 0)], .lit (.int .i64 0), .lit (.int .i64 0), .agg [.lit (.bool false), .agg [.lit (.int .i64 0), .lit (.int .i64 0), .nil], .nil, .lit (.int .i64 0), .nil]], [], [])) (by kernel_rfl) rfl (by kernel_rfl))
    rfl (by kernel_rfl) (by kernel_rfl) (by kernel_rfl) (by kernel_rfl) Tryz.underlying4 ?_ law
  intro ds hd
  match ds, hd with
  | [y0, y1, y2, y3], _ => rfl
theorem over : Rows.sigExactUptoRow.holds Tryz.pinned (Rows.OpenSpec.upto Rows.sigExactSpec) :=
  OpenClaim.holds_of_cond 3 Tryz.f3 rfl rfl rfl rfl rfl rfl rfl ⟨rfl, rfl, rfl, rfl, rfl⟩ rfl rfl rfl rfl rfl (by kernel_rfl) Tryz.func3 (by kernel_rfl)
    (of_decide_eq_true (by kernel_rfl)) (by unfold Func.isWrapper; first | (rw [if_pos (by decide +kernel)]; kernel_rfl) | (rw [if_neg (by decide +kernel)]; exact ⟨rfl, rfl⟩))
    (fun os started H enc _ F => lifted os started H enc F)
end Go.Proofs.YtncmainjcffanaaGreat.sigExact
namespace Go.Proofs.YtncmainjcffanaaGreat
theorem sigExact_holds : Rows.SigExactUptoSaid := sigExact.over
end Go.Proofs.YtncmainjcffanaaGreat
