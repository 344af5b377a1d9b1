/- The row of the law PositMoves: whatever block and numbers come in, of bulk at most 1048576, it returns true, and what came in reads behind the call as it did. -/
import Derived.Test.YthopdhnbflkabaaRows
import Derived.Test.YthopdhnbflkabaaOJ
import Derived.Test.YthopdhnbflkabaaH2
import Derived.Test.YthopdhnbflkabaaSA
import Derived.WalkKit
import Derived.ProofKit
import Derived.OpenShut
import Derived.Below
import Derived.SizedLaws
namespace Go.Proofs.Ythopdhnbflkabaa.positMoves
open Go.ChangeShapes Go.WideShapes Go.ChangeAt Go.RowKit Go.Proofs.Ythopdhnbflkabaa.Ev
set_option maxRecDepth 100000
theorem own : ownKnob Try.prog.godebug = none := by kernel_rfl
theorem law : ∀ xs, TypAll Try.prog Try.f4.params.toList xs → bulkL xs ≤ 1048576 → Pure Try.prog 4 xs [.bool true] := by
  intro xs h hb
  rw [Try.params4] at h
  match xs, h, hb with
  | [y0, y1, y2], ⟨h0, h1, h2, _⟩, hb =>
    obtain ⟨x0, rfl, l0⟩ := arg_block h0
    obtain ⟨x1, rfl, l1⟩ := arg_int h1
    obtain ⟨x2, rfl, l2⟩ := arg_int h2
    simp only [bulkL, List.map_cons, List.map_nil, List.sum_cons, List.sum_nil] at hb
    exact moves8_law x0 l0 (by omega) x1 x2
theorem lifted (os : Os) (started : os.Started) (H : Type) (enc : TypeId × Value → H) (F : Stop.Interp) :
    ReturnsInHanded {} Try.checked os 4 .any ((Rows.OpenSpec.upto Rows.positMovesSpec).pre6 enc Try.prog Try.f4 Rows.positMovesUptoRow.domain false) (((Rows.OpenSpec.upto Rows.positMovesSpec).at F).post enc Try.prog Try.f4 false true false false) := by
  refine row_upto (C := Try.checked) [3, 4, 25, 23, 38, 27, 29, 30, 35, 31, 33] 4 own started (by kernel_rfl) Try.func4
    (OpenSpec.witness (enc := enc) (C := Try.checked) (s := Rows.OpenSpec.upto Rows.positMovesSpec) (k := Rows.uptoSmall) rfl false ⟨#[], #[.agg #[.slice none 0 0, .slice none 0 0, .int .i64 0], .int .i64 0, .int .i64 0], []⟩ 8 (by kernel_rfl) (by kernel_rfl) (by kernel_rfl) (x := ([.agg [.nil, .nil, .lit (.int .i64 0)], .lit (.int .i64 0), .lit (.int .i64 0)], [], [])) (by kernel_rfl) rfl (by kernel_rfl))
    rfl (by kernel_rfl) (by kernel_rfl) (by kernel_rfl) (by kernel_rfl) Try.underlying4 ?_ law
  intro ds hd
  match ds, hd with
  | [y0, y1, y2], _ => rfl
theorem over : Rows.positMovesUptoRow.holds Try.pinned (Rows.OpenSpec.upto Rows.positMovesSpec) :=
  OpenClaim.holds_of_cond 4 Try.f4 rfl rfl rfl rfl rfl rfl rfl ⟨rfl, rfl, rfl, rfl, rfl⟩ rfl rfl rfl rfl rfl (by kernel_rfl) Try.func4 (by kernel_rfl)
    (of_decide_eq_true (by kernel_rfl)) (by unfold Func.isWrapper; first | (rw [if_pos (by decide +kernel)]; kernel_rfl) | (rw [if_neg (by decide +kernel)]; exact ⟨rfl, rfl⟩))
    (fun os started H enc _ F => lifted os started H enc F)
end Go.Proofs.Ythopdhnbflkabaa.positMoves
namespace Go.Proofs.Ythopdhnbflkabaa
theorem positMoves_holds : Rows.PositMovesUptoSaid := positMoves.over
end Go.Proofs.Ythopdhnbflkabaa
