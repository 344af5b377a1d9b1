/- The row of the law PileDefs: whatever terms come in -/
import Derived.Test.YtgiejcndcbanjaaRows
import Derived.Test.YtgiejcndcbanjaaMa
import Derived.Test.YtgiejcndcbanjaaSA
import Derived.WalkKit
import Derived.ProofKit
import Derived.OpenShut
import Derived.Below
import Derived.SizedLaws
set_option maxRecDepth 100000
set_option linter.unusedSimpArgs false
set_option linter.unusedVariables false
namespace Go.Proofs.Ytgiejcndcbanjaa.pileDefs
open Go.ChangeShapes Go.WideShapes Go.ChangeAt Go.RowKit Go.Proofs.Ytgiejcndcbanjaa.Ev
theorem own : ownKnob Try.prog.godebug = none := by kernel_rfl
theorem law : ∀ xs, TypAll Try.prog Try.f5.params.toList xs → bulkL xs ≤ 1048576 → Pure Try.prog 5 xs [.bool true] := by
  intro xs h hb
  rw [Try.params5] at h
  match xs, h, hb with
  | [y0, y1], ⟨h0, h1, _⟩, hb =>
    obtain ⟨x0, rfl, l0⟩ := arg_term h0
    obtain ⟨x1, rfl, l1⟩ := arg_term h1
    simp only [bulkL, List.map_cons, List.map_nil, List.sum_cons, List.sum_nil] at hb
    have b0 := term_bulk x0
    have b1 := term_bulk x1
    exact defs_law x0 x1 (by omega)
theorem lifted (os : Os) (started : os.Started) (H : Type) (enc : TypeId × Value → H) (F : Stop.Interp) :
    ReturnsInHanded {} Try.checked os 5 .any ((Rows.OpenSpec.upto Rows.pileDefsSpec).pre6 enc Try.prog Try.f5 Rows.pileDefsUptoRow.domain false) (((Rows.OpenSpec.upto Rows.pileDefsSpec).at F).post enc Try.prog Try.f5 false true false false) := by
  refine row_upto (C := Try.checked) [3, 4, 38, 36] 4 own started (by kernel_rfl) Try.func5
    (OpenSpec.witness (enc := enc) (C := Try.checked) (s := Rows.OpenSpec.upto Rows.pileDefsSpec) (k := Rows.uptoSmall) rfl false ⟨#[], #[.agg #[.int .i64 0, .int .i64 0, .slice none 0 0], .agg #[.int .i64 0, .int .i64 0, .slice none 0 0]], []⟩ 8 (by kernel_rfl) (by kernel_rfl) (by kernel_rfl) (x := ([.agg [.lit (.int .i64 0), .lit (.int .i64 0), .nil], .agg [.lit (.int .i64 0), .lit (.int .i64 0), .nil]], [], [])) (by kernel_rfl) rfl (by kernel_rfl))
    rfl (by kernel_rfl) (by kernel_rfl) (by kernel_rfl) (by kernel_rfl) Try.underlying4 ?_ law
  intro ds hd
  match ds, hd with
  | [y0, y1], _ => rfl
theorem over : Rows.pileDefsUptoRow.holds Try.pinned (Rows.OpenSpec.upto Rows.pileDefsSpec) :=
  OpenClaim.holds_of_cond 5 Try.f5 rfl rfl rfl rfl rfl rfl rfl ⟨rfl, rfl, rfl, rfl, rfl⟩ rfl rfl rfl rfl rfl (by kernel_rfl) Try.func5 (by kernel_rfl)
    (of_decide_eq_true (by kernel_rfl)) (by unfold Func.isWrapper; first | (rw [if_pos (by decide +kernel)]; kernel_rfl) | (rw [if_neg (by decide +kernel)]; exact ⟨rfl, rfl⟩))
    (fun os started H enc _ F => lifted os started H enc F)
end Go.Proofs.Ytgiejcndcbanjaa.pileDefs
namespace Go.Proofs.Ytgiejcndcbanjaa
theorem pileDefs_holds : Rows.PileDefsUptoSaid := pileDefs.over
end Go.Proofs.Ytgiejcndcbanjaa
