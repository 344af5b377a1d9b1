/- The row of the law PileRows: whatever declarations come in -/
import Derived.Test.YtgiejcndcbanjaaRows
import Derived.Test.YtgiejcndcbanjaaMa
import Derived.Test.YtgiejcndcbanjaaSA
import Derived.WalkKit
import Derived.ProofKit
import Derived.OpenShut
import Derived.Below
import Derived.SizedLaws
set_option maxRecDepth 100000
set_option linter.unusedSimpArgs false
set_option linter.unusedVariables false
namespace Go.Proofs.Ytgiejcndcbanjaa.pileRows
open Go.ChangeShapes Go.WideShapes Go.ChangeAt Go.RowKit Go.Proofs.Ytgiejcndcbanjaa.Ev
theorem own : ownKnob Try.prog.godebug = none := by kernel_rfl
theorem law : ∀ xs, TypAll Try.prog Try.f4.params.toList xs → bulkL xs ≤ 1048576 → Pure Try.prog 4 xs [.bool true] := by
  intro xs h hb
  rw [Try.params4] at h
  match xs, h, hb with
  | [y0], ⟨h0, _⟩, hb =>
    obtain ⟨x0, rfl, l0⟩ := arg_decls h0
    simp only [bulkL, List.map_cons, List.map_nil, List.sum_cons, List.sum_nil] at hb
    exact rows_law x0 (by simpa using hb)
theorem lifted (os : Os) (started : os.Started) (H : Type) (enc : TypeId × Value → H) (F : Stop.Interp) :
    ReturnsInHanded {} Try.checked os 4 .any ((Rows.OpenSpec.upto Rows.pileRowsSpec).pre6 enc Try.prog Try.f4 Rows.pileRowsUptoRow.domain false) (((Rows.OpenSpec.upto Rows.pileRowsSpec).at F).post enc Try.prog Try.f4 false true false false) := by
  refine row_upto (C := Try.checked) [3, 4, 38, 36, 83, 68, 70, 39, 74, 40, 42, 44, 22] 4 own started (by kernel_rfl) Try.func4
    (OpenSpec.witness (enc := enc) (C := Try.checked) (s := Rows.OpenSpec.upto Rows.pileRowsSpec) (k := Rows.uptoSmall) rfl false ⟨#[], #[.slice none 0 0], []⟩ 8 (by kernel_rfl) (by kernel_rfl) (by kernel_rfl) (x := ([.nil], [], [])) (by kernel_rfl) rfl (by kernel_rfl))
    rfl (by kernel_rfl) (by kernel_rfl) (by kernel_rfl) (by kernel_rfl) Try.underlying4 ?_ law
  intro ds hd
  match ds, hd with
  | [y0], _ => rfl
theorem over : Rows.pileRowsUptoRow.holds Try.pinned (Rows.OpenSpec.upto Rows.pileRowsSpec) :=
  OpenClaim.holds_of_cond 4 Try.f4 rfl rfl rfl rfl rfl rfl rfl ⟨rfl, rfl, rfl, rfl, rfl⟩ rfl rfl rfl rfl rfl (by kernel_rfl) Try.func4 (by kernel_rfl)
    (of_decide_eq_true (by kernel_rfl)) (by unfold Func.isWrapper; first | (rw [if_pos (by decide +kernel)]; kernel_rfl) | (rw [if_neg (by decide +kernel)]; exact ⟨rfl, rfl⟩))
    (fun os started H enc _ F => lifted os started H enc F)
end Go.Proofs.Ytgiejcndcbanjaa.pileRows
namespace Go.Proofs.Ytgiejcndcbanjaa
theorem pileRows_holds : Rows.PileRowsUptoSaid := pileRows.over
end Go.Proofs.Ytgiejcndcbanjaa
