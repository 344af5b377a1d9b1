/- The row of the law PileUnlike: whatever declarations, number and byte come in -/
import Derived.Test.YtgiejcndcbanjaaRows
import Derived.Test.YtgiejcndcbanjaaMb
import Derived.Test.YtgiejcndcbanjaaMa
import Derived.Test.YtgiejcndcbanjaaSA
import Derived.WalkKit
import Derived.ProofKit
import Derived.OpenShut
import Derived.Below
import Derived.SizedLaws
set_option maxRecDepth 100000
set_option linter.unusedSimpArgs false
set_option linter.unusedVariables false
namespace Go.Proofs.Ytgiejcndcbanjaa.pileUnlike
open Go.ChangeShapes Go.WideShapes Go.ChangeAt Go.RowKit Go.Proofs.Ytgiejcndcbanjaa.Ev
theorem own : ownKnob Try.prog.godebug = none := by kernel_rfl
theorem law : ∀ xs, TypAll Try.prog Try.f3.params.toList xs → bulkL xs ≤ 1048576 → Pure Try.prog 3 xs [.bool true] := by
  intro xs h hb
  rw [Try.params3] at h
  match xs, h, hb with
  | [y0, y1, y2, y3], ⟨h0, h1, h2, h3, _⟩, hb =>
    obtain ⟨x0, rfl, l0⟩ := arg_decls h0
    obtain ⟨x1, rfl, l1⟩ := arg_decls h1
    obtain ⟨x2, rfl, l2⟩ := arg_int h2
    obtain ⟨x3, rfl, l3⟩ := arg_byte h3
    simp only [bulkL, List.map_cons, List.map_nil, List.sum_cons, List.sum_nil] at hb
    exact unlike_law x0 x1 x2 x3 l3 (by simp only [bulk] at hb; omega) (by simp only [bulk] at hb; omega)
theorem lifted (os : Os) (started : os.Started) (H : Type) (enc : TypeId × Value → H) (F : Stop.Interp) :
    ReturnsInHanded {} Try.checked os 3 .any ((Rows.OpenSpec.upto Rows.pileUnlikeSpec).pre6 enc Try.prog Try.f3 Rows.pileUnlikeUptoRow.domain false) (((Rows.OpenSpec.upto Rows.pileUnlikeSpec).at F).post enc Try.prog Try.f3 false true false false) := by
  refine row_upto (C := Try.checked) [3, 4, 38, 36, 83, 68, 70, 39, 74, 40, 42, 44, 22, 5, 24] 4 own started (by kernel_rfl) Try.func3
    (OpenSpec.witness (enc := enc) (C := Try.checked) (s := Rows.OpenSpec.upto Rows.pileUnlikeSpec) (k := Rows.uptoSmall) rfl false ⟨#[], #[.slice none 0 0, .slice none 0 0, .int .i64 0, .int .u8 0], []⟩ 8 (by kernel_rfl) (by kernel_rfl) (by kernel_rfl) (x := ([.nil, .nil, .lit (.int .i64 0), .lit (.int .u8 0)], [], [])) (by kernel_rfl) rfl (by kernel_rfl))
    rfl (by kernel_rfl) (by kernel_rfl) (by kernel_rfl) (by kernel_rfl) Try.underlying4 ?_ law
  intro ds hd
  match ds, hd with
  | [y0, y1, y2, y3], _ => rfl
theorem over : Rows.pileUnlikeUptoRow.holds Try.pinned (Rows.OpenSpec.upto Rows.pileUnlikeSpec) :=
  OpenClaim.holds_of_cond 3 Try.f3 rfl rfl rfl rfl rfl rfl rfl ⟨rfl, rfl, rfl, rfl, rfl⟩ rfl rfl rfl rfl rfl (by kernel_rfl) Try.func3 (by kernel_rfl)
    (of_decide_eq_true (by kernel_rfl)) (by unfold Func.isWrapper; first | (rw [if_pos (by decide +kernel)]; kernel_rfl) | (rw [if_neg (by decide +kernel)]; exact ⟨rfl, rfl⟩))
    (fun os started H enc _ F => lifted os started H enc F)
end Go.Proofs.Ytgiejcndcbanjaa.pileUnlike
namespace Go.Proofs.Ytgiejcndcbanjaa
theorem pileUnlike_holds : Rows.PileUnlikeUptoSaid := pileUnlike.over
end Go.Proofs.Ytgiejcndcbanjaa
