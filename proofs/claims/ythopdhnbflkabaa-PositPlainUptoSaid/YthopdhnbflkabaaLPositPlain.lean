/- The row of the law PositPlain: whatever block and numbers come in, of bulk at most 1048576, it returns true, and what came in reads behind the call as it did. -/
import Derived.Test.YthopdhnbflkabaaRows
import Derived.Test.YthopdhnbflkabaaOE
import Derived.Test.YthopdhnbflkabaaH2
import Derived.Test.YthopdhnbflkabaaSA
import Derived.WalkKit
import Derived.ProofKit
import Derived.OpenShut
import Derived.Below
import Derived.SizedLaws
namespace Go.Proofs.Ythopdhnbflkabaa.positPlain
open Go.ChangeShapes Go.WideShapes Go.ChangeAt Go.RowKit Go.Proofs.Ythopdhnbflkabaa.Ev
set_option maxRecDepth 100000
theorem own : ownKnob Try.prog.godebug = none := by kernel_rfl
theorem law : ∀ xs, TypAll Try.prog Try.f6.params.toList xs → bulkL xs ≤ 1048576 → Pure Try.prog 6 xs [.bool true] := by
  intro xs h hb
  rw [Try.params6] at h
  match xs, h, hb with
  | [y0, y1], ⟨h0, h1, _⟩, hb =>
    obtain ⟨x0, rfl, l0⟩ := arg_block h0
    obtain ⟨x1, rfl, l1⟩ := arg_int h1
    simp only [bulkL, List.map_cons, List.map_nil, List.sum_cons, List.sum_nil] at hb
    exact plain8_law x0 l0 (by omega) x1
theorem lifted (os : Os) (started : os.Started) (H : Type) (enc : TypeId × Value → H) (F : Stop.Interp) :
    ReturnsInHanded {} Try.checked os 6 .any ((Rows.OpenSpec.upto Rows.positPlainSpec).pre6 enc Try.prog Try.f6 Rows.positPlainUptoRow.domain false) (((Rows.OpenSpec.upto Rows.positPlainSpec).at F).post enc Try.prog Try.f6 false true false false) := by
  refine row_upto (C := Try.checked) [3, 4, 25, 23, 38, 27, 29, 30, 35, 31, 33] 4 own started (by kernel_rfl) Try.func6
    (OpenSpec.witness (enc := enc) (C := Try.checked) (s := Rows.OpenSpec.upto Rows.positPlainSpec) (k := Rows.uptoSmall) rfl false ⟨#[], #[.agg #[.slice none 0 0, .slice none 0 0, .int .i64 0], .int .i64 0], []⟩ 8 (by kernel_rfl) (by kernel_rfl) (by kernel_rfl) (x := ([.agg [.nil, .nil, .lit (.int .i64 0)], .lit (.int .i64 0)], [], [])) (by kernel_rfl) rfl (by kernel_rfl))
    rfl (by kernel_rfl) (by kernel_rfl) (by kernel_rfl) (by kernel_rfl) Try.underlying4 ?_ law
  intro ds hd
  match ds, hd with
  | [y0, y1], _ => rfl
theorem over : Rows.positPlainUptoRow.holds Try.pinned (Rows.OpenSpec.upto Rows.positPlainSpec) :=
  OpenClaim.holds_of_cond 6 Try.f6 rfl rfl rfl rfl rfl rfl rfl ⟨rfl, rfl, rfl, rfl, rfl⟩ rfl rfl rfl rfl rfl (by kernel_rfl) Try.func6 (by kernel_rfl)
    (of_decide_eq_true (by kernel_rfl)) (by unfold Func.isWrapper; first | (rw [if_pos (by decide +kernel)]; kernel_rfl) | (rw [if_neg (by decide +kernel)]; exact ⟨rfl, rfl⟩))
    (fun os started H enc _ F => lifted os started H enc F)
end Go.Proofs.Ythopdhnbflkabaa.positPlain
namespace Go.Proofs.Ythopdhnbflkabaa
theorem positPlain_holds : Rows.PositPlainUptoSaid := positPlain.over
end Go.Proofs.Ythopdhnbflkabaa
