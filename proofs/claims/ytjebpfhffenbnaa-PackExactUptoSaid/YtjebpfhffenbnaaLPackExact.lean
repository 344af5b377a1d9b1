/- The row of the law PackExact: whatever bytes, term and number come in -/
import Derived.Test.YtjebpfhffenbnaaRows
import Derived.Test.YtjebpfhffenbnaaMa
import Derived.Test.YtjebpfhffenbnaaSA
import Derived.WalkKit
import Derived.ProofKit
import Derived.OpenShut
import Derived.Below
import Derived.SizedLaws
namespace Go.Proofs.Ytjebpfhffenbnaa.packExact
open Go.ChangeShapes Go.WideShapes Go.ChangeAt Go.RowKit Go.Proofs.Ytjebpfhffenbnaa.Ev
set_option maxRecDepth 100000
theorem own : ownKnob Try.prog.godebug = none := by kernel_rfl
theorem law : ∀ xs, TypAll Try.prog Try.f7.params.toList xs → bulkL xs ≤ 1048576 → Pure Try.prog 7 xs [.bool true] := by
  intro xs h hb
  rw [Try.params7] at h
  match xs, h, hb with
  | [y0, y1, y2], ⟨h0, h1, h2, _⟩, hb =>
    obtain ⟨x0, rfl, l0⟩ := arg_bytes h0
    obtain ⟨x1, rfl, l1⟩ := arg_term h1
    obtain ⟨x2, rfl, l2⟩ := arg_int h2
    simp only [bulkL, List.map_cons, List.map_nil, List.sum_cons, List.sum_nil] at hb
    have b1 := term_bulk x1
    exact exact03_law x0 l0.1 x1 l1 (by omega) x2
theorem lifted (os : Os) (started : os.Started) (H : Type) (enc : TypeId × Value → H) (F : Stop.Interp) :
    ReturnsInHanded {} Try.checked os 7 .any ((Rows.OpenSpec.upto Rows.packExactSpec).pre6 enc Try.prog Try.f7 Rows.packExactUptoRow.domain false) (((Rows.OpenSpec.upto Rows.packExactSpec).at F).post enc Try.prog Try.f7 false true false false) := by
  refine row_upto (C := Try.checked) [3, 4, 24, 22, 5, 26] 4 own started (by kernel_rfl) Try.func7
    (OpenSpec.witness (enc := enc) (C := Try.checked) (s := Rows.OpenSpec.upto Rows.packExactSpec) (k := Rows.uptoSmall) rfl false ⟨#[], #[.slice none 0 0, .agg #[.int .i64 0, .int .i64 0, .slice none 0 0], .int .i64 0], []⟩ 8 (by kernel_rfl) (by kernel_rfl) (by kernel_rfl) (x := ([.nil, .agg [.lit (.int .i64 0), .lit (.int .i64 0), .nil], .lit (.int .i64 0)], [], [])) (by kernel_rfl) rfl (by kernel_rfl))
    rfl (by kernel_rfl) (by kernel_rfl) (by kernel_rfl) (by kernel_rfl) Try.underlying4 ?_ law
  intro ds hd
  match ds, hd with
  | [y0, y1, y2], _ => rfl
theorem over : Rows.packExactUptoRow.holds Try.pinned (Rows.OpenSpec.upto Rows.packExactSpec) :=
  OpenClaim.holds_of_cond 7 Try.f7 rfl rfl rfl rfl rfl rfl rfl ⟨rfl, rfl, rfl, rfl, rfl⟩ rfl rfl rfl rfl rfl (by kernel_rfl) Try.func7 (by kernel_rfl)
    (of_decide_eq_true (by kernel_rfl)) (by unfold Func.isWrapper; first | (rw [if_pos (by decide +kernel)]; kernel_rfl) | (rw [if_neg (by decide +kernel)]; exact ⟨rfl, rfl⟩))
    (fun os started H enc _ F => lifted os started H enc F)
end Go.Proofs.Ytjebpfhffenbnaa.packExact
namespace Go.Proofs.Ytjebpfhffenbnaa
theorem packExact_holds : Rows.PackExactUptoSaid := packExact.over
end Go.Proofs.Ytjebpfhffenbnaa
