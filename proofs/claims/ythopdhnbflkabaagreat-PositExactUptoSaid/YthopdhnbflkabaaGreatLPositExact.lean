/- The row of the law PositExact: whatever block and number come in, of bulk at most 1048576, it returns true, and what came in reads behind the call as it did. -/
import Derived.Test.YthopdhnbflkabaaGreatRows
import Derived.Test.YthopdhnbflkabaaGreatW6
import Derived.Test.YthopdhnbflkabaaGreatH2
import Derived.Test.YthopdhnbflkabaaGreatSA
import Derived.WalkKit
import Derived.ProofKit
import Derived.OpenShut
import Derived.Below
import Derived.SizedLaws
namespace Go.Proofs.YthopdhnbflkabaaGreat.positExact
open Go.ChangeShapes Go.WideShapes Go.ChangeAt Go.RowKit Go.Proofs.YthopdhnbflkabaaGreat.Ev
set_option maxRecDepth 100000
theorem own : ownKnob Tryz.prog.godebug = none := by kernel_rfl
theorem law : ∀ xs, TypAll Tryz.prog Tryz.f3.params.toList xs → bulkL xs ≤ 1048576 → Pure Tryz.prog 3 xs [.bool true] := by
  intro xs h hb
  rw [Tryz.params3] at h
  match xs, h, hb with
  | [y0, y1], ⟨h0, h1, _⟩, hb =>
    obtain ⟨x0, rfl, l0⟩ := arg_block h0
    obtain ⟨x1, rfl, l1⟩ := arg_int h1
    simp only [bulkL, List.map_cons, List.map_nil, List.sum_cons, List.sum_nil] at hb
    exact exact8_law x0 l0 (by omega) x1
theorem lifted (os : Os) (started : os.Started) (H : Type) (enc : TypeId × Value → H) (F : Stop.Interp) :
    ReturnsInHanded {} Tryz.checked os 3 .any ((Rows.OpenSpec.upto Rows.positExactSpec).pre6 enc Tryz.prog Tryz.f3 Rows.positExactUptoRow.domain false) (((Rows.OpenSpec.upto Rows.positExactSpec).at F).post enc Tryz.prog Tryz.f3 false true false false) := by
  refine row_upto (C := Tryz.checked) [3, 4, 37, 35, 46, 34, 49, 22, 39, 23, 25] 4 own started (by kernel_rfl) Tryz.func3
    (OpenSpec.witness (enc := enc) (C := Tryz.checked) (s := Rows.OpenSpec.upto Rows.positExactSpec) (k := Rows.uptoSmall) rfl false ⟨#[], #[.agg #[.slice none 0 0, .slice none 0 0, .int .i64 0], .int .i64 0], []⟩ 8 (by kernel_rfl) (by kernel_rfl) (by kernel_rfl) (x := ([.agg [.nil, .nil, .lit (.int .i64 0)], .lit (.int .i64 0)], [], [])) (by kernel_rfl) rfl (by kernel_rfl))
    rfl (by kernel_rfl) (by kernel_rfl) (by kernel_rfl) (by kernel_rfl) Tryz.underlying4 ?_ law
  intro ds hd
  match ds, hd with
  | [y0, y1], _ => rfl
theorem over : Rows.positExactUptoRow.holds Tryz.pinned (Rows.OpenSpec.upto Rows.positExactSpec) :=
  OpenClaim.holds_of_cond 3 Tryz.f3 rfl rfl rfl rfl rfl rfl rfl ⟨rfl, rfl, rfl, rfl, rfl⟩ rfl rfl rfl rfl rfl (by kernel_rfl) Tryz.func3 (by kernel_rfl)
    (of_decide_eq_true (by kernel_rfl)) (by unfold Func.isWrapper; first | (rw [if_pos (by decide +kernel)]; kernel_rfl) | (rw [if_neg (by decide +kernel)]; exact ⟨rfl, rfl⟩))
    (fun os started H enc _ F => lifted os started H enc F)
end Go.Proofs.YthopdhnbflkabaaGreat.positExact
namespace Go.Proofs.YthopdhnbflkabaaGreat
theorem positExact_holds : Rows.PositExactUptoSaid := positExact.over
end Go.Proofs.YthopdhnbflkabaaGreat
