/- The row of the law PileExact: whatever declarations come in -/
import Derived.Test.YtgiejcndcbanjaaGreatRows
import Derived.Test.YtgiejcndcbanjaaGreatMb
import Derived.Test.YtgiejcndcbanjaaGreatMa
import Derived.Test.YtgiejcndcbanjaaGreatSA
import Derived.WalkKit
import Derived.ProofKit
import Derived.OpenShut
import Derived.Below
import Derived.SizedLaws
set_option maxRecDepth 100000
set_option linter.unusedSimpArgs false
set_option linter.unusedVariables false
namespace Go.Proofs.YtgiejcndcbanjaaGreat.pileExact
open Go.ChangeShapes Go.WideShapes Go.ChangeAt Go.RowKit Go.Proofs.YtgiejcndcbanjaaGreat.Ev
theorem own : ownKnob Tryz.prog.godebug = none := by kernel_rfl
theorem law : ∀ xs, TypAll Tryz.prog Tryz.f3.params.toList xs → bulkL xs ≤ 1048576 → Pure Tryz.prog 3 xs [.bool true] := by
  intro xs h hb
  rw [Tryz.params3] at h
  match xs, h, hb with
  | [y0], ⟨h0, _⟩, hb =>
    obtain ⟨x0, rfl, l0⟩ := arg_decls h0
    simp only [bulkL, List.map_cons, List.map_nil, List.sum_cons, List.sum_nil] at hb
    exact exact22_law x0 l0 (by simpa using hb)
theorem lifted (os : Os) (started : os.Started) (H : Type) (enc : TypeId × Value → H) (F : Stop.Interp) :
    ReturnsInHanded {} Tryz.checked os 3 .any ((Rows.OpenSpec.upto Rows.pileExactSpec).pre6 enc Tryz.prog Tryz.f3 Rows.pileExactUptoRow.domain false) (((Rows.OpenSpec.upto Rows.pileExactSpec).at F).post enc Tryz.prog Tryz.f3 false true false false) := by
  refine row_upto (C := Tryz.checked) [3, 4, 26, 24, 81, 75, 77, 27, 79, 28, 30, 32, 22, 5, 37] 4 own started (by kernel_rfl) Tryz.func3
    (OpenSpec.witness (enc := enc) (C := Tryz.checked) (s := Rows.OpenSpec.upto Rows.pileExactSpec) (k := Rows.uptoSmall) rfl false ⟨#[], #[.slice none 0 0], []⟩ 8 (by kernel_rfl) (by kernel_rfl) (by kernel_rfl) (x := ([.nil], [], [])) (by kernel_rfl) rfl (by kernel_rfl))
    rfl (by kernel_rfl) (by kernel_rfl) (by kernel_rfl) (by kernel_rfl) Tryz.underlying4 ?_ law
  intro ds hd
  match ds, hd with
  | [y0], _ => rfl
theorem over : Rows.pileExactUptoRow.holds Tryz.pinned (Rows.OpenSpec.upto Rows.pileExactSpec) :=
  OpenClaim.holds_of_cond 3 Tryz.f3 rfl rfl rfl rfl rfl rfl rfl ⟨rfl, rfl, rfl, rfl, rfl⟩ rfl rfl rfl rfl rfl (by kernel_rfl) Tryz.func3 (by kernel_rfl)
    (of_decide_eq_true (by kernel_rfl)) (by unfold Func.isWrapper; first | (rw [if_pos (by decide +kernel)]; kernel_rfl) | (rw [if_neg (by decide +kernel)]; exact ⟨rfl, rfl⟩))
    (fun os started H enc _ F => lifted os started H enc F)
end Go.Proofs.YtgiejcndcbanjaaGreat.pileExact
namespace Go.Proofs.YtgiejcndcbanjaaGreat
theorem pileExact_holds : Rows.PileExactUptoSaid := pileExact.over
end Go.Proofs.YtgiejcndcbanjaaGreat
