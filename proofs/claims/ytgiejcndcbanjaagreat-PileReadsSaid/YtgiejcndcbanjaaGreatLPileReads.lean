/- The row of the law PileReads: whatever bytes come in, what they are read as, or that they are none, is the page's, and what is read is put as it stood -/
import Derived.Test.YtgiejcndcbanjaaGreatRows
import Derived.Test.YtgiejcndcbanjaaGreatMb
import Derived.Test.YtgiejcndcbanjaaGreatMa
import Derived.Test.YtgiejcndcbanjaaGreatSA
import Derived.WalkKit
import Derived.ProofKit
import Derived.OpenShut
import Derived.Below
import Derived.SizedLaws
set_option maxRecDepth 100000
set_option linter.unusedSimpArgs false
set_option linter.unusedVariables false
namespace Go.Proofs.YtgiejcndcbanjaaGreat.pileReads
open Go.ChangeShapes Go.WideShapes Go.ChangeAt Go.RowKit Go.Proofs.YtgiejcndcbanjaaGreat.Ev
theorem own : ownKnob Tryz.prog.godebug = none := by kernel_rfl
theorem law : ∀ xs, TypAll Tryz.prog Tryz.f4.params.toList xs → Pure Tryz.prog 4 xs [.bool true] := by
  intro xs h
  rw [Tryz.params4] at h
  match xs, h with
  | [y0], ⟨h0, _⟩ =>
    obtain ⟨x0, rfl, l0⟩ := arg_bytes h0
    exact reads22_law x0 l0.1
theorem lifted (os : Os) (started : os.Started) (H : Type) (enc : TypeId × Value → H) :
    ReturnsInHanded {} Tryz.checked os 4 .any (Rows.pileReadsSpec.pre6 enc Tryz.prog Tryz.f4 Rows.pileReadsRow.domain false) (Rows.pileReadsSpec.post enc Tryz.prog Tryz.f4 false true false false) := by
  refine row_of (C := Tryz.checked) [3, 4, 26, 24, 5, 37] 4 own started (by kernel_rfl) Tryz.func4
    (ChangeSpec.witness6 (enc := enc) (C := Tryz.checked) false ⟨#[], #[.slice none 0 0], []⟩ 8 (by kernel_rfl) (by kernel_rfl) (by kernel_rfl) (by kernel_rfl))
    rfl (by kernel_rfl) (by kernel_rfl) (by kernel_rfl) (by kernel_rfl) Tryz.underlying4 ?_ law
  intro ds hd
  match ds, hd with
  | [y0], _ => rfl
theorem over : Rows.pileReadsRow.holds Tryz.pinned (OpenSpec.ofChange Rows.pileReadsSpec) :=
  OpenClaim.holds_of_wide 4 Tryz.f4 rfl rfl rfl rfl rfl rfl rfl ⟨rfl, rfl, rfl, rfl, rfl⟩ rfl rfl rfl rfl rfl (by kernel_rfl) Tryz.func4 (by kernel_rfl)
    (of_decide_eq_true (by kernel_rfl)) (by unfold Func.isWrapper; first | (rw [if_pos (by decide +kernel)]; kernel_rfl) | (rw [if_neg (by decide +kernel)]; exact ⟨rfl, rfl⟩))
    (fun os started H enc _ => lifted os started H enc)
end Go.Proofs.YtgiejcndcbanjaaGreat.pileReads
namespace Go.Proofs.YtgiejcndcbanjaaGreat
theorem pileReads_holds : Rows.PileReadsSaid := pileReads.over
end Go.Proofs.YtgiejcndcbanjaaGreat
