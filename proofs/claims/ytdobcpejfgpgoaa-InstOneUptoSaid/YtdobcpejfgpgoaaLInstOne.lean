/- The row of the law InstOne: whatever terms come in, of bulk at most 1048576, it returns true, and what came in reads behind the call as it did. -/
import Derived.Test.YtdobcpejfgpgoaaRows
import Derived.Test.YtdobcpejfgpgoaaI23
import Derived.Test.YtdobcpejfgpgoaaS12
import Derived.WalkKit
import Derived.ProofKit
import Derived.OpenShut
import Derived.Below
import Derived.SizedLaws
namespace Go.Proofs.Ytdobcpejfgpgoaa.instOne
open Go.ChangeShapes Go.WideShapes Go.ChangeAt Go.RowKit Go.Proofs.Ytdobcpejfgpgoaa.Ev
set_option maxRecDepth 100000
theorem own : ownKnob Try.prog.godebug = none := by kernel_rfl
theorem law : ∀ xs, TypAll Try.prog Try.f8.params.toList xs → bulkL xs ≤ 1048576 → Pure Try.prog 8 xs [.bool true] := by
  intro xs h hb
  rw [Try.params8] at h
  match xs, h, hb with
  | [y0, y1], ⟨h0, h1, _⟩, hb =>
    obtain ⟨x0, rfl, l0⟩ := arg_term h0
    obtain ⟨x1, rfl, l1⟩ := arg_terms h1
    simp only [bulkL, List.map_cons, List.map_nil, List.sum_cons, List.sum_nil] at hb
    have b0 := term_bulk x0
    have b1 := terms_bulk x1
    exact ones_law x0 x1 (by omega) (fun x hx => by have := b1.1 x hx; omega) (by omega)
theorem lifted (os : Os) (started : os.Started) (H : Type) (enc : TypeId × Value → H) (F : Stop.Interp) :
    ReturnsInHanded {} Try.checked os 8 .any ((Rows.OpenSpec.upto Rows.instOneSpec).pre6 enc Try.prog Try.f8 Rows.instOneUptoRow.domain false) (((Rows.OpenSpec.upto Rows.instOneSpec).at F).post enc Try.prog Try.f8 false true false false) := by
  refine row_upto (C := Try.checked) [3, 4, 24, 22] 4 own started (by kernel_rfl) Try.func8
    (OpenSpec.witness (enc := enc) (C := Try.checked) (s := Rows.OpenSpec.upto Rows.instOneSpec) (k := Rows.uptoSmall) rfl false ⟨#[], #[.agg #[.int .i64 0, .int .i64 0, .slice none 0 0], .slice none 0 0], []⟩ 8 (by kernel_rfl) (by kernel_rfl) (by kernel_rfl) (x := ([.agg [.lit (.int .i64 0), .lit (.int .i64 0), .nil], .nil], [], [])) (by kernel_rfl) rfl (by kernel_rfl))
    rfl (by kernel_rfl) (by kernel_rfl) (by kernel_rfl) (by kernel_rfl) Try.underlying4 ?_ law
  intro ds hd
  match ds, hd with
  | [y0, y1], _ => rfl
theorem over : Rows.instOneUptoRow.holds Try.pinned (Rows.OpenSpec.upto Rows.instOneSpec) :=
  OpenClaim.holds_of_cond 8 Try.f8 rfl rfl rfl rfl rfl rfl rfl ⟨rfl, rfl, rfl, rfl, rfl⟩ rfl rfl rfl rfl rfl (by kernel_rfl) Try.func8 (by kernel_rfl)
    (of_decide_eq_true (by kernel_rfl)) (by unfold Func.isWrapper; first | (rw [if_pos (by decide +kernel)]; kernel_rfl) | (rw [if_neg (by decide +kernel)]; exact ⟨rfl, rfl⟩))
    (fun os started H enc _ F => lifted os started H enc F)
end Go.Proofs.Ytdobcpejfgpgoaa.instOne
namespace Go.Proofs.Ytdobcpejfgpgoaa
theorem instOne_holds : Rows.InstOneUptoSaid := instOne.over
end Go.Proofs.Ytdobcpejfgpgoaa
