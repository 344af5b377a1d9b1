/- The row of the law InstVars: whatever terms and number come in, of bulk at most 1048576, it returns true, and what came in reads behind the call as it did. -/
import Derived.Test.YtdobcpejfgpgoaaRows
import Derived.Test.YtdobcpejfgpgoaaI22
import Derived.Test.YtdobcpejfgpgoaaS12
import Derived.WalkKit
import Derived.ProofKit
import Derived.OpenShut
import Derived.Below
import Derived.SizedLaws
namespace Go.Proofs.Ytdobcpejfgpgoaa.instVars
open Go.ChangeShapes Go.WideShapes Go.ChangeAt Go.RowKit Go.Proofs.Ytdobcpejfgpgoaa.Ev
set_option maxRecDepth 100000
theorem own : ownKnob Try.prog.godebug = none := by kernel_rfl
theorem law : ∀ xs, TypAll Try.prog Try.f10.params.toList xs → bulkL xs ≤ 1048576 → Pure Try.prog 10 xs [.bool true] := by
  intro xs h hb
  rw [Try.params10] at h
  match xs, h, hb with
  | [y0, y1, y2], ⟨h0, h1, h2, _⟩, hb =>
    obtain ⟨x0, rfl, l0⟩ := arg_term h0
    obtain ⟨x1, rfl, l1⟩ := arg_int h1
    obtain ⟨x2, rfl, l2⟩ := arg_terms h2
    simp only [bulkL, List.map_cons, List.map_nil, List.sum_cons, List.sum_nil] at hb
    have b0 := term_bulk x0
    have b2 := terms_bulk x2
    exact vars_law x0 x1 x2 (by omega) (fun x hx => by have := b2.1 x hx; omega) (by omega)
theorem lifted (os : Os) (started : os.Started) (H : Type) (enc : TypeId × Value → H) (F : Stop.Interp) :
    ReturnsInHanded {} Try.checked os 10 .any ((Rows.OpenSpec.upto Rows.instVarsSpec).pre6 enc Try.prog Try.f10 Rows.instVarsUptoRow.domain false) (((Rows.OpenSpec.upto Rows.instVarsSpec).at F).post enc Try.prog Try.f10 false true false false) := by
  refine row_upto (C := Try.checked) [3, 4, 24, 22] 4 own started (by kernel_rfl) Try.func10
    (OpenSpec.witness (enc := enc) (C := Try.checked) (s := Rows.OpenSpec.upto Rows.instVarsSpec) (k := Rows.uptoSmall) rfl false ⟨#[], #[.agg #[.int .i64 0, .int .i64 0, .slice none 0 0], .int .i64 0, .slice none 0 0], []⟩ 8 (by kernel_rfl) (by kernel_rfl) (by kernel_rfl) (x := ([.agg [.lit (.int .i64 0), .lit (.int .i64 0), .nil], .lit (.int .i64 0), .nil], [], [])) (by kernel_rfl) rfl (by kernel_rfl))
    rfl (by kernel_rfl) (by kernel_rfl) (by kernel_rfl) (by kernel_rfl) Try.underlying4 ?_ law
  intro ds hd
  match ds, hd with
  | [y0, y1, y2], _ => rfl
theorem over : Rows.instVarsUptoRow.holds Try.pinned (Rows.OpenSpec.upto Rows.instVarsSpec) :=
  OpenClaim.holds_of_cond 10 Try.f10 rfl rfl rfl rfl rfl rfl rfl ⟨rfl, rfl, rfl, rfl, rfl⟩ rfl rfl rfl rfl rfl (by kernel_rfl) Try.func10 (by kernel_rfl)
    (of_decide_eq_true (by kernel_rfl)) (by unfold Func.isWrapper; first | (rw [if_pos (by decide +kernel)]; kernel_rfl) | (rw [if_neg (by decide +kernel)]; exact ⟨rfl, rfl⟩))
    (fun os started H enc _ F => lifted os started H enc F)
end Go.Proofs.Ytdobcpejfgpgoaa.instVars
namespace Go.Proofs.Ytdobcpejfgpgoaa
theorem instVars_holds : Rows.InstVarsUptoSaid := instVars.over
end Go.Proofs.Ytdobcpejfgpgoaa
