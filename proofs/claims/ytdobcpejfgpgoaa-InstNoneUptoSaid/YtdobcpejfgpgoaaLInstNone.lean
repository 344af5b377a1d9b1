/- The row of the law InstNone: whatever terms and number come in, of bulk at most 1048576, it returns true, and what came in reads behind the call as it did. -/
import Derived.Test.YtdobcpejfgpgoaaRows
import Derived.Test.YtdobcpejfgpgoaaI21
import Derived.Test.YtdobcpejfgpgoaaS12
import Derived.WalkKit
import Derived.ProofKit
import Derived.OpenShut
import Derived.Below
import Derived.SizedLaws
namespace Go.Proofs.Ytdobcpejfgpgoaa.instNone
open Go.ChangeShapes Go.WideShapes Go.ChangeAt Go.RowKit Go.Proofs.Ytdobcpejfgpgoaa.Ev
set_option maxRecDepth 100000
theorem own : ownKnob Try.prog.godebug = none := by kernel_rfl
theorem law : ∀ xs, TypAll Try.prog Try.f11.params.toList xs → bulkL xs ≤ 1048576 → Pure Try.prog 11 xs [.bool true] := by
  intro xs h hb
  rw [Try.params11] at h
  match xs, h, hb with
  | [y0, y1, y2], ⟨h0, h1, h2, _⟩, hb =>
    obtain ⟨x0, rfl, l0⟩ := arg_term h0
    obtain ⟨x1, rfl, l1⟩ := arg_terms h1
    obtain ⟨x2, rfl, l2⟩ := arg_int h2
    simp only [bulkL, List.map_cons, List.map_nil, List.sum_cons, List.sum_nil] at hb
    have b0 := term_bulk x0
    have b1 := terms_bulk x1
    exact none_law x0 x1 x2 (by omega) (fun x hx => by have := b1.1 x hx; omega) (by omega)
theorem lifted (os : Os) (started : os.Started) (H : Type) (enc : TypeId × Value → H) (F : Stop.Interp) :
    ReturnsInHanded {} Try.checked os 11 .any ((Rows.OpenSpec.upto Rows.instNoneSpec).pre6 enc Try.prog Try.f11 Rows.instNoneUptoRow.domain false) (((Rows.OpenSpec.upto Rows.instNoneSpec).at F).post enc Try.prog Try.f11 false true false false) := by
  refine row_upto (C := Try.checked) [3, 4, 24, 22] 4 own started (by kernel_rfl) Try.func11
    (OpenSpec.witness (enc := enc) (C := Try.checked) (s := Rows.OpenSpec.upto Rows.instNoneSpec) (k := Rows.uptoSmall) rfl false ⟨#[], #[.agg #[.int .i64 0, .int .i64 0, .slice none 0 0], .slice none 0 0, .int .i64 0], []⟩ 8 (by kernel_rfl) (by kernel_rfl) (by kernel_rfl) (x := ([.agg [.lit (.int .i64 0), .lit (.int .i64 0), .nil], .nil, .lit (.int .i64 0)], [], [])) (by kernel_rfl) rfl (by kernel_rfl))
    rfl (by kernel_rfl) (by kernel_rfl) (by kernel_rfl) (by kernel_rfl) Try.underlying4 ?_ law
  intro ds hd
  match ds, hd with
  | [y0, y1, y2], _ => rfl
theorem over : Rows.instNoneUptoRow.holds Try.pinned (Rows.OpenSpec.upto Rows.instNoneSpec) :=
  OpenClaim.holds_of_cond 11 Try.f11 rfl rfl rfl rfl rfl rfl rfl ⟨rfl, rfl, rfl, rfl, rfl⟩ rfl rfl rfl rfl rfl (by kernel_rfl) Try.func11 (by kernel_rfl)
    (of_decide_eq_true (by kernel_rfl)) (by unfold Func.isWrapper; first | (rw [if_pos (by decide +kernel)]; kernel_rfl) | (rw [if_neg (by decide +kernel)]; exact ⟨rfl, rfl⟩))
    (fun os started H enc _ F => lifted os started H enc F)
end Go.Proofs.Ytdobcpejfgpgoaa.instNone
namespace Go.Proofs.Ytdobcpejfgpgoaa
theorem instNone_holds : Rows.InstNoneUptoSaid := instNone.over
end Go.Proofs.Ytdobcpejfgpgoaa
