/- The row of the law CompKnown: whatever terms come in, of bulk at most 1048576, it returns true, and what came in reads behind the call as it did. -/
import Derived.Test.YtomlkbohcoinoaaRows
import Derived.Test.YtomlkbohcoinoaaK3
import Derived.Test.YtomlkbohcoinoaaSA
import Derived.WalkKit
import Derived.ProofKit
import Derived.OpenShut
import Derived.Below
import Derived.SizedLaws
namespace Go.Proofs.Ytomlkbohcoinoaa.compKnown
open Go.ChangeShapes Go.WideShapes Go.ChangeAt Go.RowKit Go.Proofs.Ytomlkbohcoinoaa.Ev
set_option maxRecDepth 100000
theorem own : ownKnob Try.prog.godebug = none := by kernel_rfl
theorem law : ∀ xs, TypAll Try.prog Try.f8.params.toList xs → bulkL xs ≤ 1048576 → Pure Try.prog 8 xs [.bool true] := by
  intro xs h hb
  rw [Try.params8] at h
  match xs, h, hb with
  | [y0, y1, y2, y3], ⟨h0, h1, h2, h3, _⟩, hb =>
    obtain ⟨x0, rfl, l0⟩ := arg_term h0
    obtain ⟨x1, rfl, l1⟩ := arg_term h1
    obtain ⟨x2, rfl, l2⟩ := arg_term h2
    obtain ⟨x3, rfl, l3⟩ := arg_term h3
    simp only [bulkL, List.map_cons, List.map_nil, List.sum_cons, List.sum_nil] at hb
    have b0 := term_bulk x0
    have b1 := term_bulk x1
    have b2 := term_bulk x2
    have b3 := term_bulk x3
    exact known13_law x0 x1 x2 x3 l0 l1 l2 l3 (by omega) (by omega) (by omega) (by omega) (by omega)
theorem lifted (os : Os) (started : os.Started) (H : Type) (enc : TypeId × Value → H) (F : Stop.Interp) :
    ReturnsInHanded {} Try.checked os 8 .any ((Rows.OpenSpec.upto Rows.compKnownSpec).pre6 enc Try.prog Try.f8 Rows.compKnownUptoRow.domain false) (((Rows.OpenSpec.upto Rows.compKnownSpec).at F).post enc Try.prog Try.f8 false true false false) := by
  refine row_upto (C := Try.checked) [3, 4, 30, 28] 4 own started (by kernel_rfl) Try.func8
    (OpenSpec.witness (enc := enc) (C := Try.checked) (s := Rows.OpenSpec.upto Rows.compKnownSpec) (k := Rows.uptoSmall) rfl false ⟨#[], #[.agg #[.int .i64 0, .int .i64 0, .slice none 0 0], .agg #[.int .i64 0, .int .i64 0, .slice none 0 0], .agg #[.int .i64 0, .int .i64 0, .slice none 0 0], .agg #[.int .i64 0, .int .i64 0, .slice none 0 0]], []⟩ 8 (by kernel_rfl) (by kernel_rfl) (by kernel_rfl) (x := ([.agg [.lit (.int .i64 0), .lit (.int .i64 0), .nil], .agg [.lit (.int .i64 0), .lit (.int .i64 0), .nil], .agg [.lit (.int .i64 0), .lit (.int .i64 0), .nil], .agg [.lit (.int .i64 0), .lit (.int .i64 0), .nil]], [], [])) (by kernel_rfl) rfl (by kernel_rfl))
    rfl (by kernel_rfl) (by kernel_rfl) (by kernel_rfl) (by kernel_rfl) Try.underlying4 ?_ law
  intro ds hd
  match ds, hd with
  | [y0, y1, y2, y3], _ => rfl
theorem over : Rows.compKnownUptoRow.holds Try.pinned (Rows.OpenSpec.upto Rows.compKnownSpec) :=
  OpenClaim.holds_of_cond 8 Try.f8 rfl rfl rfl rfl rfl rfl rfl ⟨rfl, rfl, rfl, rfl, rfl⟩ rfl rfl rfl rfl rfl (by kernel_rfl) Try.func8 (by kernel_rfl)
    (of_decide_eq_true (by kernel_rfl)) (by unfold Func.isWrapper; first | (rw [if_pos (by decide +kernel)]; kernel_rfl) | (rw [if_neg (by decide +kernel)]; exact ⟨rfl, rfl⟩))
    (fun os started H enc _ F => lifted os started H enc F)
end Go.Proofs.Ytomlkbohcoinoaa.compKnown
namespace Go.Proofs.Ytomlkbohcoinoaa
theorem compKnown_holds : Rows.CompKnownUptoSaid := compKnown.over
end Go.Proofs.Ytomlkbohcoinoaa
