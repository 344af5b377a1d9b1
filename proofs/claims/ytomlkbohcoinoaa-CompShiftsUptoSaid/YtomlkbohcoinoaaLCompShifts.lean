/- The row of the law CompShifts: whatever block, numbers and terms come in, of bulk at most 1048576, it returns true, and what came in reads behind the call as it did. -/
import Derived.Test.YtomlkbohcoinoaaRows
import Derived.Test.YtomlkbohcoinoaaC7
import Derived.Test.YtomlkbohcoinoaaH2
import Derived.Test.YtomlkbohcoinoaaSA
import Derived.WalkKit
import Derived.ProofKit
import Derived.OpenShut
import Derived.Below
import Derived.SizedLaws
namespace Go.Proofs.Ytomlkbohcoinoaa.compShifts
open Go.ChangeShapes Go.WideShapes Go.ChangeAt Go.RowKit Go.Proofs.Ytomlkbohcoinoaa.Ev
set_option maxRecDepth 100000
theorem own : ownKnob Try.prog.godebug = none := by kernel_rfl
theorem law : ∀ xs, TypAll Try.prog Try.f7.params.toList xs → bulkL xs ≤ 1048576 → Pure Try.prog 7 xs [.bool true] := by
  intro xs h hb
  rw [Try.params7] at h
  match xs, h, hb with
  | [y0, y1, y2, y3, y4, y5, y6], ⟨h0, h1, h2, h3, h4, h5, h6, _⟩, hb =>
    obtain ⟨x0, rfl, l0⟩ := arg_block h0
    obtain ⟨x1, rfl, l1⟩ := arg_int h1
    obtain ⟨x2, rfl, l2⟩ := arg_int h2
    obtain ⟨x3, rfl, l3⟩ := arg_int h3
    obtain ⟨x4, rfl, l4⟩ := arg_terms h4
    obtain ⟨x5, rfl, l5⟩ := arg_terms h5
    obtain ⟨x6, rfl, l6⟩ := arg_terms h6
    simp only [bulkL, List.map_cons, List.map_nil, List.sum_cons, List.sum_nil] at hb
    have b4 := terms_bulk x4
    have b5 := terms_bulk x5
    have b6 := terms_bulk x6
    exact shifts13_law x0 l0 (by omega) x1 x2 x3 x4 x5 x6 l4 (by have := sum_bulk x4; omega) l5 (by have := sum_bulk x5; omega) l6 (by have := sum_bulk x6; omega)
theorem lifted (os : Os) (started : os.Started) (H : Type) (enc : TypeId × Value → H) (F : Stop.Interp) :
    ReturnsInHanded {} Try.checked os 7 .any ((Rows.OpenSpec.upto Rows.compShiftsSpec).pre6 enc Try.prog Try.f7 Rows.compShiftsUptoRow.domain false) (((Rows.OpenSpec.upto Rows.compShiftsSpec).at F).post enc Try.prog Try.f7 false true false false) := by
  refine row_upto (C := Try.checked) [3, 4, 30, 28, 41, 37, 50, 22, 39, 23, 25] 4 own started (by kernel_rfl) Try.func7
    (OpenSpec.witness (enc := enc) (C := Try.checked) (s := Rows.OpenSpec.upto Rows.compShiftsSpec) (k := Rows.uptoSmall) rfl false ⟨#[], #[.agg #[.slice none 0 0, .slice none 0 0, .int .i64 0], .int .i64 0, .int .i64 0, .int .i64 0, .slice none 0 0, .slice none 0 0, .slice none 0 0], []⟩ 8 (by kernel_rfl) (by kernel_rfl) (by kernel_rfl) (x := ([.agg [.nil, .nil, .lit (.int .i64 0)], .lit (.int .i64 0), .lit (.int .i64 0), .lit (.int .i64 0), .nil, .nil, .nil], [], [])) (by kernel_rfl) rfl (by kernel_rfl))
    rfl (by kernel_rfl) (by kernel_rfl) (by kernel_rfl) (by kernel_rfl) Try.underlying4 ?_ law
  intro ds hd
  match ds, hd with
  | [y0, y1, y2, y3, y4, y5, y6], _ => rfl
theorem over : Rows.compShiftsUptoRow.holds Try.pinned (Rows.OpenSpec.upto Rows.compShiftsSpec) :=
  OpenClaim.holds_of_cond 7 Try.f7 rfl rfl rfl rfl rfl rfl rfl ⟨rfl, rfl, rfl, rfl, rfl⟩ rfl rfl rfl rfl rfl (by kernel_rfl) Try.func7 (by kernel_rfl)
    (of_decide_eq_true (by kernel_rfl)) (by unfold Func.isWrapper; first | (rw [if_pos (by decide +kernel)]; kernel_rfl) | (rw [if_neg (by decide +kernel)]; exact ⟨rfl, rfl⟩))
    (fun os started H enc _ F => lifted os started H enc F)
end Go.Proofs.Ytomlkbohcoinoaa.compShifts
namespace Go.Proofs.Ytomlkbohcoinoaa
theorem compShifts_holds : Rows.CompShiftsUptoSaid := compShifts.over
end Go.Proofs.Ytomlkbohcoinoaa
