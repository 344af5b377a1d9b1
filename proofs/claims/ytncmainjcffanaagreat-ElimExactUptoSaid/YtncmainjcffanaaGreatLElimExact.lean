/- The row of the law ElimExact: whatever block, numbers come in, of bulk at most 1048576, it returns true; the block stays as it was. -/
import Derived.Test.YtncmainjcffanaaGreatRows
import Derived.Test.YtncmainjcffanaaGreatMd
import Derived.Test.YtncmainjcffanaaGreatMb
import Derived.Test.YtncmainjcffanaaGreatSA
import Derived.WalkKit
import Derived.ProofKit
import Derived.OpenShut
import Derived.Below
import Derived.SizedLaws
set_option maxRecDepth 100000
set_option linter.unusedSimpArgs false
set_option linter.unusedVariables false
namespace Go.Proofs.YtncmainjcffanaaGreat.elimExact
open Go.ChangeShapes Go.WideShapes Go.ChangeAt Go.RowKit Go.Proofs.YtncmainjcffanaaGreat.Ev
theorem own:ownKnob Tryz.prog.godebug=none:=by kernel_rfl
theorem law:∀ xs,zJf Tryz.prog Tryz.f7.params.toList xs→zkl xs≤1048576→Pure Tryz.prog 7 xs [.bool true]:=by
  intro xs h hb
  rw [Tryz.params7] at h
  match xs,h,hb with
  | [y0,y1,y2],⟨h0,h1,h2,_⟩,hb =>
    obtain ⟨x0,rfl,l0⟩:=zOe h0
    obtain ⟨x1,rfl,l1⟩:=zNk h1
    obtain ⟨x2,rfl,l2⟩:=zNk h2
    simp only [zkl,List.map_cons,List.map_nil,List.sum_cons,List.sum_nil] at hb
    exact zCr x0 l0 (by omega) x1 x2
theorem lifted (os:Os) (started:os.Started) (H:Type) (enc:TypeId × Value→H) (F:Stop.Interp) :
    ReturnsInHanded {} Tryz.checked os 7 .any ((Rows.OpenSpec.upto Rows.elimExactSpec).pre6 enc Tryz.prog Tryz.f7 Rows.elimExactUptoRow.domain false) (((Rows.OpenSpec.upto Rows.elimExactSpec).at F).post enc Tryz.prog Tryz.f7 false true false false):=by
  refine zRa (C:=Tryz.checked) [3,4,28,26,30,32,46,22,34,23,25] 4 own started (by kernel_rfl) Tryz.func7
    (OpenSpec.witness (enc:=enc) (C:=Tryz.checked) (s:=Rows.OpenSpec.upto Rows.elimExactSpec) (k:=Rows.uptoSmall) rfl false ⟨#[],#[.agg #[.slice none 0 0,.slice none 0 0,.int .i64 0],.int .i64 0,.int .i64 0],[]⟩ 8 (by kernel_rfl) (by kernel_rfl) (by kernel_rfl) (x:=([.agg [.nil,.nil,.lit (.int .i64 0)],.lit (.int .i64 0),.lit (.int .i64 0)],[],[])) (by kernel_rfl) rfl (by kernel_rfl))
    rfl (by kernel_rfl) (by kernel_rfl) (by kernel_rfl) (by kernel_rfl) Tryz.underlying4 ?_ law
  intro ds hd
  match ds,hd with
  | [y0,y1,y2],_=>rfl
theorem over:Rows.elimExactUptoRow.holds Tryz.pinned (Rows.OpenSpec.upto Rows.elimExactSpec) :=
  OpenClaim.holds_of_cond 7 Tryz.f7 rfl rfl rfl rfl rfl rfl rfl ⟨rfl,rfl,rfl,rfl,rfl⟩ rfl rfl rfl rfl rfl (by kernel_rfl) Tryz.func7 (by kernel_rfl)
    (of_decide_eq_true (by kernel_rfl)) (by unfold Func.isWrapper; first | (rw [if_pos (by decide +kernel)]; kernel_rfl) | (rw [if_neg (by decide +kernel)]; exact ⟨rfl,rfl⟩))
    (fun os started H enc _ F=>lifted os started H enc F)
end Go.Proofs.YtncmainjcffanaaGreat.elimExact
namespace Go.Proofs.YtncmainjcffanaaGreat
theorem elimExact_holds:Rows.ElimExactUptoSaid:=elimExact.over
end Go.Proofs.YtncmainjcffanaaGreat
