/- The row of the law CompExact: whatever block, numbers, terms come in, of bulk at most 1048576, it returns true; what is za3 in stays as it was. -/
import Derived.Test.YtncmainjcffanaaGreatRows
import Derived.Test.YtncmainjcffanaaGreatMb
import Derived.Test.YtncmainjcffanaaGreatSA
import Derived.WalkKit
import Derived.ProofKit
import Derived.OpenShut
import Derived.Below
import Derived.SizedLaws
set_option maxRecDepth 100000
set_option linter.unusedSimpArgs false
set_option linter.unusedVariables false
namespace Go.Proofs.YtncmainjcffanaaGreat.compExact
open Go.ChangeShapes Go.WideShapes Go.ChangeAt Go.RowKit Go.Proofs.YtncmainjcffanaaGreat.Ev
theorem own:ownKnob Tryz.prog.godebug=none:=by kernel_rfl
theorem law:∀ xs,zAj Tryz.prog Tryz.f5.params.toList xs→zhy xs≤1048576→Pure Tryz.prog 5 xs [.bool true]:=by
  intro xs h hb
  rw [Tryz.params5] at h
  match xs,h,hb with
  | [y0,y1,y2,y3,y4,y5],⟨h0,h1,h2,h3,h4,h5,_⟩,hb =>
    obtain ⟨x0,rfl,l0⟩:=zDp h0
    obtain ⟨x1,rfl,l1⟩:=zFe h1
    obtain ⟨x2,rfl,l2⟩:=zFe h2
    obtain ⟨x3,rfl,l3⟩:=zuo h3
    obtain ⟨x4,rfl,l4⟩:=zuo h4
    obtain ⟨x5,rfl,l5⟩:=zuo h5
    simp only [zhy,List.map_cons,List.map_nil,List.sum_cons,List.sum_nil] at hb
    have b3:=zrm x3
    have b4:=zrm x4
    have b5:=zrm x5
    exact zwf x0 l0 (by omega) x1 x2 x3 x4 x5 (by have:=zm6 x3; omega) (by have:=zm6 x4; omega) (by have:=zm6 x5; omega) l3 l4 l5
theorem lifted (os:Os) (started:os.Started) (H:Type) (enc:TypeId × Value→H) (F:Stop.Interp) :
    ReturnsInHanded {} Tryz.checked os 5 .any ((Rows.OpenSpec.upto Rows.compExactSpec).pre6 enc Tryz.prog Tryz.f5 Rows.compExactUptoRow.domain false) (((Rows.OpenSpec.upto Rows.compExactSpec).at F).post enc Tryz.prog Tryz.f5 false true false false):=by
  refine zG4 (C:=Tryz.checked) [3,4,28,26,30,32,46,22,34,23,25] 4 own started (by kernel_rfl) Tryz.func5
    (OpenSpec.witness (enc:=enc) (C:=Tryz.checked) (s:=Rows.OpenSpec.upto Rows.compExactSpec) (k:=Rows.uptoSmall) rfl false ⟨#[],#[.agg #[.slice none 0 0,.slice none 0 0,.int .i64 0],.int .i64 0,.int .i64 0,.slice none 0 0,.slice none 0 0,.slice none 0 0],[]⟩ 8 (by kernel_rfl) (by kernel_rfl) (by kernel_rfl) (x:=([.agg [.nil,.nil,.lit (.int .i64 0)],.lit (.int .i64 0),.lit (.int .i64 0),.nil,.nil,.nil],[],[])) (by kernel_rfl) rfl (by kernel_rfl))
    rfl (by kernel_rfl) (by kernel_rfl) (by kernel_rfl) (by kernel_rfl) Tryz.underlying4 ?_ law
  intro ds hd
  match ds,hd with
  | [y0,y1,y2,y3,y4,y5],_=>rfl
theorem over:Rows.compExactUptoRow.holds Tryz.pinned (Rows.OpenSpec.upto Rows.compExactSpec) :=
  OpenClaim.holds_of_cond 5 Tryz.f5 rfl rfl rfl rfl rfl rfl rfl ⟨rfl,rfl,rfl,rfl,rfl⟩ rfl rfl rfl rfl rfl (by kernel_rfl) Tryz.func5 (by kernel_rfl)
    (of_decide_eq_true (by kernel_rfl)) (by unfold Func.isWrapper; first | (rw [if_pos (by decide +kernel)]; kernel_rfl) | (rw [if_neg (by decide +kernel)]; exact ⟨rfl,rfl⟩))
    (fun os started H enc _ F=>lifted os started H enc F)
end Go.Proofs.YtncmainjcffanaaGreat.compExact
namespace Go.Proofs.YtncmainjcffanaaGreat
theorem compExact_holds:Rows.CompExactUptoSaid:=compExact.over
end Go.Proofs.YtncmainjcffanaaGreat
