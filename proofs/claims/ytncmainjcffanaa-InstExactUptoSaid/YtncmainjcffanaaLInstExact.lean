/- The row of the law InstExact: whatever term, terms, number come in, of bulk at most 1048576, it returns true; what is za8 in stays as it was. -/
import Derived.Test.YtncmainjcffanaaRows
import Derived.Test.YtncmainjcffanaaMa
import Derived.Test.YtncmainjcffanaaSA
import Derived.WalkKit
import Derived.ProofKit
import Derived.OpenShut
import Derived.Below
import Derived.SizedLaws
set_option maxRecDepth 100000
set_option linter.unusedSimpArgs false
set_option linter.unusedVariables false
namespace Go.Proofs.Ytncmainjcffanaa.instExact
open Go.ChangeShapes Go.WideShapes Go.ChangeAt Go.RowKit Go.Proofs.Ytncmainjcffanaa.Ev
theorem own:ownKnob Try.prog.godebug=none:=by kernel_rfl
theorem law:∀ xs,zoh Try.prog Try.f4.params.toList xs→zdz xs≤1048576→Pure Try.prog 4 xs [.bool true]:=by
  intro xs h hb
  rw [Try.params4] at h
  match xs,h,hb with
  | [y0,y1,y2],⟨h0,h1,h2,_⟩,hb =>
    obtain ⟨x0,rfl,l0⟩:=zsg h0
    obtain ⟨x1,rfl,l1⟩:=zqp h1
    obtain ⟨x2,rfl,l2⟩:=zvr h2
    simp only [zdz,List.map_cons,List.map_nil,List.sum_cons,List.sum_nil] at hb
    have b0:=zqv x0
    have b1:=zo0 x1
    exact zln x0 x1 x2 (by omega) (fun x hx=>by have:=b1.1 x hx; omega) l0 l1
theorem lifted (os:Os) (started:os.Started) (H:Type) (enc:TypeId × Value→H) (F:Stop.Interp) :
    ReturnsInHanded {} Try.checked os 4 .any ((Rows.OpenSpec.upto Rows.instExactSpec).pre6 enc Try.prog Try.f4 Rows.instExactUptoRow.domain false) (((Rows.OpenSpec.upto Rows.instExactSpec).at F).post enc Try.prog Try.f4 false true false false):=by
  refine zta (C:=Try.checked) [3,4,24,22] 4 own started (by kernel_rfl) Try.func4
    (OpenSpec.witness (enc:=enc) (C:=Try.checked) (s:=Rows.OpenSpec.upto Rows.instExactSpec) (k:=Rows.uptoSmall) rfl false ⟨#[],#[.agg #[.int .i64 0,.int .i64 0,.slice none 0 0],.slice none 0 0,.int .i64 0],[]⟩ 8 (by kernel_rfl) (by kernel_rfl) (by kernel_rfl) (x:=([.agg [.lit (.int .i64 0),.lit (.int .i64 0),.nil],.nil,.lit (.int .i64 0)],[],[])) (by kernel_rfl) rfl (by kernel_rfl))
    rfl (by kernel_rfl) (by kernel_rfl) (by kernel_rfl) (by kernel_rfl) Try.underlying4 ?_ law
  intro ds hd
  match ds,hd with
  | [y0,y1,y2],_=>rfl
theorem over:Rows.instExactUptoRow.holds Try.pinned (Rows.OpenSpec.upto Rows.instExactSpec) :=
  OpenClaim.holds_of_cond 4 Try.f4 rfl rfl rfl rfl rfl rfl rfl ⟨rfl,rfl,rfl,rfl,rfl⟩ rfl rfl rfl rfl rfl (by kernel_rfl) Try.func4 (by kernel_rfl)
    (of_decide_eq_true (by kernel_rfl)) (by unfold Func.isWrapper; first | (rw [if_pos (by decide +kernel)]; kernel_rfl) | (rw [if_neg (by decide +kernel)]; exact ⟨rfl,rfl⟩))
    (fun os started H enc _ F=>lifted os started H enc F)
end Go.Proofs.Ytncmainjcffanaa.instExact
namespace Go.Proofs.Ytncmainjcffanaa
theorem instExact_holds:Rows.InstExactUptoSaid:=instExact.over
end Go.Proofs.Ytncmainjcffanaa
