/- Several texts in one. -/
import Derived.RangeFuncBox
import Derived.RangeFuncLeaves
import Derived.Shelf.Abstract
import Derived.WalkKit
import Derived.OwnWalkIn
import Derived.TacticsInMore
import Derived.LoopNIn
import Derived.LoopIn
import Derived.Test.YtncmainjcffanaaX
import Derived.Test.YtncmainjcffanaaED
set_option maxRecDepth 100000
set_option linter.unusedSimpArgs false
set_option linter.unusedVariables false
/- slices.Backward over terms: what it gives,turned from the kit's worked proof on slices.All. -/
namespace Go.Proofs.Ytncmainjcffanaa
namespace Ev
open Go Go.RowKit Go.Shelf
attribute [local go_sem] Oper.semAt_some
def Kp (St:Nat→Nat) (A B:World):Prop:=A.heap.size≤B.heap.size ∧ ∀ b i,i<St b→B.cell? ⟨b,i,none⟩=A.cell? ⟨b,i,none⟩
theorem Kp.refl (St:Nat→Nat) (A:World):Kp St A A:=⟨Nat.le_refl _,fun _ _ _=>rfl⟩
theorem Kp.trans {St:Nat→Nat} {A B C:World} (h:Kp St A B) (k:Kp St B C):Kp St A C:=⟨Nat.le_trans h.1 k.1,fun b i hi=>(k.2 b i hi).trans (h.2 b i hi)⟩
end Ev
end Go.Proofs.Ytncmainjcffanaa
/- tele.nest in its parts: each told in the small language. -/
namespace Go.Proofs.Ytncmainjcffanaa
namespace Ev
open Go
def y0:XCode:=.region [⟨some 3,.box (.t 0),none⟩,⟨some 5,.box (.t 2),none⟩,⟨some 6,.alloc [.d (.int .i64 0),.d (.int .i64 0),.fsl 3 []],none⟩] none
def y1:XCode:=.region [⟨some 10,.load 3 true (.t 5),none⟩,⟨some 11,.call (.c (.d (.clo 46 []))) [.t 10],none⟩,⟨some 7,.alloc [.d (.int .i64 0),.d (.int .i64 0),.fsl 3 []],none⟩,⟨none,.store 3 (.t 7) (.t 11),none⟩] none
def y2:XCode:=.region [⟨some 12,.mv (.t 1),none⟩,⟨some 13,.call (.c (.d (.clo 90 []))) [.t 12],none⟩] none
end Ev
end Go.Proofs.Ytncmainjcffanaa
