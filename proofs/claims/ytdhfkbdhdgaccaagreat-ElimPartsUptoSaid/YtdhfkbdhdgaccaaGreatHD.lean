/- What steps a walk, told to simp. -/
import Derived.Test.YtdhfkbdhdgaccaaGreatEC
namespace Go.Proofs.YtdhfkbdhdgaccaaGreat
namespace Ev
open Go
abbrev xo (d : Nat) (x : XOp) : XOper := ⟨some d, x, none⟩
abbrev xn (x : XOp) : XOper := ⟨none, x, none⟩
abbrev xk (n : Int) : Opd := .c (.d (.int .i64 n))
theorem nrm : (∀ (p : Prop) [Decidable p], (decide p = true) = p) ∧ (∀ (p : Prop) [Decidable p], (decide p = false) = ¬p) ∧
    (∀ {α : Type} [BEq α] [LawfulBEq α] (a b : α), ((a == b) = true) = (a = b)) ∧ (∀ {α : Type} [BEq α] [LawfulBEq α] (a b : α), ((a == b) = false) = ¬(a = b)) ∧
    (∀ {α : Type} [BEq α] [LawfulBEq α] (a b : α), ((a != b) = true) = ¬(a = b)) ∧ (∀ {α : Type} [BEq α] [LawfulBEq α] (a b : α), ((a != b) = false) = (a = b)) ∧
    (∀ b : Bool, ((!b) = true) = (b = false)) ∧ (∀ b : Bool, ((!b) = false) = (b = true)) ∧ (∀ a b : Bool, ((a && b) = true) = (a = true ∧ b = true)) ∧ (∀ a b : Bool, ((a || b) = true) = (a = true ∨ b = true)) ∧
    (∀ a b : Bool, ((a && b) = false) = (a = false ∨ b = false)) ∧ (∀ a b : Bool, ((a || b) = false) = (a = false ∧ b = false)) := by
  refine ⟨fun p _ => by simp, fun p _ => by simp, fun a b => by simp, fun a b => by simp, fun a b => by simp, fun a b => by simp, ?_, ?_, ?_, ?_, ?_, ?_⟩ <;> decide
abbrev FnP (P : Program) (n : FuncId) (x : XFn) : Prop := ∀ {ds rs : List D}, ds.length = x.np → ((∀ d ∈ ds, small 8 d) → wpX P x.code (Ends x.res rs) ⟨zsc ds, zbh⟩) → Pure P n ds rs
abbrev FnO (P : Program) (n : FuncId) (x : XFn) : Prop := ∀ {ds : List D} {rs : List RV}, ds.length = x.np → ((∀ d ∈ ds, small 8 d) → wpX P x.code (zMy x.res rs) ⟨zsc ds, zbh⟩) → OwnC P n ds rs
theorem zao {P : Program} {f : FuncId} {fn : Func} {x : XFn} (hm : P.follows .mixedOrders = true) (hf : P.funcs[f]? = some fn) (hx : cfn P fn = some x) : FnP P f x := zGj hm hf hx
theorem zMs {P : Program} {f : FuncId} {fn : Func} {x : XFn} (hm : P.follows .mixedOrders = true) (hf : P.funcs[f]? = some fn) (hx : cfn P fn = some x) : FnO P f x := zHl hm hf hx
attribute [simp ↓] zOp zJy zSv zK7 zOa zR1 zQr zOf zRa zRq zS8 zOr zRh zLk zL6 zLh zLa rb_mv zJa zQk zMa zSd zQd zLp zL9 zSr zN3 rb_un zQx zS3 zS9 zLy zLb zTj zMr zRz zSs zTf rb_mm zLn zJx zI9 zR4 zTc
attribute [simp] zKj zH2 zPm zKx Chk_t Cnd_t Cnd_f zR7 zSn zSq zSk zK2 act ev_t ev_c evs sks zJw zG1 List.cons_append List.nil_append putS binI binB zOe zQe zQu zO7 zO3 zSz zOh zOx zPn zPy zQm zPo zB4 Ex.then Ex.inBlock Ends resL resX allD zJp zIq sk_d zSf zbh zvw cut zun zqk avc_d zPg zOz zQ4 zPd zLu zPe zTa zSb zP6 zRu dc_sl zPu dc_rp zSi zSa zNx zR6 on_sl zPt on_rp zS2 zRy zSw zSt zOk zN2 newE zkp zwy zpo put zPl deep callee resA zsc zaq fits zkw rd wr key1 znh zol zi7 idx zks Body.frz zSh zO4 zMc zL4 zLw zLc zK6 zK4 zK3 zKv zLl zOn zQc zO8 zQb zQq zQg zN8 zQw zOg zpq zpk resK zMy zTh zGa zKs fitC zAq zCy keyC zzt skVs skCs skC1 resO tupA zb4 zbz oneV zax zbt RV.cells nk zIv zJm zGn
end Ev
end Go.Proofs.YtdhfkbdhdgaccaaGreat
