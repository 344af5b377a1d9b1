/- What steps a walk, told to simp. -/
import Derived.Test.YtdhfkbdhdgaccaaGreatEC
set_option maxRecDepth 100000
set_option linter.unusedSimpArgs false
set_option linter.unusedVariables false
namespace Go.Proofs.YtdhfkbdhdgaccaaGreat
namespace Ev
open Go
abbrev xo (d : Nat) (x : XOp) : XOper := ⟨some d, x, none⟩
abbrev xn (x : XOp) : XOper := ⟨none, x, none⟩
abbrev xk (n : Int) : Opd := .c (.d (.int .i64 n))
theorem nrm : (∀ (p : Prop) [Decidable p], (decide p = true) = p) ∧ (∀ (p : Prop) [Decidable p], (decide p = false) = ¬p) ∧
    (∀ {α : Type} [BEq α] [LawfulBEq α] (a b : α), ((a == b) = true) = (a = b)) ∧ (∀ {α : Type} [BEq α] [LawfulBEq α] (a b : α), ((a == b) = false) = ¬(a = b)) ∧
    (∀ {α : Type} [BEq α] [LawfulBEq α] (a b : α), ((a != b) = true) = ¬(a = b)) ∧ (∀ {α : Type} [BEq α] [LawfulBEq α] (a b : α), ((a != b) = false) = (a = b)) ∧
    (∀ b : Bool, ((!b) = true) = (b = false)) ∧ (∀ b : Bool, ((!b) = false) = (b = true)) ∧ (∀ a b : Bool, ((a && b) = true) = (a = true ∧ b = true)) ∧ (∀ a b : Bool, ((a || b) = true) = (a = true ∨ b = true)) ∧
    (∀ a b : Bool, ((a && b) = false) = (a = false ∨ b = false)) ∧ (∀ a b : Bool, ((a || b) = false) = (a = false ∧ b = false)) := by
  refine ⟨fun p _ => by simp, fun p _ => by simp, fun a b => by simp, fun a b => by simp, fun a b => by simp, fun a b => by simp, ?_, ?_, ?_, ?_, ?_, ?_⟩ <;> decide
abbrev FnP (P : Program) (n : FuncId) (x : XFn) : Prop := ∀ {ds rs : List D}, ds.length = x.np → ((∀ d ∈ ds, small 8 d) → wpX P x.code (Ends x.res rs) ⟨zr9 ds, zbi⟩) → Pure P n ds rs
abbrev FnO (P : Program) (n : FuncId) (x : XFn) : Prop := ∀ {ds : List D} {rs : List RV}, ds.length = x.np → ((∀ d ∈ ds, small 8 d) → wpX P x.code (zM4 x.res rs) ⟨zr9 ds, zbi⟩) → OwnC P n ds rs
theorem zap {P : Program} {f : FuncId} {fn : Func} {x : XFn} (hm : P.follows .mixedOrders = true) (hf : P.funcs[f]? = some fn) (hx : cfn P fn = some x) : FnP P f x := zGu hm hf hx
theorem zG2 {P : Program} {f : FuncId} {fn : Func} {x : XFn} (hm : P.follows .mixedOrders = true) (hf : P.funcs[f]? = some fn) (hx : cfn P fn = some x) : FnO P f x := zKd hm hf hx
attribute [simp ↓] zR1 zIg zTp zNi zP0 zUm zP9 zSf zT5 zTw zS4 zP7 zTl zMk zMj zMx zN3 rb_mv zIe zPj zLw zT4 zRh zMl zMb zUn zQp rb_un zSg zUc zTe zM9 zM7 zT1 zMs zU3 zTs zTt rb_mm zNa zLd zJs zSy zUb
attribute [simp] zIy zJt zQq zNz Chk_t Cnd_t Cnd_f zTa zTc zTd zS8 zM1 act ev_t ev_c evs sks zJv zGw List.cons_append List.nil_append putS binI binB zRz zRf zRd zSh zRo zUp zRb zRp zPc zRj zPm zRr zDj Ex.then Ex.inBlock Ends resL resX allD zLp zKo sk_d zTx zbi zwn cut zuv zqu avc_d zPe zPh zPv zRy zN4 zSr zS6 zT9 zRv zTg dc_sl zSq dc_rp zSx zUg zPt zUz on_sl zQ9 on_rp zU4 zTu zS9 zTv zRt zQk newE zky zwd zp3 put zPl deep callee resA zr9 zar fits zkx rd wr key1 zo2 znn zjc idx zkv Body.frz zTz zQr zMv zM2 zM3 zMi zNg zL7 zNq zNl zLt zR0 zQt zSm zPz zP3 zQz zQu zPp zQd zrg zp5 resK zM4 zTj zHq zJ6 fitC zCu zE4 keyC zA2 skVs skCs skC1 resO tupA zb5 zb0 oneV zax zby RV.cells nk zJ9 zJ2 zG1
end Ev
end Go.Proofs.YtdhfkbdhdgaccaaGreat
