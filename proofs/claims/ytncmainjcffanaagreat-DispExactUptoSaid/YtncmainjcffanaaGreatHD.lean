/- What steps a walk, told to simp. -/
import Derived.Test.YtncmainjcffanaaGreatEC
set_option maxRecDepth 100000
set_option linter.unusedSimpArgs false
set_option linter.unusedVariables false
namespace Go.Proofs.YtncmainjcffanaaGreat
namespace Ev
open Go
abbrev xo (d : Nat) (x : XOp) : XOper := ⟨some d, x, none⟩
abbrev xn (x : XOp) : XOper := ⟨none, x, none⟩
abbrev xk (n : Int) : Opd := .c (.d (.int .i64 n))
abbrev xm (d s : Nat) : XOper := ⟨some d, .mv (.t s), none⟩
abbrev xl (d s : Nat) : XOper := ⟨some d, .load 1 false (.t s), none⟩
abbrev xL (d k s : Nat) : XOper := ⟨some d, .load k true (.t s), none⟩
abbrev xf (d k s : Nat) : XOper := ⟨some d, .faddr k (.t s), none⟩
abbrev xc (d : Nat) (f : FuncId) (l : List Opd) : XOper := ⟨some d, .call (.c (.d (.clo f []))) l, none⟩
abbrev xa (d : Nat) : XOper := ⟨some d, .alloc [.d (.int .i64 0), .d (.int .i64 0), .fsl 3 []], none⟩
abbrev xS (k a b : Nat) : XOper := ⟨none, .store k (.t a) (.t b), none⟩
abbrev xb (d : Nat) (o : BinOp) (a b : Nat) : XOper := ⟨some d, .bin o (.t a) (.t b), none⟩
abbrev xq (b : Bool) : Opd := .c (.d (.bool b))
abbrev rg (l : List XOper) : XCode := .region l none
abbrev tF : Bool × List Nat := (false, [])
abbrev tT : Bool × List Nat := (true, [])
theorem nrm : (∀ (p : Prop) [Decidable p], (decide p = true) = p) ∧ (∀ (p : Prop) [Decidable p], (decide p = false) = ¬p) ∧
    (∀ {α : Type} [BEq α] [LawfulBEq α] (a b : α), ((a == b) = true) = (a = b)) ∧ (∀ {α : Type} [BEq α] [LawfulBEq α] (a b : α), ((a == b) = false) = ¬(a = b)) ∧
    (∀ {α : Type} [BEq α] [LawfulBEq α] (a b : α), ((a != b) = true) = ¬(a = b)) ∧ (∀ {α : Type} [BEq α] [LawfulBEq α] (a b : α), ((a != b) = false) = (a = b)) ∧
    (∀ b : Bool, ((!b) = true) = (b = false)) ∧ (∀ b : Bool, ((!b) = false) = (b = true)) ∧ (∀ a b : Bool, ((a && b) = true) = (a = true ∧ b = true)) ∧ (∀ a b : Bool, ((a || b) = true) = (a = true ∨ b = true)) ∧
    (∀ a b : Bool, ((a && b) = false) = (a = false ∨ b = false)) ∧ (∀ a b : Bool, ((a || b) = false) = (a = false ∧ b = false)) := by
  refine ⟨fun p _ => by simp, fun p _ => by simp, fun a b => by simp, fun a b => by simp, fun a b => by simp, fun a b => by simp, ?_, ?_, ?_, ?_, ?_, ?_⟩ <;> decide
abbrev FnP (P : Program) (n : FuncId) (x : XFn) : Prop := ∀ {ds rs : List D}, ds.length = x.np → ((∀ d ∈ ds, small 8 d) → wpX P x.code (Ends x.res rs) ⟨zkl ds, za2⟩) → Pure P n ds rs
abbrev FnO (P : Program) (n : FuncId) (x : XFn) : Prop := ∀ {ds : List D} {rs : List RV}, ds.length = x.np → ((∀ d ∈ ds, small 8 d) → wpX P x.code (zN8 x.res rs) ⟨zkl ds, za2⟩) → OwnC P n ds rs
theorem zao {P : Program} {f : FuncId} {fn : Func} {x : XFn} (hm : P.follows .mixedOrders = true) (hf : P.funcs[f]? = some fn) (hx : cfn P fn = some x) : FnP P f x := zH6 hm hf hx
theorem zHy {P : Program} {f : FuncId} {fn : Func} {x : XFn} (hm : P.follows .mixedOrders = true) (hf : P.funcs[f]? = some fn) (hx : cfn P fn = some x) : FnO P f x := zLz hm hf hx
attribute [simp ↓] zPv zLx zS4 zOg zRx zT2 zQp zQc zSl zT8 zUk zRz zTe zNb zNn zMg zOk rb_mv zLu zQ2 zMy zTs zRa zMs zNm zT5 zSe rb_un zRn zTa zTl zNv zMa zTr zNs zTf zSo zUb rb_mm zNc zLt zJw zSh zHo zJ0 zPc zG9 zJ4 zSy zT1
attribute [simp] zI5 zKl zQo zM4 Chk_t Cnd_t Cnd_f zUg zUe zTp zS5 zNy act ev_t ev_c evs sks zL1 zH5 List.cons_append List.nil_append putS binI binB zQt zQ1 zQf zPh zRj zUl zQ8 zPq zQw zPp zSf zRq zDm Ex.then Ex.inBlock Ends resL resX allD zz6 zMk zxq sk_d sk_n zUp za2 zvw cut zuf zra avc_d avc_n zRh zRo zSd zR9 zOa zQj zSn zTt zPn zTq dc_sl zP1 dc_rp zTg zTy zP8 zSm on_sl on_n zPx on_rp zTn zTd zUi zUo zR6 zR0 newE zll zs2 zn4 put zPd deep callee resA zkl zap fits zlv rd wr key1 zo7 zgt zek idx zgr Body.frz zSq zQz zM2 zNp zNz zN1 zL8 zMw zN4 zNd zN3 zPw zPr zSg zQd zP2 zRp zQb zPj zQv zo5 zqx resK zN8 zSi zIe zLb fitC zC3 zEa keyC zBs skVs skCs skC1 resO tupA zbr zbk oneV zaz zbv RV.cells nk zJz zI4 zHc resN newA newC AV.hi AV.hi1 D.bare D.bare1 AV.isE AV.hiY zMv hiV hiC
end Ev
end Go.Proofs.YtncmainjcffanaaGreat
