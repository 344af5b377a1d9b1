/- What steps a walk, told to simp. -/
import Derived.Test.YtncmainjcffanaaGreatEC
set_option maxRecDepth 100000
set_option linter.unusedSimpArgs false
set_option linter.unusedVariables false
namespace Go.Proofs.YtncmainjcffanaaGreat
namespace Ev
open Go
abbrev xo (d:Nat) (x:XOp):XOper:=⟨some d,x,none⟩
abbrev xn (x:XOp):XOper:=⟨none,x,none⟩
abbrev xk (n:Int):Opd:=.c (.d (.int .i64 n))
abbrev xm (d s:Nat):XOper:=⟨some d,.mv (.t s),none⟩
abbrev xl (d s:Nat):XOper:=⟨some d,.load 1 false (.t s),none⟩
abbrev xL (d k s:Nat):XOper:=⟨some d,.load k true (.t s),none⟩
abbrev xf (d k s:Nat):XOper:=⟨some d,.faddr k (.t s),none⟩
abbrev xc (d:Nat) (f:FuncId) (l:List Opd):XOper:=⟨some d,.call (.c (.d (.clo f []))) l,none⟩
abbrev xa (d:Nat):XOper:=⟨some d,.alloc [.d (.int .i64 0),.d (.int .i64 0),.fsl 3 []],none⟩
abbrev xS (k a b:Nat):XOper:=⟨none,.store k (.t a) (.t b),none⟩
abbrev xb (d:Nat) (o:BinOp) (a b:Nat):XOper:=⟨some d,.bin o (.t a) (.t b),none⟩
abbrev xq (b:Bool):Opd:=.c (.d (.bool b))
abbrev rg (l:List XOper):XCode:=.region l none
abbrev tF:Bool × List Nat:=(false,[])
abbrev tT:Bool × List Nat:=(true,[])
theorem nrm:(∀ (p:Prop) [Decidable p],(decide p=true)=p)∧(∀ (p:Prop) [Decidable p],(decide p=false) = ¬p) ∧
    (∀ {α:Type} [BEq α] [LawfulBEq α] (a b:α),((a == b)=true)=(a=b))∧(∀ {α:Type} [BEq α] [LawfulBEq α] (a b:α),((a == b)=false) = ¬(a=b)) ∧
    (∀ {α:Type} [BEq α] [LawfulBEq α] (a b:α),((a != b)=true) = ¬(a=b))∧(∀ {α:Type} [BEq α] [LawfulBEq α] (a b:α),((a != b)=false)=(a=b)) ∧
    (∀ b:Bool,((!b)=true)=(b=false))∧(∀ b:Bool,((!b)=false)=(b=true))∧(∀ a b:Bool,((a && b)=true)=(a=true∧b=true))∧(∀ a b:Bool,((a || b)=true)=(a=true∨b=true)) ∧
    (∀ a b:Bool,((a && b)=false)=(a=false∨b=false))∧(∀ a b:Bool,((a || b)=false)=(a=false∧b=false)):=by
  refine ⟨fun p _=>by simp,fun p _=>by simp,fun a b=>by simp,fun a b=>by simp,fun a b=>by simp,fun a b=>by simp,?_,?_,?_,?_,?_,?_⟩ <;> decide
abbrev FnP (P:Program) (n:FuncId) (x:XFn):Prop:=∀ {ds rs:List D},ds.length=x.np→((∀ d ∈ ds,small 8 d)→wpX P x.code (Ends x.res rs) ⟨zle ds,za6⟩)→Pure P n ds rs
abbrev FnO (P:Program) (n:FuncId) (x:XFn):Prop:=∀ {ds:List D} {rs:List RV},ds.length=x.np→((∀ d ∈ ds,small 8 d)→wpX P x.code (zP8 x.res rs) ⟨zle ds,za6⟩)→OwnC P n ds rs
theorem zan {P:Program} {f:FuncId} {fn:Func} {x:XFn} (hm:P.follows .mixedOrders=true) (hf:P.funcs[f]? = some fn) (hx:cfn P fn=some x):FnP P f x:=zK3 hm hf hx
theorem zFu {P:Program} {f:FuncId} {fn:Func} {x:XFn} (hm:P.follows .mixedOrders=true) (hf:P.funcs[f]? = some fn) (hx:cfn P fn=some x):FnO P f x:=zN1 hm hf hx
attribute [simp ↓] zUs zNe zYx zSj zVt zYc zUa zWo zXy zXr zZi zT9 zXw zRt zR5 zQh zQp rb_mv zN0 zW2 zRm zYf zUr zP5 zRr zYo zTx rb_un zVx zXu zYm zP7 zSk zZa zQi zXe zXx zX3 rb_mm zR3 zPr zL5 zTt zLm zNo zW4 zLc zM9 zX2 zYh
attribute [simp] zMh zNg zUt zSc Chk_t Cnd_t Cnd_f zW9 zX4 zW8 zYj zQv act ev_t ev_c evs sks zL7 zLi List.cons_append List.nil_append putS binI binB zU4 zU0 zT5 zWz zUd zXq zTo zUc zUu zT7 zTs zVw zGd Ex.then Ex.inBlock Ends resL resX allD zDm zRl zAa sk_d sk_n zY8 za6 zyc cut zv3 zt1 avc_d avc_n zWh zUg zVc zTk zQ1 zVa zZg zY4 zW1 zXp dc_sl zWw dc_rp zXi zY0 zUw zYn on_sl on_n zUn on_rp zYp zXs zYd zX1 zW0 zWm newE zly zu0 zpk put zVs deep callee resA zle zao fits zmw rd wr key1 zrf zg9 ze2 idx zha Body.frz zXk zT1 zQl zQz zRc zQx zR9 zQ4 zQe zQr zP9 zWx zWr zWt zUk zV2 zTl zVr zWd zUh zql zqu resK zP8 zYe zKh zN6 fitC zF2 zIt keyC zDd skVs skCs skC1 resO tupA zb0 zbv oneV za1 zb2 RV.cells nk zNu zOu zKv resN newA newC AV.hi AV.hi1 D.bare D.bare1 AV.isE AV.hiY zQy hiV hiC
end Ev
end Go.Proofs.YtncmainjcffanaaGreat
