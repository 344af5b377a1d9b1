/- What steps a walk, told to simp. -/
import Derived.Test.YtncmainjcffanaaEC
set_option maxRecDepth 100000
set_option linter.unusedSimpArgs false
set_option linter.unusedVariables false
namespace Go.Proofs.Ytncmainjcffanaa
namespace Ev
open Go
abbrev xo (d:Nat) (x:XOp):XOper:=⟨some d,x,none⟩
abbrev xn (x:XOp):XOper:=⟨none,x,none⟩
abbrev xk (n:Int):Opd:=.c (.d (.int .i64 n))
abbrev xm (d s:Nat):XOper:=⟨some d,.mv (.t s),none⟩
abbrev xl (d s:Nat):XOper:=⟨some d,.load 1 false (.t s),none⟩
abbrev xL (d k s:Nat):XOper:=⟨some d,.load k true (.t s),none⟩
abbrev xf (d k s:Nat):XOper:=⟨some d,.faddr k (.t s),none⟩
abbrev xc (d:Nat) (f:FuncId) (l:List Opd):XOper:=⟨some d,.call (.c (.d (.clo f []))) l,none⟩
abbrev xa (d:Nat):XOper:=⟨some d,.alloc [.d (.int .i64 0),.d (.int .i64 0),.fsl 3 []],none⟩
abbrev xS (k a b:Nat):XOper:=⟨none,.store k (.t a) (.t b),none⟩
abbrev xb (d:Nat) (o:BinOp) (a b:Nat):XOper:=⟨some d,.bin o (.t a) (.t b),none⟩
abbrev xq (b:Bool):Opd:=.c (.d (.bool b))
abbrev rg (l:List XOper):XCode:=.region l none
abbrev tF:Bool × List Nat:=(false,[])
abbrev tT:Bool × List Nat:=(true,[])
theorem nrm:(∀ (p:Prop) [Decidable p],(decide p=true)=p)∧(∀ (p:Prop) [Decidable p],(decide p=false) = ¬p) ∧
    (∀ {α:Type} [BEq α] [LawfulBEq α] (a b:α),((a == b)=true)=(a=b))∧(∀ {α:Type} [BEq α] [LawfulBEq α] (a b:α),((a == b)=false) = ¬(a=b)) ∧
    (∀ {α:Type} [BEq α] [LawfulBEq α] (a b:α),((a != b)=true) = ¬(a=b))∧(∀ {α:Type} [BEq α] [LawfulBEq α] (a b:α),((a != b)=false)=(a=b)) ∧
    (∀ b:Bool,((!b)=true)=(b=false))∧(∀ b:Bool,((!b)=false)=(b=true))∧(∀ a b:Bool,((a && b)=true)=(a=true∧b=true))∧(∀ a b:Bool,((a || b)=true)=(a=true∨b=true)) ∧
    (∀ a b:Bool,((a && b)=false)=(a=false∨b=false))∧(∀ a b:Bool,((a || b)=false)=(a=false∧b=false)):=by
  refine ⟨fun p _=>by simp,fun p _=>by simp,fun a b=>by simp,fun a b=>by simp,fun a b=>by simp,fun a b=>by simp,?_,?_,?_,?_,?_,?_⟩ <;> decide
abbrev FnP (P:Program) (n:FuncId) (x:XFn):Prop:=∀ {ds rs:List D},ds.length=x.np→((∀ d ∈ ds,small 8 d)→wpX P x.code (Ends x.res rs) ⟨zig ds,za3⟩)→Pure P n ds rs
theorem zbt {P:Program} {f:FuncId} {fn:Func} {x:XFn} (hm:P.follows .mixedOrders=true) (hf:P.funcs[f]? = some fn) (hx:cfn P fn=some x):FnP P f x:=zow hm hf hx
attribute [simp ↓] zut zpy zws zsy zv3 zwq zu4 zuq zxi zw4 zxl zuz zxh zsk zsw zr0 zrt rb_mv zpp zvq zr7 zwy zvo zsa zs7 zxd ztz rb_un zux zwr zw7 zsv zrq zxn zsi zwd zwh zxj rb_mm zs1 zqr zrh zt4 zpc zq0 zuc zo1 zqm zxs zwb
attribute [simp] zpj zpn zuk zso Chk_t Cnd_t Cnd_f zwa zwx zwo zxu ztf act ev_t ev_c evs sks zpv zoz List.cons_append List.nil_append putS binI binB zvb zt2 zvl zv5 zud zw9 zuj zv7 zum zt5 zv2 zui zmv Ex.then Ex.inBlock Ends resL resX allD zlo zsn zj6 sk_d sk_n zxt za3 zi0 cut zif zgy avc_d avc_n zve zv6 zub zvj zro zv1 zwm zxg zt3 zxb dc_sl zvc dc_rp zxa zwp ztw zw8 on_sl on_n zun on_rp zxk zxq zwg zwf zu3 zu7 newE zen zh4 zfk put zvi deep callee resA zig zad fits zfm rd wr key1 zfq zcs zb1 idx zcw Body.frz zxc zue zr3 zs3 zst zs4 zr6 zr1 ztc zsq zrx zvh zvs zuw zup zuh zv4 zvg zva zuo zf0 zf5 resK EndsP zwt zpo zt0 fitC znt zua keyC znz skVs skCs skC1 resO tupA zbm zbh oneV zax zco RV.cells nk zqz zq1 zo4 resN newA newC AV.hi AV.hi1 D.bare D.bare1 AV.isE AV.hiY zu1 hiV hiC
end Ev
end Go.Proofs.Ytncmainjcffanaa
