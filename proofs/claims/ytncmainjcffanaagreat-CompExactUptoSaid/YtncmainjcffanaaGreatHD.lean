/- What steps a walk, told to simp. -/
import Derived.Test.YtncmainjcffanaaGreatEC
set_option maxRecDepth 100000
set_option linter.unusedSimpArgs false
set_option linter.unusedVariables false
namespace Go.Proofs.YtncmainjcffanaaGreat
namespace Ev
open Go
abbrev xo (d:Nat) (x:XOp):XOper:=⟨some d,x,none⟩
abbrev xn (x:XOp):XOper:=⟨none,x,none⟩
abbrev xk (n:Int):Opd:=.c (.d (.int .i64 n))
abbrev xm (d s:Nat):XOper:=⟨some d,.mv (.t s),none⟩
abbrev xl (d s:Nat):XOper:=⟨some d,.load 1 false (.t s),none⟩
abbrev xL (d k s:Nat):XOper:=⟨some d,.load k true (.t s),none⟩
abbrev xf (d k s:Nat):XOper:=⟨some d,.faddr k (.t s),none⟩
abbrev xc (d:Nat) (f:FuncId) (l:List Opd):XOper:=⟨some d,.call (.c (.d (.clo f []))) l,none⟩
abbrev xa (d:Nat):XOper:=⟨some d,.alloc [.d (.int .i64 0),.d (.int .i64 0),.fsl 3 []],none⟩
abbrev xS (k a b:Nat):XOper:=⟨none,.store k (.t a) (.t b),none⟩
abbrev xb (d:Nat) (o:BinOp) (a b:Nat):XOper:=⟨some d,.bin o (.t a) (.t b),none⟩
abbrev xq (b:Bool):Opd:=.c (.d (.bool b))
abbrev rg (l:List XOper):XCode:=.region l none
abbrev tF:Bool × List Nat:=(false,[])
abbrev tT:Bool × List Nat:=(true,[])
theorem nrm:(∀ (p:Prop) [Decidable p],(decide p=true)=p)∧(∀ (p:Prop) [Decidable p],(decide p=false) = ¬p) ∧
    (∀ {α:Type} [BEq α] [LawfulBEq α] (a b:α),((a == b)=true)=(a=b))∧(∀ {α:Type} [BEq α] [LawfulBEq α] (a b:α),((a == b)=false) = ¬(a=b)) ∧
    (∀ {α:Type} [BEq α] [LawfulBEq α] (a b:α),((a != b)=true) = ¬(a=b))∧(∀ {α:Type} [BEq α] [LawfulBEq α] (a b:α),((a != b)=false)=(a=b)) ∧
    (∀ b:Bool,((!b)=true)=(b=false))∧(∀ b:Bool,((!b)=false)=(b=true))∧(∀ a b:Bool,((a && b)=true)=(a=true∧b=true))∧(∀ a b:Bool,((a || b)=true)=(a=true∨b=true)) ∧
    (∀ a b:Bool,((a && b)=false)=(a=false∨b=false))∧(∀ a b:Bool,((a || b)=false)=(a=false∧b=false)):=by
  refine ⟨fun p _=>by simp,fun p _=>by simp,fun a b=>by simp,fun a b=>by simp,fun a b=>by simp,fun a b=>by simp,?_,?_,?_,?_,?_,?_⟩ <;> decide
abbrev FnP (P:Program) (n:FuncId) (x:XFn):Prop:=∀ {ds rs:List D},ds.length=x.np→((∀ d ∈ ds,small 8 d)→wpX P x.code (Ends x.res rs) ⟨zjv ds,zat⟩)→Pure P n ds rs
abbrev FnO (P:Program) (n:FuncId) (x:XFn):Prop:=∀ {ds:List D} {rs:List RV},ds.length=x.np→((∀ d ∈ ds,small 8 d)→wpX P x.code (zFz x.res rs) ⟨zjv ds,zat⟩)→OwnC P n ds rs
theorem zap {P:Program} {f:FuncId} {fn:Func} {x:XFn} (hm:P.follows .mixedOrders=true) (hf:P.funcs[f]? = some fn) (hx:cfn P fn=some x):FnP P f x:=zB5 hm hf hx
theorem zIp {P:Program} {f:FuncId} {fn:Func} {x:XFn} (hm:P.follows .mixedOrders=true) (hf:P.funcs[f]? = some fn) (hx:cfn P fn=some x):FnO P f x:=zCu hm hf hx
attribute [simp ↓] zJn zD3 zNi zHo zKj zMu zK3 zKi zLu zLt zNl zLj zLr zG9 zHh zFm zGe rb_mv zD8 zK5 zFv zL2 zKe zFx zFp zNn zIx rb_un zK1 zLz zMp zGp zGw zLq zFq zL3 zM8 zNj rb_mm zFr zFf zDc zI1 zCi zEa zKm zCp zEv zMh zMr
attribute [simp] zEz zDg zK6 zGc Chk_t Cnd_t Cnd_f zMl zNd zM4 zMb zHi act ev_t ev_c evs sks zE3 zBs List.cons_append List.nil_append putS binI binB zJ0 zLm zKl zJz zJe zLy zKn zKd zI3 zIs zIt zKy zx1 Ex.then Ex.inBlock Ends resL resX allD zv0 zHv zup sk_d sk_n zNh zat zsg cut zrv zop avc_d avc_n zLa zI6 zJk zLk zF5 zKh zL1 zMe zKc zMi dc_sl zIv dc_rp zL8 zNg zIr zMz on_sl on_n zI5 on_rp zMf zMd zMk zL0 zJh zLb newE zis zpb zla put zKf deep callee resA zjv zak fits zjf rd wr key1 zl4 ze2 zdf idx zey Body.frz zNo zJc zGv zF7 zF2 zHf zHs zFn zHm zHq zGu zIn zJp zJg zJy zJf zJq zK2 zJr zLf zmm zll resK zFz zFb zCg zCy fitC zx8 zzb keyC zv8 skVs skCs skC1 resO tupA zbn zbr oneV zas zcw RV.cells nk zC3 zDa zB8 resN newA newC AV.hi AV.hi1 D.bare D.bare1 AV.isE AV.hiY zJv hiV hiC
end Ev
end Go.Proofs.YtncmainjcffanaaGreat
