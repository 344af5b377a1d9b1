/- The functions of this seat, told in the small language: printed by a program of this session, checked by the kernel against the translation. -/
import Derived.Test.YtncmainjcffanaaGreatHD
import Derived.Test.YtncmainjcffanaaGreatProg
import Derived.KernelRfl
set_option maxRecDepth 100000
set_option linter.unusedSimpArgs false
set_option linter.unusedVariables false
namespace Go.Proofs.YtncmainjcffanaaGreat
namespace Ev
open Go
open XCode (region block loop)
theorem hm : Tryz.prog.follows .mixedOrders = true := by kernel_rfl
@[reducible] def zat : Nat := 15
@[reducible] def zdl : Nat := 21
@[reducible] def zc6 : Nat := 25
@[reducible] def zfz : Nat := 26
@[reducible] def zc7 : Nat := 27
@[reducible] def zeh : Nat := 28
@[reducible] def zbc : Nat := 32
@[reducible] def zb3 : Nat := 33
@[reducible] def zb2 : Nat := 36
@[reducible] def zas : Nat := 50
@[reducible] def zko : Nat := 54
@[reducible] def zAi : Nat := 56
@[reducible] def zno : Nat := 58
@[reducible] def zcl : Nat := 59
@[reducible] def zr1 : Nat := 61
@[reducible] def zc8 : Nat := 62
@[reducible] def zc5 : Nat := 65
@[reducible] def za4 : Nat := 66
@[reducible] def zdo : Nat := 86
@[reducible] def zca : Nat := 91
@[reducible] def zcp : Nat := 92
@[reducible] def zep : Nat := 96
@[reducible] def zif : Nat := 100
@[reducible] def zsk : Nat := 105
@[reducible] def zlr : Nat := 118
@[reducible] def zhv : Nat := 120
@[reducible] def zsh : Nat := 122
@[reducible] def zmw : Nat := 124
@[reducible] def zpz : Nat := 126
@[reducible] def zlt : Nat := 127
@[reducible] def zh9 : Nat := 129
@[reducible] def zgw : Nat := 130
@[reducible] def za1 : Nat := 135
@[reducible] def zbu : Nat := 137
@[reducible] def zjx : Nat := 148
@[reducible] def zcs : Nat := 155
@[reducible] def zj2 : Nat := 156
@[reducible] def zeb : Nat := 159
@[reducible] def zk5 : Nat := 169
@[reducible] def zju : Nat := 170
@[reducible] def zgf : Nat := 171
@[reducible] def ziu : Nat := 172
@[reducible] def zct : Nat := 173
@[reducible] def zhm : Nat := 183
@[reducible] def zfv : Nat := 185
@[reducible] def zib : Nat := 192
@[reducible] def zr0 : Nat := 198
@[reducible] def zbm : Nat := 199
@[reducible] def zff : Nat := 200
@[reducible] def zmi : Nat := 201
@[reducible] def znu : Nat := 203
@[reducible] def zug : Nat := 207
@[reducible] def zjq : Nat := 208
@[reducible] def zie : Nat := 210
@[reducible] def zxk : Nat := 211
@[reducible] def zel : Nat := 212
@[reducible] def zoy : Nat := 213
@[reducible] def zik : Nat := 214
def zjd : XFn := ⟨2, 24, [.tmp 4], (rg [xo 2 (.box (.t 0)), xo 3 (.box (.t 1)), xo 4 (.mv (xq false))]).seq ((rg [xf 5 0 2, xl 6 5, xf 7 0 3, xl 8 7, xb 9 .eql 6 8, xm 10 9, ⟨some 11, .faddr 1 (.t 2), some (10, true)⟩, ⟨some 12, .load 1 false (.t 11), some (10, true)⟩, ⟨some 13, .faddr 1 (.t 3), some (10, true)⟩, ⟨some 14, .load 1 false (.t 13), some (10, true)⟩, ⟨some 15, .bin .eql (.t 12) (.t 14), some (10, true)⟩, xo 16 (.pick (.t 10) (.t 15) (xq false)), xm 17 16, ⟨some 18, .faddr 2 (.t 2), some (17, true)⟩, ⟨some 19, .load 1 false (.t 18), some (17, true)⟩, ⟨some 20, .faddr 2 (.t 3), some (17, true)⟩, ⟨some 21, .load 1 false (.t 20), some (17, true)⟩, ⟨some 22, .call (.c (.d (.clo zb2 []))) [.t 19, .t 21], some (17, true)⟩, xo 23 (.pick (.t 17) (.t 22) (xq false)), xm 4 23]).seq .ret)⟩
theorem zun : cfn Tryz.prog Tryz.f15 = some zjd := by kernel_rfl
theorem zvf : FnP Tryz.prog zat zjd := zao hm Tryz.func15 zun
def zkx : XFn := ⟨1, 5, [.cell 2 3 true], (rg [xa 2]).seq ((rg [xm 3 0, xo 4 (.build [.d (.int .i64 0), .d (.int .i64 0), .fsl 3 []] [(0, 1, xk 3), (1, 1, .t 3)]), xS 3 2 4]).seq .ret)⟩
theorem zxr : cfn Tryz.prog Tryz.f25 = some zkx := by kernel_rfl
theorem zx4 : FnP Tryz.prog zc6 zkx := zao hm Tryz.func25 zxr
def zlj : XFn := ⟨1, 5, [.cell 2 3 true], (rg [xa 2]).seq ((rg [xm 3 0, xo 4 (.build [.d (.int .i64 0), .d (.int .i64 0), .fsl 3 []] [(0, 1, xk 2), (1, 1, .t 3)]), xS 3 2 4]).seq .ret)⟩
theorem zxp : cfn Tryz.prog Tryz.f26 = some zlj := by kernel_rfl
theorem zw1 : FnP Tryz.prog zfz zlj := zao hm Tryz.func26 zxp
def zh7 : XFn := ⟨2, 11, [.cell 4 3 true], (rg [xa 4]).seq ((rg [xo 5 (.nilrow 3)]).seq ((rg [xm 6 0, xm 7 5, xm 8 1, xo 9 (.app 3 40 (.t 7) (.t 8)), xo 10 (.build [.d (.int .i64 0), .d (.int .i64 0), .fsl 3 []] [(0, 1, .t 6), (2, 1, .t 9)]), xS 3 4 10]).seq .ret))⟩
theorem zyu : cfn Tryz.prog Tryz.f27 = some zh7 := by kernel_rfl
theorem zos : FnP Tryz.prog zc7 zh7 := zao hm Tryz.func27 zyu
def zk8 : XFn := ⟨1, 5, [.cell 2 3 true], (rg [xa 2]).seq ((rg [xm 3 0, xo 4 (.build [.d (.int .i64 0), .d (.int .i64 0), .fsl 3 []] [(0, 1, xk 1), (1, 1, .t 3)]), xS 3 2 4]).seq .ret)⟩
theorem zxf : cfn Tryz.prog Tryz.f28 = some zk8 := by kernel_rfl
theorem zyf : FnP Tryz.prog zeh zk8 := zao hm Tryz.func28 zxf
def zhg : XFn := ⟨1, 29, [.tmp 2], (rg [xo 2 (.mv (xq false))]).seq (((rg [xm 5 0, xo 6 (.len (.t 5)), xo 7 (.bin .gtr (.t 6) (xk 60))]).seq (XCode.cond (.t 7) ((rg [xo 2 (.mv (xq true))]).seq .ret) .skip)).seq ((rg [xo 3 (.mv (xk 0))]).seq (((rg [xo 4 (.mv (xk 0))]).seq (block 0 (((rg [xm 8 4, xm 9 0, xo 10 (.len (.t 9)), xb 11 .lss 8 10]).seq (XCode.cond (.t 11) .skip (.exit 0))).seq ((block 1 (((rg [xm 14 0, xm 15 4, xo 16 (.iaddr 3 (.t 14) (.t 15)), xL 17 3 16, xc 18 zca [.t 17], xo 19 (.bin .gtr (.t 18) (xk 300))]).seq (XCode.cond (.t 19) ((rg [xo 2 (.mv (xq true))]).seq .ret) .skip)).seq (rg [xm 20 3, xm 21 0, xm 22 4, xo 23 (.iaddr 3 (.t 21) (.t 22)), xL 24 3 23, xc 25 zcp [.t 24], xb 26 .add 20 25, xm 3 26]))).seq (rg [xm 12 4, xo 13 (.bin .add (.t 12) (xk 1)), xm 4 13]))).loop)).seq ((rg [xm 27 3, xo 28 (.bin .gtr (.t 27) (xk 9000)), xm 2 28]).seq .ret))))⟩
theorem zr7 : cfn Tryz.prog Tryz.f32 = some zhg := by kernel_rfl
theorem zrh : FnP Tryz.prog zbc zhg := zao hm Tryz.func32 zr7
def ziq : XFn := ⟨1, 20, [.tmp 2], (rg [xo 2 (.nilrow 3)]).seq ((rg [xo 3 (.nilrow 3)]).seq (((rg [xo 4 (.mv (xk 0))]).seq (block 0 (((rg [xm 5 4, xm 6 0, xo 7 (.len (.t 6)), xb 8 .lss 5 7]).seq (XCode.cond (.t 8) .skip (.exit 0))).seq ((block 1 (rg [xm 11 3, xm 12 0, xm 13 4, xo 14 (.iaddr 3 (.t 12) (.t 13)), xL 15 3 14, xc 16 zas [.t 15], xo 17 (.bslice (.agg [.int .i64 0, .int .i64 0, .sl 3 []]) 3 1 [(0, .t 16)]), xo 18 (.app 3 40 (.t 11) (.t 17)), xm 3 18])).seq (rg [xm 9 4, xo 10 (.bin .add (.t 9) (xk 1)), xm 4 10]))).loop)).seq ((rg [xm 19 3, xm 2 19]).seq .ret)))⟩
theorem zte : cfn Tryz.prog Tryz.f33 = some ziq := by kernel_rfl
theorem ztf : FnP Tryz.prog zb3 ziq := zao hm Tryz.func33 zte
def zil : XFn := ⟨2, 27, [.tmp 4], (rg [xo 4 (.mv (xq false))]).seq (((rg [xm 6 0, xo 7 (.len (.t 6)), xm 8 1, xo 9 (.len (.t 8)), xb 10 .neq 7 9]).seq (XCode.cond (.t 10) ((rg [xo 4 (.mv (xq false))]).seq .ret) .skip)).seq (((rg [xo 5 (.mv (xk 0))]).seq (block 0 (((rg [xm 11 5, xm 12 0, xo 13 (.len (.t 12)), xb 14 .lss 11 13]).seq (XCode.cond (.t 14) .skip (.exit 0))).seq ((block 1 ((region [xm 17 0, xm 18 5, xo 19 (.iaddr 3 (.t 17) (.t 18)), xL 20 3 19, xm 21 1, xm 22 5, xo 23 (.iaddr 3 (.t 21) (.t 22)), xL 24 3 23, xc 25 zat [.t 20, .t 24], xo 26 (.un .not (.t 25))] (some [tF, tF, tT, tT, tF, tF, (false, [2, 3]), (false, [2, 3]), tF, tF])).seq (XCode.cond (.t 26) ((rg [xo 4 (.mv (xq false))]).seq .ret) .skip))).seq (rg [xm 15 5, xo 16 (.bin .add (.t 15) (xk 1)), xm 5 16]))).loop)).seq ((rg [xo 4 (.mv (xq true))]).seq .ret)))⟩
theorem ztz : cfn Tryz.prog Tryz.f36 = some zil := by kernel_rfl
theorem ztt : FnP Tryz.prog zb2 zil := zao hm Tryz.func36 ztz
def zi6 : XFn := ⟨1, 11, [.cell 2 3 true], (rg [xo 1 (.box (.t 0)), xa 2]).seq ((region [xf 3 0 1, xl 4 3, xf 5 1 1, xl 6 5, xf 7 2 1, xl 8 7, xc 9 zb3 [.t 8], xo 10 (.build [.d (.int .i64 0), .d (.int .i64 0), .fsl 3 []] [(0, 1, .t 4), (1, 1, .t 6), (2, 1, .t 9)]), xS 3 2 10] (some [tT, tT, (true, [0, 1]), (true, [0, 1]), (false, [0, 1, 2, 3]), (false, [0, 1, 2, 3]), (false, [0, 1, 2, 3]), tF, tF])).seq .ret)⟩
theorem zu7 : cfn Tryz.prog Tryz.f50 = some zi6 := by kernel_rfl
theorem zuz : FnP Tryz.prog zas zi6 := zao hm Tryz.func50 zu7
def zqd : XFn := ⟨2, 8, [.cell 4 3 true], (rg [xo 3 (.box (.t 1)), xa 4]).seq ((rg [xm 5 0, xL 6 3 3, xc 7 zsh [xk 4, .t 5, .t 6], xS 3 4 7]).seq .ret)⟩
theorem zzy : cfn Tryz.prog Tryz.f54 = some zqd := by kernel_rfl
theorem zHl : FnP Tryz.prog zko zqd := zao hm Tryz.func54 zzy
def zAp : XFn := ⟨1, 5, [.cell 2 3 true], (rg [xa 2]).seq ((rg [xm 3 0, xo 4 (.build [.d (.int .i64 0), .d (.int .i64 0), .fsl 3 []] [(0, 1, xk 2), (1, 1, .t 3)]), xS 3 2 4]).seq .ret)⟩
theorem zMu : cfn Tryz.prog Tryz.f56 = some zAp := by kernel_rfl
theorem zM3 : FnP Tryz.prog zAi zAp := zao hm Tryz.func56 zMu
def zq0 : XFn := ⟨2, 8, [.cell 4 3 true], (rg [xa 4]).seq ((rg [xm 5 0, xm 6 1, xo 7 (.build [.d (.int .i64 0), .d (.int .i64 0), .fsl 3 []] [(0, 1, .t 5), (2, 1, .t 6)]), xS 3 4 7]).seq .ret)⟩
theorem zE6 : cfn Tryz.prog Tryz.f58 = some zq0 := by kernel_rfl
theorem zEw : FnP Tryz.prog zno zq0 := zao hm Tryz.func58 zE6
def zlq : XFn := ⟨2, 23, [.cell 4 3 true], (rg [xo 2 (.box (.t 0)), xa 4]).seq ((rg [xL 8 3 2, xc 9 zc8 [.t 8], xa 5, xS 3 5 9]).seq (((rg [xm 10 1, xo 11 (.len (.t 10)), xo 12 (.mv (xk 0))]).seq (block 0 ((rg [xb 13 .lss 12 11]).seq ((XCode.cond (.t 13) .skip (.exit 0)).seq ((block 1 ((rg [xo 14 (.iaddr 3 (.t 10) (.t 12)), xL 15 3 14, xa 7, xS 3 7 15]).seq (region [xL 16 3 5, xL 17 3 7, xc 18 zc8 [.t 17], xo 19 (.bslice (.agg [.int .i64 0, .int .i64 0, .sl 3 []]) 3 2 [(0, .t 16), (1, .t 18)]), xc 20 zno [xk 6, .t 19], xS 3 5 20] (some [tT, (false, [0]), (false, [0]), tF, tF, tF])))).seq (rg [xo 21 (.bin .add (.t 12) (xk 1)), xm 12 21])))).loop)).seq ((rg [xL 22 3 5, xS 3 4 22]).seq .ret)))⟩
theorem zvl : cfn Tryz.prog Tryz.f59 = some zlq := by kernel_rfl
theorem zCu : FnP Tryz.prog zcl zlq := zao hm Tryz.func59 zvl
def zrb : XFn := ⟨1, 28, [.tmp 2], (rg [xo 2 (.nilrow 3)]).seq (((rg [xm 5 0, xo 6 (.bin .lss (.t 5) (xk 1)), xm 7 6, ⟨some 8, .mv (.t 0), some (7, false)⟩, ⟨some 9, .bin .gtr (.t 8) (xk 65536), some (7, false)⟩, xo 10 (.pick (.t 7) (xq true) (.t 9))]).seq (XCode.cond (.t 10) ((rg [xo 2 (.nilrow 3)]).seq .ret) .skip)).seq ((rg [xm 11 0, xo 12 (.mks (.agg [.int .i64 0, .int .i64 0, .sl 3 []]) 3 40 (.t 11)), xm 3 12]).seq (((rg [xm 13 3, xo 14 (.len (.t 13)), xo 15 (.mv (xk 0))]).seq (block 0 ((rg [xb 16 .lss 15 14]).seq ((XCode.cond (.t 16) .skip (.exit 0)).seq ((block 1 ((rg [xm 17 15, xm 4 17]).seq (rg [xm 18 3, xm 19 4, xm 20 0, xo 21 (.bin .sub (.t 20) (xk 1)), xm 22 4, xb 23 .sub 21 22, xc 24 zpz [.t 23], xo 25 (.iaddr 3 (.t 18) (.t 19)), xS 3 25 24]))).seq (rg [xo 26 (.bin .add (.t 15) (xk 1)), xm 15 26])))).loop)).seq ((rg [xm 27 3, xm 2 27]).seq .ret))))⟩
theorem zFf : cfn Tryz.prog Tryz.f61 = some zrb := by kernel_rfl
theorem zEy : FnP Tryz.prog zr1 zrb := zao hm Tryz.func61 zFf
def znv : XFn := ⟨1, 8, [.cell 2 3 true], (rg [xo 1 (.box (.t 0)), xa 2]).seq ((rg [xf 3 2 1, xl 4 3, xc 5 zlt [.t 4], xf 6 2 1, xS 1 6 5]).seq ((rg [xL 7 3 1, xS 3 2 7]).seq .ret))⟩
theorem zxh : cfn Tryz.prog Tryz.f62 = some znv := by kernel_rfl
theorem zE0 : FnP Tryz.prog zc8 znv := zao hm Tryz.func62 zxh
def zje : XFn := ⟨2, 8, [.cell 4 3 true], (rg [xo 3 (.box (.t 1)), xa 4]).seq ((rg [xm 5 0, xL 6 3 3, xc 7 zh9 [xk 4, .t 5, .t 6], xS 3 4 7]).seq .ret)⟩
theorem zue : cfn Tryz.prog Tryz.f65 = some zje := by kernel_rfl
theorem zur : FnP Tryz.prog zc5 zje := zao hm Tryz.func65 zue
def zhb : XFn := ⟨2, 24, [.cell 4 3 true], (rg [xo 2 (.box (.t 0)), xa 4]).seq ((rg [xL 7 3 2, xc 8 zas [.t 7], xa 5, xS 3 5 8]).seq (((rg [xo 6 (.mv (xk 0))]).seq (block 0 (((rg [xm 9 6, xm 10 1, xo 11 (.len (.t 10)), xb 12 .lss 9 11]).seq (XCode.cond (.t 12) .skip (.exit 0))).seq ((block 1 (region [xL 15 3 5, xm 16 1, xm 17 6, xo 18 (.iaddr 3 (.t 16) (.t 17)), xL 19 3 18, xc 20 zas [.t 19], xo 21 (.bslice (.agg [.int .i64 0, .int .i64 0, .sl 3 []]) 3 2 [(0, .t 15), (1, .t 20)]), xc 22 zc7 [xk 6, .t 21], xS 3 5 22] (some [tT, tF, tF, (false, [0]), (false, [0]), (false, [0]), tF, tF, tF]))).seq (rg [xm 13 6, xo 14 (.bin .add (.t 13) (xk 1)), xm 6 14]))).loop)).seq ((rg [xL 23 3 5, xS 3 4 23]).seq .ret)))⟩
theorem zrn : cfn Tryz.prog Tryz.f66 = some zhb := by kernel_rfl
theorem zsg : FnP Tryz.prog za4 zhb := zao hm Tryz.func66 zrn
def zfd : XFn := ⟨3, 70, [.cell 6 3 true, .tmp 7], (rg [xo 3 (.box (.t 0)), xa 6, xo 7 (.mv (xq false))]).seq ((rg [xf 13 0 3, xl 14 13, xf 15 1 3, xl 16 15, xo 17 (.build [.d (.int .i64 0), .d (.int .i64 0), .fsl 3 []] [(0, 1, .t 14), (1, 1, .t 16)]), xa 8, xS 3 8 17]).seq (((rg [xf 18 0 3, xl 19 18, xo 20 (.bin .eql (.t 19) (xk 1)), xm 21 20, ⟨some 22, .faddr 1 (.t 3), some (21, true)⟩, ⟨some 23, .load 1 false (.t 22), some (21, true)⟩, ⟨some 24, .mv (.t 2), some (21, true)⟩, ⟨some 25, .bin .geq (.t 23) (.t 24), some (21, true)⟩, xo 26 (.pick (.t 21) (.t 25) (xq false))]).seq (XCode.cond (.t 26) (rg [xf 27 1 3, xl 28 27, xm 29 1, xb 30 .add 28 29, xf 31 1 8, xS 1 31 30]) .skip)).seq ((rg [xf 32 1 8, xl 33 32, xo 34 (.bin .gtr (.t 33) (xk 65535)), xm 9 34]).seq (((rg [xo 10 (.mv (xk 0))]).seq (block 0 (((rg [xm 35 10, xf 36 2 3, xl 37 36, xo 38 (.len (.t 37)), xb 39 .lss 35 38]).seq (XCode.cond (.t 39) .skip (.exit 0))).seq ((block 1 ((region [xf 43 2 3, xl 44 43, xm 45 10, xo 46 (.iaddr 3 (.t 44) (.t 45)), xL 47 3 46, xm 48 1, xm 49 2, xf 50 0 3, xl 51 50, xm 52 10, xc 53 zbu [.t 51, .t 52], xb 54 .add 49 53, xc 55 zdo [.t 47, .t 48, .t 54], xm 42 55, xo 56 (.ext (.t 42) 0), xo 57 (.ext (.t 42) 1), xa 11, xS 3 11 56, xm 12 57] (some [tT, tT, tF, tT, tT, tF, tF, (true, [0, 1, 3, 4]), (true, [0, 1, 3, 4]), tF, (true, [0, 1, 3, 4]), tF, tT, tF, tF, tF, (false, [0, 1, 3, 4, 7, 8, 10, 12]), tF, tF])).seq (rg [xf 58 2 8, xl 59 58, xL 60 3 11, xo 61 (.bslice (.agg [.int .i64 0, .int .i64 0, .sl 3 []]) 3 1 [(0, .t 60)]), xo 62 (.app 3 40 (.t 59) (.t 61)), xm 63 9, xm 64 63, ⟨some 65, .mv (.t 12), some (64, false)⟩, xo 66 (.pick (.t 64) (xq true) (.t 65)), xf 67 2 8, xS 1 67 62, xm 9 66]))).seq (rg [xm 40 10, xo 41 (.bin .add (.t 40) (xk 1)), xm 10 41]))).loop)).seq ((rg [xL 68 3 8, xm 69 9, xS 3 6 68, xm 7 69]).seq .ret)))))⟩
theorem zsm : cfn Tryz.prog Tryz.f86 = some zfd := by kernel_rfl
theorem ztu : FnP Tryz.prog zdo zfd := zao hm Tryz.func86 zsm
def zg0 : XFn := ⟨1, 22, [.tmp 2], (rg [xo 1 (.box (.t 0)), xo 2 (.mv (xk 0))]).seq ((rg [xo 3 (.mv (xk 0))]).seq (((rg [xo 4 (.mv (xk 0))]).seq (block 0 (((rg [xm 5 4, xf 6 2 1, xl 7 6, xo 8 (.len (.t 7)), xb 9 .lss 5 8]).seq (XCode.cond (.t 9) .skip (.exit 0))).seq ((block 1 (rg [xm 12 3, xf 13 2 1, xl 14 13, xm 15 4, xo 16 (.iaddr 3 (.t 14) (.t 15)), xL 17 3 16, xc 18 zca [.t 17], xo 19 (.mm true (.t 12) (.t 18)), xm 3 19])).seq (rg [xm 10 4, xo 11 (.bin .add (.t 10) (xk 1)), xm 4 11]))).loop)).seq ((rg [xm 20 3, xo 21 (.bin .add (.t 20) (xk 1)), xm 2 21]).seq .ret)))⟩
theorem zrt : cfn Tryz.prog Tryz.f91 = some zg0 := by kernel_rfl
theorem zr2 : FnP Tryz.prog zca zg0 := zao hm Tryz.func91 zrt
def zh2 : XFn := ⟨1, 21, [.tmp 2], (rg [xo 1 (.box (.t 0)), xo 2 (.mv (xk 0))]).seq ((rg [xo 3 (.mv (xk 1))]).seq (((rg [xo 4 (.mv (xk 0))]).seq (block 0 (((rg [xm 5 4, xf 6 2 1, xl 7 6, xo 8 (.len (.t 7)), xb 9 .lss 5 8]).seq (XCode.cond (.t 9) .skip (.exit 0))).seq ((block 1 (rg [xm 12 3, xf 13 2 1, xl 14 13, xm 15 4, xo 16 (.iaddr 3 (.t 14) (.t 15)), xL 17 3 16, xc 18 zcp [.t 17], xb 19 .add 12 18, xm 3 19])).seq (rg [xm 10 4, xo 11 (.bin .add (.t 10) (xk 1)), xm 4 11]))).loop)).seq ((rg [xm 20 3, xm 2 20]).seq .ret)))⟩
theorem zsp : cfn Tryz.prog Tryz.f92 = some zh2 := by kernel_rfl
theorem ztg : FnP Tryz.prog zcp zh2 := zao hm Tryz.func92 zsp
def zg9 : XFn := ⟨1, 12, [.tmp 2], (rg [xo 1 (.box (.t 0)), xo 2 (.mv (xk 0))]).seq (((rg [xL 3 3 1, xc 4 zcp [.t 3], xo 5 (.bin .gtr (.t 4) (xk 6000))]).seq (XCode.cond (.t 5) ((rg [xo 2 (.mv (xk 4))]).seq .ret) .skip)).seq (((rg [xL 6 3 1, xc 7 zca [.t 6], xo 8 (.bin .gtr (.t 7) (xk 200))]).seq (XCode.cond (.t 8) ((rg [xo 2 (.mv (xk 5))]).seq .ret) .skip)).seq (((rg [xL 9 3 1, xc 10 zcs [.t 9], xo 11 (.un .not (.t 10))]).seq (XCode.cond (.t 11) ((rg [xo 2 (.mv (xk 1))]).seq .ret) .skip)).seq ((rg [xo 2 (.mv (xk 0))]).seq .ret))))⟩
theorem zq3 : cfn Tryz.prog Tryz.f96 = some zg9 := by kernel_rfl
theorem zrs : FnP Tryz.prog zep zg9 := zao hm Tryz.func96 zq3
def zih : XFn := ⟨1, 21, [.tmp 2], (rg [xo 2 (.nilrow 3)]).seq ((rg [xo 3 (.nilrow 3)]).seq (((rg [xm 5 0, xo 6 (.bin .sub (.t 5) (xk 1)), xm 4 6]).seq (block 0 (((rg [xm 7 4, xo 8 (.bin .geq (.t 7) (xk 0)), xm 9 8, ⟨some 10, .mv (.t 0), some (9, true)⟩, ⟨some 11, .bin .leq (.t 10) (xk 65536), some (9, true)⟩, xo 12 (.pick (.t 9) (.t 11) (xq false))]).seq (XCode.cond (.t 12) .skip (.exit 0))).seq ((block 1 (rg [xm 15 3, xm 16 4, xc 17 zeh [.t 16], xo 18 (.bslice (.agg [.int .i64 0, .int .i64 0, .sl 3 []]) 3 1 [(0, .t 17)]), xo 19 (.app 3 40 (.t 15) (.t 18)), xm 3 19])).seq (rg [xm 13 4, xo 14 (.bin .sub (.t 13) (xk 1)), xm 4 14]))).loop)).seq ((rg [xm 20 3, xm 2 20]).seq .ret)))⟩
theorem ztr : cfn Tryz.prog Tryz.f100 = some zih := by kernel_rfl
theorem zsl : FnP Tryz.prog zif zih := zao hm Tryz.func100 ztr
def zA0 : XFn := ⟨1, 5, [.cell 2 3 true], (rg [xa 2]).seq ((rg [xm 3 0, xo 4 (.build [.d (.int .i64 0), .d (.int .i64 0), .fsl 3 []] [(0, 1, xk 3), (1, 1, .t 3)]), xS 3 2 4]).seq .ret)⟩
theorem zMo : cfn Tryz.prog Tryz.f105 = some zA0 := by kernel_rfl
theorem zL9 : FnP Tryz.prog zsk zA0 := zao hm Tryz.func105 zMo
def zo8 : XFn := ⟨1, 15, [.tmp 2], (rg [xo 1 (.box (.t 0)), xo 2 (.mv (xk 0))]).seq ((block 0 ((rg [xL 4 3 1, xc 5 zk5 [.t 4], xo 6 (.bin .gtr (.t 5) (xk 6000)), xm 3 6]).seq (XCode.cond (.t 3) ((rg [xo 2 (.mv (xk 4))]).seq .ret) ((rg [xL 8 3 1, xc 9 zju [.t 8], xo 10 (.bin .gtr (.t 9) (xk 200)), xm 7 10]).seq (XCode.cond (.t 7) ((rg [xo 2 (.mv (xk 5))]).seq .ret) ((rg [xL 12 3 1, xc 13 zgf [.t 12], xo 14 (.un .not (.t 13)), xm 11 14]).seq (XCode.cond (.t 11) ((rg [xo 2 (.mv (xk 1))]).seq .ret) .skip))))))).seq ((rg [xo 2 (.mv (xk 0))]).seq .ret))⟩
theorem zDl : cfn Tryz.prog Tryz.f118 = some zo8 := by kernel_rfl
theorem zCs : FnP Tryz.prog zlr zo8 := zao hm Tryz.func118 zDl
def zid : XFn := ⟨3, 17, [.cell 6 3 true], (rg [xo 3 (.box (.t 0)), xa 6]).seq ((rg [xL 10 3 3, xm 11 1, xm 12 2, xc 13 zeb [.t 10, .t 11, .t 12], xm 9 13, xo 14 (.ext (.t 9) 0), xo 15 (.ext (.t 9) 1), xa 7, xS 3 7 14, xm 8 15]).seq ((rg [xL 16 3 7, xS 3 6 16]).seq .ret))⟩
theorem ztm : cfn Tryz.prog Tryz.f120 = some zid := by kernel_rfl
theorem zs7 : FnP Tryz.prog zhv zid := zao hm Tryz.func120 ztm
def zu0 : XFn := ⟨3, 52, [.cell 6 3 true], (rg [xo 3 (.box (.t 0)), xa 6]).seq (((rg [xf 10 0 3, xl 11 10, xo 12 (.bin .eql (.t 11) (xk 1))]).seq (XCode.cond (.t 12) ((rg [xm 13 2, xf 14 1 3, xl 15 14, xm 16 1, xo 17 (.call (.t 13) [.t 15, .t 16]), xS 3 6 17]).seq .ret) .skip)).seq (((rg [xf 18 2 3, xl 19 18, xo 20 (.len (.t 19)), xo 21 (.bin .eql (.t 20) (xk 0))]).seq (XCode.cond (.t 21) ((rg [xf 22 2 3, xn (.store 1 (.t 22) (.c (.fsl 3 [])))]).seq ((rg [xL 23 3 3, xS 3 6 23]).seq .ret)) .skip)).seq ((rg [xf 24 2 3, xl 25 24, xo 26 (.len (.t 25)), xo 27 (.mks (.agg [.int .i64 0, .int .i64 0, .sl 3 []]) 3 40 (.t 26)), xm 7 27]).seq (((rg [xf 28 2 3, xl 29 28, xo 30 (.len (.t 29)), xo 31 (.mv (xk 0))]).seq (block 0 ((rg [xb 32 .lss 31 30]).seq ((XCode.cond (.t 32) .skip (.exit 0)).seq ((block 1 ((rg [xm 33 31, xo 34 (.iaddr 3 (.t 29) (.t 31)), xL 35 3 34, xa 9, xm 8 33, xS 3 9 35]).seq (region [xm 36 7, xm 37 8, xL 38 3 9, xm 39 1, xf 40 0 3, xl 41 40, xm 42 8, xc 43 zjx [.t 41, .t 42], xb 44 .add 39 43, xm 45 2, xc 46 zmw [.t 38, .t 44, .t 45], xo 47 (.iaddr 3 (.t 36) (.t 37)), xS 3 47 46] (some [tF, tF, tT, tF, (false, [2]), (false, [2]), tF, (false, [2]), tF, tF, tF, tF, tF])))).seq (rg [xo 48 (.bin .add (.t 31) (xk 1)), xm 31 48])))).loop)).seq ((rg [xm 49 7, xf 50 2 3, xS 1 50 49]).seq ((rg [xL 51 3 3, xS 3 6 51]).seq .ret))))))⟩
theorem zIi : cfn Tryz.prog Tryz.f124 = some zu0 := by kernel_rfl
theorem zH9 : FnP Tryz.prog zmw zu0 := zao hm Tryz.func124 zIi
def zAd : XFn := ⟨1, 5, [.cell 2 3 true], (rg [xa 2]).seq ((rg [xm 3 0, xo 4 (.build [.d (.int .i64 0), .d (.int .i64 0), .fsl 3 []] [(0, 1, xk 1), (1, 1, .t 3)]), xS 3 2 4]).seq .ret)⟩
theorem zMi : cfn Tryz.prog Tryz.f126 = some zAd := by kernel_rfl
theorem zN2 : FnP Tryz.prog zpz zAd := zao hm Tryz.func126 zMi
def zlw : XFn := ⟨1, 26, [.tmp 2], (rg [xo 2 (.nilrow 3)]).seq (((rg [xm 5 0, xo 6 (.len (.t 5)), xo 7 (.bin .eql (.t 6) (xk 0))]).seq (XCode.cond (.t 7) ((rg [xo 2 (.nilrow 3)]).seq .ret) .skip)).seq ((rg [xm 8 0, xo 9 (.len (.t 8)), xo 10 (.mks (.agg [.int .i64 0, .int .i64 0, .sl 3 []]) 3 40 (.t 9)), xm 3 10]).seq (((rg [xm 11 0, xo 12 (.len (.t 11)), xo 13 (.mv (xk 0))]).seq (block 0 ((rg [xb 14 .lss 13 12]).seq ((XCode.cond (.t 14) .skip (.exit 0)).seq ((block 1 ((rg [xm 15 13, xm 4 15]).seq (rg [xm 16 3, xm 17 4, xm 18 0, xm 19 4, xo 20 (.iaddr 3 (.t 18) (.t 19)), xL 21 3 20, xc 22 zc8 [.t 21], xo 23 (.iaddr 3 (.t 16) (.t 17)), xS 3 23 22]))).seq (rg [xo 24 (.bin .add (.t 13) (xk 1)), xm 13 24])))).loop)).seq ((rg [xm 25 3, xm 2 25]).seq .ret))))⟩
theorem zvr : cfn Tryz.prog Tryz.f127 = some zlw := by kernel_rfl
theorem zC0 : FnP Tryz.prog zlt zlw := zao hm Tryz.func127 zvr
def zig : XFn := ⟨3, 28, [.cell 6 3 true], (rg [xo 5 (.box (.t 2)), xa 6]).seq ((rg [xL 9 3 5, xc 10 zas [.t 9], xa 7, xS 3 7 10]).seq (((rg [xm 11 1, xo 12 (.len (.t 11)), xo 13 (.bin .sub (.t 12) (xk 1)), xm 8 13]).seq (block 0 (((rg [xm 14 8, xo 15 (.bin .geq (.t 14) (xk 0))]).seq (XCode.cond (.t 15) .skip (.exit 0))).seq ((block 1 (region [xm 18 0, xm 19 1, xm 20 8, xo 21 (.iaddr 3 (.t 19) (.t 20)), xL 22 3 21, xc 23 zas [.t 22], xL 24 3 7, xo 25 (.bslice (.agg [.int .i64 0, .int .i64 0, .sl 3 []]) 3 2 [(0, .t 23), (1, .t 24)]), xc 26 zc7 [.t 18, .t 25], xS 3 7 26] (some [tF, tF, tF, tT, tT, tT, (false, [3, 4, 5]), tF, tF, tF]))).seq (rg [xm 16 8, xo 17 (.bin .sub (.t 16) (xk 1)), xm 8 17]))).loop)).seq ((rg [xL 27 3 7, xS 3 6 27]).seq .ret)))⟩
theorem zty : cfn Tryz.prog Tryz.f129 = some zig := by kernel_rfl
theorem ztq : FnP Tryz.prog zh9 zig := zao hm Tryz.func129 zty
def zg7 : XFn := ⟨3, 25, [.tmp 6], (rg [xo 3 (.box (.t 0)), xo 6 (.mv (xq false))]).seq ((rg [xm 7 1, xo 8 (.bin .geq (.t 7) (xk 0)), xm 9 8, ⟨some 10, .mv (.t 2), some (9, true)⟩, ⟨some 11, .bin .geq (.t 10) (xk 0), some (9, true)⟩, xo 12 (.pick (.t 9) (.t 11) (xq false)), xm 13 12, ⟨some 14, .load 3 true (.t 3), some (13, true)⟩, ⟨some 15, .call (.c (.d (.clo zep []))) [.t 14], some (13, true)⟩, ⟨some 16, .bin .eql (.t 15) (xk 0), some (13, true)⟩, xo 17 (.pick (.t 13) (.t 16) (xq false)), xm 18 17, ⟨some 19, .load 3 true (.t 3), some (18, true)⟩, ⟨some 20, .mv (.t 1), some (18, true)⟩, ⟨some 21, .mm false (.t 20) (xk 1048576), some (18, true)⟩, ⟨some 22, .mv (.t 2), some (18, true)⟩, ⟨some 23, .call (.c (.d (.clo zct []))) [.t 19, .t 21, .t 22], some (18, true)⟩, xo 24 (.pick (.t 18) (.t 23) (xq false)), xm 6 24]).seq .ret)⟩
theorem zru : cfn Tryz.prog Tryz.f130 = some zg7 := by kernel_rfl
theorem zq9 : FnP Tryz.prog zgw zg7 := zao hm Tryz.func130 zru
def zdq : XFn := ⟨1, 34, [.cell 2 3 true, .tmp 3], (rg [xo 1 (.box (.t 0)), xa 2, xo 3 (.nilrow 3)]).seq (((rg [xf 6 0 1, xl 7 6, xo 8 (.bin .neq (.t 7) (xk 6)), xm 9 8, ⟨some 10, .faddr 2 (.t 1), some (9, false)⟩, ⟨some 11, .load 1 false (.t 10), some (9, false)⟩, ⟨some 12, .len (.t 11), some (9, false)⟩, ⟨some 13, .bin .neq (.t 12) (xk 2), some (9, false)⟩, xo 14 (.pick (.t 9) (xq true) (.t 13))]).seq (XCode.cond (.t 14) ((rg [xL 15 3 1, xc 16 zas [.t 15], xS 3 2 16, xo 3 (.nilrow 3)]).seq .ret) .skip)).seq ((rg [xf 18 2 1, xl 19 18, xo 20 (.iaddr 3 (.t 19) (xk 0)), xL 21 3 20, xc 22 za1 [.t 21], xm 17 22, xo 23 (.ext (.t 17) 0), xo 24 (.ext (.t 17) 1), xa 4, xS 3 4 23, xm 5 24]).seq ((region [xL 25 3 4, xm 26 5, xf 27 2 1, xl 28 27, xo 29 (.iaddr 3 (.t 28) (xk 1)), xL 30 3 29, xc 31 zas [.t 30], xo 32 (.bslice (.agg [.int .i64 0, .int .i64 0, .sl 3 []]) 3 1 [(0, .t 31)]), xo 33 (.app 3 40 (.t 26) (.t 32)), xS 3 2 25, xm 3 33] (some [tT, tF, (false, [0]), (false, [0]), (false, [0]), (false, [0]), (false, [0]), (false, [0]), (false, [0]), tF, tF])).seq .ret)))⟩
theorem zpi : cfn Tryz.prog Tryz.f135 = some zdq := by kernel_rfl
theorem zop : FnO Tryz.prog za1 zdq := zHy hm Tryz.func135 zpi
def zgy : XFn := ⟨2, 19, [.tmp 4], (rg [xo 4 (.mv (xk 0))]).seq (((rg [xm 5 1, xo 6 (.bin .eql (.t 5) (xk 1)), xm 7 6, ⟨some 8, .mv (.t 0), some (7, true)⟩, ⟨some 9, .bin .eql (.t 8) (xk 4), some (7, true)⟩, ⟨some 10, .mv (.t 9), some (7, true)⟩, ⟨some 11, .mv (.t 0), some (10, false)⟩, ⟨some 12, .bin .eql (.t 11) (xk 5), some (10, false)⟩, ⟨some 13, .pick (.t 10) (xq true) (.t 12), some (7, true)⟩, ⟨some 14, .mv (.t 13), some (7, true)⟩, ⟨some 15, .mv (.t 0), some (14, false)⟩, ⟨some 16, .bin .eql (.t 15) (xk 7), some (14, false)⟩, ⟨some 17, .pick (.t 14) (xq true) (.t 16), some (7, true)⟩, xo 18 (.pick (.t 7) (.t 17) (xq false))]).seq (XCode.cond (.t 18) ((rg [xo 4 (.mv (xk 1))]).seq .ret) .skip)).seq ((rg [xo 4 (.mv (xk 0))]).seq .ret))⟩
theorem zrk : cfn Tryz.prog Tryz.f137 = some zgy := by kernel_rfl
theorem zsb : FnP Tryz.prog zbu zgy := zao hm Tryz.func137 zrk
def zox : XFn := ⟨2, 12, [.tmp 4], (rg [xo 4 (.mv (xk 0))]).seq (((rg [xm 5 1, xo 6 (.bin .eql (.t 5) (xk 1)), xm 7 6, ⟨some 8, .bslice (.int .i64 0) 1 3 [(0, xk 4), (1, xk 5), (2, xk 7)], some (7, true)⟩, ⟨some 9, .mv (.t 0), some (7, true)⟩, ⟨some 10, .call (.c (.d (.clo zfv []))) [.t 8, .t 9], some (7, true)⟩, xo 11 (.pick (.t 7) (.t 10) (xq false))]).seq (XCode.cond (.t 11) ((rg [xo 4 (.mv (xk 1))]).seq .ret) .skip)).seq ((rg [xo 4 (.mv (xk 0))]).seq .ret))⟩
theorem zCq : cfn Tryz.prog Tryz.f148 = some zox := by kernel_rfl
theorem zDt : FnP Tryz.prog zjx zox := zao hm Tryz.func148 zCq
def zgm : XFn := ⟨1, 46, [.tmp 2], (rg [xo 1 (.box (.t 0)), xo 2 (.mv (xq false))]).seq (((region [xf 4 2 1, xl 5 4, xo 6 (.len (.t 5)), xf 7 0 1, xl 8 7, xc 9 zib [.t 8], xb 10 .neq 6 9] (some [tT, tT, tT, (false, [0, 1, 2]), (false, [0, 1, 2]), (false, [0, 1, 2]), tF])).seq (XCode.cond (.t 10) ((rg [xo 2 (.mv (xq false))]).seq .ret) .skip)).seq (((rg [xf 11 2 1, xl 12 11, xo 13 (.len (.t 12)), xo 14 (.bin .eql (.t 13) (xk 0)), xm 15 14, ⟨some 16, .faddr 1 (.t 1), some (15, true)⟩, ⟨some 17, .load 1 false (.t 16), some (15, true)⟩, ⟨some 18, .call (.c (.d (.clo zj2 []))) [.t 17, xk 0, xk 65535], some (15, true)⟩, ⟨some 19, .un .not (.t 18), some (15, true)⟩, xo 20 (.pick (.t 15) (.t 19) (xq false)), xm 21 20, ⟨some 22, .faddr 2 (.t 1), some (21, false)⟩, ⟨some 23, .load 1 false (.t 22), some (21, false)⟩, ⟨some 24, .len (.t 23), some (21, false)⟩, ⟨some 25, .bin .gtr (.t 24) (xk 0), some (21, false)⟩, ⟨some 26, .mv (.t 25), some (21, false)⟩, ⟨some 27, .faddr 1 (.t 1), some (26, true)⟩, ⟨some 28, .load 1 false (.t 27), some (26, true)⟩, ⟨some 29, .bin .neq (.t 28) (xk 0), some (26, true)⟩, ⟨some 30, .pick (.t 26) (.t 29) (xq false), some (21, false)⟩, xo 31 (.pick (.t 21) (xq true) (.t 30))]).seq (XCode.cond (.t 31) ((rg [xo 2 (.mv (xq false))]).seq .ret) .skip)).seq (((rg [xo 3 (.mv (xk 0))]).seq (block 0 (((rg [xm 32 3, xf 33 2 1, xl 34 33, xo 35 (.len (.t 34)), xb 36 .lss 32 35]).seq (XCode.cond (.t 36) .skip (.exit 0))).seq ((block 1 ((rg [xf 39 2 1, xl 40 39, xm 41 3, xo 42 (.iaddr 3 (.t 40) (.t 41)), xL 43 3 42, xc 44 zcs [.t 43], xo 45 (.un .not (.t 44))]).seq (XCode.cond (.t 45) ((rg [xo 2 (.mv (xq false))]).seq .ret) .skip))).seq (rg [xm 37 3, xo 38 (.bin .add (.t 37) (xk 1)), xm 3 38]))).loop)).seq ((rg [xo 2 (.mv (xq true))]).seq .ret))))⟩
theorem zqn : cfn Tryz.prog Tryz.f155 = some zgm := by kernel_rfl
theorem zqt : FnP Tryz.prog zcs zgm := zao hm Tryz.func155 zqn
def zj4 : XFn := ⟨3, 15, [.tmp 6], (rg [xo 6 (.mv (xq false))]).seq ((rg [xm 7 0, xm 8 1, xb 9 .geq 7 8, xm 10 9, ⟨some 11, .mv (.t 0), some (10, true)⟩, ⟨some 12, .mv (.t 2), some (10, true)⟩, ⟨some 13, .bin .leq (.t 11) (.t 12), some (10, true)⟩, xo 14 (.pick (.t 10) (.t 13) (xq false)), xm 6 14]).seq .ret)⟩
theorem zv1 : cfn Tryz.prog Tryz.f156 = some zj4 := by kernel_rfl
theorem zvz : FnP Tryz.prog zj2 zj4 := zao hm Tryz.func156 zv1
def zc3 : XFn := ⟨3, 88, [.cell 6 3 true, .tmp 7], (rg [xo 3 (.box (.t 0)), xa 6, xo 7 (.mv (xq false))]).seq (((rg [xf 14 0 3, xl 15 14, xo 16 (.bin .eql (.t 15) (xk 1))]).seq (XCode.cond (.t 16) ((rg [xm 17 1, xo 18 (.len (.t 17)), xm 8 18]).seq (((rg [xf 19 1 3, xl 20 19, xm 21 2, xm 22 8, xb 23 .add 21 22, xb 24 .geq 20 23]).seq (XCode.cond (.t 24) ((rg [xf 25 1 3, xl 26 25, xm 27 8, xb 28 .sub 26 27, xo 29 (.build [.d (.int .i64 0), .d (.int .i64 0), .fsl 3 []] [(0, 1, xk 1), (1, 1, .t 28)]), xS 3 6 29, xo 7 (.mv (xq false))]).seq .ret) .skip)).seq ((rg [xf 30 1 3, xl 31 30, xm 32 2, xb 33 .geq 31 32]).seq (XCode.cond (.t 33) ((rg [xm 34 1, xm 35 8, xo 36 (.bin .sub (.t 35) (xk 1)), xf 37 1 3, xl 38 37, xm 39 2, xb 40 .sub 38 39, xb 41 .sub 36 40, xo 42 (.iaddr 3 (.t 34) (.t 41)), xL 43 3 42, xm 44 2, xc 45 zdo [.t 43, .t 44, xk 0], xo 46 (.ext (.t 45) 0), xo 47 (.ext (.t 45) 1), xS 3 6 46, xm 7 47]).seq .ret) .skip)))) .skip)).seq ((rg [xf 48 0 3, xl 49 48, xf 50 1 3, xl 51 50, xo 52 (.build [.d (.int .i64 0), .d (.int .i64 0), .fsl 3 []] [(0, 1, .t 49), (1, 1, .t 51)]), xa 9, xS 3 9 52]).seq ((rg [xo 10 (.mv (xq false))]).seq (((rg [xo 11 (.mv (xk 0))]).seq (block 0 (((rg [xm 53 11, xf 54 2 3, xl 55 54, xo 56 (.len (.t 55)), xb 57 .lss 53 56]).seq (XCode.cond (.t 57) .skip (.exit 0))).seq ((block 1 ((region [xf 61 2 3, xl 62 61, xm 63 11, xo 64 (.iaddr 3 (.t 62) (.t 63)), xL 65 3 64, xm 66 1, xm 67 2, xf 68 0 3, xl 69 68, xm 70 11, xc 71 zbu [.t 69, .t 70], xb 72 .add 67 71, xc 73 zeb [.t 65, .t 66, .t 72], xm 60 73, xo 74 (.ext (.t 60) 0), xo 75 (.ext (.t 60) 1), xa 12, xS 3 12 74, xm 13 75] (some [tT, tT, tF, tT, tT, tF, tF, (true, [0, 1, 3, 4]), (true, [0, 1, 3, 4]), tF, (true, [0, 1, 3, 4]), tF, tT, tF, tF, tF, (false, [0, 1, 3, 4, 7, 8, 10, 12]), tF, tF])).seq (rg [xf 76 2 9, xl 77 76, xL 78 3 12, xo 79 (.bslice (.agg [.int .i64 0, .int .i64 0, .sl 3 []]) 3 1 [(0, .t 78)]), xo 80 (.app 3 40 (.t 77) (.t 79)), xm 81 10, xm 82 81, ⟨some 83, .mv (.t 13), some (82, false)⟩, xo 84 (.pick (.t 82) (xq true) (.t 83)), xf 85 2 9, xS 1 85 80, xm 10 84]))).seq (rg [xm 58 11, xo 59 (.bin .add (.t 58) (xk 1)), xm 11 59]))).loop)).seq ((rg [xL 86 3 9, xm 87 10, xS 3 6 86, xm 7 87]).seq .ret)))))⟩
theorem zuh : cfn Tryz.prog Tryz.f159 = some zc3 := by kernel_rfl
theorem zut : FnP Tryz.prog zeb zc3 := zao hm Tryz.func159 zuh
def zre : XFn := ⟨1, 19, [.tmp 2], (rg [xo 1 (.box (.t 0)), xo 2 (.mv (xk 0))]).seq ((rg [xo 3 (.mv (xk 1))]).seq (((rg [xf 6 2 1, xl 7 6, xo 8 (.len (.t 7)), xo 9 (.mv (xk 0))]).seq (block 0 ((rg [xb 10 .lss 9 8]).seq ((XCode.cond (.t 10) .skip (.exit 0)).seq ((block 1 ((rg [xo 11 (.iaddr 3 (.t 7) (.t 9)), xL 12 3 11, xa 5, xS 3 5 12]).seq (rg [xm 13 3, xL 14 3 5, xc 15 zk5 [.t 14], xb 16 .add 13 15, xm 3 16]))).seq (rg [xo 17 (.bin .add (.t 9) (xk 1)), xm 9 17])))).loop)).seq ((rg [xm 18 3, xm 2 18]).seq .ret)))⟩
theorem zD9 : cfn Tryz.prog Tryz.f169 = some zre := by kernel_rfl
theorem zD8 : FnP Tryz.prog zk5 zre := zao hm Tryz.func169 zD9
def zpr : XFn := ⟨1, 20, [.tmp 2], (rg [xo 1 (.box (.t 0)), xo 2 (.mv (xk 0))]).seq ((rg [xo 3 (.mv (xk 0))]).seq (((rg [xf 6 2 1, xl 7 6, xo 8 (.len (.t 7)), xo 9 (.mv (xk 0))]).seq (block 0 ((rg [xb 10 .lss 9 8]).seq ((XCode.cond (.t 10) .skip (.exit 0)).seq ((block 1 ((rg [xo 11 (.iaddr 3 (.t 7) (.t 9)), xL 12 3 11, xa 5, xS 3 5 12]).seq (rg [xm 13 3, xL 14 3 5, xc 15 zju [.t 14], xo 16 (.mm true (.t 13) (.t 15)), xm 3 16]))).seq (rg [xo 17 (.bin .add (.t 9) (xk 1)), xm 9 17])))).loop)).seq ((rg [xm 18 3, xo 19 (.bin .add (.t 18) (xk 1)), xm 2 19]).seq .ret)))⟩
theorem zC1 : cfn Tryz.prog Tryz.f170 = some zpr := by kernel_rfl
theorem zDv : FnP Tryz.prog zju zpr := zao hm Tryz.func170 zC1
def zm9 : XFn := ⟨1, 39, [.tmp 2], (rg [xo 1 (.box (.t 0)), xo 2 (.mv (xq false))]).seq ((rg [xf 4 0 1, xl 5 4, xc 6 zr0 [.t 5], xm 3 6]).seq (((rg [xm 7 3, xo 8 (.bin .lss (.t 7) (xk 0)), xm 9 8, ⟨some 10, .faddr 2 (.t 1), some (9, false)⟩, ⟨some 11, .load 1 false (.t 10), some (9, false)⟩, ⟨some 12, .len (.t 11), some (9, false)⟩, ⟨some 13, .mv (.t 3), some (9, false)⟩, ⟨some 14, .bin .neq (.t 12) (.t 13), some (9, false)⟩, xo 15 (.pick (.t 9) (xq true) (.t 14)), xm 16 15, ⟨some 17, .faddr 1 (.t 1), some (16, false)⟩, ⟨some 18, .load 1 false (.t 17), some (16, false)⟩, ⟨some 19, .bin .lss (.t 18) (xk 0), some (16, false)⟩, xo 20 (.pick (.t 16) (xq true) (.t 19)), xm 21 20, ⟨some 22, .faddr 1 (.t 1), some (21, false)⟩, ⟨some 23, .load 1 false (.t 22), some (21, false)⟩, ⟨some 24, .bin .gtr (.t 23) (xk 65535), some (21, false)⟩, xo 25 (.pick (.t 21) (xq true) (.t 24)), xm 26 25, ⟨some 27, .mv (.t 3), some (26, false)⟩, ⟨some 28, .bin .gtr (.t 27) (xk 0), some (26, false)⟩, ⟨some 29, .mv (.t 28), some (26, false)⟩, ⟨some 30, .faddr 1 (.t 1), some (29, true)⟩, ⟨some 31, .load 1 false (.t 30), some (29, true)⟩, ⟨some 32, .bin .neq (.t 31) (xk 0), some (29, true)⟩, ⟨some 33, .pick (.t 29) (.t 32) (xq false), some (26, false)⟩, xo 34 (.pick (.t 26) (xq true) (.t 33))]).seq (XCode.cond (.t 34) ((rg [xo 2 (.mv (xq false))]).seq .ret) .skip)).seq ((rg [xf 35 2 1, xl 36 35, xo 37 (.call (.c (.d (.clo zbm []))) [.t 36, .c (.d (.clo zff []))]), xo 38 (.un .not (.t 37)), xm 2 38]).seq .ret)))⟩
theorem zA4 : cfn Tryz.prog Tryz.f171 = some zm9 := by kernel_rfl
theorem zAs : FnP Tryz.prog zgf zm9 := zao hm Tryz.func171 zA4
def ze3 : XFn := ⟨1, 4, [.tmp 2], (rg [xo 1 (.box (.t 0)), xo 2 (.mv (.c (.d .junk)))]).seq ((rg [xo 3 (.mkf zmi [.t 1]), xm 2 3]).seq .ret)⟩
theorem zoh : cfn Tryz.prog Tryz.f172 = some ze3 := by kernel_rfl
theorem zod : FnP Tryz.prog ziu ze3 := zao hm Tryz.func172 zoh
def zgk : XFn := ⟨3, 48, [.tmp 6], (rg [xo 3 (.box (.t 0)), xo 6 (.mv (xq false))]).seq (((rg [xf 8 0 3, xl 9 8]).seq (block 0 ((rg [xo 11 (.bin .eql (.t 9) (xk 1)), xm 10 11]).seq (XCode.cond (.t 10) ((rg [xf 12 1 3, xl 13 12, xm 14 1, xb 15 .lss 13 14, xm 6 15]).seq .ret) ((rg [xo 17 (.bin .eql (.t 9) (xk 2)), xm 16 17]).seq (XCode.cond (.t 16) ((rg [xf 18 1 3, xl 19 18, xo 20 (.bin .leq (.t 19) (xk 6)), xm 6 20]).seq .ret) ((rg [xo 22 (.bin .eql (.t 9) (xk 3)), xm 21 22]).seq (XCode.cond (.t 21) ((rg [xf 23 1 3, xl 24 23, xm 25 2, xb 26 .lss 24 25, xm 6 26]).seq .ret) .skip)))))))).seq (((rg [xo 7 (.mv (xk 0))]).seq (block 1 (((rg [xm 27 7, xf 28 2 3, xl 29 28, xo 30 (.len (.t 29)), xb 31 .lss 27 30]).seq (XCode.cond (.t 31) .skip (.exit 1))).seq ((block 2 ((region [xf 34 2 3, xl 35 34, xm 36 7, xo 37 (.iaddr 3 (.t 35) (.t 36)), xL 38 3 37, xm 39 1, xf 40 0 3, xl 41 40, xm 42 7, xc 43 zbu [.t 41, .t 42], xb 44 .add 39 43, xm 45 2, xc 46 zct [.t 38, .t 44, .t 45], xo 47 (.un .not (.t 46))] (some [tT, tT, tF, tT, tT, tF, (false, [0, 1, 3, 4]), (false, [0, 1, 3, 4]), tF, (false, [0, 1, 3, 4]), tF, tF, tF, tF])).seq (XCode.cond (.t 47) ((rg [xo 6 (.mv (xq false))]).seq .ret) .skip))).seq (rg [xm 32 7, xo 33 (.bin .add (.t 32) (xk 1)), xm 7 33]))).loop)).seq ((rg [xo 6 (.mv (xq true))]).seq .ret)))⟩
theorem zqh : cfn Tryz.prog Tryz.f173 = some zgk := by kernel_rfl
theorem zqj : FnP Tryz.prog zct zgk := zao hm Tryz.func173 zqh
def zor : XFn := ⟨1, 22, [.cell 2 3 true, .tmp 3], (rg [xo 1 (.box (.t 0)), xa 2, xo 3 (.nilrow 3)]).seq ((rg [xo 4 (.nilrow 3)]).seq ((block 0 (((rg [xL 5 3 1, xc 6 zug [.t 5, xk 6]]).seq (XCode.cond (.t 6) .skip (.exit 0))).seq (block 1 ((rg [xm 7 4, xf 8 2 1, xl 9 8, xo 10 (.iaddr 3 (.t 9) (xk 1)), xL 11 3 10, xo 12 (.bslice (.agg [.int .i64 0, .int .i64 0, .sl 3 []]) 3 1 [(0, .t 11)]), xo 13 (.app 3 40 (.t 7) (.t 12)), xm 4 13]).seq (rg [xf 14 2 1, xl 15 14, xo 16 (.iaddr 3 (.t 15) (xk 0)), xL 17 3 16, xS 3 1 17])))).loop).seq ((rg [xm 18 4, xc 19 zjq [.t 18]]).seq ((rg [xL 20 3 1, xm 21 4, xS 3 2 20, xm 3 21]).seq .ret))))⟩
theorem zDi : cfn Tryz.prog Tryz.f183 = some zor := by kernel_rfl
theorem zDh : FnP Tryz.prog zhm zor := zao hm Tryz.func183 zDi
def zfu : XFn := ⟨2, 9, [.tmp 4], (rg [xo 4 (.mv (xq false))]).seq ((rg [xm 5 0, xm 6 1, xc 7 zie [.t 5, .t 6], xo 8 (.bin .geq (.t 7) (xk 0)), xm 4 8]).seq .ret)⟩
theorem zpa : cfn Tryz.prog Tryz.f185 = some zfu := by kernel_rfl
theorem zo0 : FnP Tryz.prog zfv zfu := zao hm Tryz.func185 zpa
def zhz : XFn := ⟨1, 21, [.tmp 2], (rg [xo 2 (.mv (xk 0))]).seq (((rg [xm 3 0]).seq (block 0 (((rg [xo 5 (.bin .eql (.t 3) (xk 1)), xm 4 5]).seq (XCode.cond (.t 4) .skip ((rg [xo 6 (.bin .eql (.t 3) (xk 2)), xm 4 6]).seq (XCode.cond (.t 4) .skip (rg [xo 7 (.bin .eql (.t 3) (xk 3)), xm 4 7]))))).seq (XCode.cond (.t 4) ((rg [xo 2 (.mv (xk 0))]).seq .ret) (((rg [xo 9 (.bin .eql (.t 3) (xk 9)), xm 8 9]).seq (XCode.cond (.t 8) .skip (rg [xo 10 (.bin .eql (.t 3) (xk 10)), xm 8 10]))).seq (XCode.cond (.t 8) ((rg [xo 2 (.mv (xk 1))]).seq .ret) (((rg [xo 12 (.bin .eql (.t 3) (xk 4)), xm 11 12]).seq (XCode.cond (.t 11) .skip ((rg [xo 13 (.bin .eql (.t 3) (xk 5)), xm 11 13]).seq (XCode.cond (.t 11) .skip ((rg [xo 14 (.bin .eql (.t 3) (xk 6)), xm 11 14]).seq (XCode.cond (.t 11) .skip ((rg [xo 15 (.bin .eql (.t 3) (xk 7)), xm 11 15]).seq (XCode.cond (.t 11) .skip (rg [xo 16 (.bin .eql (.t 3) (xk 12)), xm 11 16]))))))))).seq (XCode.cond (.t 11) ((rg [xo 2 (.mv (xk 2))]).seq .ret) (((rg [xo 18 (.bin .eql (.t 3) (xk 8)), xm 17 18]).seq (XCode.cond (.t 17) .skip ((rg [xo 19 (.bin .eql (.t 3) (xk 11)), xm 17 19]).seq (XCode.cond (.t 17) .skip (rg [xo 20 (.bin .eql (.t 3) (xk 13)), xm 17 20]))))).seq (XCode.cond (.t 17) ((rg [xo 2 (.mv (xk 3))]).seq .ret) .skip)))))))))).seq ((rg [xo 2 (.mv (xk (-1)))]).seq .ret))⟩
theorem zsu : cfn Tryz.prog Tryz.f192 = some zhz := by kernel_rfl
theorem zsr : FnP Tryz.prog zib zhz := zao hm Tryz.func192 zsu
def zq4 : XFn := ⟨1, 17, [.tmp 2], (rg [xo 2 (.mv (xk 0))]).seq (((rg [xm 3 0]).seq (block 0 (((rg [xo 5 (.bin .eql (.t 3) (xk 1)), xm 4 5]).seq (XCode.cond (.t 4) .skip ((rg [xo 6 (.bin .eql (.t 3) (xk 2)), xm 4 6]).seq (XCode.cond (.t 4) .skip (rg [xo 7 (.bin .eql (.t 3) (xk 3)), xm 4 7]))))).seq (XCode.cond (.t 4) ((rg [xo 2 (.mv (xk 0))]).seq .ret) (((rg [xo 9 (.bin .eql (.t 3) (xk 9)), xm 8 9]).seq (XCode.cond (.t 8) .skip (rg [xo 10 (.bin .eql (.t 3) (xk 10)), xm 8 10]))).seq (XCode.cond (.t 8) ((rg [xo 2 (.mv (xk 1))]).seq .ret) (((rg [xo 12 (.bin .eql (.t 3) (xk 8)), xm 11 12]).seq (XCode.cond (.t 11) .skip ((rg [xo 13 (.bin .eql (.t 3) (xk 11)), xm 11 13]).seq (XCode.cond (.t 11) .skip (rg [xo 14 (.bin .eql (.t 3) (xk 13)), xm 11 14]))))).seq (XCode.cond (.t 11) ((rg [xo 2 (.mv (xk 3))]).seq .ret) .skip)))))))).seq (((rg [xm 15 0, xc 16 zxk [.t 15]]).seq (XCode.cond (.t 16) ((rg [xo 2 (.mv (xk 2))]).seq .ret) .skip)).seq ((rg [xo 2 (.mv (xk (-1)))]).seq .ret)))⟩
theorem zEu : cfn Tryz.prog Tryz.f198 = some zq4 := by kernel_rfl
theorem zEo : FnP Tryz.prog zr0 zq4 := zao hm Tryz.func198 zEu
def zdh : XFn := ⟨2, 9, [.tmp 4], (rg [xo 4 (.mv (xq false))]).seq ((rg [xm 5 0, xm 6 1, xc 7 zel [.t 5, .t 6], xo 8 (.bin .geq (.t 7) (xk 0)), xm 4 8]).seq .ret)⟩
theorem zlm : cfn Tryz.prog Tryz.f199 = some zdh := by kernel_rfl
theorem zln : FnP Tryz.prog zbm zdh := zao hm Tryz.func199 zlm
def zkv : XFn := ⟨1, 6, [.tmp 2], (rg [xo 1 (.box (.t 0)), xo 2 (.mv (xq false))]).seq ((rg [xL 3 3 1, xc 4 zgf [.t 3], xo 5 (.un .not (.t 4)), xm 2 5]).seq .ret)⟩
theorem zx1 : cfn Tryz.prog Tryz.f200 = some zkv := by kernel_rfl
theorem zxw : FnP Tryz.prog zff zkv := zao hm Tryz.func200 zx1
def zq2 : XFn := ⟨1, 17, [.tmp 2], (rg [xo 1 (.box (.t 0)), xo 2 (.mv (xq false))]).seq ((rg [xf 3 0 1, xl 4 3, xo 5 (.bin .eql (.t 4) (xk 0)), xm 6 5, ⟨some 7, .faddr 1 (.t 1), some (6, true)⟩, ⟨some 8, .load 1 false (.t 7), some (6, true)⟩, ⟨some 9, .bin .eql (.t 8) (xk 0), some (6, true)⟩, xo 10 (.pick (.t 6) (.t 9) (xq false)), xm 11 10, ⟨some 12, .faddr 2 (.t 1), some (11, true)⟩, ⟨some 13, .load 1 false (.t 12), some (11, true)⟩, ⟨some 14, .len (.t 13), some (11, true)⟩, ⟨some 15, .bin .eql (.t 14) (xk 0), some (11, true)⟩, xo 16 (.pick (.t 11) (.t 15) (xq false)), xm 2 16]).seq .ret)⟩
theorem zEc : cfn Tryz.prog Tryz.f203 = some zq2 := by kernel_rfl
theorem zD2 : FnP Tryz.prog znu zq2 := zao hm Tryz.func203 zEc
def zuk : XFn := ⟨2, 15, [.tmp 4], (rg [xo 2 (.box (.t 0)), xo 4 (.mv (xq false))]).seq ((rg [xf 5 0 2, xl 6 5, xm 7 1, xb 8 .eql 6 7, xm 9 8, ⟨some 10, .faddr 2 (.t 2), some (9, true)⟩, ⟨some 11, .load 1 false (.t 10), some (9, true)⟩, ⟨some 12, .len (.t 11), some (9, true)⟩, ⟨some 13, .bin .eql (.t 12) (xk 2), some (9, true)⟩, xo 14 (.pick (.t 9) (.t 13) (xq false)), xm 4 14]).seq .ret)⟩
theorem zIg : cfn Tryz.prog Tryz.f207 = some zuk := by kernel_rfl
theorem zIk : FnP Tryz.prog zug zuk := zao hm Tryz.func207 zIg
def zjt : XFn := ⟨1, 28, [], (rg [xm 4 0, xo 5 (.len (.t 4)), xo 6 (.bin .sub (.t 5) (xk 1)), xo 2 (.mv (xk 0)), xm 3 6]).seq (block 0 (((rg [xm 7 2, xm 8 3, xb 9 .lss 7 8]).seq (XCode.cond (.t 9) .skip (.exit 0))).seq ((block 1 (region [xm 14 0, xm 15 2, xm 16 0, xm 17 3, xm 18 0, xm 19 3, xo 20 (.iaddr 3 (.t 18) (.t 19)), xL 21 3 20, xm 22 0, xm 23 2, xo 24 (.iaddr 3 (.t 22) (.t 23)), xL 25 3 24, xo 26 (.iaddr 3 (.t 14) (.t 15)), xS 3 26 21, xo 27 (.iaddr 3 (.t 16) (.t 17)), xS 3 27 25] (some [tF, tF, tF, tF, tF, tF, tT, tT, tF, tF, (false, [6, 7]), (false, [6, 7]), tF, tF, tF, tF]))).seq (rg [xm 10 2, xo 11 (.bin .add (.t 10) (xk 1)), xm 12 3, xo 13 (.bin .sub (.t 12) (xk 1)), xm 2 11, xm 3 13]))).loop)⟩
theorem zpg : cfn Tryz.prog Tryz.f208 = some zjt := by kernel_rfl
def zh6 : XFn := ⟨2, 19, [.tmp 4], (rg [xo 4 (.mv (xk 0))]).seq (((rg [xm 6 0, xo 7 (.len (.t 6)), xo 8 (.mv (xk 0))]).seq (block 0 ((rg [xb 9 .lss 8 7]).seq ((XCode.cond (.t 9) .skip (.exit 0)).seq ((block 1 ((rg [xm 10 8, xm 5 10]).seq ((rg [xm 11 1, xm 12 0, xm 13 5, xo 14 (.iaddr 1 (.t 12) (.t 13)), xl 15 14, xb 16 .eql 11 15]).seq (XCode.cond (.t 16) ((rg [xm 17 5, xm 4 17]).seq .ret) .skip)))).seq (rg [xo 18 (.bin .add (.t 8) (xk 1)), xm 8 18])))).loop)).seq ((rg [xo 4 (.mv (xk (-1)))]).seq .ret))⟩
theorem zsn : cfn Tryz.prog Tryz.f210 = some zh6 := by kernel_rfl
theorem zs0 : FnP Tryz.prog zie zh6 := zao hm Tryz.func210 zsn
def zyt : XFn := ⟨1, 9, [.tmp 2], (rg [xo 2 (.mv (xq false))]).seq ((rg [xm 3 0, xo 4 (.bin .geq (.t 3) (xk 1)), xm 5 4, ⟨some 6, .mv (.t 0), some (5, true)⟩, ⟨some 7, .bin .leq (.t 6) (xk 13), some (5, true)⟩, xo 8 (.pick (.t 5) (.t 7) (xq false)), xm 2 8]).seq .ret)⟩
theorem zKx : cfn Tryz.prog Tryz.f211 = some zyt := by kernel_rfl
theorem zLv : FnP Tryz.prog zxk zyt := zao hm Tryz.func211 zKx
def zer : XFn := ⟨2, 19, [.tmp 4], (rg [xo 4 (.mv (xk 0))]).seq (((rg [xm 6 0, xo 7 (.len (.t 6)), xo 8 (.mv (xk 0))]).seq (block 0 ((rg [xb 9 .lss 8 7]).seq ((XCode.cond (.t 9) .skip (.exit 0)).seq ((block 1 ((rg [xm 10 8, xm 5 10]).seq ((rg [xm 11 1, xm 12 0, xm 13 5, xo 14 (.iaddr 3 (.t 12) (.t 13)), xL 15 3 14, xo 16 (.call (.t 11) [.t 15])]).seq (XCode.cond (.t 16) ((rg [xm 17 5, xm 4 17]).seq .ret) .skip)))).seq (rg [xo 18 (.bin .add (.t 8) (xk 1)), xm 8 18])))).loop)).seq ((rg [xo 4 (.mv (xk (-1)))]).seq .ret))⟩
theorem zns : cfn Tryz.prog Tryz.f212 = some zer := by kernel_rfl
theorem znn : FnP Tryz.prog zel zer := zao hm Tryz.func212 zns
def zpk : XFn := ⟨3, 25, [.tmp 6], (rg [xo 3 (.box (.t 0)), xo 6 (.mv (xq false))]).seq ((rg [xm 7 1, xo 8 (.bin .geq (.t 7) (xk 0)), xm 9 8, ⟨some 10, .mv (.t 2), some (9, true)⟩, ⟨some 11, .bin .geq (.t 10) (xk 0), some (9, true)⟩, xo 12 (.pick (.t 9) (.t 11) (xq false)), xm 13 12, ⟨some 14, .load 3 true (.t 3), some (13, true)⟩, ⟨some 15, .call (.c (.d (.clo zlr []))) [.t 14], some (13, true)⟩, ⟨some 16, .bin .eql (.t 15) (xk 0), some (13, true)⟩, xo 17 (.pick (.t 13) (.t 16) (xq false)), xm 18 17, ⟨some 19, .load 3 true (.t 3), some (18, true)⟩, ⟨some 20, .mv (.t 1), some (18, true)⟩, ⟨some 21, .mm false (.t 20) (xk 65536), some (18, true)⟩, ⟨some 22, .mv (.t 2), some (18, true)⟩, ⟨some 23, .call (.c (.d (.clo zik []))) [.t 19, .t 21, .t 22], some (18, true)⟩, xo 24 (.pick (.t 18) (.t 23) (xq false)), xm 6 24]).seq .ret)⟩
theorem zB7 : cfn Tryz.prog Tryz.f213 = some zpk := by kernel_rfl
theorem zCn : FnP Tryz.prog zoy zpk := zao hm Tryz.func213 zB7
def zmx : XFn := ⟨3, 47, [.tmp 6], (rg [xo 3 (.box (.t 0)), xo 6 (.mv (xq false))]).seq (((rg [xf 9 0 3, xl 10 9]).seq (block 0 ((rg [xo 12 (.bin .eql (.t 10) (xk 1)), xm 11 12]).seq (XCode.cond (.t 11) ((rg [xf 13 1 3, xl 14 13, xm 15 1, xb 16 .lss 14 15, xm 6 16]).seq .ret) ((rg [xo 18 (.bin .eql (.t 10) (xk 2)), xm 17 18]).seq (XCode.cond (.t 17) ((rg [xf 19 1 3, xl 20 19, xo 21 (.bin .leq (.t 20) (xk 6)), xm 6 21]).seq .ret) ((rg [xo 23 (.bin .eql (.t 10) (xk 3)), xm 22 23]).seq (XCode.cond (.t 22) ((rg [xf 24 1 3, xl 25 24, xm 26 2, xb 27 .lss 25 26, xm 6 27]).seq .ret) .skip)))))))).seq (((rg [xf 28 2 3, xl 29 28, xo 30 (.len (.t 29)), xo 31 (.mv (xk 0))]).seq (block 1 ((rg [xb 32 .lss 31 30]).seq ((XCode.cond (.t 32) .skip (.exit 1)).seq ((block 2 ((rg [xm 33 31, xo 34 (.iaddr 3 (.t 29) (.t 31)), xL 35 3 34, xa 8, xm 7 33, xS 3 8 35]).seq ((region [xL 36 3 8, xm 37 1, xf 38 0 3, xl 39 38, xm 40 7, xc 41 zjx [.t 39, .t 40], xb 42 .add 37 41, xm 43 2, xc 44 zik [.t 36, .t 42, .t 43], xo 45 (.un .not (.t 44))] (some [tT, tF, (false, [0]), (false, [0]), tF, (false, [0]), tF, tF, tF, tF])).seq (XCode.cond (.t 45) ((rg [xo 6 (.mv (xq false))]).seq .ret) .skip)))).seq (rg [xo 46 (.bin .add (.t 31) (xk 1)), xm 31 46])))).loop)).seq ((rg [xo 6 (.mv (xq true))]).seq .ret)))⟩
theorem zBp : cfn Tryz.prog Tryz.f214 = some zmx := by kernel_rfl
theorem zA9 : FnP Tryz.prog zik zmx := zao hm Tryz.func214 zBp
end Ev
end Go.Proofs.YtncmainjcffanaaGreat
