/- The functions of this seat, told in the small language: printed by a program of this session, checked by the kernel against the translation. -/
import Derived.Test.YtncmainjcffanaaGreatHD
import Derived.Test.YtncmainjcffanaaGreatProg
import Derived.KernelRfl
set_option maxRecDepth 100000
set_option linter.unusedSimpArgs false
set_option linter.unusedVariables false
namespace Go.Proofs.YtncmainjcffanaaGreat
namespace Ev
open Go
open XCode (region block loop)
theorem hm:Tryz.prog.follows .mixedOrders=true:=by kernel_rfl
@[reducible] def zbl:Nat:=15
@[reducible] def zfw:Nat:=21
@[reducible] def zc2:Nat:=25
@[reducible] def zjf:Nat:=26
@[reducible] def zdu:Nat:=27
@[reducible] def zc1:Nat:=28
@[reducible] def zbg:Nat:=32
@[reducible] def zbd:Nat:=33
@[reducible] def zcg:Nat:=36
@[reducible] def zas:Nat:=50
@[reducible] def zkc:Nat:=54
@[reducible] def zEl:Nat:=56
@[reducible] def zo1:Nat:=58
@[reducible] def zbz:Nat:=59
@[reducible] def zmf:Nat:=61
@[reducible] def zdt:Nat:=62
@[reducible] def zcw:Nat:=65
@[reducible] def zau:Nat:=66
@[reducible] def zee:Nat:=86
@[reducible] def zct:Nat:=91
@[reducible] def zc9:Nat:=92
@[reducible] def zq1:Nat:=95
@[reducible] def ze8:Nat:=96
@[reducible] def zft:Nat:=100
@[reducible] def zop:Nat:=105
@[reducible] def zgd:Nat:=118
@[reducible] def zed:Nat:=120
@[reducible] def zfc:Nat:=121
@[reducible] def zsl:Nat:=122
@[reducible] def zia:Nat:=124
@[reducible] def zij:Nat:=126
@[reducible] def zmo:Nat:=127
@[reducible] def zi4:Nat:=129
@[reducible] def zhk:Nat:=130
@[reducible] def za5:Nat:=135
@[reducible] def zb4:Nat:=137
@[reducible] def zf0:Nat:=148
@[reducible] def zpw:Nat:=151
@[reducible] def zkj:Nat:=152
@[reducible] def zgw:Nat:=153
@[reducible] def zn9:Nat:=154
@[reducible] def zdg:Nat:=155
@[reducible] def zk8:Nat:=156
@[reducible] def zew:Nat:=159
@[reducible] def zjo:Nat:=169
@[reducible] def zh9:Nat:=170
@[reducible] def zgq:Nat:=171
@[reducible] def zjk:Nat:=172
@[reducible] def zdh:Nat:=173
@[reducible] def zh8:Nat:=183
@[reducible] def zf8:Nat:=185
@[reducible] def zkm:Nat:=189
@[reducible] def zdd:Nat:=190
@[reducible] def ziu:Nat:=191
@[reducible] def zik:Nat:=192
@[reducible] def zs2:Nat:=198
@[reducible] def zbw:Nat:=199
@[reducible] def zgb:Nat:=200
@[reducible] def znu:Nat:=201
@[reducible] def zn7:Nat:=203
@[reducible] def zxb:Nat:=207
@[reducible] def zkn:Nat:=208
@[reducible] def zih:Nat:=210
@[reducible] def zAn:Nat:=211
@[reducible] def ze9:Nat:=212
@[reducible] def zpx:Nat:=213
@[reducible] def ziz:Nat:=214
def zju:XFn:=⟨2,24,[.tmp 4],(rg [xo 2 (.box (.t 0)),xo 3 (.box (.t 1)),xo 4 (.mv (xq false))]).seq ((rg [xf 5 0 2,xl 6 5,xf 7 0 3,xl 8 7,xb 9 .eql 6 8,xm 10 9,⟨some 11,.faddr 1 (.t 2),some (10,true)⟩,⟨some 12,.load 1 false (.t 11),some (10,true)⟩,⟨some 13,.faddr 1 (.t 3),some (10,true)⟩,⟨some 14,.load 1 false (.t 13),some (10,true)⟩,⟨some 15,.bin .eql (.t 12) (.t 14),some (10,true)⟩,xo 16 (.pick (.t 10) (.t 15) (xq false)),xm 17 16,⟨some 18,.faddr 2 (.t 2),some (17,true)⟩,⟨some 19,.load 1 false (.t 18),some (17,true)⟩,⟨some 20,.faddr 2 (.t 3),some (17,true)⟩,⟨some 21,.load 1 false (.t 20),some (17,true)⟩,⟨some 22,.call (.c (.d (.clo zcg []))) [.t 19,.t 21],some (17,true)⟩,xo 23 (.pick (.t 17) (.t 22) (xq false)),xm 4 23]).seq .ret)⟩
theorem zw3:cfn Tryz.prog Tryz.f15=some zju:=by kernel_rfl
theorem zwg:FnP Tryz.prog zbl zju:=zan hm Tryz.func15 zw3
def zl5:XFn:=⟨1,5,[.cell 2 3 true],(rg [xa 2]).seq ((rg [xm 3 0,xo 4 (.build [.d (.int .i64 0),.d (.int .i64 0),.fsl 3 []] [(0,1,xk 3),(1,1,.t 3)]),xS 3 2 4]).seq .ret)⟩
theorem zza:cfn Tryz.prog Tryz.f25=some zl5:=by kernel_rfl
theorem zzo:FnP Tryz.prog zc2 zl5:=zan hm Tryz.func25 zza
def zlu:XFn:=⟨1,5,[.cell 2 3 true],(rg [xa 2]).seq ((rg [xm 3 0,xo 4 (.build [.d (.int .i64 0),.d (.int .i64 0),.fsl 3 []] [(0,1,xk 2),(1,1,.t 3)]),xS 3 2 4]).seq .ret)⟩
theorem zA6:cfn Tryz.prog Tryz.f26=some zlu:=by kernel_rfl
theorem zy1:FnP Tryz.prog zjf zlu:=zan hm Tryz.func26 zA6
def zif:XFn:=⟨2,11,[.cell 4 3 true],(rg [xa 4]).seq ((rg [xo 5 (.nilrow 3)]).seq ((rg [xm 6 0,xm 7 5,xm 8 1,xo 9 (.app 3 40 (.t 7) (.t 8)),xo 10 (.build [.d (.int .i64 0),.d (.int .i64 0),.fsl 3 []] [(0,1,.t 6),(2,1,.t 9)]),xS 3 4 10]).seq .ret))⟩
theorem zzv:cfn Tryz.prog Tryz.f27=some zif:=by kernel_rfl
theorem zq4:FnP Tryz.prog zdu zif:=zan hm Tryz.func27 zzv
def zmg:XFn:=⟨1,5,[.cell 2 3 true],(rg [xa 2]).seq ((rg [xm 3 0,xo 4 (.build [.d (.int .i64 0),.d (.int .i64 0),.fsl 3 []] [(0,1,xk 1),(1,1,.t 3)]),xS 3 2 4]).seq .ret)⟩
theorem zzb:cfn Tryz.prog Tryz.f28=some zmg:=by kernel_rfl
theorem zAi:FnP Tryz.prog zc1 zmg:=zan hm Tryz.func28 zzb
def zhj:XFn:=⟨1,29,[.tmp 2],(rg [xo 2 (.mv (xq false))]).seq (((rg [xm 5 0,xo 6 (.len (.t 5)),xo 7 (.bin .gtr (.t 6) (xk 60))]).seq (XCode.cond (.t 7) ((rg [xo 2 (.mv (xq true))]).seq .ret) .skip)).seq ((rg [xo 3 (.mv (xk 0))]).seq (((rg [xo 4 (.mv (xk 0))]).seq (block 0 (((rg [xm 8 4,xm 9 0,xo 10 (.len (.t 9)),xb 11 .lss 8 10]).seq (XCode.cond (.t 11) .skip (.exit 0))).seq ((block 1 (((rg [xm 14 0,xm 15 4,xo 16 (.iaddr 3 (.t 14) (.t 15)),xL 17 3 16,xc 18 zct [.t 17],xo 19 (.bin .gtr (.t 18) (xk 300))]).seq (XCode.cond (.t 19) ((rg [xo 2 (.mv (xq true))]).seq .ret) .skip)).seq (rg [xm 20 3,xm 21 0,xm 22 4,xo 23 (.iaddr 3 (.t 21) (.t 22)),xL 24 3 23,xc 25 zc9 [.t 24],xb 26 .add 20 25,xm 3 26]))).seq (rg [xm 12 4,xo 13 (.bin .add (.t 12) (xk 1)),xm 4 13]))).loop)).seq ((rg [xm 27 3,xo 28 (.bin .gtr (.t 27) (xk 9000)),xm 2 28]).seq .ret))))⟩
theorem ztj:cfn Tryz.prog Tryz.f32=some zhj:=by kernel_rfl
theorem zsw:FnP Tryz.prog zbg zhj:=zan hm Tryz.func32 ztj
def zef:XFn:=⟨1,20,[.tmp 2],(rg [xo 2 (.nilrow 3)]).seq ((rg [xo 3 (.nilrow 3)]).seq (((rg [xo 4 (.mv (xk 0))]).seq (block 0 (((rg [xm 5 4,xm 6 0,xo 7 (.len (.t 6)),xb 8 .lss 5 7]).seq (XCode.cond (.t 8) .skip (.exit 0))).seq ((block 1 (rg [xm 11 3,xm 12 0,xm 13 4,xo 14 (.iaddr 3 (.t 12) (.t 13)),xL 15 3 14,xc 16 zas [.t 15],xo 17 (.bslice (.agg [.int .i64 0,.int .i64 0,.sl 3 []]) 3 1 [(0,.t 16)]),xo 18 (.app 3 40 (.t 11) (.t 17)),xm 3 18])).seq (rg [xm 9 4,xo 10 (.bin .add (.t 9) (xk 1)),xm 4 10]))).loop)).seq ((rg [xm 19 3,xm 2 19]).seq .ret)))⟩
theorem zmq:cfn Tryz.prog Tryz.f33=some zef:=by kernel_rfl
theorem zur:FnP Tryz.prog zbd zef:=zan hm Tryz.func33 zmq
theorem zu9:FnO Tryz.prog zbd zef:=zFu hm Tryz.func33 zmq
def zi5:XFn:=⟨2,27,[.tmp 4],(rg [xo 4 (.mv (xq false))]).seq (((rg [xm 6 0,xo 7 (.len (.t 6)),xm 8 1,xo 9 (.len (.t 8)),xb 10 .neq 7 9]).seq (XCode.cond (.t 10) ((rg [xo 4 (.mv (xq false))]).seq .ret) .skip)).seq (((rg [xo 5 (.mv (xk 0))]).seq (block 0 (((rg [xm 11 5,xm 12 0,xo 13 (.len (.t 12)),xb 14 .lss 11 13]).seq (XCode.cond (.t 14) .skip (.exit 0))).seq ((block 1 ((region [xm 17 0,xm 18 5,xo 19 (.iaddr 3 (.t 17) (.t 18)),xL 20 3 19,xm 21 1,xm 22 5,xo 23 (.iaddr 3 (.t 21) (.t 22)),xL 24 3 23,xc 25 zbl [.t 20,.t 24],xo 26 (.un .not (.t 25))] (some [tF,tF,tT,tT,tF,tF,(false,[2,3]),(false,[2,3]),tF,tF])).seq (XCode.cond (.t 26) ((rg [xo 4 (.mv (xq false))]).seq .ret) .skip))).seq (rg [xm 15 5,xo 16 (.bin .add (.t 15) (xk 1)),xm 5 16]))).loop)).seq ((rg [xo 4 (.mv (xq true))]).seq .ret)))⟩
theorem zu1:cfn Tryz.prog Tryz.f36=some zi5:=by kernel_rfl
theorem zu6:FnP Tryz.prog zcg zi5:=zan hm Tryz.func36 zu1
def zkd:XFn:=⟨1,11,[.cell 2 3 true],(rg [xo 1 (.box (.t 0)),xa 2]).seq ((region [xf 3 0 1,xl 4 3,xf 5 1 1,xl 6 5,xf 7 2 1,xl 8 7,xc 9 zbd [.t 8],xo 10 (.build [.d (.int .i64 0),.d (.int .i64 0),.fsl 3 []] [(0,1,.t 4),(1,1,.t 6),(2,1,.t 9)]),xS 3 2 10] (some [tT,tT,(true,[0,1]),(true,[0,1]),(false,[0,1,2,3]),(false,[0,1,2,3]),(false,[0,1,2,3]),tF,tF])).seq .ret)⟩
theorem zw9:cfn Tryz.prog Tryz.f50=some zkd:=by kernel_rfl
theorem zxa:FnP Tryz.prog zas zkd:=zan hm Tryz.func50 zw9
def zrs:XFn:=⟨2,8,[.cell 4 3 true],(rg [xo 3 (.box (.t 1)),xa 4]).seq ((rg [xm 5 0,xL 6 3 3,xc 7 zsl [xk 4,.t 5,.t 6],xS 3 4 7]).seq .ret)⟩
theorem zCd:cfn Tryz.prog Tryz.f54=some zrs:=by kernel_rfl
theorem zLq:FnP Tryz.prog zkc zrs:=zan hm Tryz.func54 zCd
def zD4:XFn:=⟨1,5,[.cell 2 3 true],(rg [xa 2]).seq ((rg [xm 3 0,xo 4 (.build [.d (.int .i64 0),.d (.int .i64 0),.fsl 3 []] [(0,1,xk 2),(1,1,.t 3)]),xS 3 2 4]).seq .ret)⟩
theorem zSl:cfn Tryz.prog Tryz.f56=some zD4:=by kernel_rfl
theorem zQs:FnP Tryz.prog zEl zD4:=zan hm Tryz.func56 zSl
def zs3:XFn:=⟨2,8,[.cell 4 3 true],(rg [xa 4]).seq ((rg [xm 5 0,xm 6 1,xo 7 (.build [.d (.int .i64 0),.d (.int .i64 0),.fsl 3 []] [(0,1,.t 5),(2,1,.t 6)]),xS 3 4 7]).seq .ret)⟩
theorem zIc:cfn Tryz.prog Tryz.f58=some zs3:=by kernel_rfl
theorem zHx:FnP Tryz.prog zo1 zs3:=zan hm Tryz.func58 zIc
def zmm:XFn:=⟨2,23,[.cell 4 3 true],(rg [xo 2 (.box (.t 0)),xa 4]).seq ((rg [xL 8 3 2,xc 9 zdt [.t 8],xa 5,xS 3 5 9]).seq (((rg [xm 10 1,xo 11 (.len (.t 10)),xo 12 (.mv (xk 0))]).seq (block 0 ((rg [xb 13 .lss 12 11]).seq ((XCode.cond (.t 13) .skip (.exit 0)).seq ((block 1 ((rg [xo 14 (.iaddr 3 (.t 10) (.t 12)),xL 15 3 14,xa 7,xS 3 7 15]).seq (region [xL 16 3 5,xL 17 3 7,xc 18 zdt [.t 17],xo 19 (.bslice (.agg [.int .i64 0,.int .i64 0,.sl 3 []]) 3 2 [(0,.t 16),(1,.t 18)]),xc 20 zo1 [xk 6,.t 19],xS 3 5 20] (some [tT,(false,[0]),(false,[0]),tF,tF,tF])))).seq (rg [xo 21 (.bin .add (.t 12) (xk 1)),xm 12 21])))).loop)).seq ((rg [xL 22 3 5,xS 3 4 22]).seq .ret)))⟩
theorem zxg:cfn Tryz.prog Tryz.f59=some zmm:=by kernel_rfl
theorem zFk:FnP Tryz.prog zbz zmm:=zan hm Tryz.func59 zxg
def ztm:XFn:=⟨1,28,[.tmp 2],(rg [xo 2 (.nilrow 3)]).seq (((rg [xm 5 0,xo 6 (.bin .lss (.t 5) (xk 1)),xm 7 6,⟨some 8,.mv (.t 0),some (7,false)⟩,⟨some 9,.bin .gtr (.t 8) (xk 65536),some (7,false)⟩,xo 10 (.pick (.t 7) (xq true) (.t 9))]).seq (XCode.cond (.t 10) ((rg [xo 2 (.nilrow 3)]).seq .ret) .skip)).seq ((rg [xm 11 0,xo 12 (.mks (.agg [.int .i64 0,.int .i64 0,.sl 3 []]) 3 40 (.t 11)),xm 3 12]).seq (((rg [xm 13 3,xo 14 (.len (.t 13)),xo 15 (.mv (xk 0))]).seq (block 0 ((rg [xb 16 .lss 15 14]).seq ((XCode.cond (.t 16) .skip (.exit 0)).seq ((block 1 ((rg [xm 17 15,xm 4 17]).seq (rg [xm 18 3,xm 19 4,xm 20 0,xo 21 (.bin .sub (.t 20) (xk 1)),xm 22 4,xb 23 .sub 21 22,xc 24 zij [.t 23],xo 25 (.iaddr 3 (.t 18) (.t 19)),xS 3 25 24]))).seq (rg [xo 26 (.bin .add (.t 15) (xk 1)),xm 15 26])))).loop)).seq ((rg [xm 27 3,xm 2 27]).seq .ret))))⟩
theorem zHy:cfn Tryz.prog Tryz.f61=some ztm:=by kernel_rfl
theorem zHs:FnP Tryz.prog zmf ztm:=zan hm Tryz.func61 zHy
def zo6:XFn:=⟨1,8,[.cell 2 3 true],(rg [xo 1 (.box (.t 0)),xa 2]).seq ((rg [xf 3 2 1,xl 4 3,xc 5 zmo [.t 4],xf 6 2 1,xS 1 6 5]).seq ((rg [xL 7 3 1,xS 3 2 7]).seq .ret))⟩
theorem zAq:cfn Tryz.prog Tryz.f62=some zo6:=by kernel_rfl
theorem zIw:FnP Tryz.prog zdt zo6:=zan hm Tryz.func62 zAq
def zj6:XFn:=⟨2,8,[.cell 4 3 true],(rg [xo 3 (.box (.t 1)),xa 4]).seq ((rg [xm 5 0,xL 6 3 3,xc 7 zi4 [xk 4,.t 5,.t 6],xS 3 4 7]).seq .ret)⟩
theorem zwr:cfn Tryz.prog Tryz.f65=some zj6:=by kernel_rfl
theorem zwl:FnP Tryz.prog zcw zj6:=zan hm Tryz.func65 zwr
def zht:XFn:=⟨2,24,[.cell 4 3 true],(rg [xo 2 (.box (.t 0)),xa 4]).seq ((rg [xL 7 3 2,xc 8 zas [.t 7],xa 5,xS 3 5 8]).seq (((rg [xo 6 (.mv (xk 0))]).seq (block 0 (((rg [xm 9 6,xm 10 1,xo 11 (.len (.t 10)),xb 12 .lss 9 11]).seq (XCode.cond (.t 12) .skip (.exit 0))).seq ((block 1 (region [xL 15 3 5,xm 16 1,xm 17 6,xo 18 (.iaddr 3 (.t 16) (.t 17)),xL 19 3 18,xc 20 zas [.t 19],xo 21 (.bslice (.agg [.int .i64 0,.int .i64 0,.sl 3 []]) 3 2 [(0,.t 15),(1,.t 20)]),xc 22 zdu [xk 6,.t 21],xS 3 5 22] (some [tT,tF,tF,(false,[0]),(false,[0]),(false,[0]),tF,tF,tF]))).seq (rg [xm 13 6,xo 14 (.bin .add (.t 13) (xk 1)),xm 6 14]))).loop)).seq ((rg [xL 23 3 5,xS 3 4 23]).seq .ret)))⟩
theorem zsn:cfn Tryz.prog Tryz.f66=some zht:=by kernel_rfl
theorem zt4:FnP Tryz.prog zau zht:=zan hm Tryz.func66 zsn
def zfs:XFn:=⟨3,70,[.cell 6 3 true,.tmp 7],(rg [xo 3 (.box (.t 0)),xa 6,xo 7 (.mv (xq false))]).seq ((rg [xf 13 0 3,xl 14 13,xf 15 1 3,xl 16 15,xo 17 (.build [.d (.int .i64 0),.d (.int .i64 0),.fsl 3 []] [(0,1,.t 14),(1,1,.t 16)]),xa 8,xS 3 8 17]).seq (((rg [xf 18 0 3,xl 19 18,xo 20 (.bin .eql (.t 19) (xk 1)),xm 21 20,⟨some 22,.faddr 1 (.t 3),some (21,true)⟩,⟨some 23,.load 1 false (.t 22),some (21,true)⟩,⟨some 24,.mv (.t 2),some (21,true)⟩,⟨some 25,.bin .geq (.t 23) (.t 24),some (21,true)⟩,xo 26 (.pick (.t 21) (.t 25) (xq false))]).seq (XCode.cond (.t 26) (rg [xf 27 1 3,xl 28 27,xm 29 1,xb 30 .add 28 29,xf 31 1 8,xS 1 31 30]) .skip)).seq ((rg [xf 32 1 8,xl 33 32,xo 34 (.bin .gtr (.t 33) (xk 65535)),xm 9 34]).seq (((rg [xo 10 (.mv (xk 0))]).seq (block 0 (((rg [xm 35 10,xf 36 2 3,xl 37 36,xo 38 (.len (.t 37)),xb 39 .lss 35 38]).seq (XCode.cond (.t 39) .skip (.exit 0))).seq ((block 1 ((region [xf 43 2 3,xl 44 43,xm 45 10,xo 46 (.iaddr 3 (.t 44) (.t 45)),xL 47 3 46,xm 48 1,xm 49 2,xf 50 0 3,xl 51 50,xm 52 10,xc 53 zb4 [.t 51,.t 52],xb 54 .add 49 53,xc 55 zee [.t 47,.t 48,.t 54],xm 42 55,xo 56 (.ext (.t 42) 0),xo 57 (.ext (.t 42) 1),xa 11,xS 3 11 56,xm 12 57] (some [tT,tT,tF,tT,tT,tF,tF,(true,[0,1,3,4]),(true,[0,1,3,4]),tF,(true,[0,1,3,4]),tF,tT,tF,tF,tF,(false,[0,1,3,4,7,8,10,12]),tF,tF])).seq (rg [xf 58 2 8,xl 59 58,xL 60 3 11,xo 61 (.bslice (.agg [.int .i64 0,.int .i64 0,.sl 3 []]) 3 1 [(0,.t 60)]),xo 62 (.app 3 40 (.t 59) (.t 61)),xm 63 9,xm 64 63,⟨some 65,.mv (.t 12),some (64,false)⟩,xo 66 (.pick (.t 64) (xq true) (.t 65)),xf 67 2 8,xS 1 67 62,xm 9 66]))).seq (rg [xm 40 10,xo 41 (.bin .add (.t 40) (xk 1)),xm 10 41]))).loop)).seq ((rg [xL 68 3 8,xm 69 9,xS 3 6 68,xm 7 69]).seq .ret)))))⟩
theorem zuh:cfn Tryz.prog Tryz.f86=some zfs:=by kernel_rfl
theorem zua:FnP Tryz.prog zee zfs:=zan hm Tryz.func86 zuh
def zhm:XFn:=⟨1,22,[.tmp 2],(rg [xo 1 (.box (.t 0)),xo 2 (.mv (xk 0))]).seq ((rg [xo 3 (.mv (xk 0))]).seq (((rg [xo 4 (.mv (xk 0))]).seq (block 0 (((rg [xm 5 4,xf 6 2 1,xl 7 6,xo 8 (.len (.t 7)),xb 9 .lss 5 8]).seq (XCode.cond (.t 9) .skip (.exit 0))).seq ((block 1 (rg [xm 12 3,xf 13 2 1,xl 14 13,xm 15 4,xo 16 (.iaddr 3 (.t 14) (.t 15)),xL 17 3 16,xc 18 zct [.t 17],xo 19 (.mm true (.t 12) (.t 18)),xm 3 19])).seq (rg [xm 10 4,xo 11 (.bin .add (.t 10) (xk 1)),xm 4 11]))).loop)).seq ((rg [xm 20 3,xo 21 (.bin .add (.t 20) (xk 1)),xm 2 21]).seq .ret)))⟩
theorem ztd:cfn Tryz.prog Tryz.f91=some zhm:=by kernel_rfl
theorem zs4:FnP Tryz.prog zct zhm:=zan hm Tryz.func91 ztd
def zjj:XFn:=⟨1,21,[.tmp 2],(rg [xo 1 (.box (.t 0)),xo 2 (.mv (xk 0))]).seq ((rg [xo 3 (.mv (xk 1))]).seq (((rg [xo 4 (.mv (xk 0))]).seq (block 0 (((rg [xm 5 4,xf 6 2 1,xl 7 6,xo 8 (.len (.t 7)),xb 9 .lss 5 8]).seq (XCode.cond (.t 9) .skip (.exit 0))).seq ((block 1 (rg [xm 12 3,xf 13 2 1,xl 14 13,xm 15 4,xo 16 (.iaddr 3 (.t 14) (.t 15)),xL 17 3 16,xc 18 zc9 [.t 17],xb 19 .add 12 18,xm 3 19])).seq (rg [xm 10 4,xo 11 (.bin .add (.t 10) (xk 1)),xm 4 11]))).loop)).seq ((rg [xm 20 3,xm 2 20]).seq .ret)))⟩
theorem zvm:cfn Tryz.prog Tryz.f92=some zjj:=by kernel_rfl
theorem zuw:FnP Tryz.prog zc9 zjj:=zan hm Tryz.func92 zvm
def zp5:XFn:=⟨3,45,[.cell 6 3 true,.tmp 7],(rg [xo 3 (.box (.t 0)),xo 4 (.box (.t 1)),xo 5 (.box (.t 2)),xa 6,xo 7 (.mv (xk 0))]).seq ((rg [xL 11 3 3,xl 12 4,xl 13 5,xc 14 zpw [.t 11,.t 12,.t 13],xm 10 14,xo 15 (.ext (.t 10) 0),xo 16 (.ext (.t 10) 1),xo 8 (.alloc [.d .nilp]),xS 1 8 15,xm 9 16]).seq ((block 0 ((rg [xm 18 9,xo 19 (.bin .neq (.t 18) (xk 0)),xm 17 19]).seq (XCode.cond (.t 17) ((rg [xo 20 (.build [.d (.int .i64 0),.d (.int .i64 0),.fsl 3 []] []),xm 21 9,xS 3 6 20,xm 7 21]).seq .ret) ((rg [xl 23 8,xo 24 (.nilck (.t 23)),xf 25 2 24,xl 26 25,xm 22 26]).seq (XCode.cond (.t 22) ((rg [xo 27 (.build [.d (.int .i64 0),.d (.int .i64 0),.fsl 3 []] []),xS 3 6 27,xo 7 (.mv (xk 6))]).seq .ret) ((rg [xl 29 8,xo 30 (.nilck (.t 29)),xf 31 3 30,xl 32 31,xo 33 (.bin .gtr (.t 32) (xk 6000)),xm 28 33]).seq (XCode.cond (.t 28) ((rg [xo 34 (.build [.d (.int .i64 0),.d (.int .i64 0),.fsl 3 []] []),xS 3 6 34,xo 7 (.mv (xk 4))]).seq .ret) ((rg [xl 36 8,xo 37 (.nilck (.t 36)),xf 38 4 37,xl 39 38,xo 40 (.bin .gtr (.t 39) (xk 200)),xm 35 40]).seq (XCode.cond (.t 35) ((rg [xo 41 (.build [.d (.int .i64 0),.d (.int .i64 0),.fsl 3 []] []),xS 3 6 41,xo 7 (.mv (xk 5))]).seq .ret) .skip))))))))).seq ((rg [xL 42 3 3,xo 43 (.mkf zkj [.t 8,.t 5,.t 4]),xc 44 zia [.t 42,xk 0,.t 43],xS 3 6 44,xo 7 (.mv (xk 0))]).seq .ret)))⟩
theorem zGy:cfn Tryz.prog Tryz.f95=some zp5:=by kernel_rfl
theorem zGt:FnP Tryz.prog zq1 zp5:=zan hm Tryz.func95 zGy
def zh4:XFn:=⟨1,12,[.tmp 2],(rg [xo 1 (.box (.t 0)),xo 2 (.mv (xk 0))]).seq (((rg [xL 3 3 1,xc 4 zc9 [.t 3],xo 5 (.bin .gtr (.t 4) (xk 6000))]).seq (XCode.cond (.t 5) ((rg [xo 2 (.mv (xk 4))]).seq .ret) .skip)).seq (((rg [xL 6 3 1,xc 7 zct [.t 6],xo 8 (.bin .gtr (.t 7) (xk 200))]).seq (XCode.cond (.t 8) ((rg [xo 2 (.mv (xk 5))]).seq .ret) .skip)).seq (((rg [xL 9 3 1,xc 10 zdg [.t 9],xo 11 (.un .not (.t 10))]).seq (XCode.cond (.t 11) ((rg [xo 2 (.mv (xk 1))]).seq .ret) .skip)).seq ((rg [xo 2 (.mv (xk 0))]).seq .ret))))⟩
theorem zt0:cfn Tryz.prog Tryz.f96=some zh4:=by kernel_rfl
theorem zsz:FnP Tryz.prog ze8 zh4:=zan hm Tryz.func96 zt0
def zjh:XFn:=⟨1,21,[.tmp 2],(rg [xo 2 (.nilrow 3)]).seq ((rg [xo 3 (.nilrow 3)]).seq (((rg [xm 5 0,xo 6 (.bin .sub (.t 5) (xk 1)),xm 4 6]).seq (block 0 (((rg [xm 7 4,xo 8 (.bin .geq (.t 7) (xk 0)),xm 9 8,⟨some 10,.mv (.t 0),some (9,true)⟩,⟨some 11,.bin .leq (.t 10) (xk 65536),some (9,true)⟩,xo 12 (.pick (.t 9) (.t 11) (xq false))]).seq (XCode.cond (.t 12) .skip (.exit 0))).seq ((block 1 (rg [xm 15 3,xm 16 4,xc 17 zc1 [.t 16],xo 18 (.bslice (.agg [.int .i64 0,.int .i64 0,.sl 3 []]) 3 1 [(0,.t 17)]),xo 19 (.app 3 40 (.t 15) (.t 18)),xm 3 19])).seq (rg [xm 13 4,xo 14 (.bin .sub (.t 13) (xk 1)),xm 4 14]))).loop)).seq ((rg [xm 20 3,xm 2 20]).seq .ret)))⟩
theorem zt8:cfn Tryz.prog Tryz.f100=some zjh:=by kernel_rfl
theorem zu3:FnP Tryz.prog zft zjh:=zan hm Tryz.func100 zt8
def zDn:XFn:=⟨1,5,[.cell 2 3 true],(rg [xa 2]).seq ((rg [xm 3 0,xo 4 (.build [.d (.int .i64 0),.d (.int .i64 0),.fsl 3 []] [(0,1,xk 3),(1,1,.t 3)]),xS 3 2 4]).seq .ret)⟩
theorem zQj:cfn Tryz.prog Tryz.f105=some zDn:=by kernel_rfl
theorem zSd:FnP Tryz.prog zop zDn:=zan hm Tryz.func105 zQj
def zqa:XFn:=⟨1,15,[.tmp 2],(rg [xo 1 (.box (.t 0)),xo 2 (.mv (xk 0))]).seq ((block 0 ((rg [xL 4 3 1,xc 5 zjo [.t 4],xo 6 (.bin .gtr (.t 5) (xk 6000)),xm 3 6]).seq (XCode.cond (.t 3) ((rg [xo 2 (.mv (xk 4))]).seq .ret) ((rg [xL 8 3 1,xc 9 zh9 [.t 8],xo 10 (.bin .gtr (.t 9) (xk 200)),xm 7 10]).seq (XCode.cond (.t 7) ((rg [xo 2 (.mv (xk 5))]).seq .ret) ((rg [xL 12 3 1,xc 13 zgq [.t 12],xo 14 (.un .not (.t 13)),xm 11 14]).seq (XCode.cond (.t 11) ((rg [xo 2 (.mv (xk 1))]).seq .ret) .skip))))))).seq ((rg [xo 2 (.mv (xk 0))]).seq .ret))⟩
theorem zF5:cfn Tryz.prog Tryz.f118=some zqa:=by kernel_rfl
theorem zFw:FnP Tryz.prog zgd zqa:=zan hm Tryz.func118 zF5
def zjd:XFn:=⟨3,17,[.cell 6 3 true],(rg [xo 3 (.box (.t 0)),xa 6]).seq ((rg [xL 10 3 3,xm 11 1,xm 12 2,xc 13 zew [.t 10,.t 11,.t 12],xm 9 13,xo 14 (.ext (.t 9) 0),xo 15 (.ext (.t 9) 1),xa 7,xS 3 7 14,xm 8 15]).seq ((rg [xL 16 3 7,xS 3 6 16]).seq .ret))⟩
theorem zvo:cfn Tryz.prog Tryz.f120=some zjd:=by kernel_rfl
theorem zuv:FnP Tryz.prog zed zjd:=zan hm Tryz.func120 zvo
def zhf:XFn:=⟨1,29,[.tmp 2,.cell 3 3 true],(rg [xo 1 (.box (.t 0)),xo 2 (.nilrow 3),xa 3]).seq ((rg [xo 4 (.nilrow 3)]).seq ((block 0 (((rg [xf 5 0 1,xl 6 5,xo 7 (.bin .eql (.t 6) (xk 4)),xm 8 7,⟨some 9,.faddr 2 (.t 1),some (8,true)⟩,⟨some 10,.load 1 false (.t 9),some (8,true)⟩,⟨some 11,.len (.t 10),some (8,true)⟩,⟨some 12,.bin .eql (.t 11) (xk 2),some (8,true)⟩,xo 13 (.pick (.t 8) (.t 12) (xq false))]).seq (XCode.cond (.t 13) .skip (.exit 0))).seq (block 1 ((rg [xm 14 4,xf 15 2 1,xl 16 15,xo 17 (.iaddr 3 (.t 16) (xk 0)),xL 18 3 17,xc 19 zas [.t 18],xo 20 (.bslice (.agg [.int .i64 0,.int .i64 0,.sl 3 []]) 3 1 [(0,.t 19)]),xo 21 (.app 3 40 (.t 14) (.t 20)),xm 4 21]).seq (rg [xf 22 2 1,xl 23 22,xo 24 (.iaddr 3 (.t 23) (xk 1)),xL 25 3 24,xS 3 1 25])))).loop).seq ((rg [xm 26 4,xL 27 3 1,xc 28 zas [.t 27],xm 2 26,xS 3 3 28]).seq .ret)))⟩
theorem zs6:cfn Tryz.prog Tryz.f121=some zhf:=by kernel_rfl
theorem zsm:FnP Tryz.prog zfc zhf:=zan hm Tryz.func121 zs6
def zwc:XFn:=⟨3,52,[.cell 6 3 true],(rg [xo 3 (.box (.t 0)),xa 6]).seq (((rg [xf 10 0 3,xl 11 10,xo 12 (.bin .eql (.t 11) (xk 1))]).seq (XCode.cond (.t 12) ((rg [xm 13 2,xf 14 1 3,xl 15 14,xm 16 1,xo 17 (.call (.t 13) [.t 15,.t 16]),xS 3 6 17]).seq .ret) .skip)).seq (((rg [xf 18 2 3,xl 19 18,xo 20 (.len (.t 19)),xo 21 (.bin .eql (.t 20) (xk 0))]).seq (XCode.cond (.t 21) ((rg [xf 22 2 3,xn (.store 1 (.t 22) (.c (.fsl 3 [])))]).seq ((rg [xL 23 3 3,xS 3 6 23]).seq .ret)) .skip)).seq ((rg [xf 24 2 3,xl 25 24,xo 26 (.len (.t 25)),xo 27 (.mks (.agg [.int .i64 0,.int .i64 0,.sl 3 []]) 3 40 (.t 26)),xm 7 27]).seq (((rg [xf 28 2 3,xl 29 28,xo 30 (.len (.t 29)),xo 31 (.mv (xk 0))]).seq (block 0 ((rg [xb 32 .lss 31 30]).seq ((XCode.cond (.t 32) .skip (.exit 0)).seq ((block 1 ((rg [xm 33 31,xo 34 (.iaddr 3 (.t 29) (.t 31)),xL 35 3 34,xa 9,xm 8 33,xS 3 9 35]).seq (region [xm 36 7,xm 37 8,xL 38 3 9,xm 39 1,xf 40 0 3,xl 41 40,xm 42 8,xc 43 zf0 [.t 41,.t 42],xb 44 .add 39 43,xm 45 2,xc 46 zia [.t 38,.t 44,.t 45],xo 47 (.iaddr 3 (.t 36) (.t 37)),xS 3 47 46] (some [tF,tF,tT,tF,(false,[2]),(false,[2]),tF,(false,[2]),tF,tF,tF,tF,tF])))).seq (rg [xo 48 (.bin .add (.t 31) (xk 1)),xm 31 48])))).loop)).seq ((rg [xm 49 7,xf 50 2 3,xS 1 50 49]).seq ((rg [xL 51 3 3,xS 3 6 51]).seq .ret))))))⟩
theorem zKl:cfn Tryz.prog Tryz.f124=some zwc:=by kernel_rfl
theorem zKx:FnP Tryz.prog zia zwc:=zan hm Tryz.func124 zKl
def zDk:XFn:=⟨1,5,[.cell 2 3 true],(rg [xa 2]).seq ((rg [xm 3 0,xo 4 (.build [.d (.int .i64 0),.d (.int .i64 0),.fsl 3 []] [(0,1,xk 1),(1,1,.t 3)]),xS 3 2 4]).seq .ret)⟩
theorem zQm:cfn Tryz.prog Tryz.f126=some zDk:=by kernel_rfl
theorem zQa:FnP Tryz.prog zij zDk:=zan hm Tryz.func126 zQm
def zmn:XFn:=⟨1,26,[.tmp 2],(rg [xo 2 (.nilrow 3)]).seq (((rg [xm 5 0,xo 6 (.len (.t 5)),xo 7 (.bin .eql (.t 6) (xk 0))]).seq (XCode.cond (.t 7) ((rg [xo 2 (.nilrow 3)]).seq .ret) .skip)).seq ((rg [xm 8 0,xo 9 (.len (.t 8)),xo 10 (.mks (.agg [.int .i64 0,.int .i64 0,.sl 3 []]) 3 40 (.t 9)),xm 3 10]).seq (((rg [xm 11 0,xo 12 (.len (.t 11)),xo 13 (.mv (xk 0))]).seq (block 0 ((rg [xb 14 .lss 13 12]).seq ((XCode.cond (.t 14) .skip (.exit 0)).seq ((block 1 ((rg [xm 15 13,xm 4 15]).seq (rg [xm 16 3,xm 17 4,xm 18 0,xm 19 4,xo 20 (.iaddr 3 (.t 18) (.t 19)),xL 21 3 20,xc 22 zdt [.t 21],xo 23 (.iaddr 3 (.t 16) (.t 17)),xS 3 23 22]))).seq (rg [xo 24 (.bin .add (.t 13) (xk 1)),xm 13 24])))).loop)).seq ((rg [xm 25 3,xm 2 25]).seq .ret))))⟩
theorem zxk:cfn Tryz.prog Tryz.f127=some zmn:=by kernel_rfl
theorem zGb:FnP Tryz.prog zmo zmn:=zan hm Tryz.func127 zxk
def zil:XFn:=⟨3,28,[.cell 6 3 true],(rg [xo 5 (.box (.t 2)),xa 6]).seq ((rg [xL 9 3 5,xc 10 zas [.t 9],xa 7,xS 3 7 10]).seq (((rg [xm 11 1,xo 12 (.len (.t 11)),xo 13 (.bin .sub (.t 12) (xk 1)),xm 8 13]).seq (block 0 (((rg [xm 14 8,xo 15 (.bin .geq (.t 14) (xk 0))]).seq (XCode.cond (.t 15) .skip (.exit 0))).seq ((block 1 (region [xm 18 0,xm 19 1,xm 20 8,xo 21 (.iaddr 3 (.t 19) (.t 20)),xL 22 3 21,xc 23 zas [.t 22],xL 24 3 7,xo 25 (.bslice (.agg [.int .i64 0,.int .i64 0,.sl 3 []]) 3 2 [(0,.t 23),(1,.t 24)]),xc 26 zdu [.t 18,.t 25],xS 3 7 26] (some [tF,tF,tF,tT,tT,tT,(false,[3,4,5]),tF,tF,tF]))).seq (rg [xm 16 8,xo 17 (.bin .sub (.t 16) (xk 1)),xm 8 17]))).loop)).seq ((rg [xL 27 3 7,xS 3 6 27]).seq .ret)))⟩
theorem zu4:cfn Tryz.prog Tryz.f129=some zil:=by kernel_rfl
theorem zvl:FnP Tryz.prog zi4 zil:=zan hm Tryz.func129 zu4
def zhy:XFn:=⟨3,25,[.tmp 6],(rg [xo 3 (.box (.t 0)),xo 6 (.mv (xq false))]).seq ((rg [xm 7 1,xo 8 (.bin .geq (.t 7) (xk 0)),xm 9 8,⟨some 10,.mv (.t 2),some (9,true)⟩,⟨some 11,.bin .geq (.t 10) (xk 0),some (9,true)⟩,xo 12 (.pick (.t 9) (.t 11) (xq false)),xm 13 12,⟨some 14,.load 3 true (.t 3),some (13,true)⟩,⟨some 15,.call (.c (.d (.clo ze8 []))) [.t 14],some (13,true)⟩,⟨some 16,.bin .eql (.t 15) (xk 0),some (13,true)⟩,xo 17 (.pick (.t 13) (.t 16) (xq false)),xm 18 17,⟨some 19,.load 3 true (.t 3),some (18,true)⟩,⟨some 20,.mv (.t 1),some (18,true)⟩,⟨some 21,.mm false (.t 20) (xk 1048576),some (18,true)⟩,⟨some 22,.mv (.t 2),some (18,true)⟩,⟨some 23,.call (.c (.d (.clo zdh []))) [.t 19,.t 21,.t 22],some (18,true)⟩,xo 24 (.pick (.t 18) (.t 23) (xq false)),xm 6 24]).seq .ret)⟩
theorem ztp:cfn Tryz.prog Tryz.f130=some zhy:=by kernel_rfl
theorem ztr:FnP Tryz.prog zhk zhy:=zan hm Tryz.func130 ztp
def zeb:XFn:=⟨1,34,[.cell 2 3 true,.tmp 3],(rg [xo 1 (.box (.t 0)),xa 2,xo 3 (.nilrow 3)]).seq (((rg [xf 6 0 1,xl 7 6,xo 8 (.bin .neq (.t 7) (xk 6)),xm 9 8,⟨some 10,.faddr 2 (.t 1),some (9,false)⟩,⟨some 11,.load 1 false (.t 10),some (9,false)⟩,⟨some 12,.len (.t 11),some (9,false)⟩,⟨some 13,.bin .neq (.t 12) (xk 2),some (9,false)⟩,xo 14 (.pick (.t 9) (xq true) (.t 13))]).seq (XCode.cond (.t 14) ((rg [xL 15 3 1,xc 16 zas [.t 15],xS 3 2 16,xo 3 (.nilrow 3)]).seq .ret) .skip)).seq ((rg [xf 18 2 1,xl 19 18,xo 20 (.iaddr 3 (.t 19) (xk 0)),xL 21 3 20,xc 22 za5 [.t 21],xm 17 22,xo 23 (.ext (.t 17) 0),xo 24 (.ext (.t 17) 1),xa 4,xS 3 4 23,xm 5 24]).seq ((region [xL 25 3 4,xm 26 5,xf 27 2 1,xl 28 27,xo 29 (.iaddr 3 (.t 28) (xk 1)),xL 30 3 29,xc 31 zas [.t 30],xo 32 (.bslice (.agg [.int .i64 0,.int .i64 0,.sl 3 []]) 3 1 [(0,.t 31)]),xo 33 (.app 3 40 (.t 26) (.t 32)),xS 3 2 25,xm 3 33] (some [tT,tF,(false,[0]),(false,[0]),(false,[0]),(false,[0]),(false,[0]),(false,[0]),(false,[0]),tF,tF])).seq .ret)))⟩
theorem zrh:cfn Tryz.prog Tryz.f135=some zeb:=by kernel_rfl
theorem zp9:FnO Tryz.prog za5 zeb:=zFu hm Tryz.func135 zrh
def zhp:XFn:=⟨2,19,[.tmp 4],(rg [xo 4 (.mv (xk 0))]).seq (((rg [xm 5 1,xo 6 (.bin .eql (.t 5) (xk 1)),xm 7 6,⟨some 8,.mv (.t 0),some (7,true)⟩,⟨some 9,.bin .eql (.t 8) (xk 4),some (7,true)⟩,⟨some 10,.mv (.t 9),some (7,true)⟩,⟨some 11,.mv (.t 0),some (10,false)⟩,⟨some 12,.bin .eql (.t 11) (xk 5),some (10,false)⟩,⟨some 13,.pick (.t 10) (xq true) (.t 12),some (7,true)⟩,⟨some 14,.mv (.t 13),some (7,true)⟩,⟨some 15,.mv (.t 0),some (14,false)⟩,⟨some 16,.bin .eql (.t 15) (xk 7),some (14,false)⟩,⟨some 17,.pick (.t 14) (xq true) (.t 16),some (7,true)⟩,xo 18 (.pick (.t 7) (.t 17) (xq false))]).seq (XCode.cond (.t 18) ((rg [xo 4 (.mv (xk 1))]).seq .ret) .skip)).seq ((rg [xo 4 (.mv (xk 0))]).seq .ret))⟩
theorem zth:cfn Tryz.prog Tryz.f137=some zhp:=by kernel_rfl
theorem zto:FnP Tryz.prog zb4 zhp:=zan hm Tryz.func137 zth
def zpy:XFn:=⟨2,12,[.tmp 4],(rg [xo 4 (.mv (xk 0))]).seq (((rg [xm 5 1,xo 6 (.bin .eql (.t 5) (xk 1)),xm 7 6,⟨some 8,.bslice (.int .i64 0) 1 3 [(0,xk 4),(1,xk 5),(2,xk 7)],some (7,true)⟩,⟨some 9,.mv (.t 0),some (7,true)⟩,⟨some 10,.call (.c (.d (.clo zf8 []))) [.t 8,.t 9],some (7,true)⟩,xo 11 (.pick (.t 7) (.t 10) (xq false))]).seq (XCode.cond (.t 11) ((rg [xo 4 (.mv (xk 1))]).seq .ret) .skip)).seq ((rg [xo 4 (.mv (xk 0))]).seq .ret))⟩
theorem zFi:cfn Tryz.prog Tryz.f148=some zpy:=by kernel_rfl
theorem zFl:FnP Tryz.prog zf0 zpy:=zan hm Tryz.func148 zFi
def zqt:XFn:=⟨3,60,[.tmp 6,.tmp 7],(rg [xo 3 (.box (.t 0)),xo 6 (.mv (.c (.d .nilp))),xo 7 (.mv (xk 0))]).seq ((rg [xL 13 3 3,xc 14 zgd [.t 13],xm 8 14]).seq (((rg [xm 15 8,xo 16 (.bin .neq (.t 15) (xk 0))]).seq (XCode.cond (.t 16) ((rg [xm 17 8,xo 6 (.mv (.c (.d .nilp))),xm 7 17]).seq .ret) .skip)).seq ((rg [xm 18 2,xo 19 (.build [.fsl 6 [],.d (.int .i64 0),.d (.bool false),.d (.int .i64 0),.d (.int .i64 0)] [(1,1,.t 18)]),xo 20 (.box (.t 19)),xm 9 20]).seq (((rg [xm 21 1,xo 22 (.len (.t 21)),xo 23 (.mv (xk 0))]).seq (block 0 ((rg [xb 24 .lss 23 22]).seq ((XCode.cond (.t 24) .skip (.exit 0)).seq ((block 1 ((rg [xo 25 (.iaddr 3 (.t 21) (.t 23)),xL 26 3 25,xa 11,xS 3 11 26]).seq ((rg [xL 27 3 11,xc 28 zgd [.t 27],xm 12 28]).seq (((rg [xm 29 12,xo 30 (.bin .neq (.t 29) (xk 0))]).seq (XCode.cond (.t 30) ((rg [xm 31 12,xo 6 (.mv (.c (.d .nilp))),xm 7 31]).seq .ret) .skip)).seq (region [xm 32 9,xm 33 9,xo 34 (.nilck (.t 33)),xf 35 0 34,xl 36 35,xL 37 3 11,xL 38 3 11,xc 39 zjo [.t 38],xL 40 3 11,xc 41 zh9 [.t 40],xL 42 3 11,xc 43 zkm [.t 42,xk 0],xo 44 (.build [.d (.int .i64 0),.d (.int .i64 0),.fsl 3 [],.d (.int .i64 0),.d (.int .i64 0),.d (.int .i64 0)] [(0,3,.t 37),(3,1,.t 39),(4,1,.t 41),(5,1,.t 43)]),xo 45 (.bslice (.agg [.int .i64 0,.int .i64 0,.sl 3 [],.int .i64 0,.int .i64 0,.int .i64 0]) 6 1 [(0,.t 44)]),xo 46 (.app 6 64 (.t 36) (.t 45)),xo 47 (.nilck (.t 32)),xf 48 0 47,xS 1 48 46] (some [tF,tF,tT,tT,tT,(true,[2,3,4]),(true,[2,3,4,5]),(true,[2,3,4,5]),(true,[2,3,4,5,6,7]),(true,[2,3,4,5]),(false,[2,3,4,5,6,7,8,9]),(false,[2,3,4,5]),tF,(false,[2,3,4]),tF,tF,tF,tF])))))).seq (rg [xo 49 (.bin .add (.t 23) (xk 1)),xm 23 49])))).loop)).seq (((rg [xm 50 2,xo 51 (.bin .lss (.t 50) (xk 0)),xm 52 51,⟨some 53,.mv (.t 2),some (52,false)⟩,⟨some 54,.bin .gtr (.t 53) (xk 65535),some (52,false)⟩,xo 55 (.pick (.t 52) (xq true) (.t 54))]).seq (XCode.cond (.t 55) ((rg [xo 6 (.mv (.c (.d .nilp))),xo 7 (.mv (xk 1))]).seq .ret) .skip)).seq ((rg [xm 56 9,xL 57 3 3,xc 58 zdd [.t 56,.t 57,xk 0,xk 0]]).seq ((rg [xm 59 9,xm 6 59,xo 7 (.mv (xk 0))]).seq .ret)))))))⟩
theorem zFq:cfn Tryz.prog Tryz.f151=some zqt:=by kernel_rfl
theorem zGa:FnP Tryz.prog zpw zqt:=zan hm Tryz.func151 zFq
def zm0:XFn:=⟨5,40,[.cell 7 3 true],(rg [xa 7]).seq ((rg [xl 9 2,xm 10 0,xm 11 1,xc 12 zgw [.t 9,.t 10,.t 11],xm 8 12]).seq ((block 0 ((rg [xm 14 8,xo 15 (.bin .geq (.t 14) (xk 0)),xm 13 15]).seq (XCode.cond (.t 13) ((region [xl 16 2,xo 17 (.nilck (.t 16)),xf 18 0 17,xl 19 18,xm 20 8,xo 21 (.iaddr 6 (.t 19) (.t 20)),xf 22 0 21,xL 23 3 22,xl 24 3,xm 25 1,xb 26 .add 24 25,xc 27 zn9 [.t 23,.t 26],xS 3 7 27] (some [tT,tT,tT,tT,tF,tT,tT,tT,(false,[0,1,2,3,5,6,7]),tF,tF,tF,tF])).seq .ret) ((rg [xm 29 0,xl 30 3,xm 31 1,xb 32 .add 30 31,xb 33 .geq 29 32,xm 28 33]).seq (XCode.cond (.t 28) (rg [xm 34 0,xl 35 4,xo 36 (.len (.t 35)),xb 37 .sub 34 36,xm 0 37]) .skip))))).seq ((rg [xm 38 0,xc 39 zij [.t 38],xS 3 7 39]).seq .ret)))⟩
theorem zBj:cfn Tryz.prog Tryz.f152=some zm0:=by kernel_rfl
theorem zBb:FnP Tryz.prog zkj zm0:=zan hm Tryz.func152 zBj
def zj2:XFn:=⟨3,38,[.tmp 6],(rg [xo 6 (.mv (xk 0))]).seq ((rg [xm 8 0,xo 9 (.nilck (.t 8)),xf 10 1 9,xl 11 10,xm 12 2,xb 13 .add 11 12,xm 7 13]).seq (((rg [xm 14 1,xm 15 7,xb 16 .lss 14 15,xm 17 16,⟨some 18,.mv (.t 1),some (17,false)⟩,⟨some 19,.mv (.t 7),some (17,false)⟩,⟨some 20,.bin .sub (.t 18) (.t 19),some (17,false)⟩,⟨some 21,.mv (.t 0),some (17,false)⟩,⟨some 22,.nilck (.t 21),some (17,false)⟩,⟨some 23,.faddr 0 (.t 22),some (17,false)⟩,⟨some 24,.load 1 false (.t 23),some (17,false)⟩,⟨some 25,.len (.t 24),some (17,false)⟩,⟨some 26,.bin .geq (.t 20) (.t 25),some (17,false)⟩,xo 27 (.pick (.t 17) (xq true) (.t 26))]).seq (XCode.cond (.t 27) ((rg [xo 6 (.mv (xk (-1)))]).seq .ret) .skip)).seq ((rg [xm 28 0,xo 29 (.nilck (.t 28)),xf 30 0 29,xl 31 30,xo 32 (.len (.t 31)),xo 33 (.bin .sub (.t 32) (xk 1)),xm 34 1,xm 35 7,xb 36 .sub 34 35,xb 37 .sub 33 36,xm 6 37]).seq .ret)))⟩
theorem zwp:cfn Tryz.prog Tryz.f153=some zj2:=by kernel_rfl
theorem zxc:FnP Tryz.prog zgw zj2:=zan hm Tryz.func153 zwp
def zoi:XFn:=⟨2,8,[.cell 4 3 true],(rg [xo 2 (.box (.t 0)),xo 3 (.box (.t 1)),xa 4]).seq ((rg [xL 5 3 2,xo 6 (.mkf ziu [.t 3]),xc 7 zia [.t 5,xk 0,.t 6],xS 3 4 7]).seq .ret)⟩
theorem zEs:cfn Tryz.prog Tryz.f154=some zoi:=by kernel_rfl
theorem zDp:FnP Tryz.prog zn9 zoi:=zan hm Tryz.func154 zEs
def zg2:XFn:=⟨1,46,[.tmp 2],(rg [xo 1 (.box (.t 0)),xo 2 (.mv (xq false))]).seq (((region [xf 4 2 1,xl 5 4,xo 6 (.len (.t 5)),xf 7 0 1,xl 8 7,xc 9 zik [.t 8],xb 10 .neq 6 9] (some [tT,tT,tT,(false,[0,1,2]),(false,[0,1,2]),(false,[0,1,2]),tF])).seq (XCode.cond (.t 10) ((rg [xo 2 (.mv (xq false))]).seq .ret) .skip)).seq (((rg [xf 11 2 1,xl 12 11,xo 13 (.len (.t 12)),xo 14 (.bin .eql (.t 13) (xk 0)),xm 15 14,⟨some 16,.faddr 1 (.t 1),some (15,true)⟩,⟨some 17,.load 1 false (.t 16),some (15,true)⟩,⟨some 18,.call (.c (.d (.clo zk8 []))) [.t 17,xk 0,xk 65535],some (15,true)⟩,⟨some 19,.un .not (.t 18),some (15,true)⟩,xo 20 (.pick (.t 15) (.t 19) (xq false)),xm 21 20,⟨some 22,.faddr 2 (.t 1),some (21,false)⟩,⟨some 23,.load 1 false (.t 22),some (21,false)⟩,⟨some 24,.len (.t 23),some (21,false)⟩,⟨some 25,.bin .gtr (.t 24) (xk 0),some (21,false)⟩,⟨some 26,.mv (.t 25),some (21,false)⟩,⟨some 27,.faddr 1 (.t 1),some (26,true)⟩,⟨some 28,.load 1 false (.t 27),some (26,true)⟩,⟨some 29,.bin .neq (.t 28) (xk 0),some (26,true)⟩,⟨some 30,.pick (.t 26) (.t 29) (xq false),some (21,false)⟩,xo 31 (.pick (.t 21) (xq true) (.t 30))]).seq (XCode.cond (.t 31) ((rg [xo 2 (.mv (xq false))]).seq .ret) .skip)).seq (((rg [xo 3 (.mv (xk 0))]).seq (block 0 (((rg [xm 32 3,xf 33 2 1,xl 34 33,xo 35 (.len (.t 34)),xb 36 .lss 32 35]).seq (XCode.cond (.t 36) .skip (.exit 0))).seq ((block 1 ((rg [xf 39 2 1,xl 40 39,xm 41 3,xo 42 (.iaddr 3 (.t 40) (.t 41)),xL 43 3 42,xc 44 zdg [.t 43],xo 45 (.un .not (.t 44))]).seq (XCode.cond (.t 45) ((rg [xo 2 (.mv (xq false))]).seq .ret) .skip))).seq (rg [xm 37 3,xo 38 (.bin .add (.t 37) (xk 1)),xm 3 38]))).loop)).seq ((rg [xo 2 (.mv (xq true))]).seq .ret))))⟩
theorem zr8:cfn Tryz.prog Tryz.f155=some zg2:=by kernel_rfl
theorem zr7:FnP Tryz.prog zdg zg2:=zan hm Tryz.func155 zr8
def zla:XFn:=⟨3,15,[.tmp 6],(rg [xo 6 (.mv (xq false))]).seq ((rg [xm 7 0,xm 8 1,xb 9 .geq 7 8,xm 10 9,⟨some 11,.mv (.t 0),some (10,true)⟩,⟨some 12,.mv (.t 2),some (10,true)⟩,⟨some 13,.bin .leq (.t 11) (.t 12),some (10,true)⟩,xo 14 (.pick (.t 10) (.t 13) (xq false)),xm 6 14]).seq .ret)⟩
theorem zx7:cfn Tryz.prog Tryz.f156=some zla:=by kernel_rfl
theorem zxu:FnP Tryz.prog zk8 zla:=zan hm Tryz.func156 zx7
def zdq:XFn:=⟨3,88,[.cell 6 3 true,.tmp 7],(rg [xo 3 (.box (.t 0)),xa 6,xo 7 (.mv (xq false))]).seq (((rg [xf 14 0 3,xl 15 14,xo 16 (.bin .eql (.t 15) (xk 1))]).seq (XCode.cond (.t 16) ((rg [xm 17 1,xo 18 (.len (.t 17)),xm 8 18]).seq (((rg [xf 19 1 3,xl 20 19,xm 21 2,xm 22 8,xb 23 .add 21 22,xb 24 .geq 20 23]).seq (XCode.cond (.t 24) ((rg [xf 25 1 3,xl 26 25,xm 27 8,xb 28 .sub 26 27,xo 29 (.build [.d (.int .i64 0),.d (.int .i64 0),.fsl 3 []] [(0,1,xk 1),(1,1,.t 28)]),xS 3 6 29,xo 7 (.mv (xq false))]).seq .ret) .skip)).seq ((rg [xf 30 1 3,xl 31 30,xm 32 2,xb 33 .geq 31 32]).seq (XCode.cond (.t 33) ((rg [xm 34 1,xm 35 8,xo 36 (.bin .sub (.t 35) (xk 1)),xf 37 1 3,xl 38 37,xm 39 2,xb 40 .sub 38 39,xb 41 .sub 36 40,xo 42 (.iaddr 3 (.t 34) (.t 41)),xL 43 3 42,xm 44 2,xc 45 zee [.t 43,.t 44,xk 0],xo 46 (.ext (.t 45) 0),xo 47 (.ext (.t 45) 1),xS 3 6 46,xm 7 47]).seq .ret) .skip)))) .skip)).seq ((rg [xf 48 0 3,xl 49 48,xf 50 1 3,xl 51 50,xo 52 (.build [.d (.int .i64 0),.d (.int .i64 0),.fsl 3 []] [(0,1,.t 49),(1,1,.t 51)]),xa 9,xS 3 9 52]).seq ((rg [xo 10 (.mv (xq false))]).seq (((rg [xo 11 (.mv (xk 0))]).seq (block 0 (((rg [xm 53 11,xf 54 2 3,xl 55 54,xo 56 (.len (.t 55)),xb 57 .lss 53 56]).seq (XCode.cond (.t 57) .skip (.exit 0))).seq ((block 1 ((region [xf 61 2 3,xl 62 61,xm 63 11,xo 64 (.iaddr 3 (.t 62) (.t 63)),xL 65 3 64,xm 66 1,xm 67 2,xf 68 0 3,xl 69 68,xm 70 11,xc 71 zb4 [.t 69,.t 70],xb 72 .add 67 71,xc 73 zew [.t 65,.t 66,.t 72],xm 60 73,xo 74 (.ext (.t 60) 0),xo 75 (.ext (.t 60) 1),xa 12,xS 3 12 74,xm 13 75] (some [tT,tT,tF,tT,tT,tF,tF,(true,[0,1,3,4]),(true,[0,1,3,4]),tF,(true,[0,1,3,4]),tF,tT,tF,tF,tF,(false,[0,1,3,4,7,8,10,12]),tF,tF])).seq (rg [xf 76 2 9,xl 77 76,xL 78 3 12,xo 79 (.bslice (.agg [.int .i64 0,.int .i64 0,.sl 3 []]) 3 1 [(0,.t 78)]),xo 80 (.app 3 40 (.t 77) (.t 79)),xm 81 10,xm 82 81,⟨some 83,.mv (.t 13),some (82,false)⟩,xo 84 (.pick (.t 82) (xq true) (.t 83)),xf 85 2 9,xS 1 85 80,xm 10 84]))).seq (rg [xm 58 11,xo 59 (.bin .add (.t 58) (xk 1)),xm 11 59]))).loop)).seq ((rg [xL 86 3 9,xm 87 10,xS 3 6 86,xm 7 87]).seq .ret)))))⟩
theorem zwi:cfn Tryz.prog Tryz.f159=some zdq:=by kernel_rfl
theorem zwy:FnP Tryz.prog zew zdq:=zan hm Tryz.func159 zwi
def zst:XFn:=⟨1,19,[.tmp 2],(rg [xo 1 (.box (.t 0)),xo 2 (.mv (xk 0))]).seq ((rg [xo 3 (.mv (xk 1))]).seq (((rg [xf 6 2 1,xl 7 6,xo 8 (.len (.t 7)),xo 9 (.mv (xk 0))]).seq (block 0 ((rg [xb 10 .lss 9 8]).seq ((XCode.cond (.t 10) .skip (.exit 0)).seq ((block 1 ((rg [xo 11 (.iaddr 3 (.t 7) (.t 9)),xL 12 3 11,xa 5,xS 3 5 12]).seq (rg [xm 13 3,xL 14 3 5,xc 15 zjo [.t 14],xb 16 .add 13 15,xm 3 16]))).seq (rg [xo 17 (.bin .add (.t 9) (xk 1)),xm 9 17])))).loop)).seq ((rg [xm 18 3,xm 2 18]).seq .ret)))⟩
theorem zHe:cfn Tryz.prog Tryz.f169=some zst:=by kernel_rfl
theorem zH0:FnP Tryz.prog zjo zst:=zan hm Tryz.func169 zHe
def zrc:XFn:=⟨1,20,[.tmp 2],(rg [xo 1 (.box (.t 0)),xo 2 (.mv (xk 0))]).seq ((rg [xo 3 (.mv (xk 0))]).seq (((rg [xf 6 2 1,xl 7 6,xo 8 (.len (.t 7)),xo 9 (.mv (xk 0))]).seq (block 0 ((rg [xb 10 .lss 9 8]).seq ((XCode.cond (.t 10) .skip (.exit 0)).seq ((block 1 ((rg [xo 11 (.iaddr 3 (.t 7) (.t 9)),xL 12 3 11,xa 5,xS 3 5 12]).seq (rg [xm 13 3,xL 14 3 5,xc 15 zh9 [.t 14],xo 16 (.mm true (.t 13) (.t 15)),xm 3 16]))).seq (rg [xo 17 (.bin .add (.t 9) (xk 1)),xm 9 17])))).loop)).seq ((rg [xm 18 3,xo 19 (.bin .add (.t 18) (xk 1)),xm 2 19]).seq .ret)))⟩
theorem zEw:cfn Tryz.prog Tryz.f170=some zrc:=by kernel_rfl
theorem zGr:FnP Tryz.prog zh9 zrc:=zan hm Tryz.func170 zEw
def zn0:XFn:=⟨1,39,[.tmp 2],(rg [xo 1 (.box (.t 0)),xo 2 (.mv (xq false))]).seq ((rg [xf 4 0 1,xl 5 4,xc 6 zs2 [.t 5],xm 3 6]).seq (((rg [xm 7 3,xo 8 (.bin .lss (.t 7) (xk 0)),xm 9 8,⟨some 10,.faddr 2 (.t 1),some (9,false)⟩,⟨some 11,.load 1 false (.t 10),some (9,false)⟩,⟨some 12,.len (.t 11),some (9,false)⟩,⟨some 13,.mv (.t 3),some (9,false)⟩,⟨some 14,.bin .neq (.t 12) (.t 13),some (9,false)⟩,xo 15 (.pick (.t 9) (xq true) (.t 14)),xm 16 15,⟨some 17,.faddr 1 (.t 1),some (16,false)⟩,⟨some 18,.load 1 false (.t 17),some (16,false)⟩,⟨some 19,.bin .lss (.t 18) (xk 0),some (16,false)⟩,xo 20 (.pick (.t 16) (xq true) (.t 19)),xm 21 20,⟨some 22,.faddr 1 (.t 1),some (21,false)⟩,⟨some 23,.load 1 false (.t 22),some (21,false)⟩,⟨some 24,.bin .gtr (.t 23) (xk 65535),some (21,false)⟩,xo 25 (.pick (.t 21) (xq true) (.t 24)),xm 26 25,⟨some 27,.mv (.t 3),some (26,false)⟩,⟨some 28,.bin .gtr (.t 27) (xk 0),some (26,false)⟩,⟨some 29,.mv (.t 28),some (26,false)⟩,⟨some 30,.faddr 1 (.t 1),some (29,true)⟩,⟨some 31,.load 1 false (.t 30),some (29,true)⟩,⟨some 32,.bin .neq (.t 31) (xk 0),some (29,true)⟩,⟨some 33,.pick (.t 29) (.t 32) (xq false),some (26,false)⟩,xo 34 (.pick (.t 26) (xq true) (.t 33))]).seq (XCode.cond (.t 34) ((rg [xo 2 (.mv (xq false))]).seq .ret) .skip)).seq ((rg [xf 35 2 1,xl 36 35,xo 37 (.call (.c (.d (.clo zbw []))) [.t 36,.c (.d (.clo zgb []))]),xo 38 (.un .not (.t 37)),xm 2 38]).seq .ret)))⟩
theorem zEd:cfn Tryz.prog Tryz.f171=some zn0:=by kernel_rfl
theorem zEq:FnP Tryz.prog zgq zn0:=zan hm Tryz.func171 zEd
def zfn:XFn:=⟨1,4,[.tmp 2],(rg [xo 1 (.box (.t 0)),xo 2 (.mv (.c (.d .junk)))]).seq ((rg [xo 3 (.mkf znu [.t 1]),xm 2 3]).seq .ret)⟩
theorem zpu:cfn Tryz.prog Tryz.f172=some zfn:=by kernel_rfl
theorem zpv:FnP Tryz.prog zjk zfn:=zan hm Tryz.func172 zpu
def zgy:XFn:=⟨3,48,[.tmp 6],(rg [xo 3 (.box (.t 0)),xo 6 (.mv (xq false))]).seq (((rg [xf 8 0 3,xl 9 8]).seq (block 0 ((rg [xo 11 (.bin .eql (.t 9) (xk 1)),xm 10 11]).seq (XCode.cond (.t 10) ((rg [xf 12 1 3,xl 13 12,xm 14 1,xb 15 .lss 13 14,xm 6 15]).seq .ret) ((rg [xo 17 (.bin .eql (.t 9) (xk 2)),xm 16 17]).seq (XCode.cond (.t 16) ((rg [xf 18 1 3,xl 19 18,xo 20 (.bin .leq (.t 19) (xk 6)),xm 6 20]).seq .ret) ((rg [xo 22 (.bin .eql (.t 9) (xk 3)),xm 21 22]).seq (XCode.cond (.t 21) ((rg [xf 23 1 3,xl 24 23,xm 25 2,xb 26 .lss 24 25,xm 6 26]).seq .ret) .skip)))))))).seq (((rg [xo 7 (.mv (xk 0))]).seq (block 1 (((rg [xm 27 7,xf 28 2 3,xl 29 28,xo 30 (.len (.t 29)),xb 31 .lss 27 30]).seq (XCode.cond (.t 31) .skip (.exit 1))).seq ((block 2 ((region [xf 34 2 3,xl 35 34,xm 36 7,xo 37 (.iaddr 3 (.t 35) (.t 36)),xL 38 3 37,xm 39 1,xf 40 0 3,xl 41 40,xm 42 7,xc 43 zb4 [.t 41,.t 42],xb 44 .add 39 43,xm 45 2,xc 46 zdh [.t 38,.t 44,.t 45],xo 47 (.un .not (.t 46))] (some [tT,tT,tF,tT,tT,tF,(false,[0,1,3,4]),(false,[0,1,3,4]),tF,(false,[0,1,3,4]),tF,tF,tF,tF])).seq (XCode.cond (.t 47) ((rg [xo 6 (.mv (xq false))]).seq .ret) .skip))).seq (rg [xm 32 7,xo 33 (.bin .add (.t 32) (xk 1)),xm 7 33]))).loop)).seq ((rg [xo 6 (.mv (xq true))]).seq .ret)))⟩
theorem zsh:cfn Tryz.prog Tryz.f173=some zgy:=by kernel_rfl
theorem zse:FnP Tryz.prog zdh zgy:=zan hm Tryz.func173 zsh
def zqr:XFn:=⟨1,22,[.cell 2 3 true,.tmp 3],(rg [xo 1 (.box (.t 0)),xa 2,xo 3 (.nilrow 3)]).seq ((rg [xo 4 (.nilrow 3)]).seq ((block 0 (((rg [xL 5 3 1,xc 6 zxb [.t 5,xk 6]]).seq (XCode.cond (.t 6) .skip (.exit 0))).seq (block 1 ((rg [xm 7 4,xf 8 2 1,xl 9 8,xo 10 (.iaddr 3 (.t 9) (xk 1)),xL 11 3 10,xo 12 (.bslice (.agg [.int .i64 0,.int .i64 0,.sl 3 []]) 3 1 [(0,.t 11)]),xo 13 (.app 3 40 (.t 7) (.t 12)),xm 4 13]).seq (rg [xf 14 2 1,xl 15 14,xo 16 (.iaddr 3 (.t 15) (xk 0)),xL 17 3 16,xS 3 1 17])))).loop).seq ((rg [xm 18 4,xc 19 zkn [.t 18]]).seq ((rg [xL 20 3 1,xm 21 4,xS 3 2 20,xm 3 21]).seq .ret))))⟩
theorem zE1:cfn Tryz.prog Tryz.f183=some zqr:=by kernel_rfl
theorem zE4:FnP Tryz.prog zh8 zqr:=zan hm Tryz.func183 zE1
def zgj:XFn:=⟨2,9,[.tmp 4],(rg [xo 4 (.mv (xq false))]).seq ((rg [xm 5 0,xm 6 1,xc 7 zih [.t 5,.t 6],xo 8 (.bin .geq (.t 7) (xk 0)),xm 4 8]).seq .ret)⟩
theorem zre:cfn Tryz.prog Tryz.f185=some zgj:=by kernel_rfl
theorem zrg:FnP Tryz.prog zf8 zgj:=zan hm Tryz.func185 zre
def zp3:XFn:=⟨2,39,[.tmp 4],(rg [xo 2 (.box (.t 0)),xo 4 (.mv (xk 0))]).seq ((rg [xo 5 (.mv (xk (-1)))]).seq (((rg [xf 8 0 2,xl 9 8,xo 10 (.bin .eql (.t 9) (xk 1)),xm 11 10,⟨some 12,.faddr 1 (.t 2),some (11,true)⟩,⟨some 13,.load 1 false (.t 12),some (11,true)⟩,⟨some 14,.mv (.t 1),some (11,true)⟩,⟨some 15,.bin .geq (.t 13) (.t 14),some (11,true)⟩,xo 16 (.pick (.t 11) (.t 15) (xq false))]).seq (XCode.cond (.t 16) (rg [xf 17 1 2,xl 18 17,xm 5 18]) .skip)).seq (((rg [xf 19 2 2,xl 20 19,xo 21 (.len (.t 20)),xo 22 (.mv (xk 0))]).seq (block 0 ((rg [xb 23 .lss 22 21]).seq ((XCode.cond (.t 23) .skip (.exit 0)).seq ((block 1 ((rg [xm 24 22,xo 25 (.iaddr 3 (.t 20) (.t 22)),xL 26 3 25,xa 7,xm 6 24,xS 3 7 26]).seq (region [xm 27 5,xL 28 3 7,xm 29 1,xf 30 0 2,xl 31 30,xm 32 6,xc 33 zf0 [.t 31,.t 32],xb 34 .add 29 33,xc 35 zkm [.t 28,.t 34],xo 36 (.mm true (.t 27) (.t 35)),xm 5 36] (some [tF,tT,tF,(false,[1]),(false,[1]),tF,(false,[1]),tF,tF,tF,tF])))).seq (rg [xo 37 (.bin .add (.t 22) (xk 1)),xm 22 37])))).loop)).seq ((rg [xm 38 5,xm 4 38]).seq .ret))))⟩
theorem zG8:cfn Tryz.prog Tryz.f189=some zp3:=by kernel_rfl
theorem zGc:FnP Tryz.prog zkm zp3:=zan hm Tryz.func189 zG8
def zff:XFn:=⟨4,119,[],(rg [xo 5 (.box (.t 1))]).seq (((rg [xf 14 0 5,xl 15 14,xo 16 (.bin .eql (.t 15) (xk 1))]).seq (XCode.cond (.t 16) ((rg [xo 8 (.mv (xk 1)),xo 9 (.mv (xk 1))]).seq ((rg [xm 17 0,xf 18 1 5,xl 19 18,xm 20 2,xc 21 zgw [.t 17,.t 19,.t 20],xm 10 21]).seq (((rg [xm 22 10,xo 23 (.bin .geq (.t 22) (xk 0))]).seq (XCode.cond (.t 23) ((rg [xm 24 0,xo 25 (.nilck (.t 24)),xf 26 0 25,xl 27 26,xm 28 10,xo 29 (.iaddr 6 (.t 27) (.t 28)),xL 30 6 29,xo 11 (.alloc [.d (.int .i64 0),.d (.int .i64 0),.fsl 3 [],.d (.int .i64 0),.d (.int .i64 0),.d (.int .i64 0)]),xS 6 11 30]).seq ((region [xf 31 3 11,xl 32 31,xf 33 4 11,xl 34 33,xm 8 32,xm 9 34] (some [tT,tT,(false,[0,1]),(false,[0,1]),tF,tF])).seq (region [xm 35 0,xm 36 0,xo 37 (.nilck (.t 36)),xf 38 2 37,xl 39 38,xm 40 39,⟨some 41,.faddr 5 (.t 11),some (40,false)⟩,⟨some 42,.load 1 false (.t 41),some (40,false)⟩,⟨some 43,.bin .geq (.t 42) (xk 0),some (40,false)⟩,⟨some 44,.mv (.t 43),some (40,false)⟩,⟨some 45,.faddr 5 (.t 11),some (44,true)⟩,⟨some 46,.load 1 false (.t 45),some (44,true)⟩,⟨some 47,.mv (.t 0),some (44,true)⟩,⟨some 48,.nilck (.t 47),some (44,true)⟩,⟨some 49,.faddr 1 (.t 48),some (44,true)⟩,⟨some 50,.load 1 false (.t 49),some (44,true)⟩,⟨some 51,.bin .add (.t 46) (.t 50),some (44,true)⟩,⟨some 52,.mv (.t 2),some (44,true)⟩,⟨some 53,.bin .add (.t 51) (.t 52),some (44,true)⟩,⟨some 54,.bin .gtr (.t 53) (xk 65535),some (44,true)⟩,⟨some 55,.pick (.t 44) (.t 54) (xq false),some (40,false)⟩,xo 56 (.pick (.t 40) (xq true) (.t 55)),xo 57 (.nilck (.t 35)),xf 58 2 57,xS 1 58 56] (some [tF,tF,tF,tF,tF,tF,tF,tF,tF,tF,tT,tT,tF,(false,[10,11]),(false,[10,11]),(false,[10,11]),tF,tF,tF,tF,tF,tF,tF,tF,tF])))) .skip)).seq ((rg [xm 59 0,xm 60 0,xo 61 (.nilck (.t 60)),xf 62 3 61,xl 63 62,xm 64 8,xb 65 .add 63 64,xo 66 (.mm false (.t 65) (xk 1099511627776)),xo 67 (.nilck (.t 59)),xf 68 3 67,xS 1 68 66]).seq ((rg [xm 69 0,xm 70 0,xo 71 (.nilck (.t 70)),xf 72 4 71,xl 73 72,xm 74 3,xm 75 9,xb 76 .add 74 75,xo 77 (.mm true (.t 73) (.t 76)),xo 78 (.nilck (.t 69)),xf 79 4 78,xS 1 79 77]).seq .ret))))) .skip)).seq ((rg [xm 80 0,xm 81 0,xo 82 (.nilck (.t 81)),xf 83 3 82,xl 84 83,xo 85 (.bin .add (.t 84) (xk 1)),xo 86 (.mm false (.t 85) (xk 1099511627776)),xo 87 (.nilck (.t 80)),xf 88 3 87,xS 1 88 86]).seq ((rg [xm 89 0,xm 90 0,xo 91 (.nilck (.t 90)),xf 92 4 91,xl 93 92,xm 94 3,xo 95 (.bin .add (.t 94) (xk 1)),xo 96 (.mm true (.t 93) (.t 95)),xo 97 (.nilck (.t 89)),xf 98 4 97,xS 1 98 96]).seq ((rg [xf 99 2 5,xl 100 99,xo 101 (.len (.t 100)),xo 102 (.mv (xk 0))]).seq (block 0 ((rg [xb 103 .lss 102 101]).seq ((XCode.cond (.t 103) .skip (.exit 0)).seq ((block 1 ((rg [xm 104 102,xo 105 (.iaddr 3 (.t 100) (.t 102)),xL 106 3 105,xa 13,xm 12 104,xS 3 13 106]).seq (region [xm 107 0,xL 108 3 13,xm 109 2,xf 110 0 5,xl 111 110,xm 112 12,xc 113 zf0 [.t 111,.t 112],xb 114 .add 109 113,xm 115 3,xo 116 (.bin .add (.t 115) (xk 1)),xc 117 zdd [.t 107,.t 108,.t 114,.t 116]] (some [tF,tT,tF,(false,[1]),(false,[1]),tF,(false,[1]),tF,tF,tF,tF])))).seq (rg [xo 118 (.bin .add (.t 102) (xk 1)),xm 102 118])))).loop)))))⟩
theorem zx1:cfn Tryz.prog Tryz.f190=some zff:=by kernel_rfl
def zmj:XFn:=⟨3,14,[.cell 5 3 true],(rg [xa 5]).seq (((rg [xm 6 0,xm 7 1,xb 8 .geq 6 7]).seq (XCode.cond (.t 8) (rg [xm 9 0,xl 10 2,xb 11 .add 9 10,xm 0 11]) .skip)).seq ((rg [xm 12 0,xc 13 zij [.t 12],xS 3 5 13]).seq .ret))⟩
theorem zzm:cfn Tryz.prog Tryz.f191=some zmj:=by kernel_rfl
theorem zze:FnP Tryz.prog ziu zmj:=zan hm Tryz.func191 zzm
def zi9:XFn:=⟨1,21,[.tmp 2],(rg [xo 2 (.mv (xk 0))]).seq (((rg [xm 3 0]).seq (block 0 (((rg [xo 5 (.bin .eql (.t 3) (xk 1)),xm 4 5]).seq (XCode.cond (.t 4) .skip ((rg [xo 6 (.bin .eql (.t 3) (xk 2)),xm 4 6]).seq (XCode.cond (.t 4) .skip (rg [xo 7 (.bin .eql (.t 3) (xk 3)),xm 4 7]))))).seq (XCode.cond (.t 4) ((rg [xo 2 (.mv (xk 0))]).seq .ret) (((rg [xo 9 (.bin .eql (.t 3) (xk 9)),xm 8 9]).seq (XCode.cond (.t 8) .skip (rg [xo 10 (.bin .eql (.t 3) (xk 10)),xm 8 10]))).seq (XCode.cond (.t 8) ((rg [xo 2 (.mv (xk 1))]).seq .ret) (((rg [xo 12 (.bin .eql (.t 3) (xk 4)),xm 11 12]).seq (XCode.cond (.t 11) .skip ((rg [xo 13 (.bin .eql (.t 3) (xk 5)),xm 11 13]).seq (XCode.cond (.t 11) .skip ((rg [xo 14 (.bin .eql (.t 3) (xk 6)),xm 11 14]).seq (XCode.cond (.t 11) .skip ((rg [xo 15 (.bin .eql (.t 3) (xk 7)),xm 11 15]).seq (XCode.cond (.t 11) .skip (rg [xo 16 (.bin .eql (.t 3) (xk 12)),xm 11 16]))))))))).seq (XCode.cond (.t 11) ((rg [xo 2 (.mv (xk 2))]).seq .ret) (((rg [xo 18 (.bin .eql (.t 3) (xk 8)),xm 17 18]).seq (XCode.cond (.t 17) .skip ((rg [xo 19 (.bin .eql (.t 3) (xk 11)),xm 17 19]).seq (XCode.cond (.t 17) .skip (rg [xo 20 (.bin .eql (.t 3) (xk 13)),xm 17 20]))))).seq (XCode.cond (.t 17) ((rg [xo 2 (.mv (xk 3))]).seq .ret) .skip)))))))))).seq ((rg [xo 2 (.mv (xk (-1)))]).seq .ret))⟩
theorem zup:cfn Tryz.prog Tryz.f192=some zi9:=by kernel_rfl
theorem zt7:FnP Tryz.prog zik zi9:=zan hm Tryz.func192 zup
def zsy:XFn:=⟨1,17,[.tmp 2],(rg [xo 2 (.mv (xk 0))]).seq (((rg [xm 3 0]).seq (block 0 (((rg [xo 5 (.bin .eql (.t 3) (xk 1)),xm 4 5]).seq (XCode.cond (.t 4) .skip ((rg [xo 6 (.bin .eql (.t 3) (xk 2)),xm 4 6]).seq (XCode.cond (.t 4) .skip (rg [xo 7 (.bin .eql (.t 3) (xk 3)),xm 4 7]))))).seq (XCode.cond (.t 4) ((rg [xo 2 (.mv (xk 0))]).seq .ret) (((rg [xo 9 (.bin .eql (.t 3) (xk 9)),xm 8 9]).seq (XCode.cond (.t 8) .skip (rg [xo 10 (.bin .eql (.t 3) (xk 10)),xm 8 10]))).seq (XCode.cond (.t 8) ((rg [xo 2 (.mv (xk 1))]).seq .ret) (((rg [xo 12 (.bin .eql (.t 3) (xk 8)),xm 11 12]).seq (XCode.cond (.t 11) .skip ((rg [xo 13 (.bin .eql (.t 3) (xk 11)),xm 11 13]).seq (XCode.cond (.t 11) .skip (rg [xo 14 (.bin .eql (.t 3) (xk 13)),xm 11 14]))))).seq (XCode.cond (.t 11) ((rg [xo 2 (.mv (xk 3))]).seq .ret) .skip)))))))).seq (((rg [xm 15 0,xc 16 zAn [.t 15]]).seq (XCode.cond (.t 16) ((rg [xo 2 (.mv (xk 2))]).seq .ret) .skip)).seq ((rg [xo 2 (.mv (xk (-1)))]).seq .ret)))⟩
theorem zH3:cfn Tryz.prog Tryz.f198=some zsy:=by kernel_rfl
theorem zHk:FnP Tryz.prog zs2 zsy:=zan hm Tryz.func198 zH3
def zd2:XFn:=⟨2,9,[.tmp 4],(rg [xo 4 (.mv (xq false))]).seq ((rg [xm 5 0,xm 6 1,xc 7 ze9 [.t 5,.t 6],xo 8 (.bin .geq (.t 7) (xk 0)),xm 4 8]).seq .ret)⟩
theorem zmk:cfn Tryz.prog Tryz.f199=some zd2:=by kernel_rfl
theorem zml:FnP Tryz.prog zbw zd2:=zan hm Tryz.func199 zmk
def zmh:XFn:=⟨1,6,[.tmp 2],(rg [xo 1 (.box (.t 0)),xo 2 (.mv (xq false))]).seq ((rg [xL 3 3 1,xc 4 zgq [.t 3],xo 5 (.un .not (.t 4)),xm 2 5]).seq .ret)⟩
theorem zy0:cfn Tryz.prog Tryz.f200=some zmh:=by kernel_rfl
theorem zAf:FnP Tryz.prog zgb zmh:=zan hm Tryz.func200 zy0
def ztb:XFn:=⟨1,17,[.tmp 2],(rg [xo 1 (.box (.t 0)),xo 2 (.mv (xq false))]).seq ((rg [xf 3 0 1,xl 4 3,xo 5 (.bin .eql (.t 4) (xk 0)),xm 6 5,⟨some 7,.faddr 1 (.t 1),some (6,true)⟩,⟨some 8,.load 1 false (.t 7),some (6,true)⟩,⟨some 9,.bin .eql (.t 8) (xk 0),some (6,true)⟩,xo 10 (.pick (.t 6) (.t 9) (xq false)),xm 11 10,⟨some 12,.faddr 2 (.t 1),some (11,true)⟩,⟨some 13,.load 1 false (.t 12),some (11,true)⟩,⟨some 14,.len (.t 13),some (11,true)⟩,⟨some 15,.bin .eql (.t 14) (xk 0),some (11,true)⟩,xo 16 (.pick (.t 11) (.t 15) (xq false)),xm 2 16]).seq .ret)⟩
theorem zH2:cfn Tryz.prog Tryz.f203=some ztb:=by kernel_rfl
theorem zIz:FnP Tryz.prog zn7 ztb:=zan hm Tryz.func203 zH2
def zvz:XFn:=⟨2,15,[.tmp 4],(rg [xo 2 (.box (.t 0)),xo 4 (.mv (xq false))]).seq ((rg [xf 5 0 2,xl 6 5,xm 7 1,xb 8 .eql 6 7,xm 9 8,⟨some 10,.faddr 2 (.t 2),some (9,true)⟩,⟨some 11,.load 1 false (.t 10),some (9,true)⟩,⟨some 12,.len (.t 11),some (9,true)⟩,⟨some 13,.bin .eql (.t 12) (xk 2),some (9,true)⟩,xo 14 (.pick (.t 9) (.t 13) (xq false)),xm 4 14]).seq .ret)⟩
theorem zLe:cfn Tryz.prog Tryz.f207=some zvz:=by kernel_rfl
theorem zKo:FnP Tryz.prog zxb zvz:=zan hm Tryz.func207 zLe
def zko:XFn:=⟨1,28,[],(rg [xm 4 0,xo 5 (.len (.t 4)),xo 6 (.bin .sub (.t 5) (xk 1)),xo 2 (.mv (xk 0)),xm 3 6]).seq (block 0 (((rg [xm 7 2,xm 8 3,xb 9 .lss 7 8]).seq (XCode.cond (.t 9) .skip (.exit 0))).seq ((block 1 (region [xm 14 0,xm 15 2,xm 16 0,xm 17 3,xm 18 0,xm 19 3,xo 20 (.iaddr 3 (.t 18) (.t 19)),xL 21 3 20,xm 22 0,xm 23 2,xo 24 (.iaddr 3 (.t 22) (.t 23)),xL 25 3 24,xo 26 (.iaddr 3 (.t 14) (.t 15)),xS 3 26 21,xo 27 (.iaddr 3 (.t 16) (.t 17)),xS 3 27 25] (some [tF,tF,tF,tF,tF,tF,tT,tT,tF,tF,(false,[6,7]),(false,[6,7]),tF,tF,tF,tF]))).seq (rg [xm 10 2,xo 11 (.bin .add (.t 10) (xk 1)),xm 12 3,xo 13 (.bin .sub (.t 12) (xk 1)),xm 2 11,xm 3 13]))).loop)⟩
theorem zq0:cfn Tryz.prog Tryz.f208=some zko:=by kernel_rfl
def zim:XFn:=⟨2,19,[.tmp 4],(rg [xo 4 (.mv (xk 0))]).seq (((rg [xm 6 0,xo 7 (.len (.t 6)),xo 8 (.mv (xk 0))]).seq (block 0 ((rg [xb 9 .lss 8 7]).seq ((XCode.cond (.t 9) .skip (.exit 0)).seq ((block 1 ((rg [xm 10 8,xm 5 10]).seq ((rg [xm 11 1,xm 12 0,xm 13 5,xo 14 (.iaddr 1 (.t 12) (.t 13)),xl 15 14,xb 16 .eql 11 15]).seq (XCode.cond (.t 16) ((rg [xm 17 5,xm 4 17]).seq .ret) .skip)))).seq (rg [xo 18 (.bin .add (.t 8) (xk 1)),xm 8 18])))).loop)).seq ((rg [xo 4 (.mv (xk (-1)))]).seq .ret))⟩
theorem zux:cfn Tryz.prog Tryz.f210=some zim:=by kernel_rfl
theorem zvn:FnP Tryz.prog zih zim:=zan hm Tryz.func210 zux
def zz5:XFn:=⟨1,9,[.tmp 2],(rg [xo 2 (.mv (xq false))]).seq ((rg [xm 3 0,xo 4 (.bin .geq (.t 3) (xk 1)),xm 5 4,⟨some 6,.mv (.t 0),some (5,true)⟩,⟨some 7,.bin .leq (.t 6) (xk 13),some (5,true)⟩,xo 8 (.pick (.t 5) (.t 7) (xq false)),xm 2 8]).seq .ret)⟩
theorem zOx:cfn Tryz.prog Tryz.f211=some zz5:=by kernel_rfl
theorem zN2:FnP Tryz.prog zAn zz5:=zan hm Tryz.func211 zOx
def zfd:XFn:=⟨2,19,[.tmp 4],(rg [xo 4 (.mv (xk 0))]).seq (((rg [xm 6 0,xo 7 (.len (.t 6)),xo 8 (.mv (xk 0))]).seq (block 0 ((rg [xb 9 .lss 8 7]).seq ((XCode.cond (.t 9) .skip (.exit 0)).seq ((block 1 ((rg [xm 10 8,xm 5 10]).seq ((rg [xm 11 1,xm 12 0,xm 13 5,xo 14 (.iaddr 3 (.t 12) (.t 13)),xL 15 3 14,xo 16 (.call (.t 11) [.t 15])]).seq (XCode.cond (.t 16) ((rg [xm 17 5,xm 4 17]).seq .ret) .skip)))).seq (rg [xo 18 (.bin .add (.t 8) (xk 1)),xm 8 18])))).loop)).seq ((rg [xo 4 (.mv (xk (-1)))]).seq .ret))⟩
theorem zpd:cfn Tryz.prog Tryz.f212=some zfd:=by kernel_rfl
theorem zoq:FnP Tryz.prog ze9 zfd:=zan hm Tryz.func212 zpd
def zra:XFn:=⟨3,25,[.tmp 6],(rg [xo 3 (.box (.t 0)),xo 6 (.mv (xq false))]).seq ((rg [xm 7 1,xo 8 (.bin .geq (.t 7) (xk 0)),xm 9 8,⟨some 10,.mv (.t 2),some (9,true)⟩,⟨some 11,.bin .geq (.t 10) (xk 0),some (9,true)⟩,xo 12 (.pick (.t 9) (.t 11) (xq false)),xm 13 12,⟨some 14,.load 3 true (.t 3),some (13,true)⟩,⟨some 15,.call (.c (.d (.clo zgd []))) [.t 14],some (13,true)⟩,⟨some 16,.bin .eql (.t 15) (xk 0),some (13,true)⟩,xo 17 (.pick (.t 13) (.t 16) (xq false)),xm 18 17,⟨some 19,.load 3 true (.t 3),some (18,true)⟩,⟨some 20,.mv (.t 1),some (18,true)⟩,⟨some 21,.mm false (.t 20) (xk 65536),some (18,true)⟩,⟨some 22,.mv (.t 2),some (18,true)⟩,⟨some 23,.call (.c (.d (.clo ziz []))) [.t 19,.t 21,.t 22],some (18,true)⟩,xo 24 (.pick (.t 18) (.t 23) (xq false)),xm 6 24]).seq .ret)⟩
theorem zE0:cfn Tryz.prog Tryz.f213=some zra:=by kernel_rfl
theorem zEx:FnP Tryz.prog zpx zra:=zan hm Tryz.func213 zE0
def zpg:XFn:=⟨3,47,[.tmp 6],(rg [xo 3 (.box (.t 0)),xo 6 (.mv (xq false))]).seq (((rg [xf 9 0 3,xl 10 9]).seq (block 0 ((rg [xo 12 (.bin .eql (.t 10) (xk 1)),xm 11 12]).seq (XCode.cond (.t 11) ((rg [xf 13 1 3,xl 14 13,xm 15 1,xb 16 .lss 14 15,xm 6 16]).seq .ret) ((rg [xo 18 (.bin .eql (.t 10) (xk 2)),xm 17 18]).seq (XCode.cond (.t 17) ((rg [xf 19 1 3,xl 20 19,xo 21 (.bin .leq (.t 20) (xk 6)),xm 6 21]).seq .ret) ((rg [xo 23 (.bin .eql (.t 10) (xk 3)),xm 22 23]).seq (XCode.cond (.t 22) ((rg [xf 24 1 3,xl 25 24,xm 26 2,xb 27 .lss 25 26,xm 6 27]).seq .ret) .skip)))))))).seq (((rg [xf 28 2 3,xl 29 28,xo 30 (.len (.t 29)),xo 31 (.mv (xk 0))]).seq (block 1 ((rg [xb 32 .lss 31 30]).seq ((XCode.cond (.t 32) .skip (.exit 1)).seq ((block 2 ((rg [xm 33 31,xo 34 (.iaddr 3 (.t 29) (.t 31)),xL 35 3 34,xa 8,xm 7 33,xS 3 8 35]).seq ((region [xL 36 3 8,xm 37 1,xf 38 0 3,xl 39 38,xm 40 7,xc 41 zf0 [.t 39,.t 40],xb 42 .add 37 41,xm 43 2,xc 44 ziz [.t 36,.t 42,.t 43],xo 45 (.un .not (.t 44))] (some [tT,tF,(false,[0]),(false,[0]),tF,(false,[0]),tF,tF,tF,tF])).seq (XCode.cond (.t 45) ((rg [xo 6 (.mv (xq false))]).seq .ret) .skip)))).seq (rg [xo 46 (.bin .add (.t 31) (xk 1)),xm 31 46])))).loop)).seq ((rg [xo 6 (.mv (xq true))]).seq .ret)))⟩
theorem zC6:cfn Tryz.prog Tryz.f214=some zpg:=by kernel_rfl
theorem zEo:FnP Tryz.prog ziz zpg:=zan hm Tryz.func214 zC6
end Ev
end Go.Proofs.YtncmainjcffanaaGreat
