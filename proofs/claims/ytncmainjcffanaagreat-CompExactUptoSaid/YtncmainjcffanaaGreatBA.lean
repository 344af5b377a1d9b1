/- Several texts in one. -/
import Derived.RangeFuncBox
import Derived.RangeFuncLeaves
import Derived.Shelf.Abstract
import Derived.WalkKit
import Derived.OwnWalkIn
import Derived.TacticsInMore
import Derived.LoopNIn
import Derived.LoopIn
import Derived.Test.YtncmainjcffanaaGreatX
import Derived.Test.YtncmainjcffanaaGreatED
set_option maxRecDepth 100000
set_option linter.unusedSimpArgs false
set_option linter.unusedVariables false
open List renaming append_toArray→yct,cons_append→ycv,length_cons→yaS,length_nil→ybt,nil_append→ycu,push_toArray→ycs,size_toArray→yaJ
open Array renaming replicate_succ→ycq,replicate_zero→ycr
/- slices.Backward over terms: what it gives,turned from the kit's worked proof on slices.All. -/
namespace Go.Proofs.YtncmainjcffanaaGreat
namespace Ev
open Go Go.RowKit Go.Shelf
attribute [local go_sem] Oper.semAt_some
def zlo (n k:Nat):List Nat:=(List.range k).map fun j=>n - 1 - j
theorem zu4 (n k:Nat):zlo n (k+1)=zlo n k ++ [n - 1 - k]:=by simp [zlo,List.range_succ]
theorem zx7 (n k:Nat):(zlo n k).length=k:=by simp [zlo]
def Kp (St:Nat→Nat) (A B:World):Prop:=A.heap.size≤B.heap.size ∧ ∀ b i,i<St b→B.cell? ⟨b,i,none⟩=A.cell? ⟨b,i,none⟩
theorem Kp.refl (St:Nat→Nat) (A:World):Kp St A A:=⟨Nat.le_refl _,fun _ _ _=>rfl⟩
theorem Kp.trans {St:Nat→Nat} {A B C:World} (h:Kp St A B) (k:Kp St B C):Kp St A C:=⟨Nat.le_trans h.1 k.1,fun b i hi=>(k.2 b i hi).trans (h.2 b i hi)⟩
set_option maxRecDepth 100000 in
set_option maxHeartbeats 2000000 in
theorem zGz (F:Fence) (n:Nat) (h8:F.fn 201) (hro:F.round=none) (hn:1≤n) (St:Nat→Nat) (l Bs o b off len cap:Nat) (vs:Nat→Nat→Value) (hreach:len*40≤140737488351232) (ho:o<St Bs) (hb:off+len*3≤St b) (J Jx:List Nat→World→Prop)
    (hY:∀ (pre:List Nat) (x:Nat) (W:World),J pre W→pre.length<len→YieldAt F (n - 1) Tryz.prog l #[.int .i64 (x:Int),.agg #[vs x 0,vs x 1,vs x 2]] W fun e W' =>
      (e = .returned (.bool true)∧J (pre ++ [x]) W'∧Kp St W W')∨(e = .returned (.bool false)∧Jx (pre ++ [x]) W'))
    (W:World) (hBs:W.cell? ⟨Bs,o,none⟩=some (.slice (some ⟨b,off,none⟩) len cap)) (hc:∀ i j,i<len→j<3→W.cell? ⟨b,off+i*3+j,none⟩=some (vs i j)) (h0:J [] W) :
    CallsIn F n Tryz.prog 201 #[.func (.yield l) #[] #[],.pointer (some ⟨Bs,o,none⟩)] W fun e W'=>(∃ v,e = .returned v) ∧
      ((∃ ys,ys=zlo len len∧J ys W')∨(∃ pre,(∃ k,k≤len∧pre=zlo len k)∧Jx pre W')):=by
  refine callsIn_of_wp Tryz.func201 rfl h8 ?_ hro
  simp only [Tryz.ntmps201,yaJ,yaS,ybt,Nat.reduceAdd,Nat.reduceSub,ycq,ycr,ycs,yct,ycu,ycv]
  gi_wp2
  gi_loopw [3] (fun i wr=>∃ k:Nat,k≤len∧i = .int .i64 ((len:Int) - 1 - k)∧J (zlo len k) wr∧Kp St W wr)
    (fun i _=>(intOf i+1).toNat)
  case atStart=>exact ⟨0,Nat.zero_le _,by simp,h0,Kp.refl _ _⟩
  case round =>
    obtain ⟨k,hk,rfl,hJs,hnx⟩:=hrel
    have hcx:∀ i j,i<len→j<3→wr.cell? ⟨b,off+i*3+j,none⟩=some (vs i j):=fun i j hi hj=>(hnx.2 b (off+i*3+j) (by omega)).trans (hc i j hi hj)
    have hBs':=(hnx.2 Bs o ho).trans hBs
    by_cases hlt:k<len
    · obtain ⟨m,hm⟩:∃ m:Nat,m+1+k=len:=⟨len - 1 - k,by omega⟩
      have hmi:(len:Int) - 1 - k=(m:Int):=by omega
      have hmn:len - 1 - k=m:=by omega
      rw [hmi]
      obtain ⟨fn,tmps,assign,body,hy,hR⟩:=hY _ m wr hJs (by rw [zx7]; exact hlt)
      have c0:=hcx m 0 (by omega) (by omega)
      have c1:=hcx m 1 (by omega) (by omega)
      have c2:=hcx m 2 (by omega) (by omega)
      rw [Nat.add_zero] at c0
      gi_wp2
      refine hR.mono ?_
      rintro e W3 (⟨rfl,hJ3,hk3⟩ | ⟨rfl,hJx3⟩)
      · gi_wp2
        go_roundw
        case rel=>exact ⟨k+1,by omega,by congr 1; omega,by rw [zu4,hmn]; exact hJ3,hnx.trans hk3⟩
        case measure=>simp [intOf] <;> omega
      · gi_wp2
        refine bodyPost_ret (results_none rfl _ _ _) rfl ?_
        exact ⟨⟨_,rfl⟩,.inr ⟨_,⟨k+1,by omega,by rw [zu4,hmn]⟩,hJx3⟩⟩
    · obtain rfl:k=len:=by omega
      gi_wp2
      go_end0
      exact ⟨⟨_,rfl⟩,.inl ⟨_,rfl,hJs⟩⟩
set_option maxRecDepth 100000 in
set_option maxHeartbeats 1000000 in
theorem zBj (F:Fence) (n:Nat) (h8:F.fn 201) (hro:F.round=none) (l Bs o:Nat) (A:Option Addr) (cap:Nat) (J:List Nat→World→Prop) (W:World) (hBs:W.cell? ⟨Bs,o,none⟩=some (.slice A 0 cap)) (h0:J [] W) :
    CallsIn F n Tryz.prog 201 #[.func (.yield l) #[] #[],.pointer (some ⟨Bs,o,none⟩)] W fun e W'=>(∃ v,e = .returned v)∧J [] W':=by
  refine callsIn_of_wp Tryz.func201 rfl h8 ?_ hro
  simp only [Tryz.ntmps201,yaJ,yaS,ybt,Nat.reduceAdd,Nat.reduceSub,ycq,ycr,ycs,yct,ycu,ycv]
  gi_wp2
  gi_loopw [3] (fun i wr=>i = .int .i64 (-1)∧J [] wr) (fun _ _=>0)
  case atStart=>exact ⟨rfl,h0⟩
  case round =>
    obtain ⟨rfl,hJs⟩:=hrel
    gi_wp2
    go_end0
    exact ⟨⟨_,rfl⟩,hJs⟩
theorem zBo (F:Fence) (n:Nat) (h8:F.fn 201) (hro:F.round=none) (hn:1≤n) (St:Nat→Nat) (Bs o:Nat) (A:Option Addr) (len cap:Nat) (vs:Nat→Nat→Value) (hreach:len*40≤140737488351232) (w:World) (hst:∀ b,0<St b→b<w.heap.size) (ho:o<St Bs)
    (hc:w.cell? ⟨Bs,o,none⟩=some (.slice A len cap)) (hI:0<len → ∃ b off,A=some ⟨b,off,none⟩∧off+len*3≤St b ∧ ∀ i j,i<len→j<3→w.cell? ⟨b,off+i*3+j,none⟩=some (vs i j)) :
    SeqStopsK F n Tryz.prog 201 #[.pointer (some ⟨Bs,o,none⟩)] (fun x:Nat=>#[Value.int .i64 (x:Int),.agg #[vs x 0,vs x 1,vs x 2]]) (Kp St) (fun ys=>ys=zlo len len)
      (fun pre=>∃ k,k≤len∧pre=zlo len k) len w:=fun l J Jx W hW _ _ hY h0=>by
  have hc':=(hW.cell (p:=⟨Bs,o,none⟩) (hst Bs (by omega))).trans hc
  rcases Nat.eq_zero_or_pos len with rfl | hp
  · exact (zBj F n h8 hro l Bs o A cap J W hc' h0).mono fun e W' ⟨he,hj⟩=>⟨he,.inl ⟨_,rfl,hj⟩⟩
  · obtain ⟨b,off,rfl,hb,hcs⟩:=hI hp
    exact zGz F n h8 hro hn St l Bs o b off len cap vs hreach ho hb J Jx hY W hc' (fun i j hi hj=>(hW.cell (p:=⟨b,off+i*3+j,none⟩) (hst b (by omega))).trans (hcs i j hi hj)) h0
end Ev
end Go.Proofs.YtncmainjcffanaaGreat
/- tele.nest in its parts: each told in the small language. -/
namespace Go.Proofs.YtncmainjcffanaaGreat
namespace Ev
open Go
def y0:XCode:=.region [⟨some 3,.box (.t 0),none⟩,⟨some 5,.box (.t 2),none⟩,⟨some 6,.alloc [.d (.int .i64 0),.d (.int .i64 0),.fsl 3 []],none⟩] none
def y1:XCode:=.region [⟨some 10,.load 3 true (.t 5),none⟩,⟨some 11,.call (.c (.d (.clo 62 []))) [.t 10],none⟩,⟨some 7,.alloc [.d (.int .i64 0),.d (.int .i64 0),.fsl 3 []],none⟩,⟨none,.store 3 (.t 7) (.t 11),none⟩] none
def y2:XCode:=.region [⟨some 12,.mv (.t 1),none⟩,⟨some 13,.call (.c (.d (.clo 172 []))) [.t 12],none⟩] none
def y3:XCode:=.region [⟨some 9,.alloc [.d (.int .i64 0),.d (.int .i64 0),.fsl 3 []],none⟩,⟨none,.store 3 (.t 9) (.t 15),none⟩] none
def y4:XCode:=.block 1 (.region [⟨some 16,.load 1 false (.t 3),none⟩,⟨some 17,.load 3 true (.t 9),none⟩,⟨some 18,.call (.c (.d (.clo 62 []))) [.t 17],none⟩,⟨some 19,.load 3 true (.t 7),none⟩,
  ⟨some 20,.bslice (.agg [.int .i64 0,.int .i64 0,.sl 3 []]) 3 2 [(0,.t 18),(1,.t 19)],none⟩,⟨some 21,.call (.c (.d (.clo 58 []))) [.t 16,.t 20],none⟩,⟨none,.store 3 (.t 7) (.t 21),none⟩]
  (some [(true,[]),(true,[0]),(true,[0]),(false,[0,1,2]),(false,[0]),(false,[]),(false,[])]))
def y5:XCode:=(XCode.region [⟨some 22,.load 3 true (.t 7),none⟩,⟨none,.store 3 (.t 6) (.t 22),none⟩] none).seq .ret
theorem zCm:∃ r0 r1 r2 id1 ag bd c3,Tryz.f122.body=some (.seq r0 (.seq r1 (.seq (.seq r2 (.block id1 (.rangeFunc (.tmp 13) #[14,15] ag bd))) c3))) ∧
    zca Tryz.prog 23 r0=some y0∧zca Tryz.prog 23 r1=some y1∧zca Tryz.prog 23 r2=some y2∧zca Tryz.prog 23 ag=some y3∧zca Tryz.prog 23 bd=some y4∧zca Tryz.prog 23 c3=some y5 :=
  ⟨_,_,_,_,_,_,_,rfl,by kernel_rfl,by kernel_rfl,by kernel_rfl,by kernel_rfl,by kernel_rfl,by kernel_rfl⟩
end Ev
end Go.Proofs.YtncmainjcffanaaGreat
