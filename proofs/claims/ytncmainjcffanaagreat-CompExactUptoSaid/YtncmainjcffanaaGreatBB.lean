/- Several texts in one. -/
import Derived.Test.YtncmainjcffanaaGreatBA
import Derived.Test.YtncmainjcffanaaGreatSA
import Derived.RangeFuncNested
set_option maxRecDepth 100000
set_option linter.unusedSimpArgs false
set_option linter.unusedVariables false
open List renaming ext_getElem→ycw,foldl_cons→ycl,getElem?_eq_getElem→yar,getElem?_eq_none_iff→ybS,getElem?_eq_some_iff→yae,getElem?_map→yau,length_map→ycn
open Option renaming getD_none→ybI,getD_some→ybG
open Array renaming getD_eq_getD_getElem?→yaw,replicate→ybQ
/- tele.nest: what each part does. -/
namespace Go.Proofs.YtncmainjcffanaaGreat
namespace Ev
open Go
attribute [local simp] zaf zai tk tn tks
def PH (k:Int) (o:T) (h:Nat→Ent):Prop:=h 3=⟨1,.box [.d (.int .i64 k)] false⟩∧h 6=⟨1,.box [.d (.int .i64 0),.d (.int .i64 0),.fsl 3 []] false⟩ ∧
  ∃ cs,h 7=⟨1,.box [.d (.int .i64 o.kind),.d (.int .i64 o.num),cs] false⟩∧(cs = .d (.sl 3 (o.kids.map eT))∨cs = .fsl 3 (o.kids.map eT))
def PS (l:List T) (s:Nat→AV):Prop:=s 3 = .ptr 3 1 0∧s 6 = .ptr 6 1 0∧s 7 = .ptr 7 1 0∧s 13 = .d (.clo 201 [.rp [eTs l]])
theorem zJ2 (l:List T):Pure Tryz.prog zgx [eTs l] [.clo 201 [.rp [eTs l]]]:=by
  refine zlj rfl fun hs=>?_
  simp -dsimp [zd2,eTs]
theorem zBh (k:Int) (l:List T) (t:T) (ht:okT t):wpX Tryz.prog y0 (fun e st=>e = .normal∧wpX Tryz.prog y1 (fun e st=>e = .normal∧wpX Tryz.prog y2 (fun e st=>e = .normal∧PS l st.s∧PH k t st.h) st) st) ⟨zjv [.int .i64 k,eTs l,.agg (cT t)],zat⟩:=by
  have h1:=zpm t ht
  have h2:=zJ2 l
  simp only [cT] at h1
  simp only [eTs] at h2
  simp -dsimp [y0,y1,y2,cT,eTs]
  refine zaa h1 ?_
  simp -dsimp
  refine zaa h2 ?_
  simp -dsimp [PS,PH,eTs]
theorem zBg (k:Int) (o a:T) (ha:okT a) (s:Nat→AV) (h:Nat→Ent) (l:List T) (hs:PS l s) (h15:s 15 = .d (.agg (cT a))) (hh:PH k o h) :
    wpX Tryz.prog y3 (fun e st=>e = .normal∧PH k o st.h∧wpX Tryz.prog y4 (fun e st=>e = .normal∧PH k (.mk k 0 [a,o]) st.h) st) ⟨s,h⟩:=by
  obtain ⟨s1,s2,s3,s4⟩:=hs
  obtain ⟨e1,e2,cs,e3,e4⟩:=hh
  have h1:=zpm a ha
  have h2:=zAd k [a,o]
  simp only [cT] at h1
  simp only [List.map_cons,List.map_nil,zb4,cT] at h2
  rcases e4 with rfl | rfl
  all_goals
    simp -dsimp [y3,y4,cT,s1,s2,s3,s4,h15,e1,e2,e3]
    refine ⟨?_,?_⟩
    · simp [PH,e1,e2,e3]
    refine zaa h1 ?_
    simp -dsimp [s1,s2,s3,s4,h15,e1,e2,e3]
    refine zaa h2 ?_
    simp -dsimp [s1,s2,s3,s4,h15,e1,e2,e3,PH,zb4,cT]
theorem zDf (k:Int) (o:T) (s:Nat→AV) (h:Nat→Ent) (l:List T) (hs:PS l s) (hh:PH k o h):wpX Tryz.prog y5 (Ends [.cell 6 3 true] [.agg (cT o)]) ⟨s,h⟩:=by
  obtain ⟨s1,s2,s3,s4⟩:=hs
  obtain ⟨e1,e2,cs,e3,e4⟩:=hh
  rcases e4 with rfl | rfl
  all_goals simp -dsimp [y5,cT,s1,s2,s3,s4,e1,e2,e3]
end Ev
end Go.Proofs.YtncmainjcffanaaGreat
/- What stands behind the closure that slices.Backward hands back. -/
namespace Go.Proofs.YtncmainjcffanaaGreat
namespace Ev
open Go Go.RowKit
theorem zKz {St:Nat→Nat} {w:World} {v:Value} {f:FuncId} {l:List T} (h:Rel St w v (.clo f [.rp [eTs l]])):∃ Bs o A cap,∃ vs:Nat→Nat→Value,v = .func (.func f) #[] #[.pointer (some ⟨Bs,o,none⟩)]∧o<St Bs ∧
    w.cell? ⟨Bs,o,none⟩=some (.slice A l.length cap)∧(0<l.length → ∃ b off,A=some ⟨b,off,none⟩∧off+l.length*3≤St b ∧ ∀ i j,i<l.length→j<3→w.cell? ⟨b,off+i*3+j,none⟩=some (vs i j)) ∧
    ∀ i (h:i<l.length),Rel St w (.agg #[vs i 0,vs i 1,vs i 2]) (.agg (cT l[i])):=by
  cases h with
  | clo _ us _ hn hr =>
    have h0:=hr 0 _ rfl
    have hs:us = #[us.getD 0 undef]:=by
      have hn1:us.size=1:=by simpa using hn
      apply Array.ext
      · simp [hn1]
      · intro i h1 h2
        have:i=0:=by omega
        subst this
        simp [Array.getD,hn1]
    rw [hs]
    generalize us.getD 0 undef=u at h0
    cases h0 with
    | rp b off _ hb val hv h1 hr =>
      have hv0:=hv 0 _ rfl
      have hr0:=hr 0 _ rfl
      rw [Nat.add_zero] at hv0
      generalize val 0=x at hv0 hr0
      simp only [eTs] at hr0
      have hll:(l.map eT).length=l.length:=ycn ..
      generalize hm:l.map eT=ml at hr0 hll
      cases hr0 with
      | sl A cap _ b' off' _ hc hm' hs' ha val' hv' h1' hr' =>
        refine ⟨b,off,A,cap,val',rfl,by simp at hb; omega,by rw [hv0,hll],fun hp=>?_,fun i hi=>?_⟩
        · obtain ⟨e1,e2⟩:=ha (by omega)
          refine ⟨b',off',e1,by rw [← hll]; exact e2,fun i j hi hj=>?_⟩
          have hg:ml[i]? = some (eT l[i]):=by rw [← hm,yau,yar hi]; rfl
          have hj2:j<(eT l[i]).cells.length:=by rw [zmy]; simpa [cT] using hj
          exact hv' i _ hg j _ (yar hj2)
        · have hg:ml[i]? = some (eT l[i]):=by rw [← hm,yau,yar hi]; rfl
          refine .agg _ _ (by simp [cT]) fun j c hj=>?_
          have hj1:(eT l[i]).cells[j]? = some c:=by rw [zmy]; exact hj
          have hlt:=(yae.1 hj).1
          have hjl:j<3:=by simpa [cT] using hlt
          have:=hr' i _ hg j c hj1
          match j,hjl with
          | 0,_=>exact this
          | 1,_=>exact this
          | 2,_=>exact this
end Ev
end Go.Proofs.YtncmainjcffanaaGreat
/- Whatever reads as a term reads as no other; what a step keeps,told as the law of a range over a function asks for it. -/
namespace Go.Proofs.YtncmainjcffanaaGreat
namespace Ev
open Go Go.RowKit
theorem zHy {St:Nat→Nat} {w:World} {v:Value} {sz:Nat} {xs:List D} (h:Rel St w v (.sl sz xs)):∃ A cap b off,∃ val:Nat→Nat→Value,v = .slice A xs.length cap∧(0<xs.length→A=some ⟨b,off,none⟩) ∧
    (∀ (i:Nat) x,xs[i]? = some x → ∀ (j:Nat) c,x.cells[j]? = some c→w.cell? ⟨b,off+i*sz+j,none⟩=some (val i j)∧Rel St w (val i j) c):=by
  cases h with
  | sl A cap _ b off _ hc hm hs ha val hv h1 hr=>exact ⟨A,cap,b,off,val,rfl,fun hp=>(ha hp).1,fun i x hi j c hj=>⟨hv i x hi j c hj,hr i x hi j c hj⟩⟩
theorem zMc:∀ t:T,∀ (t':T) (vs:Nat→Value) (St St':Nat→Nat) (w:World),(∀ (j:Nat) c,(cT t)[j]? = some c→Rel St w (vs j) c)→(∀ (j:Nat) c,(cT t')[j]? = some c→Rel St' w (vs j) c)→t=t':=by
  refine T.ind (p:=fun t=>∀ (t':T) (vs:Nat→Value) (St St':Nat→Nat) (w:World),(∀ (j:Nat) c,(cT t)[j]? = some c→Rel St w (vs j) c)→(∀ (j:Nat) c,(cT t')[j]? = some c→Rel St' w (vs j) c)→t=t') ?_
  rintro k n ks ih ⟨k',n',ks'⟩ vs St St' w h h'
  have a0:=h 0 _ rfl
  have b0:=h' 0 _ rfl
  have a1:=h 1 _ rfl
  have b1:=h' 1 _ rfl
  have a2:=h 2 _ rfl
  have b2:=h' 2 _ rfl
  have e0:k=k':=by
    generalize vs 0=v at a0 b0
    cases a0
    cases b0
    rfl
  have e1:n=n':=by
    generalize vs 1=v at a1 b1
    cases a1
    cases b1
    rfl
  subst e0
  subst e1
  obtain ⟨A,cap,b,off,val,hv,hA,hc⟩:=zHy a2
  obtain ⟨A',cap',b',off',val',hv',hA',hc'⟩:=zHy b2
  rw [hv] at hv'
  simp only [Value.slice.injEq,ycn,T.kids] at hv'
  obtain ⟨eA,el,_⟩:=hv'
  subst eA
  congr 1
  refine ycw el fun i h1 h2=>?_
  simp only [T.kids,ycn] at hA hA' hc hc'
  have q:=hA (by omega)
  have q':=hA' (by omega)
  rw [q] at q'
  simp only [Option.some.injEq,Addr.mk.injEq,and_true] at q'
  obtain ⟨rfl,rfl⟩:=q'
  refine ih ks[i] (List.getElem_mem _) ks'[i] (fun j=>if j<3 then val i j else undef) St St' w (fun j c hj=>?_) (fun j c hj=>?_)
  · have hlt:=(yae.1 hj).1
    have hl3:j<3:=by simpa [cT] using hlt
    simp only [hl3,if_true]
    exact (hc i (eT ks[i]) (by simp [h1]) j c (by rw [zmy]; exact hj)).2
  · have hlt:=(yae.1 hj).1
    have hl3:j<3:=by simpa [cT] using hlt
    simp only [hl3,if_true]
    have g2:=hc' i (eT ks'[i]) (by simp [h2]) j c (by rw [zmy]; exact hj)
    have hj0:∃ c0,(cT ks[i])[j]? = some c0:=⟨_,yar (by simpa [cT] using hl3)⟩
    obtain ⟨c0,hj0⟩:=hj0
    have g1:=hc i (eT ks[i]) (by simp [h1]) j c0 (by rw [zmy]; exact hj0)
    have:=g1.1.symm.trans g2.1
    simp only [Option.some.injEq] at this
    rw [this]
    exact g2.2
theorem zK9 {k:Int} {o o':T} {G G':GS} {h h':Nat→Ent} {w:World} (i:Inv G h w) (i':Inv G' h' w) (p:PH k o h) (p':PH k o' h') (hd:G.hd 7=G'.hd 7):o=o':=by
  obtain ⟨_,_,cs,e,hc⟩:=p
  obtain ⟨_,_,cs',e',hc'⟩:=p'
  have a:=i.ent 7
  have a':=i'.ent 7
  rw [e] at a
  rw [e'] at a'
  obtain ⟨b,arr,el,hA,hh,hs,hr,_⟩:=a
  obtain ⟨b',arr',el',hA',hh',hs',hr',_⟩:=a'
  rw [hd,hA'] at hA
  simp only [Option.some.injEq,Addr.mk.injEq,and_true] at hA
  subst hA
  rw [hh] at hh'
  simp only [Option.some.injEq,Obj.cells.injEq,and_true] at hh'
  obtain ⟨rfl,_⟩:=hh'
  have fin:∀ {G:GS} {h:Nat→Ent} {o:T} {cs:AV},(cs = .d (.sl 3 (o.kids.map eT))∨cs = .fsl 3 (o.kids.map eT))→(∀ (j:Nat) c,[AV.d (.int .i64 o.kind),.d (.int .i64 o.num),cs][j]? = some c→ARel G h w (arr.getD j undef) c∧(arr.getD j undef).oneCell'=true) →
      ∀ (j:Nat) c,(cT o)[j]? = some c→Rel G.St w (arr.getD j undef) c:=by
    intro G h o cs hc hr j c hj
    have hlt:=(yae.1 hj).1
    have hl3:j<3:=by simpa [cT] using hlt
    match j,hl3,hj with
    | 0,_,hj=>cases hj; exact (hr 0 _ rfl).1.d_inv
    | 1,_,hj=>cases hj; exact (hr 1 _ rfl).1.d_inv
    | 2,_,hj =>
      cases hj
      have:=(hr 2 _ rfl).1
      rcases hc with rfl | rfl
      · exact this.d_inv
      · generalize arr.getD 2 undef=v at this
        cases this with
        | fsl A n _ _ hr=>exact hr
  exact zMc o o' _ _ _ w (fin hc hr) (fin hc' hr')
variable {nwI:Nw}
theorem zCf {G:GS} {h:Nat→Ent} {w:World} (i:Inv G h w) {k b:Nat} (ho:Owns G k b (h k).body):∃ arr el,w.heap[b]? = some (.cells arr el (0,0)):=by
  have he:=i.ent k
  have go:∀ (b':Nat) (arr:Array Value) (el:TypeId),(G.hd k).A=some ⟨b',0,none⟩→w.heap[b']? = some (.cells arr el (0,0))→(G.hd k).A=some ⟨b,0,none⟩ → ∃ arr el,w.heap[b]? = some (.cells arr el (0,0)):=fun b' arr el hA hheap ho'=>by
    rw [hA] at ho'
    simp only [Option.some.injEq,Addr.mk.injEq,and_true] at ho'
    subst ho'
    exact ⟨_,_,hheap⟩
  cases hb:(h k).body with
  | dead=>rw [hb] at ho; exact ho.elim
  | box cs fz =>
    rw [hb] at he ho
    obtain ⟨b',arr,el,hA,hheap,_⟩:=he
    exact go b' arr el hA hheap ho
  | row sz xs fz =>
    rw [hb] at he ho
    cases fz with
    | true =>
      rcases he.2 with hc | ⟨b',arr,el,hA,hheap,_⟩
      · exact absurd hc (ho.2 rfl)
      · exact go b' arr el hA hheap ho.1
    | false =>
      rcases he with ⟨z1,_⟩ | ⟨b',arr,el,hA,hheap,_⟩
      · have:=ho.1
        rw [z1] at this
        cases this
      · exact go b' arr el hA hheap ho.1
theorem Step.keepsFrom {G G':GS} {h h':Nat→Ent} {w w':World} (i:Inv G h w) (s:Step G h w G' h' w') (B:Nat):KeepsFrom B w w' :=
  ⟨s.left.size,fun b o _ hb ho=>(s.left.block b (Array.getElem?_eq_some_iff.1 hb).1 fun k hk=>by
    obtain ⟨arr,el,hc⟩:=zCf i hk
    rw [hb] at hc
    cases hc
    cases ho).1.trans hb⟩
theorem Step.kp {G0 G G':GS} {h0 h h':Nat→Ent} {w0 w w':World} (t:Step G0 h0 w0 G h w) (s:Step G h w G' h' w'):Kp G0.St w w' :=
  ⟨s.left.size,fun b i hi=>s.ext.keeps.cell b i (Nat.lt_of_lt_of_le hi (t.ext.keeps.st b))⟩
theorem Fr.reads {n:Nat} {G:GS} {st:S} {a:Act} {w w':World} (hk:zph w w') (fr:Fr n G st a w):Fr n G st a w':=⟨fr.inv.reads hk,fun i=>(fr.slots i).reads hk,fr.size⟩
end Ev
end Go.Proofs.YtncmainjcffanaaGreat
/- tele.nest. -/
namespace Go.Proofs.YtncmainjcffanaaGreat
namespace Ev
open Go Go.RowKit
def zB1 (k:Int) (l:List T) (t:T) (pre:List Nat):T:=pre.foldl (fun o i=>.mk k 0 [(l[i]?).getD (.mk 0 0 []),o]) t
def zku (k:Int) (l:List T) (t:T):T:=l.foldr (fun a o=>.mk k 0 [a,o]) t
theorem zDz (k:Int) (l:List T) (t:T):zB1 k l t (zlo l.length l.length)=zku k l t:=by
  have e:(zlo l.length l.length).map (fun i=>(l[i]?).getD (.mk 0 0 []))=l.reverse:=by
    refine ycw (by simp [zlo]) fun i h1 h2=>?_
    simp [zlo] at h1
    have h3:l.length - 1 - i<l.length:=by omega
    simp [zlo,yar h3]
  have e2:zB1 k l t (zlo l.length l.length)=((zlo l.length l.length).map (fun i=>(l[i]?).getD (.mk 0 0 []))).foldl (fun o a=>.mk k 0 [a,o]) t:=by
    rw [List.foldl_map]
    rfl
  rw [e2,e,List.foldl_reverse]
  rfl
theorem zJm (k:Int) (l:List T) (t:T) (hl:l.length≤1000000000) (ht:okT t) (hol:okTs l):Pure Tryz.prog 122 [.int .i64 k,eTs l,.agg (cT t)] [.agg (cT (zku k l t))]:=by
  obtain ⟨r0,r1,r2,id1,ag,bd,c3,hb,k0,k1,k2,k3,k4,k5⟩:=zCm
  refine ⟨⟨Tryz.f122,Tryz.func122,by decide,by rw [hb]; rfl⟩,fun St w vs hst0 hrel=>?_⟩
  refine (callsIn_wide (n:=5)).1 (callsIn_of_wp_marks (F:=FR none) Tryz.func122 hb trivial ?_ rfl)
  have hvl:vs.length=3:=hrel.1
  have fr:Fr 23 ⟨St,fun _=>⟨none,0⟩⟩ ⟨zjv [.int .i64 k,eTs l,.agg (cT t)],zat⟩ { tmps:=vs.toArray ++ ybQ (Tryz.f122.ntmps - vs.toArray.size) undef,defers:=[] } w:=by
    have hnt:Tryz.f122.ntmps=23:=Tryz.ntmps122
    refine ⟨⟨hst0,fun k=>trivial,fun k k' b h=>h.elim,Nat.zero_le _⟩,fun i=>?_,by rw [hnt]; simp; omega⟩
    simp only [zjv]
    cases hd:([.int .i64 k,eTs l,.agg (cT t)]:List D)[i]? with
    | none =>
      have hge:=ybS.1 hd
      have:(vs.toArray ++ ybQ (Tryz.f122.ntmps - vs.toArray.size) undef).getD i undef=undef:=by
        rw [yaw,Array.getElem?_append_right (by simp at hge ⊢; omega),Array.getElem?_replicate]
        split <;> rfl
      rw [this]
      exact .skip
    | some d =>
      have hlt:=(yae.1 hd).1
      have:(vs.toArray ++ ybQ (Tryz.f122.ntmps - vs.toArray.size) undef).getD i undef=vs.getD i undef:=by
        rw [yaw,Array.getElem?_append_left (by simp at hlt ⊢; omega)]
        simp
      rw [this]
      exact .d _ _ (hrel.2 i d hd)
  obtain ⟨a0,ha0⟩:∃ a0:Act,a0 = { tmps:=vs.toArray ++ ybQ (Tryz.f122.ntmps - vs.toArray.size) undef,defers:=[] }:=⟨_,rfl⟩
  rw [← ha0] at fr ⊢
  have hd0:a0.defers=[]:=by rw [ha0]
  refine wpIn_seq (wpIn_mono (zh1 (r:=none) hm r0 y0 k0 _ _ _ _ _ (zBh k l t ht) fr) ?_)
  rintro e a1 w1 ⟨ex,G1,st1,rfl,fr1,hs1,hd1,rfl,hw1⟩
  refine wpIn_seq (wpIn_mono (zh1 (r:=none) hm r1 y1 k1 _ _ _ _ _ hw1 fr1) ?_)
  rintro e a2 w2 ⟨ex,G2,st2,rfl,fr2,hs2,hd2,rfl,hw2⟩
  refine wpIn_seq (wpIn_seq (wpIn_mono (zh1 (r:=none) hm r2 y2 k2 _ _ _ _ _ hw2 fr2) ?_))
  rintro e a3 w3 ⟨ex,G3,st3,rfl,fr3,hs3,hd3,rfl,hps,hph⟩
  have hs03:Step ⟨St,fun _=>⟨none,0⟩⟩ zat w G3 st3.h w3:=(hs1.trans hs2).trans hs3
  have hd3':a3.defers=[]:=by rw [hd3,hd2,hd1,hd0]
  refine wpIn_block ?_
  have hclo:=fr3.slots 13
  rw [hps.2.2.2] at hclo
  obtain ⟨Bs,o,A,cap,vs0,hv13,hst,hcell,hrow,hel⟩:=zKz hclo.d_inv
  obtain ⟨vs',hvs'⟩:∃ vs':Nat→Nat→Value,vs'=fun i j=>if i<l.length then vs0 i j else (if j<2 then .int .i64 0 else .slice none 0 0):=⟨_,rfl⟩
  have hlo:∀ i j,i<l.length→vs' i j=vs0 i j:=fun i j h=>by rw [hvs']; simp only [h,if_true]
  obtain ⟨el,hel0⟩:∃ el:Nat→T,el=fun i=>(l[i]?).getD (.mk 0 0 []):=⟨_,rfl⟩
  have hok:∀ i,okT (el i):=fun i=>by
    rw [hel0]
    cases hi:l[i]? with
    | none=>simp only [hi,ybI]; exact zjn (k:=0) (n:=0) (by omega) (by omega)
    | some x=>simp only [hi,ybG]; exact hol.2 x (List.mem_of_getElem? hi)
  have hrel':∀ i,Rel G3.St w3 (.agg #[vs' i 0,vs' i 1,vs' i 2]) (.agg (cT (el i))):=fun i=>by
    rcases Nat.lt_or_ge i l.length with hlt | hge
    · have:=hel i hlt
      rw [hlo i 0 hlt,hlo i 1 hlt,hlo i 2 hlt,hel0]
      simp only [yar hlt,ybG]
      exact this
    · have hn:¬ i<l.length:=by omega
      have e0:el i = .mk 0 0 []:=by rw [hel0]; simp only [ybS.2 hge,ybI]
      rw [e0,hvs']
      simp only [hn,if_false]
      refine .agg _ _ rfl fun j c hj=>?_
      match j,hj with
      | 0,hj=>cases hj; exact .int _ _
      | 1,hj=>cases hj; exact .int _ _
      | 2,hj=>cases hj; exact .sl none 0 3 0 0 [] (by simp) (by simp) (by simp) (by simp) (fun _ _=>undef) (by simp) (by simp) (by simp)
  have hseq:=zBo (FR none) 4 trivial rfl (by omega) G3.St Bs o A l.length cap vs' (by omega) w3 fr3.inv.st hst hcell (fun hp=>by
    obtain ⟨b,off,e1,e2,e3⟩:=hrow hp
    exact ⟨b,off,e1,e2,fun i j hi hj=>by rw [hlo i j hi]; exact e3 i j hi hj⟩)
  let I:List Nat→World→Prop:=fun pre W=>∃ G h,Step G3 st3.h w3 G h W∧PH k (zB1 k l t pre) h
  let Ax:Nat→Act→World→Prop:=fun x a' W=>∃ G st o,Fr 23 G st a' W∧Step G3 st3.h w3 G st.h W∧PH k o st.h∧wpX Tryz.prog y4 (fun e st=>e = .normal∧PH k (.mk k 0 [el x,o]) st.h) st
  have hI:OwnFrom w3.heap.size I:=fun pre W W' row hi hg hr=>by
    obtain ⟨G,h,hs,hp⟩:=hi
    exact ⟨G,h,zq5 hs fr3.inv.st hg hr,hp⟩
  have hAx:∀ x a',OwnFrom w3.heap.size (fun (_:Unit) W=>Ax x a' W):=fun x a' _ W W' row hi hg hr=>by
    obtain ⟨G,st,o,fr,hs,hp,hw⟩:=hi
    exact ⟨G,st,o,fr.reads (zo2 hg fun r e=>(hr r e).2),zq5 hs fr3.inv.st hg hr,hp,hw⟩
  have hd7:∀ {G:GS} {h:Nat→Ent} {W:World} {o:T},Step G3 st3.h w3 G h W→PH k o h→G.hd 7=G3.hd 7:=fun {G h W o} hs hp=>by
    obtain ⟨_,_,cs,e,_⟩:=hp
    obtain ⟨_,_,cs3,e3,_⟩:=hph
    exact (hs.ext.same 7 (by rw [e,e3])).1
  refine wpIn_rangeFunc_ownH (F:=FR none) (n:=5) (α:=Nat) rfl (by omega) (gf:=201) (lb:=#[.pointer (some ⟨Bs,o,none⟩)]) hv13 trivial (Go.Proofs.enters_of Tryz.func201 (by kernel_rfl) rfl) hseq
    (fun h k=>Kp.trans h k) ?_ (Below.refl _ _) (fun _=>rfl) I (fun _ _ _=>False) hI (fun _ _ _ _ _ hs _ _=>hs) ⟨G3,st3.h,.refl fr3.inv,by rw [zB1]; exact hph⟩ Ax hAx ?assign ?body ?done ?stop
  · intro W b ob ob' hb hbe _ _
    refine ⟨by simp [World.putObj],fun c i hi=>?_⟩
    have hlt:=fr3.inv.st c (by omega)
    exact World.cell?_of_block (World.putObj_heap_other (by show c ≠ b; omega))
  case assign =>
    rintro r pre x W K ⟨G,h,hs,hp⟩ hK
    have fra:Fr 23 G ⟨upd (upd st3.s 14 (.d (.int .i64 (x:Int)))) 15 (.d (.agg (cT (el x)))),h⟩ { tmps:=((#[14,15]:Array Tmp).zip #[Value.int .i64 (x:Int),.agg #[vs' x 0,vs' x 1,vs' x 2]]).foldl (fun t (p,v)=>t.setIfInBounds p v) a3.tmps,defers:=[] } W:=by
      have hz:((#[14,15]:Array Tmp).zip #[Value.int .i64 (x:Int),.agg #[vs' x 0,vs' x 1,vs' x 2]]) = #[(14,Value.int .i64 (x:Int)),(15,.agg #[vs' x 0,vs' x 1,vs' x 2])]:=by simp
      rw [hz]
      refine ⟨hs.inv,fun i=>?_,by simp [fr3.size]⟩
      have hsz:=fr3.size
      simp only [List.foldl_toArray',ycl,List.foldl_nil,yaw,Array.getElem?_setIfInBounds,Array.size_setIfInBounds,upd]
      by_cases h15:i=15
      · subst h15
        simp only [if_true,hsz]
        exact .d _ _ ((hrel' x).keeps hs.ext.keeps)
      · by_cases h14:i=14
        · subst h14
          simp only [if_true,hsz,show ¬ (15=14) by omega,if_false,show ¬ (14=15) by omega]
          exact .d _ _ (.int _ _)
        · simp only [if_neg h15,if_neg h14,if_neg (Ne.symm h15),if_neg (Ne.symm h14)]
          have:=(fr3.slots i).ext hs.ext
          rwa [yaw] at this
    refine wpIn_mono (zh1 (r:=some r) (m:=3) hm ag y3 k3 _ _ _ _ _ (zBg k _ (el x) (hok x) _ h l (by simpa [PS,upd] using hps) rfl hp) fra) ?_
    rintro e a' W' ⟨ex,G',st',rfl,fr',hs',_,rfl,hp',hw'⟩
    exact hK a' W' (hs'.keepsFrom hs.inv _) (hs.kp hs') ⟨G',st'.h,hs.trans hs',hp'⟩ ⟨G',st',_,fr',hs.trans hs',hp',hw'⟩
  case body =>
    rintro r pre x a' W hr _ ⟨G1,h1,hs1',hp1⟩ ⟨G,st,o',fr,hs,hp,hw⟩ _
    have ho:zB1 k l t pre=o':=zK9 hs1'.inv hs.inv hp1 hp ((hd7 hs1' hp1).trans (hd7 hs hp).symm)
    subst ho
    refine wpIn_mono (zh1 (r:=some r) (m:=3) hm bd y4 k4 _ _ _ _ _ hw fr) ?_
    rintro e a2 W' ⟨ex,G',st',rfl,fr',hs',_,rfl,hp'⟩
    refine ⟨hs'.keepsFrom fr.inv _,hs.kp hs',⟨G',st'.h,hs.trans hs',?_⟩⟩
    simp only [zB1,List.foldl_append,ycl,List.foldl_nil]
    rw [hel0] at hp'
    exact hp'
  case done =>
    rintro D xs W hD rfl ⟨G,h,hs,hp⟩ hK
    rw [zDz] at hp
    have frd:Fr 23 G ⟨st3.s,h⟩ { a3 with defers:={ target:=.collected D,args:=#[] } :: a3.defers } W:=⟨hs.inv,fun i=>(fr3.slots i).ext hs.ext,fr3.size⟩
    refine wpIn_mono (zh1 (r:=none) hm c3 y5 k5 _ _ _ _ _ (zDf k _ _ h l hps hp) frd) ?_
    rintro e a' W' ⟨ex,G',st',rfl,fr',hs',hd',hend,vs2,hrv,hds⟩
    have hK':W'.heap[D]? = some (.deferred (some [])):=(hs'.keepsFrom hs.inv 0).same D _ (Nat.zero_le _) hK rfl
    have hR1:zph W' (W'.putObj D (.deferred none)):=zo2 (grownBy_putObj' _ D _) (fun r e=>by cases e; exact ⟨_,hK',rfl⟩)
    have hall0:Step ⟨St,fun _=>⟨none,0⟩⟩ zat w G' st'.h W':=hs03.trans (hs.trans hs')
    have hall1:=zq5 hall0 hst0 (grownBy_putObj' W' D (.deferred none)) fun r e=>by
      cases e
      exact ⟨Nat.le_trans hs03.left.size hD,_,hK',rfl⟩
    obtain ⟨us,h1,h2,h3⟩:=zej (P:=Tryz.prog) (a:=a') hall1.inv (fun i=>(fr'.slots i).reads hR1) Tryz.f122.results.toList _ _ (by kernel_rfl) hrv
    have hfin:=zed hall1.inv h2 h3 hds
    have hall:=hall1.trans (zbp hall1.inv (vs2.flatMap (sk st'.h deep)))
    have hno:∀ b k,¬ Owns (⟨St,fun _=>⟨none,0⟩⟩:GS) k b ((zat:Nat→Ent) k).body:=fun b k h=>h
    have hpost:(results Tryz.f122 a'.tmps).run Tryz.prog (W'.putObj D (.deferred none)) = .ok (za3 us) (W'.putObj D (.deferred none)):=ze7 h1
    have hL:LeavesInM (FR none) 5 Tryz.prog Tryz.f122 a'.tmps (fun e w'=>∃ St' us,e = .returned (za3 us)∧RelL St' w' us [.agg (cT (zku k l t))]∧Below w.heap.size w w'∧(∀ b,b<w.heap.size→St' b=St b)∧(∀ b,0<St' b→b<w'.heap.size)∧(∀ b,w.heap.size≤b→0<St' b→zgv w' b)) a'.defers .returning W':=by
      rw [hd',hd3']
      refine ⟨by simp,.inl ⟨D,_,rfl,run_takeDeferred hK',za3 us,hpost,?_⟩⟩
      exact ⟨_,us,rfl,hfin,⟨hall.left.os,hall.left.tape,hall.left.output,hall.left.size,fun b hb'=>(hall.left.block b hb' (hno b)).1⟩,fun b hb'=>(hall.left.block b hb' (hno b)).2,hall.inv.st,fun b hb' h0=>hall.fresh b (Nat.eq_zero_of_not_pos fun hp=>by have:=hst0 b hp; omega) h0⟩
    rcases hend with rfl | rfl
    · exact hL
    · exact hL
  case stop =>
    rintro D c pre W _ _ h _
    exact h.elim
end Ev
end Go.Proofs.YtncmainjcffanaaGreat
/- TeleVars. -/
namespace Go.Proofs.YtncmainjcffanaaGreat
namespace Ev
open Go
attribute [local simp] zaf zai tk tn tks
theorem zDq {n:Nat} {x:T} (h:x ∈ zdp n):∃ i:Nat,i<n∧x=tV ((n:Int) - 1 - i):=by
  rw [zdp] at h
  obtain ⟨i,hi,rfl⟩:=List.mem_map.1 h
  exact ⟨i,List.mem_range.1 hi,rfl⟩
end Ev
end Go.Proofs.YtncmainjcffanaaGreat
/- tele: telescopes put together and taken apart. -/
namespace Go.Proofs.YtncmainjcffanaaGreat
namespace Ev
open Go
attribute [local simp] zaf zai tk tn tks
theorem zFu (k:Int) (l:List T) (t:T) (hl:l.length≤1000000000) (ht:okT t) (hol:okTs l):Pure Tryz.prog zub [.int .i64 k,eTs l,.agg (cT t)] [.agg (cT (zku k l t))]:=zJm k l t hl ht hol
theorem zJx (l:List T) (t:T) (hl:l.length≤1000000000) (ht:okT t) (hol:okTs l):Pure Tryz.prog zn1 [eTs l,.agg (cT t)] [.agg (cT (zku 5 l t))]:=by
  refine zzd rfl fun hs=>?_
  have h:=zFu 5 l t hl ht hol
  simp only [cT,eTs] at h
  simp -dsimp [zn8,cT,eTs]
  refine zaa h ?_
  simp -dsimp [cT]
end Ev
end Go.Proofs.YtncmainjcffanaaGreat
