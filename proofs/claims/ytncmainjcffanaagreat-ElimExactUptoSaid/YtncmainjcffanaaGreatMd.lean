/- Texts of this claim, in one. -/
import Derived.Test.YtncmainjcffanaaGreatMc
import Derived.Test.YtncmainjcffanaaGreatMb
import Derived.Test.YtncmainjcffanaaGreatMa
set_option maxRecDepth 100000
set_option linter.unusedSimpArgs false
set_option linter.unusedVariables false
open List renaming all_eq_true→yaC,cons_append→ycv,getElem?_eq_getElem→yar,getElem?_eq_some_iff→yae,getElem_mem→yaf,getElem_take→ydf,length_cons→yaS,length_eq_zero_iff→ycL,length_reverse→ycU,length_take→yaE,map_congr_left→ydh,map_nil→ycE,mem_cons→yaZ,mem_iff_getElem→ycM,mem_map→ybb,mem_range→ybE,nil_append→ycu,not_mem_nil→ycD,range→yai
open Nat renaming add_sub_cancel→ycT,le_trans→yac,lt_or_ge→ybm,zero_add→ybj
open Int renaming toNat_natCast→ycS
open Bool renaming and_eq_false_iff→ycX,and_eq_true→ybJ,eq_false_iff→ycW,not_eq_true'→ybK,true_and→ydg
namespace Go.Proofs.YtncmainjcffanaaGreat
namespace Ev
open Go
section
section
attribute [local simp] zaf zag tk tn tks zcl zcu zbq zbu zbt zc5
theorem zTv {p:Pl} {s:So} {k:Int}:∀ (n:Nat) (t:T),(spH t).kind=3→ofM p.b p.base (spH t).num=(4,k)→p.b.sorts[k.toNat]? = some s→(spA t).length≤s.idx.length→zae t≤n→zaj n p t=false:=by
  intro n
  induction n with
  | zero=>intro t _ _ _ _ h; have:=zkv t; omega
  | succ n ih =>
    intro t h3 ho hs hl hn
    obtain ⟨k0,m,ks⟩:=t
    by_cases hc:k0=6 ∧ ∃ a b,ks=[a,b]
    · obtain ⟨rfl,a,b,rfl⟩:=hc
      rw [(zjl m a b).2] at h3 ho
      rw [(zjl m a b).1,yaS] at hl
      have hd:decG (zaj n p) p (.mk 6 m [a,b])=false:=by
        rw [decG,(zjl m a b).1,(zjl m a b).2,if_pos h3,ho]
        simp only [if_true,hs]
        rw [if_neg]
        rw [yaS]; omega
      have e:zaj (n+1) p (.mk 6 m [a,b])=allI (fun i x=>zaj n (p.fwd (zak 6 i)) x) 0 [a,b]:=by
        have e0:zaj (n+1) p (.mk 6 m [a,b])=if (6:Int)=1 then !zbb p (.mk 6 m [a,b]) else if (6:Int)=3 then decide ((ofM p.b p.base m).1=0) else if (6:Int)=6∧decG (zaj n p) p (.mk 6 m [a,b])=true then true else allI (fun i x=>zaj n (p.fwd (zak 6 i)) x) 0 [a,b]:=rfl
        rw [e0,if_neg (by decide),if_neg (by decide),if_neg (by rw [hd]; simp)]
      have hb0:zak 6 ((0:Nat):Int)=0:=rfl
      have hp0:p.fwd 0=p:=by rw [Pl.fwd,Int.add_zero]
      rw [zCg] at hn
      rw [e,allI,hb0,hp0,ih a h3 ho hs (by omega) (by omega)]
      rfl
    · rw [(zg4 hc).2] at h3 ho
      have h3':k0=3:=h3
      have ho':ofM p.b p.base m=(4,k):=ho
      have e0:zaj (n+1) p (.mk k0 m ks)=if k0=1 then !zbb p (.mk k0 m ks) else if k0=3 then decide ((ofM p.b p.base m).1=0) else if k0=6∧decG (zaj n p) p (.mk k0 m ks)=true then true else allI (fun i x=>zaj n (p.fwd (zak k0 i)) x) 0 ks:=rfl
      rw [e0,if_neg (by omega),if_pos h3',ho']
      rfl
def decD (cl:T→Bool) (p:Pl) (A:List T):Bool:=match A.getLast? with
  | some z=>zbb p (spH z) && ((A.dropLast.all cl) && ((spA z).reverse.all cl))
  | none=>false
theorem zrz {l:List T} {cl:T→Bool}:l.all cl=true ↔ ∀ (j:Nat) (hj:j<l.length),cl l[j]=true:=by
  rw [yaC]
  exact ⟨fun h j hj=>h _ (yaf hj),fun h x hx=>by obtain ⟨j,hj,rfl⟩:=ycM.1 hx; exact h j hj⟩
set_option maxHeartbeats 1000000 in
theorem zFj (p:Pl) (h0:0≤p.more) (h1:p.more≤1000000000) (hl:p.args.length≤1000000) (A:List T) (hA:A ≠ []) (hAl:A.length≤1000000) (cl:T→Bool) (ho:∀ x ∈ A,okT x∧zac x=true∧zae x≤1000000)
    (h:∀ x,okT x→zac x=true→(x ∈ A ∨ ∃ z ∈ A,x ∈ spA z)→Pure Tryz.prog zai [.agg (rp p),.agg (cT x)] [.bool (cl x)]) :
    Pure Tryz.prog zdm [.agg (rp p),eTs A] [.bool (decD cl p A)]:=by
  obtain ⟨N,hN⟩:∃ N,A.length=N+1:=⟨A.length - 1,by have:=List.length_pos_iff.2 hA; omega⟩
  have hz:N<A.length:=by omega
  have hgl:A.getLast? = some A[N]:=by rw [List.getLast?_eq_getElem?,hN,ycT,yar hz]
  have hdl:A.dropLast=A.take N:=by rw [List.dropLast_eq_take,hN,ycT]
  have hD:decD cl p A=(zbb p (spH A[N]) && ((A.take N).all cl && (spA A[N]).reverse.all cl)):=by rw [decD,hgl,hdl]
  generalize hV:decD cl p A=V at *
  have hA1:∀ (i:Nat) (hi:i<N),cl A[i]=false→V=false:=fun i hi hc=>by
    rw [hD]
    have:(A.take N).all cl=false:=by
      rw [ycW]
      intro h2
      have:=zrz.1 h2 i (by rw [yaE]; omega)
      rw [ydf,hc] at this
      cases this
    rw [this]; simp
  obtain ⟨z1,z2,z3⟩:=ho _ (yaf hz)
  have hsl:=zuf A[N]
  obtain ⟨oH,oAr⟩:=(zlx A[N]).2 z1
  obtain ⟨fH,fAr⟩:=znr A[N] z2
  have hU:=zmt A[N] z1 (by omega)
  have hCx:∀ (i:Nat) (hi:i<A.length),Pure Tryz.prog zai [.agg (rp p),.agg (cT A[i])] [.bool (cl A[i])]:=fun i hi=>by
    obtain ⟨x1,x2,x3⟩:=ho _ (yaf hi)
    exact h _ x1 x2 (.inl (yaf hi))
  have hCz:∀ x ∈ (spA A[N]).reverse,Pure Tryz.prog zai [.agg (rp p),.agg (cT x)] [.bool (cl x)]:=fun x hx=>by
    have hx':x ∈ spA A[N]:=by simpa using hx
    exact h x (oAr x hx') (fAr x hx') (.inr ⟨_,yaf hz,hx'⟩)
  refine zlo rfl fun hs=>?_
  have w0:IntKind.i64.wrap ((A.length:Int) - 1)=(N:Int):=by rw [zab (by omega) (by omega)]; omega
  simp -dsimp [zdo,eTs,rp,cBl]
  refine zah N (fun i st=>(st.s 2 = .ptr 2 1 0∧st.h 2=⟨1,.box [.d (eSos p.b.sorts),.d (eCos p.b.cons),.d (.int .i64 p.b.elim),.d (.int .i64 p.base),.d (.sl 1 ((vrs p).map (.int .i64))),.d (eArs p.args)] false⟩)∧st.s 1 = .d (eTs A)∧st.s 5 = .d (.int .i64 i) ∧
    ∀ (j:Nat) (hj:j<N),j<i→cl (A[j]'(by omega))=true) ?_ ?_
  · simp -dsimp [eTs]
  · rintro i ⟨s,hp⟩ hi ⟨⟨g2,k2⟩,g1,g5,g⟩
    dsimp only at g2 k2 g1 g5
    simp only [eTs] at g1
    rcases ybm i N with hlt | hge
    · have w1:IntKind.i64.wrap ((i:Int)+1)=(i:Int)+1:=zab (by omega) (by omega)
      have hltA:i<A.length:=by omega
      have hC:=hCx i hltA
      have hA1i:=hA1 i hlt
      have hnx:cl A[i]=true → ∀ (j:Nat) (hj:j<N),j<i+1→cl (A[j]'(by omega))=true:=fun h j hj hji=>by
        rcases ybm j i with h' | h'
        · exact g j hj h'
        · have:j=i:=by omega
          subst this
          exact h
      generalize hX:A[i]=X at *
      simp only [rp,cBl,cT,ycv,ycu] at hC
      simp -dsimp [g2,k2,g1,g5,w0,hlt,hltA,hX,cT]
      refine zaa hC ?_
      cases hc:cl X with
      | false =>
        have hv:=hA1i hc
        simp -dsimp [g2,k2,g1,g5,hv]
      | true =>
        have hnx':=hnx hc
        simp -dsimp [g2,k2,g1,g5,hlt,w1,eTs]
        exact hnx'
    · have ei:i=N:=by omega
      subst ei
      have hall:(A.take i).all cl=true:=zrz.2 fun j hj=>by
        rw [ydf]
        rw [yaE] at hj
        exact g j (by omega) (by omega)
      rw [hall,ydg] at hD
      have hle:spH A[i] = .mk 1 (spH A[i]).num []∨(spH A[i]).kind ≠ 1:=by
        by_cases hk:(spH A[i]).kind=1
        · refine .inl ?_
          generalize spH A[i]=H at *
          obtain ⟨k,m,ks⟩:=H
          have hk':k=1:=hk
          subst hk'
          rw [zln rfl fH]
          rfl
        · exact .inr hk
      have hZlen:(spA A[i]).reverse.length≤1000000:=by rw [ycU]; omega
      have hgk:zbb p (spH A[i])=true→(spH A[i]).kind=1:=fun h=>(zrw h).1
      generalize hZ:A[i]=z at *
      generalize hHz:spH z=H at *
      generalize (spA z).reverse=Z at *
      simp only [cT] at hU
      simp -dsimp [g2,k2,g1,g5,w0,hz,hZ,cT]
      refine zcn hU (by simp [za1,zb2,RV.cells]) ?_
      by_cases hk:H.kind=1
      case neg =>
        have hv:V=false:=by
          rw [hD]
          have:zbb p H=false:=by rw [ycW]; intro h; exact hk (hgk h)
          rw [this]; rfl
        simp -dsimp [g2,k2,g1,g5,hk,hv]
      have hHe:=hle.resolve_right (fun h=>h hk)
      have hn0:0≤H.num:=by
        rw [hHe] at fH
        exact (zds rfl fH).1
      have hG:=zol p H.num hn0 h0 h1 hl
      obtain ⟨gn1,gn2⟩:=zC9 p H.num
      rw [← hHe] at gn1 gn2
      simp only [rp,cBl,ycv,ycu] at hG
      simp -dsimp [g2,k2,g1,g5,hk]
      refine zaa hG ?_
      by_cases hg:zbb p H=true
      case neg =>
        have hg':zbb p H=false:=by simpa using hg
        have hlt0:=gn1.2 hg'
        have hv:V=false:=by rw [hD,hg']; rfl
        simp -dsimp [g2,k2,g1,g5,hk,hlt0,hv]
      have hge0:¬ grd p H.num<0:=fun h=>by rw [gn1.1 h] at hg; cases hg
      have hZl:∀ (j:Nat) (hj:j<Z.length),Pure Tryz.prog zai [.agg (rp p),.agg (cT Z[j])] [.bool (cl Z[j])]:=fun j hj=>hCz _ (yaf hj)
      rw [hg,ydg] at hD
      have hB2:∀ (j:Nat) (hj:j<Z.length),cl Z[j]=false→V=false:=fun j hj hc=>by
        rw [hD,ycW]
        intro h2
        have:=zrz.1 h2 j hj
        rw [hc] at this
        cases this
      have hZle:Z.length≤1000000:=hZlen
      simp -dsimp [g2,k2,g1,g5,hk,hge0]
      refine zah Z.length (fun j st=>(st.s 2 = .ptr 2 1 0∧st.h 2=⟨1,.box [.d (eSos p.b.sorts),.d (eCos p.b.cons),.d (.int .i64 p.b.elim),.d (.int .i64 p.base),.d (.sl 1 ((vrs p).map (.int .i64))),.d (eArs p.args)] false⟩) ∧
        (st.s 7 = .rsl 30 ((hp 30).ver+1)∧st.h 30=⟨(hp 30).ver+1,.row 3 (Z.map eT) false⟩)∧st.s 8 = .d (.int .i64 j) ∧ ∀ (m:Nat) (hm:m<Z.length),m<j→cl Z[m]=true) ?_ ?_
      · simp -dsimp [g2,k2,g1,g5]
      · clear g2 k2 g1 g5
        rintro j ⟨s,hq⟩ hj ⟨⟨g2,k2⟩,⟨g7,k30⟩,g8,gz⟩
        dsimp only at g2 k2 g7 k30 g8
        rcases ybm j Z.length with hlt2 | hge2
        · have w1:IntKind.i64.wrap ((j:Int)+1)=(j:Int)+1:=zab (by omega) (by omega)
          have hC:=hZl j hlt2
          have hB2j:=hB2 j hlt2
          have hnx:cl Z[j]=true → ∀ (m:Nat) (hm:m<Z.length),m<j+1→cl Z[m]=true:=fun h m hm hmj=>by
            rcases ybm m j with h' | h'
            · exact gz m hm h'
            · have:m=j:=by omega
              subst this
              exact h
          generalize hY:Z[j]=Y at *
          simp only [rp,cBl,cT,ycv,ycu] at hC
          simp -dsimp [g2,k2,g7,k30,g8,hlt2,hY,cT]
          refine zaa hC ?_
          cases hc:cl Y with
          | false =>
            have hv:=hB2j hc
            simp -dsimp [g2,k2,g7,k30,g8,hv]
          | true =>
            have hnx':=hnx hc
            simp -dsimp [g2,k2,g7,k30,g8,hlt2,w1]
            exact hnx'
        · have ej:j=Z.length:=by omega
          subst ej
          have hv:V=true:=by rw [hD]; exact zrz.2 fun m hm=>gz m hm hm
          simp -dsimp [g2,k2,g7,k30,g8,hv]
structure Pok (p:Pl):Prop where
  m0:0≤p.more
  al:p.args.length≤1000
  fit:Fit p.b
  si:∀ s ∈ p.b.sorts,s.idx.length≤20
  ca:∀ c ∈ p.b.cons,c.args.length≤20
theorem Pok.fwd {p:Pl} (h:Pok p) {n:Int} (hn:0≤n):Pok (p.fwd n):=⟨by have:=h.m0; simp only [Pl.fwd]; omega,h.al,h.fit,h.si,h.ca⟩
set_option maxHeartbeats 4000000 in
theorem zng:∀ (n:Nat),n≤1000000 → ∀ (p:Pl) (t:T),Pok p→p.more+zae t≤1000000000→okT t→zac t=true→zae t≤n →
    Pure Tryz.prog zai [.agg (rp p),.agg (cT t)] [.bool (zaj n p t)]:=by
  intro n
  induction n with
  | zero=>intro _ p t _ _ _ _ h; have:=zkv t; omega
  | succ n ih =>
    intro hN p t hp hm ot ft hn
    have h0:=hp.m0
    have hal:=hp.al
    have hfs:=hp.fit.s
    have hrec:∀ x,okT x→zac x=true→zae x<zae t→Pure Tryz.prog zai [.agg (rp p),.agg (cT x)] [.bool (zaj n p x)]:=fun x ox fx hx=>ih (by omega) p x hp (by omega) ox fx (by omega)
    have hkl:=zJn ot
    have hO:=zJ3 p.b hp.fit p.base t.num ot.num64
    obtain ⟨oH,oA⟩:=(zlx t).2 ot
    have mA:=(zlx t).1
    obtain ⟨fH,fA⟩:=znr t ft
    have hO2:=zJ3 p.b hp.fit p.base (spH t).num oH.num64
    have hsl:=zuf t
    have hU:=zmt t ot (by omega)
    generalize hV0:zaj (n+1) p t=V0
    by_cases c1:t.kind=1
    · have hn0:0≤t.num:=by obtain ⟨k,m,ks⟩:=t; exact (zds c1 ft).1
      have hG:=zol p t.num hn0 h0 (by omega) (by omega)
      have hte:t = .mk 1 t.num []:=by
        obtain ⟨k,m,ks⟩:=t
        have c1':k=1:=c1
        subst c1'
        rw [zln rfl ft]; rfl
      obtain ⟨gn1,_⟩:=zC9 p t.num
      rw [← hte] at gn1
      have hv:V0=decide (grd p t.num<0):=by
        rw [← hV0,zaj,if_pos c1,Bool.eq_iff_iff,ybK,decide_eq_true_eq]
        exact gn1.symm
      rw [hv]
      refine za7 rfl fun hs=>?_
      simp only [rp,cBl,ycv,ycu] at hG
      simp -dsimp [zaz,rp,cBl,cT,c1]
      refine zaa hG ?_
      simp -dsimp [c1]
    by_cases c3:t.kind=3
    · have hv:V0=decide ((ofM p.b p.base t.num).1=0):=by rw [← hV0,zaj,if_neg c1,if_pos c3]
      rw [hv]
      refine za7 rfl fun hs=>?_
      simp only [eBl,cBl] at hO
      simp -dsimp [zaz,rp,cBl,cT,c1,c3]
      refine zaa hO ?_
      simp -dsimp [c1,c3]
    have hkid:∀ (i:Nat) (hi:i<t.kids.length),Pure Tryz.prog zb4 [.int .i64 t.kind,.int .i64 i] [.int .i64 (zak t.kind i)]∧Pure Tryz.prog za9 [.agg (rp p),.int .i64 (zak t.kind i)] [.agg (rp (p.fwd (zak t.kind i)))] ∧
        Pure Tryz.prog zai [.agg (rp (p.fwd (zak t.kind i))),.agg (cT t.kids[i])] [.bool (zaj n (p.fwd (zak t.kind i)) t.kids[i])]:=fun i hi=>by
      have hbl:=zco t.kind i
      have hkn:=zAs t (yaf hi)
      have hM:=zI7 p (zak t.kind i).toNat (by omega) h0 (by omega) (by omega)
      rw [show (((zak t.kind i).toNat:Nat):Int)=zak t.kind i by omega] at hM
      have fk:zac t.kids[i]=true:=by obtain ⟨k,m,ks⟩:=t; exact zbn ft _ (yaf hi)
      exact ⟨zus _ _,hM,ih (by omega) _ _ (hp.fwd (by omega)) (by simp only [Pl.fwd]; omega) (zNp ot (yaf hi)) fk (by omega)⟩
    have hkids:(¬ decG (zaj n p) p t=true)→V0=allI (fun i x=>zaj n (p.fwd (zak t.kind i)) x) 0 t.kids:=fun h=>by
      rw [← hV0,zaj,if_neg c1,if_neg c3,if_neg (fun h'=>h h'.2)]
    have hdec:∀ k s,(spH t).kind=3→ofM p.b p.base (spH t).num=(4,k)→p.b.sorts[k.toNat]? = some s→(spA t).length=s.idx.length+1→V0=decD (zaj n p) p (spA t).reverse:=fun k s h3 ho hs hll=>by
      have hd:decG (zaj n p) p t=decD (zaj n p) p (spA t).reverse:=by
        rw [decG,if_pos h3,ho]
        simp only [if_true,hs]
        rw [if_pos (by omega),decD]
        rfl
      by_cases hg:decG (zaj n p) p t=true
      · have h6:t.kind=6:=by
          obtain ⟨k0,m,ks⟩:=t
          by_cases hc:k0=6 ∧ ∃ a b,ks=[a,b]
          · exact hc.1
          · rw [(zg4 hc).1] at hll; simp at hll
        rw [← hV0,zaj,if_neg c1,if_neg c3,if_pos ⟨h6,hg⟩,← hd,hg]
      · rw [hkids hg,← hd]
        have hg':decG (zaj n p) p t=false:=by simpa using hg
        rw [hg',ycW]
        intro hall
        obtain ⟨k0,m,ks⟩:=t
        by_cases hc:k0=6 ∧ ∃ a b,ks=[a,b]
        · obtain ⟨rfl,a,b,rfl⟩:=hc
          rw [(zjl m a b).2] at h3 ho
          rw [(zjl m a b).1,yaS] at hll
          rw [zCg] at hn
          have:=(zaq _ _ _).1 hall 0 (by simp [T.kids])
          have hp0:p.fwd 0=p:=by rw [Pl.fwd,Int.add_zero]
          rw [show zak (T.mk 6 m [a,b]).kind ((0+0:Nat):Int)=0 from rfl,hp0] at this
          have e:(T.mk 6 m [a,b]).kids[0]=a:=rfl
          rw [e,zTv n a h3 ho hs (by omega) (by omega)] at this
          cases this
        · rw [(zg4 hc).1] at hll; simp at hll
    by_cases d3:(spH t).kind=3
    case neg =>
      have hV:=hkids (by rw [decG,if_neg d3]; simp)
      generalize V0=V at hV ⊢
      refine za7 rfl fun hs=>?_
      simp only [cT] at hU
      simp -dsimp [zaz,rp,cBl,cT,c1,c3]
      refine zcn hU (by simp [za1,zb2,RV.cells]) ?_
      simp -dsimp [d3]
      refine zah t.kids.length (fun i st=>(st.s 2 = .ptr 2 1 0∧st.h 2=⟨1,.box [.d (eSos p.b.sorts),.d (eCos p.b.cons),.d (.int .i64 p.b.elim),.d (.int .i64 p.base),.d (.sl 1 ((vrs p).map (.int .i64))),.d (eArs p.args)] false⟩) ∧
        (st.s 3 = .ptr 3 1 0∧st.h 3=⟨1,.box [.d (.int .i64 t.kind),.d (.int .i64 t.num),.d (.sl 3 (t.kids.map eT))] false⟩)∧st.s 11 = .d (.int .i64 i) ∧ ∀ (j:Nat) (hj:j<t.kids.length),j<i→zaj n (p.fwd (zak t.kind j)) t.kids[j]=true) ?_ ?_
      · simp -dsimp []
      · rintro i ⟨s,hp⟩ hi ⟨⟨g2,k2⟩,⟨g3,k3⟩,g11,g⟩
        dsimp only at g2 k2 g3 k3 g11
        rcases ybm i t.kids.length with hlt | hge
        · have w1:IntKind.i64.wrap ((i:Int)+1)=(i:Int)+1:=zab (by omega) (by omega)
          obtain ⟨hB,hMo,hI⟩:=hkid i hlt
          have hnx:zaj n (p.fwd (zak t.kind i)) t.kids[i]=true → ∀ (j:Nat) (hj:j<t.kids.length),j<i+1→zaj n (p.fwd (zak t.kind j)) t.kids[j]=true:=fun h j hj hji=>by
            rcases ybm j i with h' | h'
            · exact g j hj h'
            · have:j=i:=by omega
              subst this
              exact h
          have hbad:zaj n (p.fwd (zak t.kind i)) t.kids[i]=false→V=false:=fun h=>by
            rw [hV,ycW]
            intro h2
            have:=(zaq _ _ _).1 h2 i hlt
            rw [ybj,h] at this
            cases this
          generalize zaj n (p.fwd (zak t.kind i)) t.kids[i]=Z at *
          generalize hX:t.kids[i]=X at *
          generalize rp (p.fwd (zak t.kind i))=RP at *
          simp only [rp,cBl,cT,ycv,ycu] at hMo hI
          simp -dsimp [g2,k2,g3,k3,g11,hlt,hX,cT]
          refine zaa hB ?_
          simp -dsimp [g2,k2,g3,k3,g11,hlt,hX,cT]
          refine zaa hMo ?_
          simp -dsimp [g2,k2,g3,k3,g11,hlt,hX,cT]
          refine zaa hI ?_
          cases Z with
          | false =>
            have:=hbad rfl
            simp -dsimp [g2,k2,g3,k3,g11,this]
          | true =>
            have hnx':=hnx rfl
            simp -dsimp [g2,k2,g3,k3,g11,hlt,w1]
            exact hnx'
        · have e:i=t.kids.length:=by omega
          subst e
          have hv:V=true:=by rw [hV]; exact (zaq _ _ _).2 fun j hj=>by rw [ybj]; exact g j hj hj
          simp -dsimp [g2,k2,g3,k3,g11,hv]
    by_cases dl:(spA t).length=0
    case pos =>
      have hV:=hkids (by
        rw [decG,if_pos d3]
        intro h
        split at h
        · split at h
          · split at h
            · omega
            · cases h
          · cases h
        · cases h)
      have dl':spA t=[]:=ycL.1 dl
      generalize V0=V at hV ⊢
      refine za7 rfl fun hs=>?_
      simp only [cT,dl',List.reverse_nil,ycE] at hU
      simp -dsimp [zaz,rp,cBl,cT,c1,c3]
      refine zcn hU (by simp [za1,zb2,RV.cells]) ?_
      simp -dsimp [d3]
      refine zah t.kids.length (fun i st=>(st.s 2 = .ptr 2 1 0∧st.h 2=⟨1,.box [.d (eSos p.b.sorts),.d (eCos p.b.cons),.d (.int .i64 p.b.elim),.d (.int .i64 p.base),.d (.sl 1 ((vrs p).map (.int .i64))),.d (eArs p.args)] false⟩) ∧
        (st.s 3 = .ptr 3 1 0∧st.h 3=⟨1,.box [.d (.int .i64 t.kind),.d (.int .i64 t.num),.d (.sl 3 (t.kids.map eT))] false⟩)∧st.s 11 = .d (.int .i64 i) ∧ ∀ (j:Nat) (hj:j<t.kids.length),j<i→zaj n (p.fwd (zak t.kind j)) t.kids[j]=true) ?_ ?_
      · simp -dsimp []
      · rintro i ⟨s,hp⟩ hi ⟨⟨g2,k2⟩,⟨g3,k3⟩,g11,g⟩
        dsimp only at g2 k2 g3 k3 g11
        rcases ybm i t.kids.length with hlt | hge
        · have w1:IntKind.i64.wrap ((i:Int)+1)=(i:Int)+1:=zab (by omega) (by omega)
          obtain ⟨hB,hMo,hI⟩:=hkid i hlt
          have hnx:zaj n (p.fwd (zak t.kind i)) t.kids[i]=true → ∀ (j:Nat) (hj:j<t.kids.length),j<i+1→zaj n (p.fwd (zak t.kind j)) t.kids[j]=true:=fun h j hj hji=>by
            rcases ybm j i with h' | h'
            · exact g j hj h'
            · have:j=i:=by omega
              subst this
              exact h
          have hbad:zaj n (p.fwd (zak t.kind i)) t.kids[i]=false→V=false:=fun h=>by
            rw [hV,ycW]
            intro h2
            have:=(zaq _ _ _).1 h2 i hlt
            rw [ybj,h] at this
            cases this
          generalize zaj n (p.fwd (zak t.kind i)) t.kids[i]=Z at *
          generalize hX:t.kids[i]=X at *
          generalize rp (p.fwd (zak t.kind i))=RP at *
          simp only [rp,cBl,cT,ycv,ycu] at hMo hI
          simp -dsimp [g2,k2,g3,k3,g11,hlt,hX,cT]
          refine zaa hB ?_
          simp -dsimp [g2,k2,g3,k3,g11,hlt,hX,cT]
          refine zaa hMo ?_
          simp -dsimp [g2,k2,g3,k3,g11,hlt,hX,cT]
          refine zaa hI ?_
          cases Z with
          | false =>
            have:=hbad rfl
            simp -dsimp [g2,k2,g3,k3,g11,this]
          | true =>
            have hnx':=hnx rfl
            simp -dsimp [g2,k2,g3,k3,g11,hlt,w1]
            exact hnx'
        · have e:i=t.kids.length:=by omega
          subst e
          have hv:V=true:=by rw [hV]; exact (zaq _ _ _).2 fun j hj=>by rw [ybj]; exact g j hj hj
          simp -dsimp [g2,k2,g3,k3,g11,hv]
    have dl0:¬ spA t=[]:=fun h=>dl (by rw [h]; rfl)
    have dl1:0<(spA t).length:=by omega
    by_cases d4:(ofM p.b p.base (spH t).num).1=4
    case neg =>
      have hV:=hkids (by rw [decG,if_pos d3,if_neg d4]; simp)
      generalize V0=V at hV ⊢
      generalize ofM p.b p.base (spH t).num=o at *
      refine za7 rfl fun hs=>?_
      simp only [cT] at hU
      simp only [eBl,cBl] at hO2
      simp -dsimp [zaz,rp,cBl,cT,c1,c3]
      refine zcn hU (by simp [za1,zb2,RV.cells]) ?_
      simp -dsimp [d3,dl0,dl1]
      refine zaa hO2 ?_
      simp -dsimp [d4]
      refine zah t.kids.length (fun i st=>(st.s 2 = .ptr 2 1 0∧st.h 2=⟨1,.box [.d (eSos p.b.sorts),.d (eCos p.b.cons),.d (.int .i64 p.b.elim),.d (.int .i64 p.base),.d (.sl 1 ((vrs p).map (.int .i64))),.d (eArs p.args)] false⟩) ∧
        (st.s 3 = .ptr 3 1 0∧st.h 3=⟨1,.box [.d (.int .i64 t.kind),.d (.int .i64 t.num),.d (.sl 3 (t.kids.map eT))] false⟩)∧st.s 11 = .d (.int .i64 i) ∧ ∀ (j:Nat) (hj:j<t.kids.length),j<i→zaj n (p.fwd (zak t.kind j)) t.kids[j]=true) ?_ ?_
      · simp -dsimp []
      · rintro i ⟨s,hp⟩ hi ⟨⟨g2,k2⟩,⟨g3,k3⟩,g11,g⟩
        dsimp only at g2 k2 g3 k3 g11
        rcases ybm i t.kids.length with hlt | hge
        · have w1:IntKind.i64.wrap ((i:Int)+1)=(i:Int)+1:=zab (by omega) (by omega)
          obtain ⟨hB,hMo,hI⟩:=hkid i hlt
          have hnx:zaj n (p.fwd (zak t.kind i)) t.kids[i]=true → ∀ (j:Nat) (hj:j<t.kids.length),j<i+1→zaj n (p.fwd (zak t.kind j)) t.kids[j]=true:=fun h j hj hji=>by
            rcases ybm j i with h' | h'
            · exact g j hj h'
            · have:j=i:=by omega
              subst this
              exact h
          have hbad:zaj n (p.fwd (zak t.kind i)) t.kids[i]=false→V=false:=fun h=>by
            rw [hV,ycW]
            intro h2
            have:=(zaq _ _ _).1 h2 i hlt
            rw [ybj,h] at this
            cases this
          generalize zaj n (p.fwd (zak t.kind i)) t.kids[i]=Z at *
          generalize hX:t.kids[i]=X at *
          generalize rp (p.fwd (zak t.kind i))=RP at *
          simp only [rp,cBl,cT,ycv,ycu] at hMo hI
          simp -dsimp [g2,k2,g3,k3,g11,hlt,hX,cT]
          refine zaa hB ?_
          simp -dsimp [g2,k2,g3,k3,g11,hlt,hX,cT]
          refine zaa hMo ?_
          simp -dsimp [g2,k2,g3,k3,g11,hlt,hX,cT]
          refine zaa hI ?_
          cases Z with
          | false =>
            have:=hbad rfl
            simp -dsimp [g2,k2,g3,k3,g11,this]
          | true =>
            have hnx':=hnx rfl
            simp -dsimp [g2,k2,g3,k3,g11,hlt,w1]
            exact hnx'
        · have e:i=t.kids.length:=by omega
          subst e
          have hv:V=true:=by rw [hV]; exact (zaq _ _ _).2 fun j hj=>by rw [ybj]; exact g j hj hj
          simp -dsimp [g2,k2,g3,k3,g11,hv]
    obtain ⟨k,k1,k2,k3⟩:=zWq d4
    have hget:p.b.sorts[k]? = some p.b.sorts[k]:=yar k1
    have hsil:=hp.si _ (yaf k1)
    have w3:IntKind.i64.wrap ((p.b.sorts[k].idx.length:Int)+1)=p.b.sorts[k].idx.length+1:=zab (by omega) (by omega)
    by_cases d5:(spA t).length=p.b.sorts[k].idx.length+1
    case neg =>
      have hV:=hkids (by
        rw [decG,if_pos d3,k3]
        simp only [if_true,ycS,hget]
        rw [if_neg (by omega)]; simp)
      have d5':¬ ((spA t).length:Int)=p.b.sorts[k].idx.length+1:=by omega
      rw [k3] at hO2
      generalize V0=V at hV ⊢
      generalize hSk:p.b.sorts[k]=S at *
      refine za7 rfl fun hs=>?_
      simp only [cT] at hU
      simp only [eBl,cBl] at hO2
      simp -dsimp [zaz,rp,cBl,cT,c1,c3]
      refine zcn hU (by simp [za1,zb2,RV.cells]) ?_
      simp -dsimp [d3,dl0,dl1]
      refine zaa hO2 ?_
      simp -dsimp [k1,hget,hSk,eSos,eSo,cSo,cT,eArs,w3,d5']
      refine zah t.kids.length (fun i st=>(st.s 2 = .ptr 2 1 0∧st.h 2=⟨1,.box [.d (eSos p.b.sorts),.d (eCos p.b.cons),.d (.int .i64 p.b.elim),.d (.int .i64 p.base),.d (.sl 1 ((vrs p).map (.int .i64))),.d (eArs p.args)] false⟩) ∧
        (st.s 3 = .ptr 3 1 0∧st.h 3=⟨1,.box [.d (.int .i64 t.kind),.d (.int .i64 t.num),.d (.sl 3 (t.kids.map eT))] false⟩)∧st.s 11 = .d (.int .i64 i) ∧ ∀ (j:Nat) (hj:j<t.kids.length),j<i→zaj n (p.fwd (zak t.kind j)) t.kids[j]=true) ?_ ?_
      · simp -dsimp [eSos,eArs]
      · rintro i ⟨s,hp⟩ hi ⟨⟨g2,k2⟩,⟨g3,k3⟩,g11,g⟩
        dsimp only at g2 k2 g3 k3 g11
        rcases ybm i t.kids.length with hlt | hge
        · have w1:IntKind.i64.wrap ((i:Int)+1)=(i:Int)+1:=zab (by omega) (by omega)
          obtain ⟨hB,hMo,hI⟩:=hkid i hlt
          have hnx:zaj n (p.fwd (zak t.kind i)) t.kids[i]=true → ∀ (j:Nat) (hj:j<t.kids.length),j<i+1→zaj n (p.fwd (zak t.kind j)) t.kids[j]=true:=fun h j hj hji=>by
            rcases ybm j i with h' | h'
            · exact g j hj h'
            · have:j=i:=by omega
              subst this
              exact h
          have hbad:zaj n (p.fwd (zak t.kind i)) t.kids[i]=false→V=false:=fun h=>by
            rw [hV,ycW]
            intro h2
            have:=(zaq _ _ _).1 h2 i hlt
            rw [ybj,h] at this
            cases this
          generalize zaj n (p.fwd (zak t.kind i)) t.kids[i]=Z at *
          generalize hX:t.kids[i]=X at *
          generalize rp (p.fwd (zak t.kind i))=RP at *
          simp only [rp,cBl,cT,ycv,ycu] at hMo hI
          simp -dsimp [g2,k2,g3,k3,g11,hlt,hX,cT]
          refine zaa hB ?_
          simp -dsimp [g2,k2,g3,k3,g11,hlt,hX,cT]
          refine zaa hMo ?_
          simp -dsimp [g2,k2,g3,k3,g11,hlt,hX,cT]
          refine zaa hI ?_
          cases Z with
          | false =>
            have:=hbad rfl
            simp -dsimp [g2,k2,g3,k3,g11,this]
          | true =>
            have hnx':=hnx rfl
            simp -dsimp [g2,k2,g3,k3,g11,hlt,w1]
            exact hnx'
        · have e:i=t.kids.length:=by omega
          subst e
          have hv:V=true:=by rw [hV]; exact (zaq _ _ _).2 fun j hj=>by rw [ybj]; exact g j hj hj
          simp -dsimp [g2,k2,g3,k3,g11,hv]
    have hV:=hdec k _ d3 k3 (by rw [ycS]; exact hget) d5
    have d5':((spA t).length:Int)=p.b.sorts[k].idx.length+1:=by omega
    have hDe:=zFj p h0 (by omega) (by omega) (spA t).reverse (by simpa using dl0) (by rw [ycU]; omega) (zaj n p) (fun x hx=>by
      have hx':x ∈ spA t:=by simpa using hx
      exact ⟨oA x hx',fA x hx',by have:=mA x hx'; omega⟩) (fun x ox fx hx=>by
      refine hrec x ox fx ?_
      rcases hx with hx | ⟨z,hz,hx⟩
      · exact mA x (by simpa using hx)
      · have:=mA z (by simpa using hz)
        have:=(zlx z).1 x hx
        omega)
    rw [← hV] at hDe
    rw [k3] at hO2
    generalize hSk:p.b.sorts[k]=S at *
    refine za7 rfl fun hs=>?_
    simp only [cT] at hU
    simp only [eBl,cBl] at hO2
    simp only [rp,cBl,eTs,ycv,ycu] at hDe
    simp -dsimp [zaz,rp,cBl,cT,c1,c3]
    refine zcn hU (by simp [za1,zb2,RV.cells]) ?_
    simp -dsimp [d3,dl0,dl1]
    refine zaa hO2 ?_
    simp -dsimp [k1,hget,hSk,eSos,eSo,cSo,cT,eArs,w3,d5']
    simp only [eSos,eArs,List.map_reverse] at hDe
    refine zaa hDe ?_
    simp -dsimp
end
end
section
section
attribute [local simp] zaf zag tk tn tks zcl zcu zbq zbu zbt zc5
theorem zS2 {t:T} (ft:zac t=true) (h:t.kind=1):t = .mk 1 t.num []∧0≤t.num:=by
  obtain ⟨k,m,ks⟩:=t
  have c1':k=1:=h
  subst c1'
  refine ⟨?_,(zds rfl ft).1⟩
  rw [zln rfl ft]; rfl
set_option maxHeartbeats 4000000 in
theorem zQk (cons:Int):∀ (n:Nat),n≤1000000 → ∀ (p:Pl) (t:T),Pok p→p.more+zae t≤1000000000→okT t→zac t=true→zae t≤n →
    Pure Tryz.prog zb6 [.agg (rp p),.agg (cT t),.int .i64 cons] [.bool (zdp n p t cons)]:=by
  intro n
  induction n with
  | zero=>intro _ p t _ _ _ _ h; have:=zkv t; omega
  | succ n ih =>
    intro hN p t hp hm ot ft hn
    have h0:=hp.m0
    have hal:=hp.al
    have hfs:=hp.fit.s
    have hfc:=hp.fit.c
    obtain ⟨oH,oA⟩:=(zlx t).2 ot
    have mA:=(zlx t).1
    obtain ⟨fH,fA⟩:=znr t ft
    have hO2:=zJ3 p.b hp.fit p.base (spH t).num oH.num64
    have hsl:=zuf t
    have hU:=zmt t ot (by omega)
    have hm':∀ x ∈ (spA t).reverse,okT x∧zac x=true∧zae x<zae t:=fun x hx=>⟨oA x (by simpa using hx),fA x (by simpa using hx),mA x (by simpa using hx)⟩
    have hAl:(spA t).reverse.length≤1000000:=by rw [ycU]; omega
    have hCl:∀ (i:Nat) (hi:i<(spA t).reverse.length),Pure Tryz.prog zai [.agg (rp p),.agg (cT (spA t).reverse[i])] [.bool (zaj n p (spA t).reverse[i])]:=fun i hi=>by
      obtain ⟨x1,x2,x3⟩:=hm' _ (yaf hi)
      exact zng n (by omega) p _ hp (by omega) x1 x2 (by omega)
    have hGl:∀ (i:Nat) (hi:i<(spA t).reverse.length),Pure Tryz.prog zb6 [.agg (rp p),.agg (cT (spA t).reverse[i]),.int .i64 cons] [.bool (zdp n p (spA t).reverse[i] cons)]:=fun i hi=>by
      obtain ⟨x1,x2,x3⟩:=hm' _ (yaf hi)
      exact ih (by omega) p _ hp (by omega) x1 x2 (by omega)
    have hFl:∀ (i:Nat) (hi:i<(spA t).reverse.length),zac (spA t).reverse[i]=true:=fun i hi=>(hm' _ (yaf hi)).2.1
    have hgk:zbb p (spH t)=true→(spH t).kind=1:=fun h=>(zrw h).1
    have hgj:zbb p (spH t)=true → ∃ j:Nat,zeq p (spH t)=j∧j<p.args.length:=fun h=>(zrw h).2
    have hvar:(spH t).kind=1→spH t = .mk 1 (spH t).num []∧0≤(spH t).num:=fun h=>zS2 fH h
    rw [zdp]
    have hV:zC3 (zaj n p) (fun x=>zdp n p x cons) p t cons=if zbb p (spH t) then (match p.args[(zeq p (spH t)).toNat]? with
      | some a=>decide ((spA t).reverse.length=a.dom.length) && (spA t).reverse.all (zaj n p)
      | none=>false)
      else if (spH t).kind=3 then if (ofM p.b p.base (spH t).num).1=5 then if (ofM p.b p.base (spH t).num).2<cons then match p.b.cons[(ofM p.b p.base (spH t).num).2.toNat]? with
        | some c=>if (spA t).reverse.length=c.args.length then allI (fun i a=>match (spA t).reverse[i]? with | some x=>fitA (zaj n p) (fun x=>zdp n p x cons) p a x | none=>false) 0 c.args else false
        | none=>false else false else false
      else false:=rfl
    generalize zC3 (zaj n p) (fun x=>zdp n p x cons) p t cons=V at hV ⊢
    simp only [cT] at hU
    clear oA mA fA hm' hsl
    have hof5:=zI1 (b:=p.b) (base:=p.base) (n:=(spH t).num)
    have hofk:=zH9 (b:=p.b) (base:=p.base) (n:=(spH t).num)
    generalize (spA t).reverse=A at *
    generalize spH t=H at *
    by_cases c1:H.kind=1
    · obtain ⟨hHe,hn0⟩:=hvar c1
      have hG:=zol p H.num hn0 h0 (by omega) (by omega)
      obtain ⟨gn1,gn2⟩:=zC9 p H.num
      rw [← hHe] at gn1 gn2
      by_cases hg:zbb p H=true
      case neg =>
        have hg':zbb p H=false:=by simpa using hg
        have hlt0:=gn1.2 hg'
        have hv:V=false:=by rw [hV,if_neg hg,if_neg (by omega)]
        rw [hv]
        refine za2 rfl fun hs=>?_
        simp only [rp,cBl,ycv,ycu] at hG
        simp -dsimp [zat,rp,cBl,cT]
        refine zcn hU (by simp [za1,zb2,RV.cells]) ?_
        simp -dsimp [c1]
        refine zaa hG ?_
        simp -dsimp [c1,hlt0]
      obtain ⟨j,hj,hjl⟩:=hgj hg
      have hge:p.args[j]? = some p.args[j]:=yar hjl
      have hgv:grd p H.num=j:=by rw [gn2 hg,hj]
      rw [hgv] at hG
      have hj0:¬ ((j:Int)<0):=by omega
      rw [if_pos hg,hj,ycS,hge] at hV
      simp only at hV
      clear gn1 gn2 hgv hof5 hofk
      generalize hR:p.args[j]=R at *
      by_cases hll:A.length=R.dom.length
      case neg =>
        have hll':¬ (A.length:Int)=R.dom.length:=by omega
        have hv:V=false:=by rw [hV]; simp [hll]
        rw [hv]
        refine za2 rfl fun hs=>?_
        simp only [rp,cBl,ycv,ycu] at hG
        simp -dsimp [zat,rp,cBl,cT]
        refine zcn hU (by simp [za1,zb2,RV.cells]) ?_
        simp -dsimp [c1]
        refine zaa hG ?_
        simp -dsimp [c1,hj0,eArs,hjl,hge,hR,eAr,cAr,cT,eTs,hll,hll']
      have hll':(A.length:Int)=R.dom.length:=by omega
      have hV2:V=A.all (zaj n p):=by rw [hV]; simp [hll]
      have hB2:∀ (j:Nat) (hj:j<A.length),zaj n p A[j]=false→V=false:=fun j hj hc=>by
        rw [hV2,ycW]
        intro h2
        have:=zrz.1 h2 j hj
        rw [hc] at this
        cases this
      refine za2 rfl fun hs=>?_
      simp only [rp,cBl,ycv,ycu] at hG
      simp -dsimp [zat,rp,cBl,cT]
      refine zcn hU (by simp [za1,zb2,RV.cells]) ?_
      simp -dsimp [c1]
      refine zaa hG ?_
      simp -dsimp [c1,hj0,eArs,hjl,hge,hR,eAr,cAr,cT,eTs,hll']
      refine zah A.length (fun i st=>(st.s 3 = .ptr 3 1 0∧st.h 3=⟨1,.box [.d (eSos p.b.sorts),.d (eCos p.b.cons),.d (.int .i64 p.b.elim),.d (.int .i64 p.base),.d (.sl 1 ((vrs p).map (.int .i64))),.d (eArs p.args)] false⟩) ∧
        (st.s 8 = .rsl 17 1∧st.h 17=⟨1,.row 3 (A.map eT) false⟩)∧st.s 10 = .d (.int .i64 i) ∧ ∀ (m:Nat) (hm:m<A.length),m<i→zaj n p A[m]=true) ?_ ?_
      · simp -dsimp [eArs]
      · rintro i ⟨s,hq⟩ hi ⟨⟨g3,k3⟩,⟨g8,k17⟩,g10,gz⟩
        dsimp only at g3 k3 g8 k17 g10
        rcases ybm i A.length with hlt | hge2
        · have w1:IntKind.i64.wrap ((i:Int)+1)=(i:Int)+1:=zab (by omega) (by omega)
          have hC:=hCl i hlt
          have hB2i:=hB2 i hlt
          have hnx:zaj n p A[i]=true → ∀ (m:Nat) (hm:m<A.length),m<i+1→zaj n p A[m]=true:=fun h m hm hmj=>by
            rcases ybm m i with h' | h'
            · exact gz m hm h'
            · have:m=i:=by omega
              subst this
              exact h
          generalize hY:A[i]=Y at *
          simp only [rp,cBl,cT,ycv,ycu] at hC
          simp -dsimp [g3,k3,g8,k17,g10,hlt,hY,cT]
          refine zaa hC ?_
          cases hc:zaj n p Y with
          | false =>
            have hv:=hB2i hc
            simp -dsimp [g3,k3,g8,k17,g10,hv]
          | true =>
            have hnx':=hnx hc
            simp -dsimp [g3,k3,g8,k17,g10,hlt,w1]
            exact hnx'
        · have ej:i=A.length:=by omega
          subst ej
          have hv:V=true:=by rw [hV2]; exact zrz.2 fun m hm=>gz m hm hm
          simp -dsimp [g3,k3,g8,k17,g10,hv]
    have hgf:¬ zbb p H=true:=fun h=>c1 (hgk h)
    rw [if_neg hgf] at hV
    by_cases c3:H.kind=3
    case neg =>
      have hv:V=false:=by rw [hV,if_neg c3]
      rw [hv]
      refine za2 rfl fun hs=>?_
      simp -dsimp [zat,rp,cBl,cT]
      refine zcn hU (by simp [za1,zb2,RV.cells]) ?_
      simp -dsimp [c1,c3]
    rw [if_pos c3] at hV
    by_cases c5:(ofM p.b p.base H.num).1=5
    case neg =>
      have hv:V=false:=by rw [hV,if_neg c5]
      rw [hv]
      generalize ofM p.b p.base H.num=o at *
      refine za2 rfl fun hs=>?_
      simp only [eBl,cBl] at hO2
      simp -dsimp [zat,rp,cBl,cT]
      refine zcn hU (by simp [za1,zb2,RV.cells]) ?_
      simp -dsimp [c1,c3]
      refine zaa hO2 ?_
      simp -dsimp [c5]
    rw [if_pos c5] at hV
    obtain ⟨k,k1,_,k3⟩:=hof5 c5
    rw [k3] at hV hO2
    have hget:p.b.cons[k]? = some p.b.cons[k]:=yar k1
    have hcal:=hp.ca _ (yaf k1)
    simp only [ycS,hget] at hV
    clear hofk hof5 c5 k3
    generalize hSk:p.b.cons[k]=S at *
    by_cases c6:(k:Int)<cons
    case neg =>
      have hv:V=false:=by rw [hV,if_neg c6]
      rw [hv]
      have c6':cons≤(k:Int):=by omega
      refine za2 rfl fun hs=>?_
      simp only [eBl,cBl] at hO2
      simp -dsimp [zat,rp,cBl,cT]
      refine zcn hU (by simp [za1,zb2,RV.cells]) ?_
      simp -dsimp [c1,c3]
      refine zaa hO2 ?_
      simp -dsimp [c6']
    rw [if_pos c6] at hV
    have c6':¬ cons≤(k:Int):=by omega
    by_cases c7:A.length=S.args.length
    case neg =>
      have hv:V=false:=by rw [hV,if_neg c7]
      rw [hv]
      have c7':¬ (A.length:Int)=S.args.length:=by omega
      refine za2 rfl fun hs=>?_
      simp only [eBl,cBl] at hO2
      simp -dsimp [zat,rp,cBl,cT]
      refine zcn hU (by simp [za1,zb2,RV.cells]) ?_
      simp -dsimp [c1,c3]
      refine zaa hO2 ?_
      simp -dsimp [c6,c6',k1,hget,hSk,eCos,eCo,cCo,cT,eArs,c7,c7']
    rw [if_pos c7] at hV
    have c7':(A.length:Int)=S.args.length:=by omega
    have hfit:∀ (i:Nat) (hi:i<S.args.length),(match A[i]? with | some x=>fitA (zaj n p) (fun x=>zdp n p x cons) p S.args[i] x | none=>false)=fitA (zaj n p) (fun x=>zdp n p x cons) p S.args[i] (A[i]'(by omega)):=fun i hi=>by rw [yar (by omega:i<A.length)]
    have hVt:(∀ (i:Nat) (hi:i<S.args.length),fitA (zaj n p) (fun x=>zdp n p x cons) p S.args[i] (A[i]'(by omega))=true)→V=true:=fun h=>by
      rw [hV]
      exact (zaq _ _ _).2 fun j hj=>by simp only [ybj]; rw [hfit j hj]; exact h j hj
    have hVf:∀ (i:Nat) (hi:i<S.args.length),fitA (zaj n p) (fun x=>zdp n p x cons) p S.args[i] (A[i]'(by omega))=false→V=false:=fun i hi h=>by
      rw [hV,ycW]
      intro h2
      have:=(zaq _ _ _).1 h2 i hi
      simp only [ybj] at this
      rw [hfit i hi,h] at this
      cases this
    refine za2 rfl fun hs=>?_
    simp only [eBl,cBl] at hO2
    simp -dsimp [zat,rp,cBl,cT]
    refine zcn hU (by simp [za1,zb2,RV.cells]) ?_
    simp -dsimp [c1,c3]
    refine zaa hO2 ?_
    simp -dsimp [c6,c6',k1,hget,hSk,eCos,eCo,cCo,cT,eArs,c7']
    refine zah A.length (fun i st=>(st.s 2 = .d (.int .i64 cons)∧st.s 12 = .d (.int .i64 k))∧(st.s 3 = .ptr 3 1 0∧st.h 3=⟨1,.box [.d (eSos p.b.sorts),.d (eCos p.b.cons),.d (.int .i64 p.b.elim),.d (.int .i64 p.base),.d (.sl 1 ((vrs p).map (.int .i64))),.d (eArs p.args)] false⟩) ∧
      (st.s 8 = .rsl 17 1∧st.h 17=⟨1,.row 3 (A.map eT) false⟩)∧st.s 13 = .d (.int .i64 i) ∧ ∀ (j:Nat) (hj:j<S.args.length),j<i→fitA (zaj n p) (fun x=>zdp n p x cons) p S.args[j] (A[j]'(by omega))=true) ?_ ?_
    · simp -dsimp [eCos,eArs]
    · rintro i ⟨s,hq⟩ hi ⟨⟨g2,g12⟩,⟨g3,k3⟩,⟨g8,k17⟩,g13,g⟩
      dsimp only at g2 g12 g3 k3 g8 k17 g13
      simp only [eCos] at k3
      rcases ybm i A.length with hlt | hge2
      · have w1:IntKind.i64.wrap ((i:Int)+1)=(i:Int)+1:=zab (by omega) (by omega)
        have hltS:i<S.args.length:=by omega
        have hcv:=hVf i hltS
        have hfi:∀ h:fitA (zaj n p) (fun x=>zdp n p x cons) p S.args[i] A[i]=true,∀ (j:Nat) (hj:j<S.args.length),j<i+1→fitA (zaj n p) (fun x=>zdp n p x cons) p S.args[j] (A[j]'(by omega))=true:=fun h j hj hji=>by
          rcases ybm j i with h' | h'
          · exact g j hj h'
          · have:j=i:=by omega
            subst this
            exact h
        have hCx:=hCl i hlt
        have hDx:=hGl i hlt
        have hFx:=hFl i hlt
        generalize hX:A[i]=X at *
        generalize hAr:S.args[i]=R at *
        simp only [rp,cBl,cT,eCos,ycv,ycu] at hCx hDx
        simp -dsimp [g2,g12,g3,k3,g8,k17,g13,hlt,k1,hget,hSk,hltS,hAr,hX,eCo,cCo,eAr,cAr,cT,eArs]
        cases hr:R.rc with
        | false =>
          simp -dsimp [g2,g12,g3,k3,g8,k17,g13,hlt,hltS,hAr,hX,eAr,cAr,cT,hr]
          simp only [eArs] at hCx
          refine zaa hCx ?_
          cases hc:zaj n p X with
          | false =>
            have hw:=hcv (by simp [fitA,hr,hc])
            simp -dsimp [g2,g12,g3,k3,g8,k17,g13,hlt,hltS,hAr,hX,eAr,cAr,cT,hr,hw]
          | true =>
            have hnx:=hfi (by simp [fitA,hr,hc])
            simp -dsimp [g2,g12,g3,k3,g8,k17,g13,hlt,hltS,hAr,hX,eAr,cAr,cT,hr,w1,eCos,eArs]
            exact hnx
        | true =>
          by_cases hd:R.dom.length=0
          · have hdn:R.dom=[]:=ycL.1 hd
            simp -dsimp [g2,g12,g3,k3,g8,k17,g13,hlt,hltS,hAr,hX,eAr,cAr,cT,hr,hdn,eTs]
            simp only [eArs] at hDx
            refine zaa hDx ?_
            cases hc:zdp n p X cons with
            | false =>
              have hw:=hcv (by simp [fitA,hr,hd,hc])
              simp -dsimp [g2,g12,g3,k3,g8,k17,g13,hlt,hltS,hAr,hX,eAr,cAr,cT,hr,hdn,eTs,hw]
            | true =>
              have hnx:=hfi (by simp [fitA,hr,hd,hc])
              simp -dsimp [g2,g12,g3,k3,g8,k17,g13,hlt,hltS,hAr,hX,eAr,cAr,cT,hr,hdn,eTs,w1,eCos,eArs]
              exact hnx
          · have hd':¬ (R.dom.length:Int)=0:=by omega
            have hd2:(0:Int)<R.dom.length:=by omega
            have hdn:¬ R.dom=[]:=fun h=>hd (by rw [h]; rfl)
            have hd3:0<R.dom.length:=by omega
            by_cases hk1:X.kind=1
            case neg =>
              have hgX:zbb p X=false:=by rw [ycW]; intro h; exact hk1 (zrw h).1
              have hw:=hcv (by simp [fitA,hr,hdn,hgX])
              simp -dsimp [g2,g12,g3,k3,g8,k17,g13,hlt,hltS,hAr,hX,eAr,cAr,cT,hr,hdn,hd',hd2,hd3,hk1,eTs,hw]
            obtain ⟨hXe,hXn⟩:=zS2 hFx hk1
            have hGX:=zol p X.num hXn h0 (by omega) (by omega)
            obtain ⟨gn1,_⟩:=zC9 p X.num
            rw [← hXe] at gn1
            simp only [rp,cBl,eCos,eArs,ycv,ycu] at hGX
            simp -dsimp [g2,g12,g3,k3,g8,k17,g13,hlt,hltS,hAr,hX,eAr,cAr,cT,hr,hdn,hd',hd2,hd3,hk1,eTs,eArs]
            refine zaa hGX ?_
            cases hc:zbb p X with
            | false =>
              have hneg:¬ 0≤grd p X.num:=by have:=gn1.2 hc; omega
              have hw:=hcv (by simp [fitA,hr,hdn,hc])
              simp -dsimp [g2,g12,g3,k3,g8,k17,g13,hlt,hltS,hAr,hX,hr,hdn,hd',hd2,hd3,hneg,hw]
            | true =>
              have hnn:0≤grd p X.num:=by
                by_cases h:0≤grd p X.num
                · exact h
                · rw [gn1.1 (by omega)] at hc; cases hc
              have hnx:=hfi (by simp [fitA,hr,hdn,hc])
              simp -dsimp [g2,g12,g3,k3,g8,k17,g13,hlt,hltS,hAr,hX,hr,hdn,hd',hd2,hd3,hnn,w1,eCos,eArs]
              exact hnx
      · have ej:i=A.length:=by omega
        subst ej
        have hv:=hVt fun j hj=>g j hj (by omega)
        simp -dsimp [g2,g12,g3,k3,g8,k17,g13,hv]
end
end
section
section
attribute [local simp] zaf zag tk tn tks zcl zcu zbq zbu zbt zc5
set_option maxHeartbeats 2000000 in
theorem zAd (n:Nat) (hN:n≤1000000) (p:Pl) (hp:Pok p) (hm:p.more≤1000000) (k:Int) (so:So) (hk0:0≤k) (hk:p.b.sorts[k.toNat]? = some so) (l:List T) (cons:Int) (hll:l.length=so.idx.length)
    (ol:∀ x ∈ l,okT x∧zac x=true∧zae x≤n):Pure Tryz.prog zb8 [.agg (rp p),.int .i64 k,eTs l,.int .i64 cons] [.bool (indF n p so l cons)]:=by
  have hsm:=hp.si so (List.mem_of_getElem? hk)
  have hklt:=(yae.1 hk).1
  have hke:=(yae.1 hk).2
  generalize hV:indF n p so l cons=V
  have hVt:(∀ (i:Nat) (hi:i<so.idx.length),(if so.idx[i].rc then zdp n p (l[i]'(by omega)) cons else zaj n p (l[i]'(by omega)))=true)→V=true:=fun h=>by
    rw [← hV]
    exact (zaq _ _ _).2 fun j hj=>by simp only [ybj]; rw [yar (by omega:j<l.length)]; exact h j hj
  have hVf:∀ (i:Nat) (hi:i<so.idx.length),(if so.idx[i].rc then zdp n p (l[i]'(by omega)) cons else zaj n p (l[i]'(by omega)))=false→V=false:=fun i hi h=>by
    rw [← hV,ycW]
    intro h2
    have:=(zaq _ _ _).1 h2 i hi
    simp only [ybj] at this
    rw [yar (by omega:i<l.length)] at this
    simp only at this
    rw [h] at this
    cases this
  refine zl2 rfl fun hs=>?_
  simp -dsimp [zdx,rp,cBl,eTs]
  refine zah so.idx.length (fun i st=>(st.s 1 = .d (.int .i64 k)∧st.s 2 = .d (eTs l)∧st.s 3 = .d (.int .i64 cons))∧(st.s 4 = .ptr 4 1 0∧st.h 4=⟨1,.box [.d (eSos p.b.sorts),.d (eCos p.b.cons),.d (.int .i64 p.b.elim),.d (.int .i64 p.base),.d (.sl 1 ((vrs p).map (.int .i64))),.d (eArs p.args)] false⟩)∧st.s 9 = .d (.int .i64 i) ∧
    ∀ (j:Nat) (hj:j<so.idx.length),j<i→(if so.idx[j].rc then zdp n p (l[j]'(by omega)) cons else zaj n p (l[j]'(by omega)))=true) ?_ ?_
  · simp -dsimp [eTs]
  · rintro i ⟨s,hq⟩ hi ⟨⟨g1,g2,g3⟩,⟨g4,k4⟩,g9,g⟩
    dsimp only at g1 g2 g3 g4 k4 g9
    simp only [eTs,eSos] at g2 k4
    rcases ybm i so.idx.length with hlt | hge
    · have w1:IntKind.i64.wrap ((i:Int)+1)=(i:Int)+1:=zab (by omega) (by omega)
      have hiA:i<l.length:=by omega
      obtain ⟨x1,x2,x3⟩:=ol _ (yaf hiA)
      have hcv:=hVf i hlt
      have hfi:∀ h:(if so.idx[i].rc then zdp n p l[i] cons else zaj n p l[i])=true,∀ (j:Nat) (hj:j<so.idx.length),j<i+1→(if so.idx[j].rc then zdp n p (l[j]'(by omega)) cons else zaj n p (l[j]'(by omega)))=true:=fun h j hj hji=>by
        rcases ybm j i with h' | h'
        · exact g j hj h'
        · have:j=i:=by omega
          subst this
          exact h
      have hCx:=zng n hN p l[i] hp (by omega) x1 x2 x3
      have hDx:=zQk cons n hN p l[i] hp (by omega) x1 x2 x3
      generalize hX:l[i]=X at *
      generalize hAr:so.idx[i]=R at *
      simp only [rp,cBl,cT,eSos,ycv,ycu] at hCx hDx
      simp -dsimp [g1,g2,g3,g4,k4,g9,hlt,hiA,hX,hk0,hklt,hk,hke,hAr,eSo,cSo,eArs,eAr,cAr,cT]
      cases hr:R.rc with
      | false =>
        rw [hr] at hcv hfi
        simp only [Bool.false_eq_true,if_false] at hcv hfi
        simp -dsimp [g1,g2,g3,g4,k4,g9,hlt,hiA,hX,hk0,hklt,hk,hke,hAr,eSo,cSo,eArs,eAr,cAr,cT,hr]
        simp only [eArs] at hCx
        refine zaa hCx ?_
        cases hc:zaj n p X with
        | false =>
          have hv:=hcv hc
          simp -dsimp [g1,g2,g3,g4,k4,g9,hlt,hiA,hX,hr,hv]
        | true =>
          have hnx:=hfi hc
          simp -dsimp [g1,g2,g3,g4,k4,g9,hlt,hiA,hX,hr,w1,eTs,eSos,eArs]
          simpa using hnx
      | true =>
        rw [hr] at hcv hfi
        simp only [if_true] at hcv hfi
        simp -dsimp [g1,g2,g3,g4,k4,g9,hlt,hiA,hX,hk0,hklt,hk,hke,hAr,eSo,cSo,eArs,eAr,cAr,cT,hr]
        simp only [eArs] at hDx
        refine zaa hDx ?_
        cases hc:zdp n p X cons with
        | false =>
          have hv:=hcv hc
          simp -dsimp [g1,g2,g3,g4,k4,g9,hlt,hiA,hX,hk0,hklt,hk,hke,hAr,eSo,cSo,eArs,eAr,cAr,cT,hr,hv]
        | true =>
          have hnx:=hfi hc
          simp -dsimp [g1,g2,g3,g4,k4,g9,hlt,hiA,hX,hk0,hklt,hk,hke,hAr,eSo,cSo,eArs,eAr,cAr,cT,hr,w1,eTs,eSos]
          simpa using hnx
    · have e:i=so.idx.length:=by omega
      subst e
      have hz:=hVt fun j hj=>g j hj hj
      have hli:¬ so.idx.length<l.length:=by omega
      simp -dsimp [g1,g2,g3,g4,k4,g9,hz,hll]
structure Rok (b:Bl) (n:Nat) (l:List Ar):Prop where
  al:l.length≤20
  fit:Fit b
  si:∀ s ∈ b.sorts,s.idx.length≤20
  ca:∀ c ∈ b.cons,c.args.length≤20
  ty:∀ a ∈ l,a.rc=false→okT a.ty∧zac a.ty=true∧zae a.ty≤n
  rc:∀ a ∈ l,a.rc=true→a.dom.length≤60∧(∀ x ∈ a.dom,okT x∧zac x=true∧zae x≤n)∧(∀ x ∈ a.idx,okT x∧zac x=true∧zae x≤n)∧0≤a.sort ∧ ∃ so,b.sorts[a.sort.toNat]? = some so∧a.idx.length=so.idx.length
set_option maxHeartbeats 4000000 in
theorem zJp (n:Nat) (hN:n≤1000000) (b:Bl) (base:Int) (l:List Ar) (cons:Int) (H:Rok b n l):Pure Tryz.prog zdi [eBl b,.int .i64 base,eArs l,.int .i64 cons] [.bool (rowF n b base l cons)]:=by
  have hal:=H.al
  have hpl:∀ (i:Nat) (m:Int),0≤m→Pok ⟨b,base,l.take i,m⟩:=fun i m h=>⟨h,by simp only [yaE]; omega,H.fit,H.si,H.ca⟩
  generalize hV:rowF n b base l cons=V
  have hVt:(∀ (i:Nat) (hi:i<l.length),argF n b base l cons i l[i]=true)→V=true:=fun h=>by
    rw [← hV]
    exact (zaq _ _ _).2 fun j hj=>by simp only [ybj]; exact h j hj
  have hVf:∀ (i:Nat) (hi:i<l.length),argF n b base l cons i l[i]=false→V=false:=fun i hi h=>by
    rw [← hV,ycW]
    intro h2
    have:=(zaq _ _ _).1 h2 i hi
    simp only [ybj] at this
    rw [h] at this
    cases this
  refine zn2 rfl fun hs=>?_
  simp -dsimp [ze5,eBl,cBl,eArs]
  refine zah l.length (fun i st=>(st.s 1 = .d (.int .i64 base)∧st.s 2 = .d (eArs l)∧st.s 3 = .d (.int .i64 cons))∧(st.s 4 = .ptr 4 1 0∧st.h 4=⟨1,.box [.d (eSos b.sorts),.d (eCos b.cons),.d (.int .i64 b.elim)] false⟩)∧st.s 9 = .d (.int .i64 i) ∧
    ∀ (j:Nat) (hj:j<l.length),j<i→argF n b base l cons j l[j]=true) ?_ ?_
  · simp -dsimp [eArs]
  · rintro i ⟨s,hp⟩ hi ⟨⟨g1,g2,g3⟩,⟨g4,k4⟩,g9,g⟩
    dsimp only at g1 g2 g3 g4 k4 g9
    simp only [eArs] at g2
    rcases ybm i l.length with hlt | hge
    · have w1:IntKind.i64.wrap ((i:Int)+1)=(i:Int)+1:=zab (by omega) (by omega)
      have hile:i≤l.length:=hi
      have hcv:=hVf i hlt
      have hmem:=yaf hlt
      have h1:=H.ty _ hmem
      have h2:=H.rc _ hmem
      have hfi:∀ h:argF n b base l cons i l[i]=true,∀ (j:Nat) (hj:j<l.length),j<i+1→argF n b base l cons j l[j]=true:=fun h j hj hji=>by
        rcases ybm j i with h' | h'
        · exact g j hj h'
        · have:j=i:=by omega
          subst this
          exact h
      have hAt:=zM7 b base (l.take i) (by rw [yaE]; omega)
      generalize hAr:l[i]=R at *
      have hrp:∀ m:Int,rp ⟨b,base,l.take i,m⟩=[eSos b.sorts,eCos b.cons,.int .i64 b.elim,.int .i64 base,.sl 1 ((vrs ⟨b,base,l.take i,m⟩).map (.int .i64)),.sl 7 ((l.map eAr).take i)]:=fun m=>by
        simp only [rp,cBl,eArs,List.map_take,ycv,ycu]
      rw [hrp] at hAt
      simp only [eBl,cBl,eArs,List.map_take] at hAt
      simp -dsimp [g1,g2,g3,g4,k4,g9,hlt,hile,hAr,eAr,cAr,cT]
      refine zaa hAt ?_
      cases hr:R.rc with
      | false =>
        obtain ⟨o1,o2,o3⟩:=h1 hr
        have hC:=zng n hN ⟨b,base,l.take i,0⟩ R.ty (hpl i 0 (by omega)) (by simp; omega) o1 o2 o3
        rw [hrp] at hC
        have hAF:argF n b base l cons i R=zaj n ⟨b,base,l.take i,0⟩ R.ty:=by rw [argF,hr,if_neg (by simp)]
        rw [hAF] at hcv hfi
        simp only [cT] at hC
        simp -dsimp [g1,g2,g3,g4,k4,g9,hlt,hile,hAr,eAr,cAr,cT,hr]
        refine zaa hC ?_
        cases hc:zaj n ⟨b,base,l.take i,0⟩ R.ty with
        | false =>
          have hv:=hcv hc
          simp -dsimp [g1,g2,g3,g4,k4,g9,hlt,hile,hAr,eAr,cAr,cT,hr,hv]
        | true =>
          have hnx:=hfi hc
          simp -dsimp [g1,g2,g3,g4,k4,g9,hlt,hile,hAr,eAr,cAr,cT,hr,w1,eArs]
          simpa using hnx
      | true =>
        obtain ⟨r1,r2,r3,r4,so,hso,r5⟩:=h2 hr
        have hAF:argF n b base l cons i R=((allI (fun j d=>zaj n ⟨b,base,l.take i,(j:Int)⟩ d) 0 R.dom) && indF n ⟨b,base,l.take i,(R.dom.length:Int)⟩ so R.idx cons):=by rw [argF,hr,if_pos rfl,hso]
        rw [hAF] at hcv hfi
        have hMo:∀ m:Nat,m≤1000000→Pure Tryz.prog za9 [.agg (rp ⟨b,base,l.take i,0⟩),.int .i64 m] [.agg (rp ⟨b,base,l.take i,(m:Int)⟩)]:=fun m hm=>by
          have:=zI7 ⟨b,base,l.take i,0⟩ m hm (by simp) (by simp) (by simp only [yaE]; omega)
          rw [Pl.fwd] at this
          simpa using this
        simp only [hrp] at hMo
        simp -dsimp [g1,g2,g3,g4,k4,g9,hlt,hile,hAr,eAr,cAr,cT,hr]
        refine zah R.dom.length (fun j st=>(st.s 1 = .d (.int .i64 base)∧st.s 2 = .d (eArs l)∧st.s 3 = .d (.int .i64 cons))∧(st.s 4 = .ptr 4 1 0∧st.h 4=⟨1,.box [.d (eSos b.sorts),.d (eCos b.cons),.d (.int .i64 b.elim)] false⟩)∧st.s 9 = .d (.int .i64 i) ∧
          (st.s 10 = .ptr 10 ((hp 10).ver+1) 0∧st.h 10=⟨(hp 10).ver+1,.box [.d (eSos b.sorts),.d (eCos b.cons),.d (.int .i64 b.elim),.d (.int .i64 base),.d (.sl 1 ((vrs ⟨b,base,l.take i,0⟩).map (.int .i64))),.d (.sl 7 ((l.map eAr).take i))] false⟩)∧st.s 11 = .d (.int .i64 j) ∧
          ∀ (q:Nat) (hq:q<R.dom.length),q<j→zaj n ⟨b,base,l.take i,(q:Int)⟩ R.dom[q]=true) ?_ ?_
        · simp -dsimp [g1,g2,g3,g4,k4,g9,hlt,hile,hAr,eAr,cAr,cT,hr,eArs]
        · clear g1 g2 g3 g4 k4 g9
          rintro j ⟨s,hq⟩ hj ⟨⟨g1,g2,g3⟩,⟨g4,k4⟩,g9,⟨g10,k10⟩,g11,gd⟩
          dsimp only at g1 g2 g3 g4 k4 g9 g10 k10 g11
          simp only [eArs] at g2
          rcases ybm j R.dom.length with hlt2 | hge2
          · have w2:IntKind.i64.wrap ((j:Int)+1)=(j:Int)+1:=zab (by omega) (by omega)
            obtain ⟨d1,d2,d3⟩:=r2 _ (yaf hlt2)
            have hP:=hMo j (by omega)
            have hC:=zng n hN ⟨b,base,l.take i,(j:Int)⟩ R.dom[j] (hpl i j (by omega)) (by simp; omega) d1 d2 d3
            rw [hrp] at hC
            generalize hX:R.dom[j]=X at *
            simp only [cT] at hC
            simp -dsimp [g1,g2,g3,g4,k4,g9,g10,k10,g11,hlt,hAr,hr,eAr,cAr,hlt2,hX,cT,eTs]
            refine zaa hP ?_
            simp -dsimp [g1,g2,g3,g4,k4,g9,g10,k10,g11,hlt,hAr,hr,eAr,cAr,hlt2,hX,cT,eTs]
            refine zaa hC ?_
            cases hc:zaj n ⟨b,base,l.take i,(j:Int)⟩ X with
            | false =>
              have hz:allI (fun j d=>zaj n ⟨b,base,l.take i,(j:Int)⟩ d) 0 R.dom=false:=by
                rw [ycW]
                intro h
                have:=(zaq _ _ _).1 h j hlt2
                rw [ybj,hX,hc] at this
                cases this
              have hv:=hcv (by rw [hz]; rfl)
              simp -dsimp [g1,g2,g3,g4,k4,g9,g10,k10,g11,hv]
            | true =>
              simp -dsimp [g1,g2,g3,g4,k4,g9,g10,k10,g11,hlt2,w2,eArs]
              intro q hq' hqj
              rcases ybm q j with h' | h'
              · exact gd q hq' h'
              · have:q=j:=by omega
                subst this
                rw [hX]; exact hc
          · have ej:j=R.dom.length:=by omega
            subst ej
            have hz:allI (fun j d=>zaj n ⟨b,base,l.take i,(j:Int)⟩ d) 0 R.dom=true:=(zaq _ _ _).2 fun q hq'=>by rw [ybj]; exact gd q hq' hq'
            rw [hz,ydg] at hcv hfi
            have hP:=hMo R.dom.length (by omega)
            have hI:=zAd n hN ⟨b,base,l.take i,(R.dom.length:Int)⟩ (hpl i _ (by omega)) (by simp; omega) R.sort so r4 hso R.idx cons r5 r3
            rw [hrp] at hI
            simp only [eTs] at hI
            simp -dsimp [g1,g2,g3,g4,k4,g9,g10,k10,g11,hlt,hAr,hr,eAr,cAr,cT,eTs]
            refine zaa hP ?_
            simp -dsimp [g1,g2,g3,g4,k4,g9,g10,k10,g11,hlt,hAr,hr,eAr,cAr,cT,eTs]
            refine zaa hI ?_
            cases hc:indF n ⟨b,base,l.take i,(R.dom.length:Int)⟩ so R.idx cons with
            | false =>
              have hv:=hcv hc
              simp -dsimp [g1,g2,g3,g4,k4,g9,g10,k10,g11,hv]
            | true =>
              have hnx:=hfi hc
              simp -dsimp [g1,g2,g3,g4,k4,g9,g10,k10,g11,w1,eArs]
              exact ⟨hlt,hnx⟩
    · have e:i=l.length:=by omega
      subst e
      have hz:=hVt fun j hj=>g j hj hj
      simp -dsimp [g1,g2,g3,g4,k4,g9,hz]
end
end
section
section
attribute [local simp] zaf zag tk tn tks zcl zcu zbq zbu zbt zc5
theorem zSu {b:Bl} (hf:Fit b) (fb:FineBl b) {l:List Ar} (ol:zw6 l) (fl:zjv l) (hr:rowM b l=true) {n:Nat} (hn:9000≤n):Rok b n l:=by
  obtain ⟨hl,hA⟩:=zC8 hr
  refine ⟨fl.1,hf,fun s hs=>(fb.sorts s hs).idx.1,fun c hc=>(fb.cons c hc).args.1,fun a ha hrc=>?_,fun a ha hrc=>?_⟩
  · obtain ⟨i,hi,rfl⟩:=ycM.1 ha
    have h1:=(fl.2 _ ha).ty
    exact ⟨(ol.2 _ ha).ty,(zer (zBz (hA i hi) hrc) (by omega) (by omega) (by omega)).2.1,by omega⟩
  · obtain ⟨i,hi,rfl⟩:=ycM.1 ha
    have fa:=fl.2 _ ha
    have oa:=ol.2 _ ha
    obtain ⟨_,s0,s1,d1,⟨so,hso,hil⟩,hd,hx⟩:=zut (hA i hi) hrc (by omega) (by omega)
    refine ⟨fa.domL,fun x hxm=>?_,fun x hxm=>?_,s0,so,hso,hil⟩
    · obtain ⟨j,hj,rfl⟩:=ycM.1 hxm
      have hnx:zae l[i].dom[j]≤9000:=yac (zdn (ybb.2 ⟨_,hxm,rfl⟩)) fa.dom
      exact ⟨oa.dom.2 _ hxm,(zer (hd j hj) (by omega) (by omega) (by omega)).2.1,by omega⟩
    · have hnx:zae x≤9000:=yac (zdn (ybb.2 ⟨_,hxm,rfl⟩)) fa.idx
      exact ⟨oa.idx.2 _ hxm,(zer (hx x hxm) (by omega) (by omega) (by omega)).2.1,by omega⟩
theorem zMa {b:Bl} {c:Co} {so:So} (h:conM b c=true) (hso:b.sorts[c.sort.toNat]? = some so):(∀ x ∈ c.idx,inM x c.args.length=true)∧zgi so.dec c.dec c.args.length=true:=by
  rw [conM] at h
  split at h
  · cases h
  split at h
  case isFalse=>cases h
  rw [hso] at h
  simp only at h
  split at h
  case isFalse=>cases h
  split at h
  case isFalse=>cases h
  rename_i hA
  refine ⟨fun x hx=>?_,h⟩
  rw [allM,ybK,List.any_eq_false] at hA
  have:=hA x hx
  simpa using this
set_option maxHeartbeats 4000000 in
theorem zM3 (n:Nat) (hn:9000≤n) (hN:n≤1000000) (b:Bl) (ob:okBl b) (fb:FineBl b) (hf:Fit b) (base:Int):Pure Tryz.prog zhq [eBl b,.int .i64 base] [.int .i64 (zda n b base)]:=by
  have hSh:=zM1 b
  have hIn:=zmv base 0 65535
  have hbs:=fb.s
  have hbc:=fb.c
  generalize hE:zda n b base=E
  simp only [eBl,cBl] at hSh
  by_cases hz:zgc b=0
  case neg =>
    have hs':zno b=false:=by rw [zno,decide_eq_false_iff_not]; exact hz
    have hE':E=12:=by
      rw [← hE,zda,if_neg hz]
      rw [zK1,hs']; rfl
    rw [hE']
    refine zhv rfl fun hs=>?_
    simp -dsimp [zdw,eBl,cBl]
    refine zaa hSh ?_
    simp -dsimp [hs']
  have hs':zno b=true:=by rw [zno,decide_eq_true_eq]; exact hz
  rw [zda,if_pos hz] at hE
  obtain ⟨z1,z4,z8,zl,zs,zc⟩:=(zbo b).1 hz
  by_cases hb:inB base 0 65535=true
  case neg =>
    have hb':inB base 0 65535=false:=by simpa using hb
    have:=(zis _ _ _).1 hb'
    rw [if_pos (by omega)] at hE
    rw [← hE]
    refine zhv rfl fun hs=>?_
    simp -dsimp [zdw,eBl,cBl]
    refine zaa hSh ?_
    simp -dsimp [hs']
    refine zaa hIn ?_
    simp -dsimp [hb']
  obtain ⟨b0,b1⟩:=(zeu _ _ _).1 hb
  rw [if_neg (by omega)] at hE
  have hbad:posF n b base=false→E=11:=fun h=>by rw [← hE,h]; rfl
  have hgood:posF n b base=true→E=0:=fun h=>by rw [← hE,h]; rfl
  have hbs1:∀ (i:Nat) (hi:i<b.sorts.length),znf n b base b.sorts[i]=false→E=11:=fun i hi h=>hbad (by
    rw [posF,ycX]
    refine .inl (ycW.2 fun h2=>?_)
    have:=(zaq _ _ _).1 h2 i hi
    rw [h] at this
    cases this)
  have hbc1:∀ (i:Nat) (hi:i<b.cons.length),conF n b base i b.cons[i]=false→E=11:=fun i hi h=>hbad (by
    rw [posF,ycX]
    refine .inr (ycW.2 fun h2=>?_)
    have:=(zaq _ _ _).1 h2 i hi
    rw [ybj,h] at this
    cases this)
  have hrp:∀ (l:List Ar),rp ⟨b,base,l,0⟩=[eSos b.sorts,eCos b.cons,.int .i64 b.elim,.int .i64 base,.sl 1 ((vrs ⟨b,base,l,0⟩).map (.int .i64)),.sl 7 (l.map eAr)]:=fun l=>by
    simp only [rp,cBl,eArs,ycv,ycu]
  have hpk:∀ (l:List Ar),l.length≤20→Pok ⟨b,base,l,0⟩:=fun l h=>⟨by simp,by simp only; omega,hf,fun s hs=>(fb.sorts s hs).idx.1,fun c hc=>(fb.cons c hc).args.1⟩
  refine zhv rfl fun hs=>?_
  simp -dsimp [zdw,eBl,cBl]
  refine zaa hSh ?_
  simp -dsimp [hs']
  refine zaa hIn ?_
  simp -dsimp [hb]
  refine zah b.sorts.length (fun i st=>st.s 1 = .d (.int .i64 base)∧(st.s 2 = .ptr 2 1 0∧st.h 2=⟨1,.box [.d (eSos b.sorts),.d (eCos b.cons),.d (.int .i64 b.elim)] false⟩)∧st.s 5 = .d (.int .i64 i) ∧ ∀ (j:Nat) (hj:j<b.sorts.length),j<i→znf n b base b.sorts[j]=true) ?_ ?_
  · simp -dsimp
  · rintro i ⟨s,hp⟩ hi ⟨g1,⟨g2,k2⟩,g5,g⟩
    dsimp only at g1 g2 k2 g5
    simp only [eSos] at k2
    rcases ybm i b.sorts.length with hlt | hge
    · have w1:IntKind.i64.wrap ((i:Int)+1)=(i:Int)+1:=zab (by omega) (by omega)
      have hcv:=hbs1 i hlt
      have hmem:=yaf hlt
      have os:=ob.sorts _ hmem
      have fs:=fb.sorts _ hmem
      have hsm:=zs i hlt
      have hrow:=zyl hsm
      obtain ⟨_,_,hmb,_⟩:=(zcv _ _ _).1 hsm
      have hfi:znf n b base b.sorts[i]=true → ∀ (j:Nat) (hj:j<b.sorts.length),j<i+1→znf n b base b.sorts[j]=true:=fun h j hj hji=>by
        rcases ybm j i with h' | h'
        · exact g j hj h'
        · have:j=i:=by omega
          subst this
          exact h
      generalize hS:b.sorts[i]=S at *
      have hR:=zJp n hN b base S.idx 0 (zSu hf fb os.idx fs.idx hrow hn)
      have hAt:=zM7 b base S.idx (by have:=fs.idx.1; omega)
      rw [hrp] at hAt
      simp only [eBl,cBl,eSos,eArs] at hR hAt
      simp -dsimp [g1,g2,k2,g5,hlt,hS,eSo,cSo,cT,eArs]
      refine zaa hR ?_
      cases hr:rowF n b base S.idx 0 with
      | false =>
        have hw:=hcv (by rw [znf,hr]; rfl)
        simp -dsimp [g1,g2,k2,g5,hlt,hS,hw]
      | true =>
        cases hd:S.dec with
        | false =>
          have hnx:=hfi (by rw [znf,hr,hd]; rfl)
          simp -dsimp [g1,g2,k2,g5,hlt,hS,eSo,cSo,cT,hd,w1,eSos]
          exact hnx
        | true =>
          rw [hd] at hmb
          have hin:inM S.dty S.idx.length=true:=by rw [zgi,if_pos rfl] at hmb; exact hmb
          have hsil:=fs.idx.1
          have hdn:=fs.dty
          have hD:=zng n hN ⟨b,base,S.idx,0⟩ S.dty (hpk _ fs.idx.1) (by simp; omega) os.dty (zer hin (by omega) (by omega) (by omega)).2.1 (by omega)
          rw [hrp] at hD
          simp only [cT,eSos] at hD
          simp -dsimp [g1,g2,k2,g5,hlt,hS,eSo,cSo,cT,hd]
          refine zaa hAt ?_
          simp -dsimp [g1,g2,k2,g5,hlt,hS,eSo,cSo,cT,hd]
          refine zaa hD ?_
          cases hc:zaj n ⟨b,base,S.idx,0⟩ S.dty with
          | false =>
            have hw:=hcv (by rw [znf,hr,hd,hc]; rfl)
            simp -dsimp [g1,g2,k2,g5,hlt,hS,hw]
          | true =>
            have hnx:=hfi (by rw [znf,hr,hd,hc]; rfl)
            simp -dsimp [g1,g2,k2,g5,hlt,hS,w1,eSos]
            exact hnx
    · have e:i=b.sorts.length:=by omega
      subst e
      have hzs:allI (fun _ s=>znf n b base s) 0 b.sorts=true:=(zaq _ _ _).2 fun j hj=>g j hj hj
      clear g hge hi
      simp -dsimp [g1,g2,k2,g5]
      clear g5
      refine zah b.cons.length (fun i st=>st.s 1 = .d (.int .i64 base)∧(st.s 2 = .ptr 2 1 0∧st.h 2=⟨1,.box [.d (eSos b.sorts),.d (eCos b.cons),.d (.int .i64 b.elim)] false⟩)∧st.s 7 = .d (.int .i64 i) ∧ ∀ (j:Nat) (hj:j<b.cons.length),j<i→conF n b base j b.cons[j]=true) ?_ ?_
      · simp -dsimp [g1,g2,k2,eSos]
      · clear g1 g2 k2
        rintro i ⟨s,hp⟩ hi ⟨g1,⟨g2,k2⟩,g7,g⟩
        dsimp only at g1 g2 k2 g7
        simp only [eSos,eCos] at k2
        rcases ybm i b.cons.length with hlt | hge
        · have w1:IntKind.i64.wrap ((i:Int)+1)=(i:Int)+1:=zab (by omega) (by omega)
          have hcv:=hbc1 i hlt
          have hmem:=yaf hlt
          have os:=ob.cons _ hmem
          have fs:=fb.cons _ hmem
          have hcm:=zc _ hmem
          obtain ⟨hrow,c0,so,hso,hil⟩:=zqy hcm
          obtain ⟨hix,hmb⟩:=zMa hcm hso
          have hsolt:=(yae.1 hso).1
          have hso':=(yae.1 hso).2
          have hfi:conF n b base i b.cons[i]=true → ∀ (j:Nat) (hj:j<b.cons.length),j<i+1→conF n b base j b.cons[j]=true:=fun h j hj hji=>by
            rcases ybm j i with h' | h'
            · exact g j hj h'
            · have:j=i:=by omega
              subst this
              exact h
          generalize hS:b.cons[i]=S at *
          have hal:=fs.args.1
          have hR:=zJp n hN b base S.args (i:Int) (zSu hf fb os.args fs.args hrow hn)
          have hAt:=zM7 b base S.args (by omega)
          have hI:=zAd n hN ⟨b,base,S.args,0⟩ (hpk _ hal) (by simp) S.sort so c0 hso S.idx (i:Int) hil (fun x hx=>by
            have hnx:zae x≤9000:=yac (zdn (ybb.2 ⟨_,hx,rfl⟩)) fs.idx
            exact ⟨os.idx.2 x hx,(zer (hix x hx) (by omega) (by omega) (by omega)).2.1,by omega⟩)
          have hF:conF n b base i S=(rowF n b base S.args i && (indF n ⟨b,base,S.args,0⟩ so S.idx i && (!so.dec || zaj n ⟨b,base,S.args,0⟩ S.dec))):=by rw [conF,hso]
          rw [hrp] at hAt hI
          simp only [eBl,cBl,eSos,eCos,eArs,eTs] at hR hAt hI
          simp -dsimp [g1,g2,k2,g7,hlt,hS,eCo,cCo,cT,eArs,eTs]
          refine zaa hAt ?_
          simp -dsimp [g1,g2,k2,g7,hlt,hS,eCo,cCo,cT,eArs,eTs]
          refine zaa hR ?_
          cases hr:rowF n b base S.args i with
          | false =>
            have hw:=hcv (by rw [hF,hr]; rfl)
            simp -dsimp [g1,g2,k2,g7,hlt,hS,hw]
          | true =>
            simp -dsimp [g1,g2,k2,g7,hlt,hS,eCo,cCo,cT,eArs,eTs]
            refine zaa hI ?_
            cases hii:indF n ⟨b,base,S.args,0⟩ so S.idx i with
            | false =>
              have hw:=hcv (by rw [hF,hr,hii]; rfl)
              simp -dsimp [g1,g2,k2,g7,hlt,hS,hw]
            | true =>
              cases hd:so.dec with
              | false =>
                have hnx:=hfi (by rw [hF,hr,hii,hd]; rfl)
                simp -dsimp [g1,g2,k2,g7,hlt,hS,eCo,cCo,cT,eArs,eTs,c0,hso,hsolt,hso',eSo,cSo,hd,w1,eSos,eCos]
                try exact hnx
              | true =>
                rw [hd] at hmb
                have hin:inM S.dec S.args.length=true:=by rw [zgi,if_pos rfl] at hmb; exact hmb
                have hdn:=fs.dec
                have hD:=zng n hN ⟨b,base,S.args,0⟩ S.dec (hpk _ hal) (by simp; omega) os.dec (zer hin (by omega) (by omega) (by omega)).2.1 (by omega)
                rw [hrp] at hD
                simp only [cT,eSos,eCos] at hD
                simp -dsimp [g1,g2,k2,g7,hlt,hS,eCo,cCo,cT,eArs,eTs,c0,hso,hsolt,hso',eSo,cSo,hd]
                refine zaa hD ?_
                cases hc:zaj n ⟨b,base,S.args,0⟩ S.dec with
                | false =>
                  have hw:=hcv (by rw [hF,hr,hii,hd,hc]; rfl)
                  simp -dsimp [g1,g2,k2,g7,hlt,hS,hw]
                | true =>
                  have hnx:=hfi (by rw [hF,hr,hii,hd,hc]; rfl)
                  simp -dsimp [g1,g2,k2,g7,hlt,hS,w1,eSos,eCos]
                  try exact hnx
        · have e:i=b.cons.length:=by omega
          subst e
          have hzc:allI (fun c x=>conF n b base c x) 0 b.cons=true:=(zaq _ _ _).2 fun j hj=>by rw [ybj]; exact g j hj hj
          have hw:=hgood (by rw [posF,hzs,hzc]; rfl)
          simp -dsimp [g1,g2,k2,g7,hw]
end
end
section
end
section
section
attribute [local simp] zaf zag tk tn tks zcl zcu zbq zbu zbt zc5
theorem zXz {b:Bl} {base k:Int} (hp:zda 9000 b base=0) (k0:0≤k) {so:So} (hk:b.sorts[k.toNat]? = some so):motE b base k=za0 (motT b base k so)∧motR b base k=zc4 (motT b base k so):=by
  have hlt:=(yae.1 hk).1
  have hm:mayP b base k b.sorts.length=0:=by rw [mayP,if_neg (by omega),hp]
  have e:motE b base k=za0 (motT b base k so):=by rw [motE,if_pos hm,hk]
  exact ⟨e,by rw [motR,zc4,e,hk]⟩
end
end
section
section
attribute [local simp] zaf zag tk tn tks zcl zcu zbq zbu zbt zc5
mutual
def eqB:T→T→Bool
  | .mk k n ks,.mk k' n' ks'=>decide (k=k') && (decide (n=n') && eqLB ks ks')
def eqLB:List T→List T→Bool
  | [],[]=>true
  | x :: xs,y :: ys=>eqB x y && eqLB xs ys
  | _,_=>false
end
theorem zUy {xs:List T} (hx:∀ x ∈ xs,∀ y,eqB x y=true→x=y):∀ ys,eqLB xs ys=true→xs=ys:=by
  induction xs with
  | nil=>intro ys h; cases ys with
    | nil=>rfl
    | cons y ys=>simp [eqLB] at h
  | cons x xs ih=>intro ys h; cases ys with
    | nil=>simp [eqLB] at h
    | cons y ys =>
      rw [eqLB,ybJ] at h
      rw [hx x (by simp) y h.1,ih (fun z hz=>hx z (by simp [hz])) ys h.2]
theorem zYg (t:T):∀ u,eqB t u=true→t=u:=by
  refine T.ind (p:=fun t=>∀ u,eqB t u=true→t=u) ?_ t
  intro k n ks ih u h
  obtain ⟨k',n',ks'⟩:=u
  rw [eqB] at h
  simp only [ybJ,decide_eq_true_eq] at h
  rw [h.1,h.2.1,zUy ih ks' h.2.2]
def rsA' (b:Bl) (base:Int) (ahead:Nat) (vars:Int) (own:List T) (i:Nat) (a:Ar):List T :=
  (own[i]?).getD zT :: (if a.rc then [spT (tC (za3 b base a.sort)) (lvs 0 ahead vars ++ a.idx.map (fun t=>mapT (zc6 (own.take i) 0) t 0) ++ [(own[i]?).getD zT])] else [])
def rsL' (b:Bl) (base:Int) (ahead:Nat) (vars:Int) (own:List T):Nat→List Ar→List T
  | _,[]=>[]
  | i,a :: l=>rsA' b base ahead vars own i a ++ rsL' b base ahead vars own (i+1) l
def zVo (b:Bl) (base k vars:Int) (so:So):T :=
  spT (.mk 1 (vars - 1 - k) []) (rsL' b base (b.sorts.length+b.cons.length) vars (lvs ((b.sorts.length+b.cons.length:Nat):Int) so.idx.length vars) 0 so.idx ++ [.mk 1 0 []])
theorem zTd (b:Bl) (base:Int) (ahead:Nat) (vars:Int) (own:List T):∀ (l:List Ar) (i:Nat),(∀ (j:Nat) (h:j<l.length),l[j].rc=true → ∀ t ∈ l[j].idx,zid t (own.take (i+j)) 0=0)→rsL b base ahead vars own i l=rsL' b base ahead vars own i l
  | [],i,_=>rfl
  | a :: l,i,h=>by
    rw [rsL,rsL',zTd b base ahead vars own l (i+1) fun j hj hr t ht=>by
      have:=h (j+1) (by simpa using hj) (by simpa using hr) t (by simpa using ht)
      rwa [show i+1+j=i+(j+1) by omega]]
    congr 1
    rw [rsA,rsA']
    congr 1
    cases hr:a.rc with
    | false=>rfl
    | true =>
      have h0:=h 0 (by simp) (by simpa using hr)
      simp only [List.getElem_cons_zero,Nat.add_zero] at h0
      have e:a.idx.map (fun t=>zei t (own.take i) 0)=a.idx.map (fun t=>mapT (zc6 (own.take i) 0) t 0):=ydh fun t ht=>zDc (h0 t ht)
      rw [e]
def motU (b:Bl) (base:Int) (j:Nat):T:=match b.sorts[j]? with | some s=>motT b base j s | none=>zT
def metU (b:Bl) (base:Int) (c:Nat):T:=match b.cons[c]? with | some x=>(match b.sorts[x.sort.toNat]? with | some s=>metT b base c x s | none=>zT) | none=>zT
def elL' (b:Bl) (base k:Int) (so:So):List T:=(yai b.sorts.length).map (motU b base) ++ (yai b.cons.length).map (metU b base) ++ so.idx.map (zcj b base) ++ [spT (tC (zbm b base k)) (zdy so.idx.length)]
def elT' (b:Bl) (base k:Int) (so:So):T:=zcq 4 (elL' b base k so) (zVo b base k ((b.sorts.length+b.cons.length+so.idx.length+1:Nat):Int) so)
theorem zO5 {b:Bl} {base:Int} (hp:zda 9000 b base=0) {j:Nat} (hj:j<b.sorts.length):motE b base j=za0 (motU b base j)∧motR b base j=zc4 (motU b base j):=by
  have hk:b.sorts[(j:Int).toNat]? = some b.sorts[j]:=by rw [ycS]; exact yar hj
  have h:=zXz hp (by omega:(0:Int)≤j) hk
  rw [motU,yar hj]
  exact h
theorem zTe {b:Bl} {base:Int} (hp:zda 9000 b base=0) {c:Nat} (hc:c<b.cons.length):metA b base c=some (metU b base c):=by
  obtain ⟨hz,_,_,hpos⟩:=zib hp
  obtain ⟨z1,z4,z8,zl,zs,zc⟩:=(zbo b).1 hz
  obtain ⟨_,s0,so,hso,_⟩:=zqy (zc _ (yaf hc))
  rw [metA,ycS,yar hc,metU,yar hc]
  simp only [hso]
theorem zOj {b:Bl} {base:Int} (hp:zda 9000 b base=0) {c:Nat} (hc:c<b.cons.length):metE b base c=za0 (metU b base c)∧metR b base c=zc4 (metU b base c):=by
  have hm:mayP b base c b.cons.length=0:=by rw [mayP,if_neg (by omega),hp]
  have e:metE b base c=za0 (metU b base c):=by rw [metE,if_pos hm,zTe hp hc]
  exact ⟨e,by rw [metR,zc4,e,zTe hp hc]; rfl⟩
theorem zXv {b:Bl} {base k:Int} {so:So} (hp:zda 9000 b base=0) (h1:∀ j,j<b.sorts.length→motE b base j=0) (h2:∀ c,c<b.cons.length→metE b base c=0):elL b base k so=elL' b base k so:=by
  have e1:zfr b base b.sorts.length=(yai b.sorts.length).map (motU b base):=ydh fun j hj=>by
    have hj:=ybE.1 hj
    have h:=zO5 hp hj
    rw [h.2,zc4,if_pos (by rw [← h.1]; exact h1 j hj)]
  have e2:zk6 b base b.cons.length=(yai b.cons.length).map (metU b base):=ydh fun j hj=>by
    have hj:=ybE.1 hj
    have h:=zOj hp hj
    rw [h.2,zc4,if_pos (by rw [← h.1]; exact h2 j hj)]
  rw [elL,elL',e1,e2]
theorem zO8 {b:Bl} {k:Nat} {s:So} (h:zh2 b k s=true):∀ a ∈ s.idx,a.rc=true→a.dom=[]:=fun a ha hr=>by
  have:=((zcv _ _ _).1 h).2.2.2 a ha
  rw [zf1,if_pos hr] at this
  split at this
  · cases this
  · exact List.eq_nil_of_length_eq_zero (by omega)
theorem zVg {b:Bl} (fb:FineBl b) (hf:Fit b) {base k:Int} (hp:zda 9000 b base=0) {so:So} (hk:b.sorts[k.toNat]? = some so) {V:Nat} (hV:V=b.sorts.length+b.cons.length+so.idx.length+1):resE b base k (V:Int) so=zVo b base k (V:Int) so:=by
  obtain ⟨hz,_,_,hpos⟩:=zib hp
  obtain ⟨z1,z4,z8,zl,zs,zc⟩:=(zbo b).1 hz
  obtain ⟨hlt,hS⟩:=yae.1 hk
  have hsm:=zs _ hlt
  have fs:=fb.sorts _ (yaf hlt)
  rw [hS] at hsm fs
  obtain ⟨hrow,_,_,_⟩:=(zcv _ _ _).1 hsm
  have hfs:=hf.s
  have hfc:=hf.c
  have hil:=fs.idx.1
  rw [resE,zVo,zTd _ _ _ _ _ _ _ fun j hj hr t ht=>by
    rw [ybj]
    exact zH4 hrow fs.idx (zO8 hsm) (by omega) (by omega) (by omega) j hj hr t ht]
def zU3 (b:Bl) (base k:Int) (so:So):Bool:=zBq b base true && ((yai b.sorts.length).all (fun j=>zBl (motU b base j) && decide (nodB (motU b base j)≤200)) &&
  ((yai b.cons.length).all (fun j=>zBl (metU b base j) && decide (nodB (metU b base j)≤200)) && (zBl (elT' b base k so) && decide (nodB (elT' b base k so)≤200))))
theorem zLp {b:Bl} {base k:Int} {so:So} (k0:0≤k) (hk:b.sorts[k.toNat]? = some so) (h:zU3 b base k so=true):elE b base k=0∧elR b base k=elT' b base k so:=by
  simp only [zU3,ybJ,yaC,ybE,decide_eq_true_eq] at h
  obtain ⟨h0,h1,h2,h3,h4⟩:=h
  have hp:=zLl h0
  obtain ⟨ob,fb,hf⟩:=zB7 h0
  have hlt:=(yae.1 hk).1
  have a1:∀ j,j<b.sorts.length→motE b base j=0:=fun j hj=>by rw [(zO5 hp hj).1]; exact zPq (h1 j hj).1 (h1 j hj).2
  have a2:∀ j,j<b.cons.length→metE b base j=0:=fun j hj=>by rw [(zOj hp hj).1]; exact zPq (h2 j hj).1 (h2 j hj).2
  have hm:mayP b base k b.sorts.length=0:=by rw [mayP,if_neg (by omega),hp]
  have eT_:elT b base k so=elT' b base k so:=by
    rw [elT,elT',zIa,zXv hp a1 a2,zVg fb hf hp hk rfl]
  have e:elE b base k=0:=by
    rw [elE,if_pos hm,if_pos (zG3.2 a1),if_pos (zG3.2 a2),hk]
    simp only [eT_]
    exact zPq h3 h4
  exact ⟨e,by rw [elR,if_pos e,hk]; exact eT_⟩
def soN:So:=⟨[],0,false,zT⟩
def natW (n:Int):T:=tP (tP (tC n) (.mk 2 0 [])) (tP (tA (tV 0) (tC (n+1))) (tP (tP (tC n) (tP (tA (tV 2) (tV 0)) (tA (tV 3) (tA (tC (n+2)) (tV 1))))) (tP (tC n) (tA (tV 3) (tV 0)))))
theorem zYu:zU3 natB 0 0 soN=true:=by decide +kernel
theorem zT0:elT' natB 0 0 soN=natW 0:=zYg _ _ (by decide +kernel)
theorem zLr {L:List T} {R:T} (hk:R.kind ≠ 4) (hl:L.length≤1000) (oL:∀ x ∈ L,okT x) (oR:okT R):Pure Tryz.prog zfc [.agg (cT (zcq 4 L R))] [eTs L,.agg (cT R)]:=by
  have e:=zUv L R
  have e2:=zTw (t:=R) hk
  rw [e2.1,e2.2,List.append_nil] at e
  have h:=zPj (zcq 4 L R) (by rw [e.1]; omega) (by rw [e.2]; exact oR) (by rw [e.1]; exact ⟨by omega,oL⟩)
  rw [e.1,e.2] at h
  exact h
theorem zNx:elE natB 0 0=0∧elR natB 0 0=natW 0:=by
  obtain ⟨h1,h2⟩:=zLp (b:=natB) (base:=0) (k:=0) (so:=soN) (by omega) rfl zYu
  exact ⟨h1,h2.trans zT0⟩
set_option maxHeartbeats 2000000 in
theorem zLs:Pure Tryz.prog zhx [] [.bool true]:=by
  refine ztn rfl fun hs=>?_
  obtain ⟨ob,fb,hf⟩:=zB7 nat8
  have hN:=zXg
  have h1:=zIu natB ob fb hf 0 0
  obtain ⟨e1,e2⟩:=zNx
  rw [e1,e2] at h1
  have hU:=zLr (L:=[tP (tC 0) (.mk 2 0 []),tA (tV 0) (tC 1),tP (tC 0) (tP (tA (tV 2) (tV 0)) (tA (tV 3) (tA (tC 2) (tV 1)))),tC 0]) (R:=tA (tV 3) (tV 0)) (by decide) (by simp) (fun x hx=>zCh (t:=x) (by
    simp only [yaZ,ycD,or_false] at hx
    rcases hx with rfl | rfl | rfl | rfl <;> decide +kernel)) (zCh _ (by decide +kernel))
  have k1:=zjp (tA (tV 3) (tV 0))
  have e3:zcq 4 [tP (tC 0) (.mk 2 0 []),tA (tV 0) (tC 1),tP (tC 0) (tP (tA (tV 2) (tV 0)) (tA (tV 3) (tA (tC 2) (tV 1)))),tC 0] (tA (tV 3) (tV 0))=natW 0:=rfl
  rw [e3] at hU
  simp only [zMy,cBl,eBl,natW,tP,tA,tC,tV,cT,eTs,List.map_cons,ycE,za4,tk,tn,tks,ycv,ycu,Int.zero_add] at hN h1 hU k1
  simp -dsimp [zhn]
  refine zaa hN ?_
  simp -dsimp
  refine zaa h1 ?_
  simp -dsimp
  refine zaa hU ?_
  simp -dsimp
  repeat ((first | refine zaa (craw _) ?_ | refine zaa (vraw _) ?_ | refine zaa (uraw _) ?_ | refine zaa (traw _ _ (by simp [zad])) ?_ | refine zaa k1 ?_); simp -dsimp)
end
end
section
attribute [local simp] zaf zag tk tn tks zbq zbu zbt zc5
theorem zCr (b:Bl) (ob:okBl b) (hb:bulk (eBl b)≤1048576) (base k:Int):Pure Tryz.prog zok [eBl b,.int .i64 base,.int .i64 k] [.bool true]:=by
  refine zYs hm Tryz.func7 zob rfl fun w0=>?_
  have hres:zi1.res=[XRes.tmp 6]:=rfl
  rw [hres]
  have hh:=zLo b
  simp only [eBl,cBl] at hh
  refine Snd.seqF (fun st=>SK base k st∧SI 3 .d b st∧VZ [7,8,10] st) (fun K hK=>?_) ?_
  · simp -dsimp [eBl,cBl]
    refine hK _ ?_
    simp -dsimp [SK,SI,VZ,eBl,cBl,eTs]
  rintro ⟨s,hp⟩ ⟨⟨g1,g2⟩,⟨g3,g4⟩,hv⟩
  dsimp only at g1 g2 g3 g4
  refine Snd.seqF (fun st=>SK base k st∧SI 3 .d b st∧VZ [7,8,10] st∧zjx b=false) (fun K hK=>?_) ?_
  · simp -dsimp [g1,g2,g3,g4]
    refine zaa hh ?_
    simp -dsimp [g1,g2,g3,g4]
    (first | refine zal ?_ ?_ | refine zam ?_ ?_) <;> intro h1 <;> (try simp only [nrm] at h1) <;> simp -dsimp [h1,g1,g2,g3,g4]
    refine hK _ ?_
    have hv':=hv
    simp only [VZ,yaZ,ycD,or_false,forall_eq_or_imp,forall_eq] at hv'
    obtain ⟨v1,v2,v3⟩:=hv'
    simp -dsimp [SK,SI,VZ,h1,g1,g2,g3,g4,v1,v2,v3]
  clear g1 g2 g3 g4 hv
  rintro ⟨s,hp⟩ ⟨⟨g1,g2⟩,⟨g3,g4⟩,hv,h1⟩
  dsimp only at g1 g2 g3 g4
  have hf:=zTb h1
  have fb:=zWp hb h1
  have tw:=zFd b ob
  simp only [eBl,cBl] at tw
  refine Snd.seqF (fun st=>SK base k st∧SI 3 .d b st∧SI 7 .d b st∧VZ [8,10] st) (fun K hK=>?_) ?_
  · have hv':=hv
    simp only [VZ,yaZ,ycD,or_false,forall_eq_or_imp,forall_eq] at hv'
    obtain ⟨v1,v2,v3⟩:=hv'
    simp -dsimp [g1,g2,g3,g4]
    refine zaa tw ?_
    simp -dsimp [g1,g2,g3,g4,v1]
    refine hK _ ?_
    simp -dsimp [SK,SI,VZ,g1,g2,g3,g4,v1,v2,v3]
  clear g1 g2 g3 g4 hv
  rintro st ⟨hk,hi3,hi7,hv⟩
  refine Snd.cut fun m=>?_
  have hF:SK base k (oldS st)∧SI 3 (.n false) b (oldS st)∧SI 7 (.n false) b (oldS st)∧VZ [8,10] (oldS st):=⟨hk.old,hi3.old,hi7.old,fun j hj=>hv j hj⟩
  revert hF
  generalize oldS st=st
  clear hk hi3 hi7 hv
  obtain ⟨s,hp⟩:=st
  rintro ⟨⟨g1,g2⟩,⟨g3,g4⟩,⟨g7,g8⟩,hv⟩
  dsimp only at g1 g2 g3 g4 g7 g8
  have hv':=hv
  simp only [VZ,yaZ,ycD,or_false,forall_eq_or_imp,forall_eq] at hv'
  obtain ⟨v2,v3⟩:=hv'
  have nM:=zxe b ob fb hf base k
  simp only [cT,eBl,cBl,eSos,eCos] at nM
  refine Snd.seqF (fun st=>SK base k st∧SI 3 (.n false) b st∧SI 7 (.n false) b st∧SO 8 9 (.n true) (elR b base k) (elE b base k) st∧VZ [10] st) (fun K hK=>?_) ?_
  · simp -dsimp [g1,g2,g3,g4,g7,g8,eSos,eCos]
    refine zdj nM ?_
    simp -dsimp [g1,g2,g3,g4,g7,g8,v2]
    refine hK _ ?_
    simp -dsimp [SK,SI,SO,VZ,g1,g2,g3,g4,g7,g8,v2,v3]
  clear g1 g2 g3 g4 g7 g8 hv v2 v3 nM
  rintro ⟨s,hp⟩ ⟨⟨g1,g2⟩,⟨g3,g4⟩,⟨g7,g8⟩,⟨a1,a2,a3⟩,hv⟩
  dsimp only at g1 g2 g3 g4 g7 g8 a1 a2 a3
  have v3:(hp 10).ver=0:=hv 10 (by simp)
  have kB:=zFz b
  simp only [eBl,cBl,eSos,eCos] at kB
  refine Snd.seqF (fun st=>SK base k st∧SI 3 (.n false) b st∧SI 7 (.n false) b st∧SO 8 9 (.n true) (elR b base k) (elE b base k) st∧VZ [10] st) (fun K hK=>?_) ?_
  · simp -dsimp [g1,g2,g3,g4,g7,g8,a1,a2,a3,eSos,eCos]
    refine zaa kB ?_
    simp -dsimp [g1,g2,g3,g4,g7,g8,a1,a2,a3]
    refine hK _ ?_
    simp -dsimp [SK,SI,SO,VZ,g1,g2,g3,g4,g7,g8,a1,a2,a3,v3,eSos,eCos]
  clear g1 g2 g3 g4 g7 g8 a1 a2 a3 hv v3
  rintro ⟨s,hp⟩ ⟨⟨g1,g2⟩,⟨g3,g4⟩,⟨g7,g8⟩,⟨a1,a2,a3⟩,hv⟩
  dsimp only at g1 g2 g3 g4 g7 g8 a1 a2 a3
  have v3:(hp 10).ver=0:=hv 10 (by simp)
  have hPo:=zM3 9000 (by omega) (by omega) b ob fb hf base
  simp only [eBl,cBl,eSos,eCos] at hPo
  refine Snd.seqF (fun st=>SK base k st∧SI 3 (.n false) b st∧SI 7 (.n false) b st∧SO 8 9 (.n true) (elR b base k) (elE b base k) st∧SP 10 11 zT (zda 9000 b base) st) (fun K hK=>?_) ?_
  · simp -dsimp [g1,g2,g3,g4,g7,g8,a1,a2,a3,v3,eSos,eCos]
    refine zaa hPo ?_
    simp -dsimp [g1,g2,g3,g4,g7,g8,a1,a2,a3,v3]
    refine hK _ ?_
    simp -dsimp [SK,SI,SO,SP,zT,g1,g2,g3,g4,g7,g8,a1,a2,a3,v3,eSos,eCos]
  clear g1 g2 g3 g4 g7 g8 a1 a2 a3 hv v3
  rintro ⟨s,hp⟩ ⟨⟨g1,g2⟩,⟨g3,g4⟩,⟨g7,g8⟩,⟨a1,a2,a3⟩,c1,⟨c,c2,hc⟩,c3⟩
  dsimp only at g1 g2 g3 g4 g7 g8 a1 a2 a3 c1 c2 c3
  simp only [zT,tk,tn] at c2
  obtain ⟨m1,m2,m3⟩:=zq7 (b:=b) (base:=base) (k:=k) (many:=b.sorts.length)
  refine Snd.seqF (fun st=>SK base k st∧SI 3 (.n false) b st∧SI 7 (.n false) b st∧SO 8 9 (.n true) (elR b base k) (elE b base k) st∧SP 10 11 zT (mayP b base k b.sorts.length) st) (fun K hK=>?_) ?_
  · by_cases hz:zda 9000 b base=0
    · by_cases k0:k<0
      · have hM:=m2 hz (.inl k0)
        simp -dsimp [g1,g2,g3,g4,g7,g8,a1,a2,a3,c1,c2,c3,hz,k0,eSos,eCos]
        refine hK _ ?_
        simp -dsimp [SK,SI,SO,SP,zT,g1,g2,g3,g4,g7,g8,a1,a2,a3,c1,c2,c3,hM,eSos,eCos]
        simpa [zT] using hc
      · by_cases k1:(b.sorts.length:Int)≤k
        · have hM:=m2 hz (.inr k1)
          simp -dsimp [g1,g2,g3,g4,g7,g8,a1,a2,a3,c1,c2,c3,hz,k0,k1,eSos,eCos]
          refine hK _ ?_
          simp -dsimp [SK,SI,SO,SP,zT,g1,g2,g3,g4,g7,g8,a1,a2,a3,c1,c2,c3,hM,eSos,eCos]
          simpa [zT] using hc
        · have hM:=m3 hz (by omega)
          simp -dsimp [g1,g2,g3,g4,g7,g8,a1,a2,a3,c1,c2,c3,hz,k0,k1,eSos,eCos]
          refine hK _ ?_
          simp -dsimp [SK,SI,SO,SP,zT,g1,g2,g3,g4,g7,g8,a1,a2,a3,c1,c2,c3,hM,hz,eSos,eCos]
          simpa [zT] using hc
    · have hM:=m1 hz
      rw [hM] at hK
      generalize zda 9000 b base=E at *
      simp -dsimp [g1,g2,g3,g4,g7,g8,a1,a2,a3,c1,c2,c3,hz,eSos,eCos]
      refine hK _ ?_
      simp -dsimp [SK,SI,SO,SP,zT,g1,g2,g3,g4,g7,g8,a1,a2,a3,c1,c2,c3,eSos,eCos]
      simpa [zT] using hc
  clear g1 g2 g3 g4 g7 g8 a1 a2 a3 c1 c2 c3 hc m1 m2 m3
  rintro ⟨s,hp⟩ ⟨⟨g1,g2⟩,⟨g3,g4⟩,⟨g7,g8⟩,⟨a1,a2,a3⟩,c1,⟨c,c2,hc⟩,c3⟩
  dsimp only at g1 g2 g3 g4 g7 g8 a1 a2 a3 c1 c2 c3
  simp only [zT,tk,tn] at c2
  refine Snd.seqF (fun st=>SK base k st∧SI 3 (.n false) b st∧SI 7 (.n false) b st∧SO 8 9 (.n true) (elR b base k) (elE b base k) st∧SP 10 11 (elR b base k) (elE b base k) st) (fun K hK=>?_) ?_
  · by_cases hM:mayP b base k b.sorts.length=0
    · obtain ⟨hz,k0,k1⟩:=zAl hM
      have hR:=zGg b ob fb hf base k hz k0 k1
      generalize elR b base k=ER at *
      generalize elE b base k=EE at *
      simp only [cT,eBl,cBl,eSos,eCos] at hR
      simp -dsimp [g1,g2,g3,g4,g7,g8,a1,a2,a3,c1,c2,c3,hM,eSos,eCos]
      refine zaa hR ?_
      simp -dsimp [g1,g2,g3,g4,g7,g8,a1,a2,a3,c1,c2,c3,hM,eSos,eCos]
      refine hK _ ?_
      simp -dsimp [SK,SI,SO,SP,g1,g2,g3,g4,g7,g8,a1,a2,a3,c1,c2,c3,eSos,eCos]
    · have e1:elE b base k=mayP b base k b.sorts.length:=by rw [elE,if_neg hM]
      have e2:elR b base k=zT:=by rw [elR,e1,if_neg hM]
      rw [← e1] at hM c3
      generalize elE b base k=EE at *
      simp -dsimp [g1,g2,g3,g4,g7,g8,a1,a2,a3,c1,c2,c3,hM,eSos,eCos]
      refine hK _ ?_
      simp -dsimp [SK,SI,SO,SP,g1,g2,g3,g4,g7,g8,a1,a2,a3,c1,c2,c3,eSos,eCos]
      rw [e2]
      simp only [zT,tk,tn,tks] at hc ⊢
      exact ⟨c,⟨trivial,trivial,rfl⟩,by simpa using hc⟩
  clear g1 g2 g3 g4 g7 g8 a1 a2 a3 c1 c2 c3 hc
  rintro ⟨s,hp⟩ ⟨⟨g1,g2⟩,⟨g3,g4⟩,⟨g7,g8⟩,⟨a1,a2,a3⟩,c1,⟨c,c2,hc⟩,c3⟩
  dsimp only at g1 g2 g3 g4 g7 g8 a1 a2 a3 c1 c2 c3
  have kM:=zjp (elR b base k)
  refine Snd.seqF (fun st=>SK base k st∧SI 3 (.n false) b st∧SI 7 (.n false) b st∧SO 8 9 (.n true) (elR b base k) (elE b base k) st) (fun K hK=>?_) ?_
  · generalize elR b base k=MR at *
    generalize elE b base k=ME at *
    simp only [cT] at kM
    rcases hc with rfl | ⟨rfl,hc⟩
    · simp -dsimp [g1,g2,g3,g4,g7,g8,a1,a2,a3,c1,c2,c3]
      refine zaa kM ?_
      simp -dsimp [g1,g2,g3,g4,g7,g8,a1,a2,a3,c1,c2,c3]
      refine hK _ ?_
      simp -dsimp [SK,SI,SO,g1,g2,g3,g4,g7,g8,a1,a2,a3,eSos,eCos]
    · rw [hc,ycE] at kM a2
      simp -dsimp [g1,g2,g3,g4,g7,g8,a1,a2,a3,c1,c2,c3]
      refine zaa kM ?_
      simp -dsimp [g1,g2,g3,g4,g7,g8,a1,a2,a3,c1,c2,c3]
      refine hK _ ?_
      simp -dsimp [SK,SI,SO,g1,g2,g3,g4,g7,g8,a1,a2,a3,hc,eSos,eCos]
  clear g1 g2 g3 g4 g7 g8 a1 a2 a3 c1 c2 c3 hc kM
  rintro st ⟨-,hi3,hi7,a1,a2,-⟩
  refine Spd.enter 62 ?_
  refine Spd.term (by omega) (by omega) (by omega) a1 a2 ?_
  refine Spd.leave ?_
  have hF:SI 3 .d b (aftS 62 st)∧SI 7 .d b (aftS 62 st):=⟨hi3.aft (by omega),hi7.aft (by omega)⟩
  revert hF
  generalize aftS 62 st=st
  clear a1 a2 hi3 hi7
  obtain ⟨s,hp⟩:=st
  rintro ⟨⟨g3,g4⟩,g7,g8⟩
  dsimp only at g3 g4 g7 g8
  refine Snd.last ?_
  simp -dsimp [g3,g4,g7,g8,eSos,eCos]
  refine zaa kB ?_
  simp -dsimp [g3,g4,g7,g8]
  refine zaa zLs ?_
  simp -dsimp [g3,g4,g7,g8]
end
end Ev
end Go.Proofs.YtncmainjcffanaaGreat
