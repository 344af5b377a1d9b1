/- Texts of this claim, in one. -/
import Derived.Test.YtncmainjcffanaaGreatMb
import Derived.Test.YtncmainjcffanaaGreatXc
import Derived.Test.YtncmainjcffanaaGreatXs
set_option maxRecDepth 100000
set_option linter.unusedSimpArgs false
set_option linter.unusedVariables false
open List renaming all_eq_true→yaC,any_eq_false→ycf,append_assoc→ycY,cons_append→ycv,eq_nil_of_length_eq_zero→ybo,getElem?_eq_getElem→yar,getElem?_eq_some_iff→yae,getElem?_map→yau,getElem?_take_of_lt→ydb,getElem_cons_succ→ycB,getElem_mem→yaf,length_append→yaF,length_cons→yaS,length_eq_zero_iff→ycL,length_map→ycn,length_nil→ybt,length_replicate→ybc,length_singleton→ycZ,length_take→yaE,map_append→ycN,map_cons→yaV,map_nil→ycE,map_singleton→yde,mem_append→yaY,mem_cons→yaZ,mem_iff_getElem→ycM,mem_map→ybb,mem_of_getElem?→yas,mem_of_mem_take→ydc,mem_range→ybE,mem_singleton→ybw,nil_append→ycu,range→yai,range_succ→ydd,replicate→yaa,take_length→yce,take_of_length_le→ycd,take_succ_cons→ycC
open Nat renaming le_refl→yab,le_trans→yac,lt_or_ge→ybm,zero_add→ybj
open Int renaming add_zero→yda,toNat_natCast→ycS
open Option renaming getD_some→ybG
open Bool renaming and_eq_true→ybJ,false_eq_true→yao,not_eq_true'→ybK
namespace Go.Proofs.YtncmainjcffanaaGreat
namespace Ev
open Go
section
section
attribute [local simp] zaf zag tk tn tks zcl zcu zbq zbu zbt zc5
def inT (v:Vw) (n:Nat) (so:So) (l:List T) (first:Nat) (more vars:Int):List T:=shA (fun x=>putT v x first more vars) (shT v first more vars n) so.idx l
theorem zof (v:Vw) (hv:VwOk v) (n:Nat) (hN:n≤1000000) (k:Int) (so:So) (hk0:0≤k) (hk:v.b.sorts[k.toNat]? = some so) (l:List T) (hll:l.length=so.idx.length) (first:Nat) (hfi:first≤v.args.length) (more vars:Int) (h0:0≤more) (h1:more≤1000) (h2:0≤vars) (h3:vars≤1000) (cons:Int)
    (hl:∀ x ∈ l,zac x=true∧okT x∧zae x≤n) (hg:indF n (plV v first more) so l cons=true) :
    OwnC Tryz.prog ze4 [.rp (cVw v),.int .i64 k,eTs l,.int .i64 first,.int .i64 more,.int .i64 vars] [.one (.row 3 ((inT v n so l first more vars).map eT) false)]∧(∀ y ∈ inT v n so l first more vars,okT y)∧(inT v n so l first more vars).length≤40:=by
  have hp:=hv.pos
  have hpl:=hv.len
  have hal:=hv.al
  have hsil:=hv.si _ (yas hk)
  have hklt:=(yae.1 hk).1
  have hk':=(yae.1 hk).2
  have hrec:∀ (i:Nat) (h:i<so.idx.length) (h':i<l.length),so.idx[i].rc=true →
      Pure Tryz.prog zdr [.rp (cVw v),.agg (cT l[i]),.int .i64 first,.int .i64 more,.int .i64 vars] [.agg (cT (shT v first more vars n l[i]))]∧okT (shT v first more vars n l[i]):=fun i h h' hr=>by
    obtain ⟨x1,x2,x3⟩:=hl _ (yaf h')
    refine zR4 v hv first hfi more vars h0 h1 h2 h3 cons n _ hN x1 x2 x3 (.inr ?_)
    rw [indF] at hg
    have hA:=(zaq _ _ _).1 hg i h
    rw [ybj,yar h'] at hA
    simpa only [hr,if_true] using hA
  have hput:∀ (i:Nat) (h':i<l.length),Pure Tryz.prog zbs [.rp (cVw v),.agg (cT l[i]),.int .i64 first,.int .i64 more,.int .i64 vars] [.agg (cT (putT v l[i] first more vars))]:=fun i h'=>by
    obtain ⟨x1,x2,x3⟩:=hl _ (yaf h')
    exact zDw v hp _ x1 (by omega) first (by omega) more vars h0 (by omega) h2 (by omega)
  have oAll:∀ y ∈ inT v n so l first more vars,okT y:=zzi _ _ fun i h h'=>by
    obtain ⟨x1,x2,x3⟩:=hl _ (yaf h')
    exact ⟨znb hp x1 x2 (by omega) first more vars h0 (by omega) h2 (by omega),fun hr=>(hrec i h h' hr).2⟩
  have hlen:=zoc (fun x=>putT v x first more vars) (shT v first more vars n) so.idx l
  refine ⟨?_,oAll,by rw [inT]; omega⟩
  have hsn:=zvt (fun x=>putT v x first more vars) (shT v first more vars n) so.idx l
  have hsl2:=fun i=>zoc (fun x=>putT v x first more vars) (shT v first more vars n) (so.idx.take i) l
  rw [inT]
  clear oAll hl hg hlen
  refine zs1 rfl fun hs=>?_
  simp -dsimp [zh1,cVw,cBl,eTs,eSos,hk0,hklt,hk,hk',eSo,cSo,eArs,cT]
  refine zah so.idx.length (fun i st=>(st.s 0 = .d (.rp (cVw v))∧st.s 2 = .d (eTs l)∧st.s 3 = .d (.int .i64 first)∧st.s 4 = .d (.int .i64 more)∧st.s 5 = .d (.int .i64 vars))∧(st.s 12 = .rsl 12 1∧st.h 12=⟨1,.row 3 [] false⟩) ∧
    (st.s 24 = .d (eArs so.idx)∧st.s 25 = .d (.int .i64 so.idx.length))∧st.s 26 = .d (.int .i64 i) ∧
    ∃ u,st.s 13 = .rsl 13 u∧st.h 13=⟨u,.row 3 ((shA (fun x=>putT v x first more vars) (shT v first more vars n) (so.idx.take i) l).map eT) false⟩) ?_ ?_
  · simp -dsimp [cVw,cBl,eTs,eArs,eSos,shA]
  · rintro i ⟨s,hp'⟩ hi ⟨⟨g0,g2,g3,g4,g5⟩,⟨g12,k12⟩,⟨g24,g25⟩,g26,u,g13,k13⟩
    dsimp only at g0 g2 g3 g4 g5 g12 k12 g24 g25 g26 g13 k13
    simp only [eTs,eArs] at g2 g24
    rcases ybm i so.idx.length with hlt | hge
    · have w2:IntKind.i64.wrap ((i:Int)+1)=(i:Int)+1:=zab (by omega) (by omega)
      have hltA:i<l.length:=by omega
      have hsn1:=hsn i hlt hltA
      have hsl1:=hsl2 i
      rw [yaE] at hsl1
      have hPi:=hput i hltA
      have hRi:=hrec i hlt hltA
      generalize hAr:so.idx[i]=Ar_ at *
      generalize hX:l[i]=X at *
      rw [hsn1]
      generalize shA (fun x=>putT v x first more vars) (shT v first more vars n) (so.idx.take i) l=G at *
      have hgl:G.length≤40:=by omega
      have r1:(G.length+1)*40≤zad:=zjm hgl trivial
      have r2:(G.length+1+1)*40≤zad:=zxd hgl
      simp only [cT] at hPi hRi
      simp -dsimp [g0,g2,g3,g4,g5,g12,k12,g24,g25,g26,g13,k13,hlt,hltA,hAr,hX,eAr,cAr,cT]
      refine zaa hPi ?_
      cases hr:Ar_.rc with
      | false=>simp -dsimp [g0,g2,g3,g4,g5,g12,k12,g24,g25,g26,g13,k13,hlt,hltA,hAr,hX,eAr,cAr,cT,hr,r1,w2,za4,eTs,eArs]
      | true =>
        have hRi':=(hRi hr).1
        simp -dsimp [g0,g2,g3,g4,g5,g12,k12,g24,g25,g26,g13,k13,hlt,hltA,hAr,hX,eAr,cAr,cT,hr,r1]
        refine zaa hRi' ?_
        simp -dsimp [g0,g2,g3,g4,g5,g12,k12,g24,g25,g26,g13,k13,hlt,hltA,hAr,hX,eAr,cAr,cT,hr,r1,r2,w2,za4,eTs,eArs]
    · have e:i=so.idx.length:=by omega
      subst e
      rw [yce] at k13
      simp -dsimp [g0,g2,g3,g4,g5,g12,k12,g24,g25,g26,g13,k13]
theorem zEi (v:Vw) (hv:VwOk v) (vars:Int) (h2:0≤vars) (h3:vars≤1000):Pure Tryz.prog zio [.rp (cVw v),.int .i64 vars] [eTs (v.pos.map fun p=>lv p vars)] ∧ ∀ y ∈ v.pos.map (fun p=>lv p vars),okT y:=by
  have hp:=hv.pos
  have hpl:=hv.len
  have hal:=hv.al
  refine ⟨?_,fun y hy=>?_⟩
  case refine_2 =>
    obtain ⟨p,hpm,rfl⟩:=ybb.1 hy
    have:=hp.at_ p hpm
    exact zlc (by omega) (by omega) (by omega) (by omega)
  refine zAc rfl fun hs=>?_
  simp -dsimp [zl7,cVw,cBl]
  refine zah v.pos.length (fun i st=>st.s 1 = .d (.int .i64 vars)∧(st.s 4 = .rsl 4 1∧st.h 4=⟨1,.row 3 [] false⟩)∧(st.s 11 = .d (.sl 1 (v.pos.map (.int .i64)))∧st.s 12 = .d (.int .i64 v.pos.length))∧st.s 13 = .d (.int .i64 i) ∧
    ∃ u,st.s 5 = .rsl 5 u∧st.h 5=⟨u,.row 3 (((v.pos.map fun p=>lv p vars).take i).map eT) false⟩) ?_ ?_
  · simp -dsimp
  · rintro i ⟨s,hp'⟩ hi ⟨g1,⟨g4,k4⟩,⟨g11,g12⟩,g13,u,g5,k5⟩
    dsimp only at g1 g4 k4 g11 g12 g13 g5 k5
    rcases ybm i v.pos.length with hlt | hge
    · have w1:IntKind.i64.wrap ((i:Int)+1)=(i:Int)+1:=zab (by omega) (by omega)
      have hpj:=hp.at_ _ (yaf hlt)
      have hP:=znj v.pos[i] vars (by omega) (by omega) (by omega) (by omega)
      have hn:((v.pos.map fun p=>lv p vars).take (i+1)).map eT=((v.pos.map fun p=>lv p vars).take i).map eT ++ [.agg (cT (lv v.pos[i] vars))]:=by
        rw [zce (yar (by simpa using hlt)),ycN]
        simp [za4]
      generalize hX:lv v.pos[i] vars=X at *
      generalize hM:(v.pos.map fun p=>lv p vars)=M at *
      have hMl:M.length=v.pos.length:=by rw [← hM,ycn]
      have hr:(min i M.length+1)*40≤zad:=by simp only [zad]; omega
      rw [hn]
      simp only [cT] at hP
      simp -dsimp [g1,g4,k4,g11,g12,g13,g5,k5,hlt,cT]
      refine zaa hP ?_
      simp -dsimp [g1,g4,k4,g11,g12,g13,g5,k5,hlt,cT,hr,w1]
      try exact hlt
    · have e:i=v.pos.length:=by omega
      subst e
      rw [ycd (by simp)] at k5
      simp -dsimp [g1,g4,k4,g11,g12,g13,g5,k5,eTs]
def dmP (v:Vw) (first:Nat) (vars:Int):Nat→List T→List T
  | _,[]=>[]
  | j,d :: ds=>putT v d first j vars :: dmP v first vars (j+1) ds
theorem zDj (v:Vw) (first:Nat) (vars:Int):∀ (l:List T) (j i:Nat) (h:i<l.length),dmP v first vars j (l.take (i+1))=dmP v first vars j (l.take i) ++ [putT v l[i] first ((j+i:Nat):Int) vars]
  | d :: ds,j,0,h=>by simp [dmP]
  | d :: ds,j,i+1,h=>by
    simp only [ycC,dmP,ycB,ycv]
    rw [zDj v first vars ds (j+1) i (by simpa using h)]
    congr 4
    omega
theorem zHq (v:Vw) (first:Nat) (vars:Int):∀ (l:List T) (j:Nat),(dmP v first vars j l).length=l.length
  | [],j=>rfl
  | d :: ds,j=>by rw [dmP,yaS,zHq v first vars ds,yaS]
theorem zAy {v:Vw} {first:Nat} {vars:Int} {q:T→Prop}:∀ (l:List T) (j:Nat),(∀ (i:Nat) (h:i<l.length),q (putT v l[i] first ((j+i:Nat):Int) vars)) → ∀ y ∈ dmP v first vars j l,q y
  | [],j,_,y,hy=>by simp [dmP] at hy
  | d :: ds,j,h,y,hy=>by
    rw [dmP] at hy
    rcases yaZ.1 hy with rfl | hy
    · have:=h 0 (by simp)
      simpa using this
    · refine zAy ds (j+1) (fun i hi=>?_) y hy
      have:=h (i+1) (by simpa using hi)
      simp only [ycB] at this
      rwa [show j+1+i=j+(i+1) by omega]
def tyA (v:Vw) (n:Nat) (i:Nat) (p:Int) (a:Ar):List T :=
  putT v (zcj v.b v.base a) i 0 p :: (if a.rc then [zcq 4 (dmP v i (p+1) 0 a.dom) (spT (lv a.sort (p+1+a.dom.length)) ((match v.b.sorts[a.sort.toNat]? with
    | some so=>inT v n so a.idx i a.dom.length (p+1)
    | none=>[]) ++ [spT (lv p (p+1+a.dom.length)) (zdy a.dom.length)]))] else [])
def tyL (v:Vw) (n:Nat):Nat→List Ar→List T
  | _,[]=>[]
  | i,a :: l=>tyA v n i ((v.pos[i]?).getD 0) a ++ tyL v n (i+1) l
theorem zEh (v:Vw) (n:Nat):∀ (l:List Ar) (i j:Nat) (h:j<l.length),tyL v n i (l.take (j+1))=tyL v n i (l.take j) ++ tyA v n (i+j) ((v.pos[i+j]?).getD 0) l[j]
  | a :: l,i,0,h=>by simp [tyL]
  | a :: l,i,j+1,h=>by
    simp only [ycC,tyL,ycB,ycY]
    rw [zEh v n l (i+1) j (by simpa using h),show i+1+j=i+(j+1) by omega]
theorem zWu (n:Nat) (h:n≤65536):zAt n=zdy n:=by
  rw [zAt]
  split
  · have:n=0:=by omega
    subst this; rfl
  · rw [ycS]
theorem zyv (n:Nat) (h:n≤65536):∀ y ∈ zdy n,okT y:=fun y hy=>by
  simp only [zdy,ybb,ybE] at hy
  obtain ⟨i,hi,rfl⟩:=hy
  exact zdc (by omega) (by omega)
theorem zH6 {c c':Int} (hc:c≤c') (t:T):∀ v:Int,wiT t v c=true→wiT t v c'=true:=by
  refine T.ind (p:=fun t=>∀ v:Int,wiT t v c=true→wiT t v c'=true) ?_ t
  intro k n ks ih v h
  rw [wiT] at h ⊢
  by_cases h1:k=1
  · rw [if_pos h1] at h ⊢; exact h
  rw [if_neg h1] at h ⊢
  by_cases h2:k=2
  · rw [if_pos h2] at h ⊢; exact h
  rw [if_neg h2] at h ⊢
  by_cases h3:k=3
  · rw [if_pos h3] at h ⊢
    simp only [decide_eq_true_eq] at h ⊢
    omega
  rw [if_neg h3] at h ⊢
  have go:∀ (l:List T) (i:Nat),(∀ x ∈ l,x ∈ ks)→wiL k v c i l=true→wiL k v c' i l=true:=by
    intro l
    induction l with
    | nil=>intro i _ _; rw [wiL]
    | cons x l ihl =>
      intro i hm hw
      rw [wiL,ybJ] at hw ⊢
      exact ⟨ih x (hm x (by simp)) _ hw.1,ihl (i+1) (fun y hy=>hm y (by simp [hy])) hw.2⟩
  exact go ks 0 (fun _ h=>h) h
theorem zM5 {k n:Int} {a b:T} (hk:4≤k) (ha:VokT a) (hb:VokT b):VokT (.mk k n [a,b]) :=
  .mk _ _ _ (fun h=>by omega) (fun h=>by omega) (by simp) (by intro x hx; simp at hx; rcases hx with rfl | rfl <;> assumption)
theorem zJg {k:Int} (hk:4≤k) (t:T) (ht:VokT t):∀ l:List T,(∀ x ∈ l,VokT x)→VokT (zcq k l t)
  | [],_=>ht
  | a :: l,h=>zM5 hk (h a (by simp)) (zJg hk t ht l fun x hx=>h x (by simp [hx]))
theorem zTc:∀ (l:List T) (f:T),VokT f→(∀ x ∈ l,VokT x)→VokT (spT f l)
  | [],f,hf,_=>by simpa [spT] using hf
  | a :: l,f,hf,h=>zTc l (.mk 6 0 [f,a]) (zM5 (by omega) hf (h a (by simp))) fun x hx=>h x (by simp [hx])
theorem zFm {b:Bl} (hf:Fit b) {base:Int} (h0:0≤base) (h1:base≤65535) {a:Ar} (fa:FineAr a) {i:Nat} (hi:i≤1000) (h:argM b a i=true):wiT (zcj b base a) i 100000=true∧VokT (zcj b base a):=by
  have hfs:=hf.s
  rw [zcj]
  split
  · rename_i hr
    obtain ⟨_,s0,s1,d1,_,hd,hx⟩:=zut h hr (by omega) (by omega)
    have e:zbm b base a.sort=base+a.sort:=by rw [zkr hf h0 (by omega),if_pos ⟨s0,s1⟩]
    have hd':∀ (j:Nat) (hj:j<a.dom.length),wiT a.dom[j] (i+j) 100000=true∧VokT a.dom[j]:=fun j hj=>by
      obtain ⟨q1,q2,_⟩:=zer (hd j hj) (by omega) (by omega) (by have:=zJl (yaf hj); have:=fa.dom; omega)
      exact ⟨zH6 (by omega) _ _ q1,zsj _ q2⟩
    have hx':∀ x ∈ a.idx,wiT x (i+a.dom.length) 100000=true∧VokT x:=fun x hm=>by
      obtain ⟨q1,q2,_⟩:=zer (hx x hm) (by omega) (by omega) (by have:=zJl hm; have:=fa.idx; omega)
      exact ⟨zH6 (by omega) _ _ q1,zsj _ q2⟩
    refine ⟨zNw (.inl rfl) _ _ _ (fun j hj=>(hd' j hj).1) ?_,zJg (by omega) _ (zTc _ _ (.mk _ _ _ (fun h=>by omega) (fun _=>rfl) (by simp) (by simp)) fun x hm=>(hx' x hm).2) _ fun x hm=>?_⟩
    · rw [zY1,fmT,e,tC_wi (by split <;> omega),Bool.true_and,yaC]
      exact fun x hm=>(hx' x hm).1
    · obtain ⟨j,hj,rfl⟩:=ycM.1 hm
      exact (hd' j hj).2
  · rename_i hr
    have hr':a.rc=false:=by cases h':a.rc <;> simp_all
    obtain ⟨q1,q2,_⟩:=zer (zBz h hr') (by omega) (by omega) (by have:=fa.ty; omega)
    exact ⟨zH6 (by omega) _ _ q1,zsj _ q2⟩
structure TyOk (v:Vw) (n:Nat) (cons:Int):Prop where
  vw:VwOk v
  fit:Fit v.b
  b0:0≤v.base
  b1:v.base≤65535
  pos:∀ p ∈ v.pos,p≤900
  ok:zw6 v.args
  fine:zjv v.args
  row:rowM v.b v.args=true
  good:rowF n v.b v.base v.args cons=true
set_option maxHeartbeats 2000000 in
theorem zNj (v:Vw) (n:Nat) (hN:n≤1000000) (hn9:9000≤n) (cons:Int) (H:TyOk v n cons):Pure Tryz.prog zkg [.rp (cVw v)] [eTs (tyL v n 0 v.args)]∧(∀ y ∈ tyL v n 0 v.args,okT y)∧(tyL v n 0 v.args).length≤40:=by
  have hv:=H.vw
  have hp:=hv.pos
  have hpl:=hv.len
  have hal:=hv.al
  have hsl:=H.fit.s
  obtain ⟨hr1,hr2⟩:=zC8 H.row
  have hsn:=zEh v n v.args 0
  have hA:∀ (i:Nat) (hi:i<v.args.length),∃ p:Int,v.pos[i]? = some p∧0≤p∧p≤900:=fun i hi =>
    ⟨_,yar (by omega),(hp.at_ _ (yaf _)).1,H.pos _ (yaf (by omega))⟩
  have hty:∀ (i:Nat) (hi:i<v.args.length),VokT (zcj v.b v.base v.args[i])∧okT (zcj v.b v.base v.args[i])∧zae (zcj v.b v.base v.args[i])≤1000000:=fun i hi=>by
    have fa:=H.fine.2 _ (yaf hi)
    have oa:=H.ok.2 _ (yaf hi)
    have:=zAb (b:=v.b) (base:=v.base) fa
    exact ⟨(zFm H.fit H.b0 H.b1 fa (by omega) (hr2 i hi)).2,zzt _ _ oa,by omega⟩
  have hrc:∀ (i:Nat) (hi:i<v.args.length),v.args[i].rc=true→0≤v.args[i].sort∧v.args[i].dom.length≤12∧(∀ x ∈ v.args[i].dom,zac x=true∧okT x∧zae x≤n)∧(∀ x ∈ v.args[i].idx,zac x=true∧okT x∧zae x≤n) ∧
      ∃ so,v.b.sorts[v.args[i].sort.toNat]? = some so∧v.args[i].idx.length=so.idx.length∧indF n (plV v i v.args[i].dom.length) so v.args[i].idx cons=true:=fun i hi hr=>by
    have fa:=H.fine.2 _ (yaf hi)
    have oa:=H.ok.2 _ (yaf hi)
    obtain ⟨_,s0,s1,d1,⟨so,hso,hil⟩,hd,hx⟩:=zut (hr2 i hi) hr (by omega) (by omega)
    refine ⟨s0,d1,fun x hxm=>?_,fun x hxm=>?_,so,hso,hil,?_⟩
    · obtain ⟨j,hj,rfl⟩:=ycM.1 hxm
      have hnx:zae v.args[i].dom[j]≤9000:=yac (zdn (ybb.2 ⟨_,hxm,rfl⟩)) fa.dom
      exact ⟨(zer (hd j hj) (by omega) (by omega) (by omega)).2.1,oa.dom.2 _ hxm,by omega⟩
    · have hnx:zae x≤9000:=yac (zdn (ybb.2 ⟨_,hxm,rfl⟩)) fa.idx
      exact ⟨(zer (hx x hxm) (by omega) (by omega) (by omega)).2.1,oa.idx.2 _ hxm,by omega⟩
    · have hg:=(zaq _ _ _).1 H.good i hi
      rw [ybj,argF,if_pos hr,hso,ybJ] at hg
      exact hg.2
  have hTok:∀ (i:Nat) (hi:i<v.args.length) (p:Int),v.pos[i]? = some p→0≤p→p≤900 → ∀ y ∈ tyA v n i p v.args[i],okT y:=fun i hi p hpi p0 p1 y hy=>by
    obtain ⟨t1,t2,t3⟩:=hty i hi
    rw [tyA] at hy
    rcases yaZ.1 hy with rfl | hy
    · exact zDs hp t1 t2 t3 i 0 p (by omega) (by omega) p0 (by omega)
    · split at hy
      · rename_i hr
        obtain ⟨s0,d1,hd,hx,so,hso,hil,hg⟩:=hrc i hi hr
        have hsb:=(yae.1 hso).1
        rw [ybw] at hy
        subst hy
        rw [hso]
        have hI:=zof v hv n hN v.args[i].sort so s0 hso v.args[i].idx hil i (by omega) v.args[i].dom.length (p+1) (by omega) (by omega) (by omega) (by omega) cons hx hg
        refine zyr (by omega) _ (zez _ _ (zlc (by omega) (by omega) (by omega) (by omega)) fun z hz=>?_) _ (zAy _ _ fun j hj=>?_)
        · rcases yaY.1 hz with hz | hz
          · exact hI.2.1 z hz
          · rw [ybw] at hz
            subst hz
            exact zez _ _ (zlc (by omega) (by omega) (by omega) (by omega)) (zyv _ (by omega))
        · obtain ⟨x1,x2,x3⟩:=hd _ (yaf hj)
          exact znb hp x1 x2 (by omega) i _ (p+1) (by omega) (by omega) (by omega) (by omega)
      · simp at hy
  have hlen:∀ (l:List Ar) (i:Nat),(tyL v n i l).length≤2*l.length:=by
    intro l
    induction l with
    | nil=>intro i; simp [tyL]
    | cons a l ih =>
      intro i
      have:=ih (i+1)
      rw [tyL,yaF,tyA,yaS,yaS]
      split <;> simp <;> omega
  have hAll:∀ y ∈ tyL v n 0 v.args,okT y:=by
    have go:∀ j,j≤v.args.length → ∀ y ∈ tyL v n 0 (v.args.take j),okT y:=by
      intro j
      induction j with
      | zero=>intro _ y hy; simp [tyL] at hy
      | succ j ih =>
        intro hj y hy
        rw [hsn j (by omega)] at hy
        rcases yaY.1 hy with hy | hy
        · exact ih (by omega) y hy
        · obtain ⟨p,hpi,p0,p1⟩:=hA j (by omega)
          rw [ybj,hpi] at hy
          exact hTok j (by omega) p hpi p0 p1 y hy
    have:=go v.args.length (yab _)
    rwa [yce] at this
  refine ⟨?_,hAll,by have:=hlen v.args 0; omega⟩
  refine zwm rfl fun hs=>?_
  simp -dsimp [zj8,cVw,cBl,eArs]
  refine zah v.args.length (fun i st=>st.s 0 = .d (.rp (cVw v))∧(st.s 2 = .rsl 2 1∧st.h 2=⟨1,.row 3 [] false⟩)∧(st.s 15 = .d (eArs v.args)∧st.s 16 = .d (.int .i64 v.args.length))∧st.s 17 = .d (.int .i64 i) ∧
    ∃ u,st.s 3 = .rsl 3 u∧st.h 3=⟨u,.row 3 ((tyL v n 0 (v.args.take i)).map eT) false⟩) ?_ ?_
  · simp -dsimp [cVw,cBl,eArs,tyL]
  · rintro i ⟨s,hp'⟩ hi ⟨g0,⟨g2,k2⟩,⟨g15,g16⟩,g17,u,g3,k3⟩
    dsimp only at g0 g2 k2 g15 g16 g17 g3 k3
    simp only [eArs] at g15
    rcases ybm i v.args.length with hlt | hge
    · have w1:IntKind.i64.wrap ((i:Int)+1)=(i:Int)+1:=zab (by omega) (by omega)
      obtain ⟨p,hpi,p0,p1⟩:=hA i hlt
      have hlp:i<v.pos.length:=by omega
      have hpi':v.pos[i]=p:=by have:=(yae.1 hpi).2; exact this
      have hs1:=hsn i hlt
      rw [ybj,hpi] at hs1
      have hl1:=hlen (v.args.take i) 0
      rw [yaE] at hl1
      rw [hs1]
      generalize tyL v n 0 (v.args.take i)=G at *
      have hgl:G.length≤40:=by omega
      have hAT:=zBr v.b v.base v.args[i] (H.ok.2 _ (yaf hlt)) (H.fine.2 _ (yaf hlt))
      obtain ⟨t1,t2,t3⟩:=hty i hlt
      have hPT:=zOk v hp (zcj v.b v.base v.args[i]) t1 t3 i (by omega) 0 p (by omega) (by omega) p0 (by omega)
      have hrci:=hrc i hlt
      clear hsn hA hty hrc hTok hlen hAll
      simp only [ybG,tyA]
      generalize hR:v.args[i]=R at *
      generalize putT v (zcj v.b v.base R) i 0 p=PT at *
      generalize zcj v.b v.base R=AT at *
      simp only [eBl,cBl,cAr,cT,ycv,ycu] at hAT hPT
      simp -dsimp [g0,g2,k2,g15,g16,g17,g3,k3,hlt,hR,eAr,cAr,cT,cVw,cBl]
      refine zaa hAT ?_
      simp -dsimp [g0,g2,k2,g15,g16,g17,g3,k3,hlt,hR,eAr,cAr,cT,cVw,cBl,hlp,hpi,hpi']
      simp only [cVw,cBl,ycv,ycu] at hPT
      refine zaa hPT ?_
      cases hr:R.rc with
      | false =>
        simp -dsimp [g0,g2,k2,g15,g16,g17,g3,k3,hlt,hR,eAr,cAr,cT,cVw,cBl,hr,zjm hgl trivial,w1,za4,eArs]
        done
      | true =>
        obtain ⟨s0,d1,hd,hx,so,hso,hil,hg⟩:=hrci hr
        have hI:=zof v hv n hN R.sort so s0 hso R.idx hil i (by omega) R.dom.length (p+1) (by omega) (by omega) (by omega) (by omega) cons hx hg
        have v1:IntKind.i64.wrap (p+1)=p+1:=zab (by omega) (by omega)
        have v2:IntKind.i64.wrap (p+1+(R.dom.length:Int))=p+1+R.dom.length:=zab (by omega) (by omega)
        have hdl:=zHq v i (p+1)
        have hds:=zDj v i (p+1) R.dom 0
        have hPd:∀ (j:Nat) (hj:j<R.dom.length),Pure Tryz.prog zbs [.rp (cVw v),.agg (cT R.dom[j]),.int .i64 i,.int .i64 j,.int .i64 (p+1)] [.agg (cT (putT v R.dom[j] i j (p+1)))]:=fun j hj=>by
          obtain ⟨x1,x2,x3⟩:=hd _ (yaf hj)
          exact zDw v hp _ x1 (by omega) i (by omega) j (p+1) (by omega) (by omega) (by omega) (by omega)
        have hssl:=(yae.1 hso).1
        have hsr:R.sort≤10:=by omega
        have hL1:=znj p (p+1+R.dom.length) (by omega) (by omega) (by omega) (by omega)
        have oL1:=zlc (l:=p) (vars:=p+1+R.dom.length) (by omega) (by omega) (by omega) (by omega)
        have hV:=zO2 (R.dom.length:Int)
        rw [zWu _ (by omega)] at hV
        have oV:=zyv R.dom.length (by omega)
        have hVl:=zmb R.dom.length
        have hS1:=zms (lv p (p+1+R.dom.length)) (zdy R.dom.length) (by omega) oL1 ⟨by omega,oV⟩
        have oS1:=zez (zdy R.dom.length) _ oL1 oV
        have hL2:=znj R.sort (p+1+R.dom.length) (by omega) (by omega) (by omega) (by omega)
        have oL2:=zlc (l:=R.sort) (vars:=p+1+R.dom.length) (by omega) (by omega) (by omega) (by omega)
        obtain ⟨hI1,hI2,hI3⟩:=hI
        rw [hso]
        simp only
        generalize inT v n so R.idx i R.dom.length (p+1)=J at *
        generalize spT (lv p (p+1+R.dom.length)) (zdy R.dom.length)=S1 at *
        generalize lv p (p+1+R.dom.length)=L1 at *
        generalize zdy R.dom.length=Vs at *
        generalize lv R.sort (p+1+R.dom.length)=L2 at *
        have oJ:∀ y ∈ J ++ [S1],okT y:=fun y hy=>by
          rcases yaY.1 hy with hy | hy
          · exact hI2 y hy
          · rw [ybw] at hy; subst hy; exact oS1
        have hS2:=zms L2 (J ++ [S1]) (by rw [yaF,ycZ]; omega) oL2 ⟨by rw [yaF,ycZ]; omega,oJ⟩
        have oS2:=zez (J ++ [S1]) _ oL2 oJ
        generalize spT L2 (J ++ [S1])=S2 at *
        have oD:∀ y ∈ dmP v i (p+1) 0 R.dom,okT y:=zAy _ _ fun j hj=>by
          obtain ⟨x1,x2,x3⟩:=hd _ (yaf hj)
          exact znb hp x1 x2 (by omega) i _ (p+1) (by omega) (by omega) (by omega) (by omega)
        have hPi:=zTa (dmP v i (p+1) 0 R.dom) S2 (by rw [hdl]; omega) oS2 ⟨by rw [hdl]; omega,oD⟩
        generalize zcq 4 (dmP v i (p+1) 0 R.dom) S2=PI at *
        simp only [cVw,cBl,cT,eTs,ycN,yaV,ycE,za4,ycv,ycu] at hI1 hL1 hV hS1 hL2 hS2
        simp only [cT,eTs] at hPi
        simp -dsimp [g0,g2,k2,g15,g16,g17,g3,k3,hlt,hR,eAr,cAr,cT,cVw,cBl,hr,zjm hgl trivial,w1,hlp,hpi,hpi',v1,eTs,eArs]
        refine zah R.dom.length (fun j st=>(st.s 0 = .d (.rp (cVw v))∧st.s 4 = .d (.int .i64 i)∧st.s 6 = .d (.int .i64 (p+1))∧st.s 7 = .d (.int .i64 R.dom.length))∧(st.s 2 = .rsl 2 1∧st.h 2=⟨1,.row 3 [] false⟩)∧(st.s 15 = .d (eArs v.args)∧st.s 16 = .d (.int .i64 v.args.length))∧st.s 17 = .d (.int .i64 i) ∧
          (st.s 3 = .rsl 3 (u+1)∧st.h 3=⟨u+1,.row 3 (G.map eT ++ [.agg (cT PT)]) false⟩) ∧
          (st.s 5 = .ptr 5 ((hp' 5).ver+1) 0∧st.h 5=⟨(hp' 5).ver+1,.box [.d (.bool true),.d (.int .i64 R.ty.kind),.d (.int .i64 R.ty.num),.d (.sl 3 (R.ty.kids.map eT)),.d (eTs R.dom),.d (.int .i64 R.sort),.d (eTs R.idx)] false⟩) ∧
          (st.s 60 = .d (eTs R.dom)∧st.s 61 = .d (.int .i64 R.dom.length))∧st.s 62 = .d (.int .i64 j) ∧ ∃ w,st.s 8 = .rsl 8 w∧st.h 8=⟨w,.row 3 ((dmP v i (p+1) 0 (R.dom.take j)).map eT) false⟩) ?_ ?_
        · simp -dsimp [g0,g2,k2,g15,g16,g17,g3,k3,hR,eAr,cAr,cT,cVw,cBl,hr,eTs,eArs,dmP]
        · clear g0 g2 k2 g15 g16 g17 g3 k3
          rintro j ⟨s,hq⟩ hj ⟨⟨g0,g4,g6,g7⟩,⟨g2,k2⟩,⟨g15,g16⟩,g17,⟨g3,k3⟩,⟨g5,k5⟩,⟨g60,g61⟩,g62,w,g8,k8⟩
          dsimp only at g0 g4 g6 g7 g2 k2 g15 g16 g17 g3 k3 g5 k5 g60 g61 g62 g8 k8
          simp only [eTs,eArs] at g15 k5 g60
          rcases ybm j R.dom.length with hlt2 | hge2
          · have w2:IntKind.i64.wrap ((j:Int)+1)=(j:Int)+1:=zab (by omega) (by omega)
            have hPj:=hPd j hlt2
            have hds1:=hds j hlt2
            have hdl1:=hdl (R.dom.take j) 0
            rw [yaE] at hdl1
            rw [ybj] at hds1
            rw [hds1]
            generalize dmP v i (p+1) 0 (R.dom.take j)=E at *
            have hel:E.length≤40:=by omega
            generalize putT v R.dom[j] i j (p+1)=Y at *
            generalize hX:R.dom[j]=X at *
            simp only [cVw,cBl,cT,ycv,ycu] at hPj
            simp -dsimp [g0,g4,g6,g7,g2,k2,g15,g16,g17,g3,k3,g5,k5,g60,g61,g62,g8,k8,hlt2,hX,cT,cVw,cBl]
            refine zaa hPj ?_
            simp -dsimp [g0,g4,g6,g7,g2,k2,g15,g16,g17,g3,k3,g5,k5,g60,g61,g62,g8,k8,hlt2,hX,cT,cVw,cBl,zjm hel trivial,w2,za4,eTs,eArs]
            done
          · have ej:j=R.dom.length:=by omega
            subst ej
            rw [yce] at k8
            simp only [cVw,cBl,eTs,ycv,ycu] at g0 hI1
            simp -dsimp [g0,g4,g6,g7,g2,k2,g15,g16,g17,g3,k3,g5,k5,g60,g61,g62,g8,k8,eTs]
            refine zcn hI1 (by simp [za1,zb2,RV.cells]) ?_
            simp -dsimp [g0,g4,g6,g7,g2,k2,g15,g16,g17,g3,k3,g5,k5,g60,g61,g62,g8,k8,hlp,hpi,hpi',v2]
            refine zaa hL1 ?_
            simp -dsimp [g0,g4,g6,g7,g2,k2,g15,g16,g17,g3,k3,g5,k5,g60,g61,g62,g8,k8,cT]
            refine zaa hV ?_
            simp -dsimp [g0,g4,g6,g7,g2,k2,g15,g16,g17,g3,k3,g5,k5,g60,g61,g62,g8,k8,cT]
            refine zaa hS1 ?_
            simp -dsimp [g0,g4,g6,g7,g2,k2,g15,g16,g17,g3,k3,g5,k5,g60,g61,g62,g8,k8,cT,zjm hI3 trivial,v2]
            refine zaa hL2 ?_
            simp -dsimp [g0,g4,g6,g7,g2,k2,g15,g16,g17,g3,k3,g5,k5,g60,g61,g62,g8,k8,cT]
            refine zaa hS2 ?_
            simp -dsimp [g0,g4,g6,g7,g2,k2,g15,g16,g17,g3,k3,g5,k5,g60,g61,g62,g8,k8,cT]
            refine zaa hPi ?_
            simp -dsimp [g0,g4,g6,g7,g2,k2,g15,g16,g17,g3,k3,g5,k5,g60,g61,g62,g8,k8,cT,zxd hgl,w1,za4,cVw,cBl,eArs]
            try exact hlt
    · have e:i=v.args.length:=by omega
      subst e
      rw [yce] at k3
      simp -dsimp [g0,g2,k2,g15,g16,g17,g3,k3,eTs]
end
end
section
section
attribute [local simp] zaf zag tk tn tks zcl zcu zbq zbu zbt zc5
theorem zIr:∀ (l:List Ar) (e p:Int),p ∈ posL e l→e≤p∧p≤e+2*l.length
  | [],e,p,h=>by simp [posL] at h
  | a :: l,e,p,h=>by
    rw [posL] at h
    simp only [yaS]
    rcases yaZ.1 h with rfl | h
    · omega
    · have ih:=zIr l _ p h
      split at ih <;> omega
def vwOf (b:Bl) (base:Int) (l:List Ar) (e:Int):Vw:=⟨b,base,l,posL e l,finL e l⟩
theorem vw_ok {b:Bl} (hz:zgc b=0) (fb:FineBl b) (base:Int) {l:List Ar} (hl:l.length≤20) {e:Int} (h0:0≤e) (h1:e≤100):VwOk (vwOf b base l e):=by
  refine ⟨⟨by simp only [vwOf,zjq]; omega,fun p hp=>?_⟩,by simp only [vwOf,zjq],hl,fb.s,fb.c,fun c hc=>(fb.cons c hc).args.1,fun s hs=>(fb.sorts s hs).idx.1⟩
  have:=zIr l e p hp
  omega
theorem zSf {b:Bl} (hz:zgc b=0) (fb:FineBl b) (hf:Fit b) {base:Int} (b0:0≤base) (b1:base≤65535) {l:List Ar} (ol:zw6 l) (fl:zjv l) (hr:rowM b l=true) {n:Nat} {cons:Int} (hg:rowF n b base l cons=true) {e:Int} (h0:0≤e) (h1:e≤100):TyOk (vwOf b base l e) n cons :=
  ⟨vw_ok hz fb base fl.1 h0 h1,hf,b0,b1,fun p hp=>by have:=zIr l e p hp; have:=fl.1; omega,ol,fl,hr,hg⟩
theorem zGw (v:Vw) (n:Nat) (hN:n≤1000000) (hn9:9000≤n) (cons:Int) (H:TyOk v n cons) (body:T) (ob:okT body):zou Tryz.prog zk1 [.rp (cVw v),.agg (cT body)] [.agg (cT (zc4 (zcq 4 (tyL v n 0 v.args) body))),.int .i64 (za0 (zcq 4 (tyL v n 0 v.args) body))]:=by
  refine zg8 false Ev.hm Tryz.func108 zx5 rfl fun hs nn=>?_
  obtain ⟨h1,h2,h3⟩:=zNj v n hN hn9 cons H
  have hP:=zL6 (tyL v n 0 v.args) body (by omega) ob ⟨by omega,h2⟩
  generalize tyL v n 0 v.args=L at *
  have hC:=zug (zcq 4 L body)
  generalize zcq 4 L body=R at *
  simp only [cT,eTs] at h1 hP hC
  simp -dsimp [zpi,cT]
  refine zaa h1 ?_
  simp -dsimp
  refine zdj hP ?_
  simp -dsimp [cT]
  refine zuq (by simp -dsimp) hC ?_
  by_cases hc:za0 R=0
  · simp -dsimp [hc,zc4,cT]
  · simp -dsimp [hc,zc4,cT,zT]
def mayP (b:Bl) (base k many:Int):Int:=if zda 9000 b base=0∧(k<0∨many≤k) then 1 else zda 9000 b base
theorem zPd (b:Bl) (ob:okBl b) (fb:FineBl b) (base k many:Int):Pure Tryz.prog zr5 [eBl b,.int .i64 base,.int .i64 k,.int .i64 many] [.int .i64 (mayP b base k many)]:=by
  refine zK5 rfl fun hs=>?_
  have hP:=zI8 9000 (by omega) (by omega) b ob fb base
  rw [mayP]
  generalize zda 9000 b base=E at *
  simp only [eBl,cBl] at hP
  simp -dsimp [zwf,eBl,cBl]
  refine zaa hP ?_
  by_cases h1:E=0
  · by_cases h2:k<0
    · simp -dsimp [h1,h2]
    · by_cases h3:many≤k
      · simp -dsimp [h1,h2,h3]
      · simp -dsimp [h1,h2,h3]
  · simp -dsimp [h1]
def motT (b:Bl) (base k:Int) (so:So):T :=
  zcq 4 (tyL (vwOf b base so.idx k) 9000 0 so.idx) (.mk 4 0 [spT (tC (zbm b base k)) ((posL k so.idx).map fun p=>lv p (finL k so.idx)),.mk 2 b.elim []])
def motE (b:Bl) (base k:Int):Int:=if mayP b base k b.sorts.length=0 then (match b.sorts[k.toNat]? with | some so=>za0 (motT b base k so) | none=>1) else mayP b base k b.sorts.length
def motR (b:Bl) (base k:Int):T:=if motE b base k=0 then (match b.sorts[k.toNat]? with | some so=>motT b base k so | none=>zT) else zT
theorem zAl {b:Bl} {base k many:Int} (h:mayP b base k many=0):zda 9000 b base=0∧0≤k∧k<many:=by
  rw [mayP] at h
  split at h
  · cases h
  · rename_i hc
    exact ⟨h,by omega,by omega⟩
theorem zib {n:Nat} {b:Bl} {base:Int} (h:zda n b base=0):zgc b=0∧0≤base∧base≤65535∧posF n b base=true:=by
  rw [zda] at h
  split at h
  · rename_i hz
    split at h
    · cases h
    · split at h
      · rename_i hp
        exact ⟨hz,by omega,by omega,hp⟩
      · cases h
  · rename_i hz
    exact absurd h hz
theorem zFt {n:Nat} {b:Bl} {base:Int} (h:posF n b base=true) {k:Nat} {so:So} (hk:b.sorts[k]? = some so):rowF n b base so.idx 0=true:=by
  rw [posF,ybJ] at h
  obtain ⟨hlt,rfl⟩:=yae.1 hk
  have:=(zaq _ _ _).1 h.1 k hlt
  rw [znf,ybJ] at this
  exact this.1
theorem zDx {n:Nat} {b:Bl} {base:Int} (h:posF n b base=true) {c:Nat} {x:Co} (hk:b.cons[c]? = some x):rowF n b base x.args c=true ∧ ∃ so,b.sorts[x.sort.toNat]? = some so∧indF n ⟨b,base,x.args,0⟩ so x.idx c=true:=by
  rw [posF,ybJ] at h
  obtain ⟨hlt,rfl⟩:=yae.1 hk
  have:=(zaq _ _ _).1 h.2 c hlt
  rw [ybj,conF,ybJ] at this
  refine ⟨this.1,?_⟩
  have h2:=this.2
  split at h2
  · rename_i so hso
    rw [ybJ] at h2
    exact ⟨so,hso,h2.1⟩
  · cases h2
set_option maxHeartbeats 2000000 in
theorem zLf (b:Bl) (ob:okBl b) (fb:FineBl b) (hf:Fit b) (base k:Int):zou Tryz.prog zuj [eBl b,.int .i64 base,.int .i64 k] [.agg (cT (motR b base k)),.int .i64 (motE b base k)]:=by
  have hM:=zPd b ob fb base k b.sorts.length
  by_cases hm:mayP b base k b.sorts.length=0
  case neg =>
    have e1:motE b base k=mayP b base k b.sorts.length:=by rw [motE,if_neg hm]
    have e2:motR b base k=zT:=by rw [motR,if_neg (by rw [e1]; exact hm)]
    rw [e1,e2]
    generalize mayP b base k b.sorts.length=E at *
    refine zg8 false Ev.hm Tryz.func40 zvp rfl fun hs nn=>?_
    simp only [eBl,cBl] at hM
    simp -dsimp [zn5,eBl,cBl,eSos]
    simp only [eSos] at hM
    refine zaa hM ?_
    simp -dsimp [hm,zT,cT]
  obtain ⟨hp,k0,k1⟩:=zAl hm
  obtain ⟨hz,b0,b1,hpos⟩:=zib hp
  obtain ⟨z1,z4,z8,zl,zs,zc⟩:=(zbo b).1 hz
  have hlt:k.toNat<b.sorts.length:=by omega
  have hget:b.sorts[k.toNat]? = some b.sorts[k.toNat]:=yar hlt
  have hsg:=zFt hpos hget
  have os:=ob.sorts _ (yaf hlt)
  have fs:=fb.sorts _ (yaf hlt)
  have hrow:=zyl (zs _ hlt)
  generalize hS:b.sorts[k.toNat]=S at *
  have hT:=zSf hz fb hf b0 b1 os.idx fs.idx hrow hsg (e:=k) k0 (by omega)
  have hv:=hT.vw
  have hfl:=zxl S.idx k
  have hil:=fs.idx.1
  obtain ⟨hOwn,oOwn⟩:=zEi (vwOf b base S.idx k) hv (finL k S.idx) (by omega) (by omega)
  have hSh:=zOq b base k S.idx hil k0 (by omega)
  have hF:=zvb b base k
  have hfi:=zkr hf b0 (by omega:base≤65535) k
  rw [if_pos ⟨k0,k1⟩] at hfi
  have hC:=zPb (zbm b base k)
  have oC:okT (tC (zbm b base k)):=zdc (by omega) (by omega)
  have hSp:=zyy (tC (zbm b base k)) ((posL k S.idx).map fun p=>lv p (finL k S.idx)) (by rw [ycn,zjq]; omega) oC ⟨by rw [ycn,zjq]; omega,oOwn⟩
  have oSp:=zez _ _ oC oOwn
  have hU:=tu_ok b.elim
  have hN:=zA2 4 [spT (tC (zbm b base k)) ((posL k S.idx).map fun p=>lv p (finL k S.idx)),.mk 2 b.elim []]
  have oB:okT (.mk 4 0 [spT (tC (zbm b base k)) ((posL k S.idx).map fun p=>lv p (finL k S.idx)),.mk 2 b.elim []]):=zUb (by omega) oSp (.mk _ _ _ (by simp only [n64]; omega) ob.elim (by simp) (by simp)) (by omega)
  have hD:=zGw (vwOf b base S.idx k) 9000 (by omega) (by omega) 0 hT _ oB
  have e0:(vwOf b base S.idx k).args=S.idx:=rfl
  have e1:motE b base k=za0 (motT b base k S):=by rw [motE,if_pos hm,hget]
  have e2:motR b base k=zc4 (motT b base k S):=by rw [motR,zc4,e1,hget]
  rw [e0,← motT] at hD
  rw [e1,e2]
  rw [hm] at hM
  clear e1 e2 e0 hT hv oOwn oC oSp oB hrow hsg os fs
  have e3:(vwOf b base S.idx k).pos=posL k S.idx:=rfl
  rw [e3] at hOwn
  have e4:cVw (vwOf b base S.idx k)=cBl b ++ [.int .i64 base,eArs S.idx,.sl 1 ((posL k S.idx).map (.int .i64)),.int .i64 (finL k S.idx)]:=rfl
  have e5:cVw ⟨b,base,S.idx,posL k S.idx,finL k S.idx⟩=cBl b ++ [.int .i64 base,eArs S.idx,.sl 1 ((posL k S.idx).map (.int .i64)),.int .i64 (finL k S.idx)]:=rfl
  rw [e4] at hOwn hD
  rw [e5] at hSh
  generalize za0 (motT b base k S)=CE at *
  generalize zc4 (motT b base k S)=RT at *
  generalize spT (tC (zbm b base k)) ((posL k S.idx).map fun p=>lv p (finL k S.idx))=SP at *
  generalize ((posL k S.idx).map fun p=>lv p (finL k S.idx))=OW at *
  generalize zbm b base k=FO at *
  refine zg8 false Ev.hm Tryz.func40 zvp rfl fun hs nn=>?_
  simp only [eBl,cBl,eSos,cT,eTs,eArs,tC,tk,tn,tks,ycE,yaV,za4,ycv,ycu] at hM hOwn hSh hF hC hSp hU hN hD
  simp -dsimp [zn5,eBl,cBl,eSos]
  refine zaa hM ?_
  simp -dsimp [k0,hlt,hS,hget,eSo,cSo,cT,eArs]
  refine zaa hSh ?_
  simp -dsimp
  refine zaa hF ?_
  simp -dsimp
  refine zaa hC ?_
  simp -dsimp
  refine zaa hOwn ?_
  simp -dsimp
  refine zdj hSp ?_
  simp -dsimp [cT]
  refine zaa hU ?_
  simp -dsimp [cT]
  refine zuq (by simp -dsimp) hN ?_
  simp -dsimp [cT]
  refine zdj hD ?_
  simp -dsimp [cT]
end
end
section
section
attribute [local simp] zaf zag tk tn tks zcl zcu zbq zbu zbt zc5
def metV (b:Bl) (base c:Int) (x:Co):Vw:=vwOf b base x.args (b.sorts.length+c)
def metT (b:Bl) (base c:Int) (x:Co) (so:So):T :=
  zcq 4 (tyL (metV b base c x) 9000 0 x.args) (spT (lv x.sort (metV b base c x).fin) (inT (metV b base c x) 9000 so x.idx x.args.length 0 (metV b base c x).fin ++ [spT (tC (zap b base c)) ((metV b base c x).pos.map fun p=>lv p (metV b base c x).fin)]))
def metA (b:Bl) (base c:Int):Option T:=match b.cons[c.toNat]? with
  | some x=>match b.sorts[x.sort.toNat]? with
    | some so=>some (metT b base c x so)
    | none=>none
  | none=>none
def metE (b:Bl) (base c:Int):Int:=if mayP b base c b.cons.length=0 then (match metA b base c with | some t=>za0 t | none=>1) else mayP b base c b.cons.length
def metR (b:Bl) (base c:Int):T:=if metE b base c=0 then (metA b base c).getD zT else zT
theorem zOc {b:Bl} {c:Co} (h:conM b c=true) {x:T} (hx:x ∈ c.idx):inM x c.args.length=true:=by
  rw [conM] at h
  split at h
  · cases h
  split at h
  case isFalse=>cases h
  split at h
  · cases h
  split at h
  case isFalse=>cases h
  split at h
  case isFalse=>cases h
  rename_i hA
  rw [allM,ybK,ycf] at hA
  have:=hA x hx
  simpa using this
set_option maxHeartbeats 2000000 in
theorem zKq (b:Bl) (ob:okBl b) (fb:FineBl b) (hf:Fit b) (base c:Int):zou Tryz.prog zuk [eBl b,.int .i64 base,.int .i64 c] [.agg (cT (metR b base c)),.int .i64 (metE b base c)]:=by
  have hM:=zPd b ob fb base c b.cons.length
  by_cases hm:mayP b base c b.cons.length=0
  case neg =>
    have e1:metE b base c=mayP b base c b.cons.length:=by rw [metE,if_neg hm]
    have e2:metR b base c=zT:=by rw [metR,if_neg (by rw [e1]; exact hm)]
    rw [e1,e2]
    generalize mayP b base c b.cons.length=E at *
    refine zg8 false Ev.hm Tryz.func41 zuy rfl fun hs nn=>?_
    simp only [eBl,cBl] at hM
    simp -dsimp [zoy,eBl,cBl,eCos]
    simp only [eCos] at hM
    refine zaa hM ?_
    simp -dsimp [hm,zT,cT]
  obtain ⟨hp,k0,k1⟩:=zAl hm
  obtain ⟨hz,b0,b1,hpos⟩:=zib hp
  obtain ⟨z1,z4,z8,zl,zs,zc⟩:=(zbo b).1 hz
  have hlt:c.toNat<b.cons.length:=by omega
  have hget:b.cons[c.toNat]? = some b.cons[c.toNat]:=yar hlt
  obtain ⟨hsg,so,hso,hig⟩:=zDx hpos hget
  have os:=ob.cons _ (yaf hlt)
  have fs:=fb.cons _ (yaf hlt)
  obtain ⟨hrow,s0,so2,hso2,hil2⟩:=zqy (zc _ (yaf hlt))
  have hcon:=zc _ (yaf hlt)
  have hao:metA b base c=some (metT b base c b.cons[c.toNat] so):=by rw [metA,hget]; simp only [hso]
  generalize hS:b.cons[c.toNat]=S at *
  rw [hso] at hso2
  cases hso2
  rw [show ((c.toNat:Nat):Int)=c by omega] at hsg hig
  have hT:=zSf hz fb hf b0 b1 os.args fs.args hrow hsg (e:=b.sorts.length+c) (by omega) (by omega)
  have hv:=hT.vw
  have hfl:=zxl S.args (b.sorts.length+c)
  have hal:=fs.args.1
  have hsl:=(yae.1 hso).1
  obtain ⟨hOwn,oOwn⟩:=zEi (vwOf b base S.args (b.sorts.length+c)) hv (finL (b.sorts.length+c) S.args) (by omega) (by omega)
  have e3:(vwOf b base S.args (b.sorts.length+c)).pos=posL (b.sorts.length+c) S.args:=rfl
  rw [e3] at hOwn oOwn
  have hSh:=zOq b base (b.sorts.length+c) S.args hal (by omega) (by omega)
  have hxf:∀ x ∈ S.idx,zac x=true∧okT x∧zae x≤9000:=fun x hx=>by
    have hnx:zae x≤9000:=yac (zdn (ybb.2 ⟨_,hx,rfl⟩)) fs.idx
    have hin:inM x S.args.length=true:=zOc hcon hx
    exact ⟨(zer hin (by omega) (by omega) (by omega)).2.1,os.idx.2 _ hx,hnx⟩
  have hig':indF 9000 (plV (vwOf b base S.args (b.sorts.length+c)) S.args.length 0) so S.idx c=true:=by
    have e:plV (vwOf b base S.args (b.sorts.length+c)) S.args.length 0=⟨b,base,S.args,0⟩:=by simp only [plV,vwOf,yce]
    rw [e]; exact hig
  have hI:=zof (vwOf b base S.args (b.sorts.length+c)) hv 9000 (by omega) S.sort so s0 hso S.idx hil2 S.args.length (yab _) 0 (finL (b.sorts.length+c) S.args) (by omega) (by omega) (by omega) (by omega) c hxf hig'
  have hF:=zsi b base c
  have hfi:=zhc hf b0 (by omega:base≤65535) c
  rw [if_pos ⟨k0,k1⟩] at hfi
  have hdl:=zj9 b.sorts
  have hC:=zPb (zap b base c)
  have oC:okT (tC (zap b base c)):=zdc (by omega) (by omega)
  have hSp:=zyy (tC (zap b base c)) ((posL (b.sorts.length+c) S.args).map fun p=>lv p (finL (b.sorts.length+c) S.args)) (by rw [ycn,zjq]; omega) oC ⟨by rw [ycn,zjq]; omega,oOwn⟩
  have oSp:=zez _ _ oC oOwn
  have hL:=znj S.sort (finL (b.sorts.length+c) S.args) (by omega) (by omega) (by omega) (by omega)
  have oL:=zlc (l:=S.sort) (vars:=finL (b.sorts.length+c) S.args) (by omega) (by omega) (by omega) (by omega)
  obtain ⟨hI1,hI2,hI3⟩:=hI
  have eT':metT b base c S so=zcq 4 (tyL (vwOf b base S.args (b.sorts.length+c)) 9000 0 S.args) (spT (lv S.sort (finL (b.sorts.length+c) S.args)) (inT (vwOf b base S.args (b.sorts.length+c)) 9000 so S.idx S.args.length 0 (finL (b.sorts.length+c) S.args) ++ [spT (tC (zap b base c)) ((posL (b.sorts.length+c) S.args).map fun p=>lv p (finL (b.sorts.length+c) S.args))])):=rfl
  have e1:metE b base c=za0 (metT b base c S so):=by rw [metE,if_pos hm,hao]
  have e2:metR b base c=zc4 (metT b base c S so):=by rw [metR,zc4,e1,hao]; rfl
  rw [e1,e2]
  rw [eT']
  clear e1 e2 eT'
  rw [hm] at hM
  generalize spT (tC (zap b base c)) ((posL (b.sorts.length+c) S.args).map fun p=>lv p (finL (b.sorts.length+c) S.args))=SP at *
  generalize inT (vwOf b base S.args (b.sorts.length+c)) 9000 so S.idx S.args.length 0 (finL (b.sorts.length+c) S.args)=J at *
  generalize lv S.sort (finL (b.sorts.length+c) S.args)=L2 at *
  have oJ:∀ y ∈ J ++ [SP],okT y:=fun y hy=>by
    rcases yaY.1 hy with hy | hy
    · exact hI2 y hy
    · rw [ybw] at hy; subst hy; exact oSp
  have hS2:=zms L2 (J ++ [SP]) (by rw [yaF,ycZ]; omega) oL ⟨by rw [yaF,ycZ]; omega,oJ⟩
  have oS2:=zez (J ++ [SP]) _ oL oJ
  generalize spT L2 (J ++ [SP])=S2 at *
  have hD:=zGw (vwOf b base S.args (b.sorts.length+c)) 9000 (by omega) (by omega) c hT _ oS2
  have e0:(vwOf b base S.args (b.sorts.length+c)).args=S.args:=rfl
  rw [e0] at hD
  clear hT hv oOwn oC oSp hrow hsg os fs oJ oS2 hig hig' hxf hcon
  have w1:IntKind.i64.wrap ((b.sorts.length:Int)+c)=b.sorts.length+c:=zab (by omega) (by omega)
  have e4:cVw (vwOf b base S.args (b.sorts.length+c))=cBl b ++ [.int .i64 base,eArs S.args,.sl 1 ((posL (b.sorts.length+c) S.args).map (.int .i64)),.int .i64 (finL (b.sorts.length+c) S.args)]:=rfl
  have e5:cVw ⟨b,base,S.args,posL (b.sorts.length+c) S.args,finL (b.sorts.length+c) S.args⟩=cBl b ++ [.int .i64 base,eArs S.args,.sl 1 ((posL (b.sorts.length+c) S.args).map (.int .i64)),.int .i64 (finL (b.sorts.length+c) S.args)]:=rfl
  rw [e4] at hOwn hD hI1
  rw [e5] at hSh
  generalize zcq 4 (tyL (vwOf b base S.args (b.sorts.length+c)) 9000 0 S.args) S2=MT at *
  generalize za0 MT=CE at *
  generalize zc4 MT=RT at *
  generalize ((posL (b.sorts.length+c) S.args).map fun p=>lv p (finL (b.sorts.length+c) S.args))=OW at *
  generalize zap b base c=FO at *
  refine zg8 false Ev.hm Tryz.func41 zuy rfl fun hs nn=>?_
  simp only [eBl,cBl,eCos,cT,eTs,eArs,tC,tk,tn,tks,ycE,yaV,ycN,za4,ycv,ycu] at hM hOwn hSh hF hC hSp hL hS2 hD hI1
  simp -dsimp [zoy,eBl,cBl,eCos]
  refine zaa hM ?_
  simp -dsimp [k0,hlt,hS,hget,eCo,cCo,cT,eArs,eTs,w1,eSos]
  simp only [eSos] at hSh hF hI1 hD hOwn
  refine zaa hSh ?_
  simp -dsimp
  refine zcn (zY6 _ hI1) (by simp [za1,zb2,RV.cells]) ?_
  simp -dsimp
  refine zaa hF ?_
  simp -dsimp
  refine zaa hC ?_
  simp -dsimp
  refine zaa hOwn ?_
  simp -dsimp
  refine zdj hSp ?_
  simp -dsimp [cT,zjm hI3 trivial]
  refine zaa hL ?_
  simp -dsimp [cT]
  refine zaa hS2 ?_
  simp -dsimp [cT]
  refine zdj hD ?_
  simp -dsimp [cT]
end
end
section
section
attribute [local simp] zaf zag tk tn tks zcl zcu zbq zbu zbt zc5
theorem zO9 (b:Bl) (base from_:Int) (l:List Ar) (hl:l.length≤20) (h0:0≤from_) (h1:from_≤1000):Pure Tryz.prog zgp [eBl b,.int .i64 base,eArs l,.int .i64 from_] [.rp (cVw ⟨b,base,l,posL from_ l,finL from_ l⟩)]:=by
  refine zvy rfl fun hs=>?_
  simp -dsimp [zj7,eBl,cBl,eArs,cVw]
  refine zah l.length (fun i st=>st.s 2 = .d (eArs l)∧st.s 10 = .d (.int .i64 i)∧st.s 9 = .ptr 16 1 0 ∧ ∃ c,st.h 16=⟨1,.box [.d (eSos b.sorts),.d (eCos b.cons),.d (.int .i64 b.elim),.d (.int .i64 base),.d (eArs l),c,.d (.int .i64 (finL from_ (l.take i)))] false⟩ ∧
    ((i=0∧c = .fsl 1 [])∨(0<i ∧ ∃ v,c = .rsl 33 v∧st.h 33=⟨v,.row 1 ((posL from_ (l.take i)).map (.int .i64)) false⟩))) ?_ ?_
  · simp -dsimp [eArs,finL]
  · rintro i ⟨s,hp⟩ hi ⟨g2,g10,g9,c,k16,k33⟩
    dsimp only at g2 g10 g9 k16 k33
    simp only [eArs] at g2 k16
    rcases ybm i l.length with hlt | hge
    · have w1:IntKind.i64.wrap ((i:Int)+1)=(i:Int)+1:=zab (by omega) (by omega)
      have hfl:=zxl (l.take i) from_
      rw [yaE] at hfl
      have hfs:=zEk l from_ i hlt
      have hps:=zDv l from_ i hlt
      have hpl:=zjq (l.take i) from_
      rw [yaE] at hpl
      generalize finL from_ (l.take (i+1))=F' at *
      generalize finL from_ (l.take i)=F at *
      generalize posL from_ (l.take (i+1))=P' at *
      generalize posL from_ (l.take i)=P at *
      subst hps
      generalize hR:l[i]=R at *
      have w2:IntKind.i64.wrap (F+1)=F+1:=zab (by omega) (by omega)
      have w3:IntKind.i64.wrap (F+1+1)=F+2:=by rw [zab (by omega) (by omega)]; omega
      have hr:(P.length+1)*8≤zad:=by simp only [zad]; omega
      have hP0:i=0→P=[]:=fun h=>ycL.1 (by omega)
      rcases k33 with ⟨rfl,rfl⟩ | ⟨hi0,v,rfl,k33⟩
      · have hPn:=hP0 rfl
        subst hPn
        have w1':IntKind.i64.wrap 1=1:=by rfl
        cases hrc:R.rc with
        | true =>
          rw [hrc,if_pos rfl] at hfs
          simp -dsimp [g2,g10,g9,k16,hlt,hR,hrc,eAr,cAr,cT,w1',w2,w3,(by decide:8≤zad),eArs,hfs]
        | false =>
          rw [hrc,if_neg (by simp)] at hfs
          simp -dsimp [g2,g10,g9,k16,hlt,hR,hrc,eAr,cAr,cT,w1',w2,w3,(by decide:8≤zad),eArs,hfs]
      · cases hrc:R.rc with
        | true =>
          rw [hrc,if_pos rfl] at hfs
          simp -dsimp [g2,g10,g9,k16,k33,hlt,hR,hrc,eAr,cAr,cT,w1,w2,w3,hr,eArs,hfs]
        | false =>
          rw [hrc,if_neg (by simp)] at hfs
          simp -dsimp [g2,g10,g9,k16,k33,hlt,hR,hrc,eAr,cAr,cT,w1,w2,w3,hr,eArs,hfs]
    · have e:i=l.length:=by omega
      subst e
      rw [yce] at k16 k33
      rcases k33 with ⟨hz,rfl⟩ | ⟨hi0,v,rfl,k33⟩
      · have hl0:l=[]:=ycL.1 hz
        subst hl0
        simp -dsimp [g2,g10,g9,k16,posL]
      · simp -dsimp [g2,g10,g9,k16,k33]
theorem zii (l vars:Int) (h0:-1000000≤l) (h1:l≤1000000) (h2:-1000000≤vars) (h3:vars≤1000000):Pure Tryz.prog zar [.int .i64 l,.int .i64 vars] [.agg (cT (lv l vars))]:=by
  refine zt3 rfl fun hs=>?_
  have w1:IntKind.i64.wrap (vars - 1)=vars - 1:=zab (by omega) (by omega)
  have w2:IntKind.i64.wrap (vars - 1 - l)=vars - 1 - l:=zab (by omega) (by omega)
  have hV:=zQt (vars - 1 - l)
  simp only [cT,tk,tn,tks,ycE] at hV
  simp -dsimp [zhw,w1,w2]
  refine zaa hV ?_
  simp -dsimp [lv,cT]
theorem zE7 (f g:Int→Int→T) (v c:Int) (h:∀ n b:Int,0≤n→n≤65535→0≤b→b≤4194304→n<v+b→f n b=g n b) (t:T):∀ b:Int,VokT t→0≤b→b+zae t≤4194304→wiT t (v+b) c=true→mapT f t b=mapT g t b:=by
  refine T.ind (p:=fun t=>∀ b:Int,VokT t→0≤b→b+zae t≤4194304→wiT t (v+b) c=true→mapT f t b=mapT g t b) ?_ t
  intro k n ks ih b hvk h0 hb hw
  obtain ⟨hvn,hln,hsk⟩:=hvk.out
  rw [mapT,mapT]
  by_cases h1:k=1
  · have hn:=(hvn h1).1
    rw [wiT,if_pos h1,decide_eq_true_eq] at hw
    rw [if_pos h1,if_pos h1,h n b hn.1 hn.2 h0 (by omega) hw]
  · rw [if_neg h1,if_neg h1]
    congr 1
    have hws:∀ (j:Nat) (hj:j<ks.length),wiT ks[j] (v+b+zak k j) c=true:=by
      by_cases h23:k=2∨k=3
      · have hz:=hvk.leaf (.inr h23)
        subst hz; intro j hj; simp at hj
      · rw [wiT,if_neg h1,if_neg (by omega),if_neg (by omega),zI4] at hw
        intro j hj
        have:=hw j hj
        rw [ybj] at this
        exact this
    refine List.ext_getElem (by rw [zgl,zgl]) fun j h2 h3=>?_
    rw [zgl] at h2
    rw [zlg f k b ks 0 j h2,zlg g k b ks 0 j h2,ybj]
    have hbl:=zco k j
    have hkn:=zcc (k:=k) (n:=n) (yaf h2)
    exact ih ks[j] (yaf _) _ (hsk _ (yaf _)) (by omega) (by omega) (by rw [← Int.add_assoc]; exact hws j h2)
def lvl (v:Vw) (i:Nat) (depth:Int):List T:=(v.pos.take i).map fun p=>lv p depth
theorem zMe {v:Vw} {i:Nat} (h:i≤v.pos.length) (depth:Int):(lvl v i depth).length=i:=by simp [lvl]; omega
theorem zSm {v:Vw} (hp:Pos v) {i:Nat} (hi:i≤v.pos.length) {depth r:Int} (h0:0≤depth) (h1:depth≤10000) (r0:0≤r) (r1:r≤10000) (hlt:∀ p ∈ v.pos.take i,p<depth) {t:T} (hv:VokT t) (hn:zae t≤1000000) {c:Int} (hw:wiT t (i+r) c=true) :
    mapT (zc6 (lvl v i depth) r) t 0=putT v t i r depth:=by
  rw [putT]
  refine zE7 _ _ (i+r) c (fun n b a1 a2 a3 a4 a5=>?_) t 0 hv (by omega) (by omega) (by rwa [yda])
  have hpl:=hp.len
  rw [zc6,zMe hi,putF]
  by_cases c1:n<r+b
  · have hW:zck i r n b = -1:=by rw [zck,if_pos (.inl c1)]
    rw [hW,if_neg (by omega),if_neg (by omega),if_pos (.inl c1)]
  · obtain ⟨j,hj⟩:∃ j:Nat,(i:Int) - 1 - (n - (r+b))=j:=⟨((i:Int) - 1 - (n - (r+b))).toNat,by omega⟩
    have hW:zck i r n b=j:=by rw [zck,if_neg (by omega)]; exact hj
    have hji:j<i:=by omega
    have hje:i - 1 - (n - (r+b)).toNat=j:=by omega
    have hjp:j<v.pos.length:=by omega
    have hge:v.pos[j]? = some v.pos[j]:=yar hjp
    have hpj:=hp.at_ _ (yaf hjp)
    have hpd:v.pos[j]<depth:=hlt _ (by rw [List.mem_take_iff_getElem]; exact ⟨j,by omega,rfl⟩)
    have hl:(lvl v i depth)[j]? = some (lv v.pos[j] depth):=by
      rw [lvl,yau,ydb hji,hge]; rfl
    rw [hW,if_pos (by omega),ycS,hl,if_neg (by omega),hje,hge]
    simp only [ybG,lv,znw,zIj]
    have ww:w64 (r+b)=r+b:=zb3 (by omega) (by omega)
    rw [if_pos (by omega),ww,zb3 (by omega) (by omega)]
theorem zJw (v:Vw) (hp:Pos v) (i:Nat) (hi:i≤v.pos.length) (depth r:Int) (h0:0≤depth) (h1:depth≤10000) (r0:0≤r) (r1:r≤10000) (hlt:∀ p ∈ v.pos.take i,p<depth) (t:T) (hv:VokT t) (hn:zae t≤1000000) {c:Int} (hw:wiT t (i+r) c=true) :
    Pure Tryz.prog zay [.rp (cVw v),.agg (cT t),.int .i64 i,.int .i64 depth,.int .i64 r] [.agg (cT (putT v t i r depth))]:=by
  refine zpb rfl fun hs=>?_
  have hpl:=hp.len
  have hll:=zMe hi depth
  have hF:=zN9 (lvl v i depth) (by omega) (fun x hx=>by
    simp only [lvl,ybb] at hx
    obtain ⟨p,hpm,rfl⟩:=hx
    have:=hp.at_ p (ydc hpm)
    have:=hlt p hpm
    exact ⟨ze7 (by omega),by rw [lv,zcr]; omega⟩) r (by omega) t hv (by omega)
  rw [zSm hp hi h0 h1 r0 r1 hlt hv hn hw] at hF
  generalize putT v t i r depth=R at *
  simp only [cT,eTs] at hF
  simp -dsimp [zfe,cT,cVw,cBl]
  refine zah i (fun j st=>(st.s 0 = .d (.rp (cVw v))∧st.s 2 = .d (.int .i64 i)∧st.s 3 = .d (.int .i64 depth)∧st.s 4 = .d (.int .i64 r))∧(st.s 6 = .ptr 6 1 0∧st.h 6=⟨1,.box [.d (.int .i64 t.kind),.d (.int .i64 t.num),.d (.sl 3 (t.kids.map eT))] false⟩)∧(st.s 10 = .ptr 10 1 0∧st.h 10=⟨1,.box [.d (.int .i64 0),.d (.int .i64 0),.fsl 3 []] false⟩)∧st.s 12 = .d (.int .i64 j) ∧
    ∃ u,st.s 11 = .rsl 11 u∧st.h 11=⟨u,.row 3 (((lvl v i depth).take j).map eT) false⟩) ?_ ?_
  · simp -dsimp [cVw,cBl]
  · rintro j ⟨s,hp'⟩ hj ⟨⟨g0,g2,g3,g4⟩,⟨g6,k6⟩,⟨g10,k10⟩,g12,u,g11,k11⟩
    dsimp only at g0 g2 g3 g4 g6 k6 g10 k10 g12 g11 k11
    rcases ybm j i with hlt' | hge
    · have w1:IntKind.i64.wrap ((j:Int)+1)=(j:Int)+1:=zab (by omega) (by omega)
      have hjp:j<v.pos.length:=by omega
      have hge:v.pos[j]? = some v.pos[j]:=yar hjp
      have hpj:=hp.at_ _ (yaf hjp)
      have hL:=zii v.pos[j] depth (by omega) (by omega) (by omega) (by omega)
      have hjl:(lvl v i depth)[j]? = some (lv v.pos[j] depth):=by rw [lvl,yau,ydb hlt',hge]; rfl
      have hnn:((lvl v i depth).take (j+1)).map eT=((lvl v i depth).take j).map eT ++ [.agg (cT (lv v.pos[j] depth))]:=by
        rw [zce hjl,ycN]
        simp [za4]
      rw [hnn]
      generalize lvl v i depth=M at *
      generalize lv v.pos[j] depth=X at *
      generalize hPj:v.pos[j]=p at *
      have hr:(min j M.length+1)*40≤zad:=by simp only [zad]; omega
      simp only [cVw,cBl,ycv,ycu] at g0
      simp only [cT] at hL
      simp -dsimp [g0,g2,g3,g4,g6,k6,g10,k10,g12,g11,k11,hlt',hjp,hge,hPj,cT]
      refine zaa hL ?_
      simp -dsimp [g0,g2,g3,g4,g6,k6,g10,k10,g12,g11,k11,hlt',w1,hr,cT,cVw,cBl]
    · have e:j=i:=by omega
      subst e
      rw [ycd (by omega)] at k11
      simp only [cVw,cBl,ycv,ycu] at g0
      simp -dsimp [g0,g2,g3,g4,g6,k6,g10,k10,g12,g11,k11]
      refine zaa hF ?_
      simp -dsimp [g0,g2,g3,g4,g6,k6,g10,k10,g12,g11,k11,cT]
theorem zOv (v:Vw) (hp:Pos v) (n:Int) (i:Nat) (depth r:Int) (h0:0≤depth) (h1:depth≤10000) (r0:0≤r) (r1:r≤10000) (j:Nat) (hj:j<v.pos.length) (hji:(i:Int) - 1 - (n - r)=j) (hn:0≤n∧n≤100000) :
    Pure Tryz.prog zcf [.rp (cVw v),.int .i64 n,.int .i64 i,.int .i64 depth,.int .i64 r] [.agg (cT (lv (v.pos[j]+1) (depth+r)))]:=by
  refine zo4 rfl fun hs=>?_
  have hge:v.pos[j]? = some v.pos[j]:=yar hj
  have hpj:=hp.at_ _ (yaf hj)
  have hpl:=hp.len
  have hL:=zii (v.pos[j]+1) (depth+r) (by omega) (by omega) (by omega) (by omega)
  generalize lv (v.pos[j]+1) (depth+r)=R at *
  generalize hPj:v.pos[j]=p at *
  have w1:IntKind.i64.wrap ((i:Int) - 1)=i - 1:=zab (by omega) (by omega)
  have w2:IntKind.i64.wrap (n - r)=n - r:=zab (by omega) (by omega)
  have w3:IntKind.i64.wrap ((i:Int) - 1 - (n - r))=j:=by rw [zab (by omega) (by omega),hji]
  have w4:IntKind.i64.wrap (p+1)=p+1:=zab (by omega) (by omega)
  have w5:IntKind.i64.wrap (depth+r)=depth+r:=zab (by omega) (by omega)
  simp only [cT] at hL
  simp -dsimp [zfb,cVw,cBl,w1,w2,w3,hj,hge,hPj,w4,w5]
  refine zaa hL ?_
  simp -dsimp [cT]
theorem zBw (v:Vw) (hv:VwOk v) (h2:0≤v.fin) (h3:v.fin≤1000):Pure Tryz.prog zc8 [.rp (cVw v)] [eTs (v.pos.map fun p=>lv p v.fin)]:=by
  have hp:=hv.pos
  have hpl:=hv.len
  have hal:=hv.al
  refine zne rfl fun hs=>?_
  simp -dsimp [zex,cVw,cBl]
  refine zah v.pos.length (fun i st=>st.s 0 = .d (.rp (cVw v))∧(st.s 2 = .rsl 2 1∧st.h 2=⟨1,.row 3 [] false⟩)∧st.s 4 = .d (.int .i64 i) ∧
    ∃ u,st.s 3 = .rsl 3 u∧st.h 3=⟨u,.row 3 (((v.pos.map fun p=>lv p v.fin).take i).map eT) false⟩) ?_ ?_
  · simp -dsimp [cVw,cBl]
  · rintro i ⟨s,hp'⟩ hi ⟨g0,⟨g2,k2⟩,g4,u,g3,k3⟩
    dsimp only at g0 g2 k2 g4 g3 k3
    simp only [cVw,cBl,ycv,ycu] at g0
    rcases ybm i v.pos.length with hlt | hge
    · have w1:IntKind.i64.wrap ((i:Int)+1)=(i:Int)+1:=zab (by omega) (by omega)
      have hpj:=hp.at_ _ (yaf hlt)
      have hP:=zii v.pos[i] v.fin (by omega) (by omega) (by omega) (by omega)
      have hn:((v.pos.map fun p=>lv p v.fin).take (i+1)).map eT=((v.pos.map fun p=>lv p v.fin).take i).map eT ++ [.agg (cT (lv v.pos[i] v.fin))]:=by
        rw [zce (yar (by simpa using hlt)),ycN]
        simp [za4]
      generalize hX:lv v.pos[i] v.fin=X at *
      generalize hM:(v.pos.map fun p=>lv p v.fin)=M at *
      have hMl:M.length=v.pos.length:=by rw [← hM,ycn]
      have hr:(min i M.length+1)*40≤zad:=by simp only [zad]; omega
      rw [hn]
      simp only [cT] at hP
      simp -dsimp [g0,g2,k2,g4,g3,k3,hlt,cT]
      refine zaa hP ?_
      simp -dsimp [g0,g2,k2,g4,g3,k3,hlt,cT,hr,w1,cVw,cBl]
      try exact hlt
    · have e:i=v.pos.length:=by omega
      subst e
      rw [ycd (by simp)] at k3
      simp -dsimp [g0,g2,k2,g4,g3,k3,eTs]
end
end
section
section
attribute [local simp] zaf zag tk tn tks zcl zcu zbq zbu zbt zc5
theorem zE5 (t:T) (ho:okT t) (hb:(spA t).length≤1000000):Pure Tryz.prog za5 [.agg (cT t)] [.agg (cT (spH t)),eTs (spA t).reverse]:=by
  have h:=(zmt t ho hb).pure
  simpa [cT,eTs,RV.data,RC.data] using h
theorem zvv {p:Pl} {t:T} (h:zbb p t=true):t.kind=1 ∧ ∃ j:Nat,zeq p t=j∧j<p.args.length∧(p.args.length:Int) - 1 - (t.num - p.more)=j∧p.more≤t.num:=by
  rw [zbb] at h
  cases hJ:zfu p t with
  | none=>rw [hJ] at h; cases h
  | some j =>
    have e:zeq p t=j:=by rw [zeq,hJ]
    rw [zfu] at hJ
    split at hJ
    · rename_i hh
      cases hJ
      exact ⟨hh.1,_,e,by omega,by omega,hh.2.1⟩
    · cases hJ
theorem zXo (v c:Int) (t:T):wiT t v c=true→wiT (spH t) v c=true ∧ ∀ x ∈ spA t,wiT x v c=true:=by
  refine T.ind (p:=fun t=>wiT t v c=true→wiT (spH t) v c=true ∧ ∀ x ∈ spA t,wiT x v c=true) ?_ t
  intro k n ks ih hw
  by_cases hc:k=6 ∧ ∃ a b,ks=[a,b]
  · obtain ⟨rfl,a,b,rfl⟩:=hc
    rw [wiT] at hw
    simp [wiL,zSz] at hw
    obtain ⟨i1,i2⟩:=ih a (by simp) hw.1
    rw [(zjl n a b).1,(zjl n a b).2]
    refine ⟨i1,fun x hx=>?_⟩
    rcases yaZ.1 hx with rfl | hx
    · exact hw.2
    · exact i2 x hx
  · rw [(zg4 hc).1,(zg4 hc).2]
    exact ⟨hw,by simp⟩
theorem zW7 (v:Vw) (first:Nat) (more vars:Int) (n:Nat) (x:T) (hn:1≤n) (hb:zbb (plV v first more) x=true) {j:Nat} (hj:zeq (plV v first more) x=j) (hjl:j<v.pos.length):shT v first more vars n x=lv (v.pos[j]+1) (vars+more):=by
  have hk:=(zvv hb).1
  have hs:spH x=x∧spA x=[]:=by
    obtain ⟨k,m,ks⟩:=x
    have hk':k=1:=hk
    exact ⟨(zg4 (fun h=>by omega)).2,(zg4 (fun h=>by omega)).1⟩
  obtain ⟨n,rfl⟩:∃ m,n=m+1:=⟨n - 1,by omega⟩
  rw [shT,hs.1,if_pos hb,hs.2,hj,ycS,yar hjl]
  rfl
set_option maxHeartbeats 1000000 in
theorem zSh (v:Vw) (hv:VwOk v) (hf:Fit v.b) (first:Nat) (hfi:first≤v.args.length) (more vars:Int) (h0:0≤more) (h1:more≤1000) (h2:0≤vars) (h3:vars≤1000) (hlt:∀ p ∈ v.pos.take first,p<vars) (c:Int) (cons:Int):∀ (n:Nat) (t:T),n≤1000000→zac t=true→okT t→zae t≤n→wiT t (first+more) c=true →
    (zbb (plV v first more) (spH t)=true∨zdp n (plV v first more) t cons=true) →
    Pure Tryz.prog zbp [.rp (cVw v),.agg (cT t),.int .i64 first,.int .i64 vars,.int .i64 more] [.agg (cT (shT v first more vars n t))]∧okT (shT v first more vars n t):=by
  intro n
  induction n with
  | zero=>intro t _ _ _ h; have:=zkv t; omega
  | succ n ih =>
    intro t hN ft ot hn hw hg
    have hp:=hv.pos
    have hpl:=hv.len
    have hal:=hv.al
    have hsl:=hv.sl
    have hcl:=hv.cl
    have hA:=zuf t
    have hS:=zE5 t ot (by omega)
    obtain ⟨m1,m2⟩:=zlx t
    obtain ⟨oH,m3⟩:=m2 ot
    obtain ⟨fH,m4⟩:=znr t ft
    obtain ⟨wH,m5⟩:=zXo _ _ t hw
    have hm:∀ x ∈ (spA t).reverse,zae x<zae t∧okT x∧zac x=true∧wiT x (first+more) c=true:=fun x hx=>⟨m1 x (by simpa using hx),m3 x (by simpa using hx),m4 x (by simpa using hx),m5 x (by simpa using hx)⟩
    have hAl:(spA t).reverse.length≤1000000:=by rw [List.length_reverse]; omega
    have hput:∀ (i:Nat) (h':i<(spA t).reverse.length),Pure Tryz.prog zay [.rp (cVw v),.agg (cT (spA t).reverse[i]),.int .i64 first,.int .i64 vars,.int .i64 more] [.agg (cT (putT v (spA t).reverse[i] first more vars))]:=fun i h'=>by
      obtain ⟨x1,x2,x3,x4⟩:=hm _ (yaf h')
      exact zJw v hp first (by omega) vars more h2 (by omega) h0 (by omega) hlt _ (zsj _ x3) (by omega) x4
    have wv:IntKind.i64.wrap (vars+more)=vars+more:=zab (by omega) (by omega)
    have hfin:first≤v.pos.length:=by omega
    by_cases hb:zbb (plV v first more) (spH t)=true
    · obtain ⟨kH,j,hj,hjl,hjn,hmo⟩:=zvv hb
      have hlen:(plV v first more).args.length=first:=by simp only [plV,yaE]; omega
      rw [hlen] at hjl hjn
      have hmr:(plV v first more).more=more:=rfl
      rw [hmr] at hjn hmo
      have hjl':j<v.pos.length:=by omega
      have hge:v.pos[j]? = some v.pos[j]:=yar hjl'
      have hpj:=hp.at_ _ (yaf hjl')
      have e:shT v first more vars (n+1) t=spT (lv (v.pos[j]+1) (vars+more)) ((spA t).reverse.map fun x=>putT v x first more vars):=by
        rw [shT,if_pos hb,hj,ycS,hge]; rfl
      rw [e]
      have oL:okT (lv (v.pos[j]+1) (vars+more)):=zlc (by omega) (by omega) (by omega) (by omega)
      have oP:∀ x ∈ (spA t).reverse.map (fun x=>putT v x first more vars),okT x:=fun y hy=>by
        obtain ⟨x,hx,rfl⟩:=ybb.1 hy
        exact znb hp (hm x hx).2.2.1 (hm x hx).2.1 (by have:=(hm x hx).1; omega) first more vars h0 (by omega) h2 (by omega)
      refine ⟨?_,zez _ _ oL oP⟩
      have hn1:(spH t).num≤100000:=by omega
      have hO:=zOv v hp (spH t).num first vars more h2 (by omega) h0 (by omega) j hjl' hjn (by omega)
      have hSp:=zf7 (lv (v.pos[j]+1) (vars+more)) ((spA t).reverse.map fun x=>putT v x first more vars) (by rw [ycn]; omega) oL ⟨by rw [ycn]; omega,oP⟩
      have hMl:((spA t).reverse.map fun x=>putT v x first more vars).length=(spA t).reverse.length:=ycn ..
      have hnx:∀ (i:Nat) (h:i<(spA t).reverse.length),(((spA t).reverse.map fun x=>putT v x first more vars).take (i+1)).map eT=(((spA t).reverse.map fun x=>putT v x first more vars).take i).map eT ++ [.agg (cT (putT v (spA t).reverse[i] first more vars))]:=fun i h=>by
        rw [zce (yar (by simpa using h)),ycN]
        simp [za4]
      clear hm m1 m2 m3 m4 m5 ih hg oP oL e
      generalize spT (lv (v.pos[j]+1) (vars+more)) ((spA t).reverse.map fun x=>putT v x first more vars)=R at *
      generalize ((spA t).reverse.map fun x=>putT v x first more vars)=M at *
      generalize (spA t).reverse=A at *
      generalize spH t=H at *
      generalize lv (v.pos[j]+1) (vars+more)=L at *
      refine zh6 rfl fun hs=>?_
      simp only [cVw,cBl,cT,eTs,eArs,ycv,ycu] at hS hput hO hSp
      simp -dsimp [zdb,cT,cVw,cBl]
      refine zaa hS ?_
      simp -dsimp [kH,eArs]
      refine zah A.length (fun i st=>(st.s 0 = .d (.rp (cVw v))∧st.s 2 = .d (.int .i64 first)∧st.s 3 = .d (.int .i64 vars)∧st.s 4 = .d (.int .i64 more))∧(st.s 10 = .ptr 10 1 0∧st.h 10=⟨1,.box [.d (.int .i64 0),.d (.int .i64 0),.fsl 3 []] false⟩) ∧
        (st.s 11 = .ptr 11 1 0∧st.h 11=⟨1,.box [.d (.int .i64 1),.d (.int .i64 H.num),.d (.sl 3 (H.kids.map eT))] false⟩)∧st.s 12 = .d (eTs A)∧st.s 14 = .d (.int .i64 i) ∧
        ∃ u,st.s 13 = .rsl 13 u∧st.h 13=⟨u,.row 3 ((M.take i).map eT) false⟩) ?_ ?_
      · simp -dsimp [cVw,cBl,eTs,eArs,kH]
      · rintro i ⟨s,hp'⟩ hi ⟨⟨g0,g2,g3,g4⟩,⟨g10,k10⟩,⟨g11,k11⟩,g12,g14,u,g13,k13⟩
        dsimp only at g0 g2 g3 g4 g10 k10 g11 k11 g12 g14 g13 k13
        simp only [eTs,cVw,cBl,eArs,ycv,ycu] at g12 g0
        rcases ybm i A.length with hlt2 | hge2
        · have w1:IntKind.i64.wrap ((i:Int)+1)=(i:Int)+1:=zab (by omega) (by omega)
          have hPi:=hput i hlt2
          have hni:=hnx i hlt2
          rw [hni]
          generalize hX:A[i]=X at *
          have hr:(min i M.length+1)*40≤zad:=by simp only [zad]; omega
          simp -dsimp [g0,g2,g3,g4,g10,k10,g11,k11,g12,g14,g13,k13,hlt2,hX,cT]
          refine zaa hPi ?_
          simp -dsimp [g0,g2,g3,g4,g10,k10,g11,k11,g12,g14,g13,k13,hlt2,hX,cT,hr,w1,eTs,cVw,cBl,eArs]
          try exact hlt2
        · have ei:i=A.length:=by omega
          subst ei
          rw [ycd (by omega)] at k13
          simp -dsimp [g0,g2,g3,g4,g10,k10,g11,k11,g12,g14,g13,k13]
          refine zaa hO ?_
          simp -dsimp [g0,g2,g3,g4,g10,k10,g11,k11,g12,g14,g13,k13]
          refine zaa hSp ?_
          simp -dsimp [g0,g2,g3,g4,g10,k10,g11,k11,g12,g14,g13,k13,cT]
    · have hgood:=hg.resolve_left hb
      rw [zdp] at hgood
      simp only [zC3] at hgood
      rw [if_neg hb] at hgood
      have hb':zbb (plV v first more) (spH t)=false:=by simpa using hb
      by_cases k3:(spH t).kind=3
      case neg=>rw [if_neg k3] at hgood; cases hgood
      rw [if_pos k3] at hgood
      have eb:(plV v first more).b=v.b:=rfl
      have ebase:(plV v first more).base=v.base:=rfl
      rw [eb,ebase] at hgood
      by_cases k5:(ofM v.b v.base (spH t).num).1=5
      case neg=>rw [if_neg k5] at hgood; cases hgood
      rw [if_pos k5] at hgood
      by_cases k6:(ofM v.b v.base (spH t).num).2<cons
      case neg=>rw [if_neg k6] at hgood; cases hgood
      rw [if_pos k6] at hgood
      obtain ⟨cc,c1,c2,c3⟩:=zI1 k5
      have hgc:v.b.cons[cc]? = some v.b.cons[cc]:=yar c1
      have e:shT v first more vars (n+1) t=spT (lv (v.b.sorts.length+cc) (vars+more)) (shA (fun x=>putT v x first more vars) (shT v first more vars n) v.b.cons[cc].args (spA t).reverse):=by
        rw [shT,if_neg hb,c3]
        simp only [ycS,hgc]
      rw [c3] at hgood
      simp only [ycS,hgc] at hgood
      have hcal:=hv.ca _ (yaf c1)
      by_cases k7:(spA t).reverse.length=v.b.cons[cc].args.length
      case neg=>rw [if_neg k7] at hgood; cases hgood
      rw [if_pos k7] at hgood
      have hO:=zJ3 v.b hf v.base (spH t).num (oH.num64)
      rw [c3] at hO
      have hfit:∀ (i:Nat) (h:i<v.b.cons[cc].args.length) (h':i<(spA t).reverse.length),fitA (zaj n (plV v first more)) (fun x=>zdp n (plV v first more) x cons) (plV v first more) v.b.cons[cc].args[i] (spA t).reverse[i]=true:=fun i h h'=>by
        have hA:=(zaq _ _ _).1 hgood i h
        rw [ybj,yar h'] at hA
        exact hA
      have hown:∀ (i:Nat) (h:i<v.b.cons[cc].args.length) (h':i<(spA t).reverse.length),v.b.cons[cc].args[i].rc=true→v.b.cons[cc].args[i].dom.length ≠ 0 →
          Pure Tryz.prog zcf [.rp (cVw v),.int .i64 (spA t).reverse[i].num,.int .i64 first,.int .i64 vars,.int .i64 more] [.agg (cT (shT v first more vars n (spA t).reverse[i]))]∧okT (shT v first more vars n (spA t).reverse[i]):=fun i h h' hr hd=>by
        have hA:=hfit i h h'
        obtain ⟨x1,x2,x3,x4⟩:=hm _ (yaf h')
        simp only [fitA,hr,if_true,hd,if_false] at hA
        obtain ⟨kH,j,hj,hjl,hjn,hmo⟩:=zvv hA
        have hlen:(plV v first more).args.length=first:=by simp only [plV,yaE]; omega
        rw [hlen] at hjl hjn
        have hmr:(plV v first more).more=more:=rfl
        rw [hmr] at hjn hmo
        have hjl':j<v.pos.length:=by omega
        have hpj:=hp.at_ _ (yaf hjl')
        have hnp:=zkv (spA t).reverse[i]
        rw [zW7 v first more vars n _ (by omega) hA hj hjl']
        exact ⟨zOv v hp _ first vars more h2 (by omega) h0 (by omega) j hjl' hjn (by omega),zlc (by omega) (by omega) (by omega) (by omega)⟩
      have hrec:∀ (i:Nat) (h:i<v.b.cons[cc].args.length) (h':i<(spA t).reverse.length),v.b.cons[cc].args[i].rc=true→v.b.cons[cc].args[i].dom.length=0 →
          Pure Tryz.prog zbp [.rp (cVw v),.agg (cT (spA t).reverse[i]),.int .i64 first,.int .i64 vars,.int .i64 more] [.agg (cT (shT v first more vars n (spA t).reverse[i]))]∧okT (shT v first more vars n (spA t).reverse[i]):=fun i h h' hr hd=>by
        obtain ⟨x1,x2,x3,x4⟩:=hm _ (yaf h')
        have hA:=hfit i h h'
        simp only [fitA,hr,if_true,hd] at hA
        exact ih _ (by omega) x3 x2 (by omega) x4 (.inr hA)
      have oAll:∀ y ∈ shA (fun x=>putT v x first more vars) (shT v first more vars n) v.b.cons[cc].args (spA t).reverse,okT y:=zzi _ _ fun i h h'=>by
        obtain ⟨x1,x2,x3,x4⟩:=hm _ (yaf h')
        refine ⟨znb hp x3 x2 (by omega) first more vars h0 (by omega) h2 (by omega),fun hr=>?_⟩
        by_cases hd:v.b.cons[cc].args[i].dom.length=0
        · exact (hrec i h h' hr hd).2
        · exact (hown i h h' hr hd).2
      have oL:okT (lv (v.b.sorts.length+cc) (vars+more)):=zlc (by omega) (by omega) (by omega) (by omega)
      rw [e]
      refine ⟨?_,zez _ _ oL oAll⟩
      have hlen:=zoc (fun x=>putT v x first more vars) (shT v first more vars n) v.b.cons[cc].args (spA t).reverse
      have hL:=zii (v.b.sorts.length+cc) (vars+more) (by omega) (by omega) (by omega) (by omega)
      have hSp:=zf7 (lv (v.b.sorts.length+cc) (vars+more)) _ (by omega:(shA (fun x=>putT v x first more vars) (shT v first more vars n) v.b.cons[cc].args (spA t).reverse).length≤100000000) oL ⟨by omega,oAll⟩
      have w1:IntKind.i64.wrap ((v.b.sorts.length:Int)+(cc:Int))=v.b.sorts.length+cc:=zab (by omega) (by omega)
      generalize spT (lv (v.b.sorts.length+cc) (vars+more)) (shA (fun x=>putT v x first more vars) (shT v first more vars n) v.b.cons[cc].args (spA t).reverse)=R at *
      have hsn:=zvt (fun x=>putT v x first more vars) (shT v first more vars n) v.b.cons[cc].args (spA t).reverse
      have hsl2:=fun i=>zoc (fun x=>putT v x first more vars) (shT v first more vars n) (v.b.cons[cc].args.take i) (spA t).reverse
      have kH1:¬ (spH t).kind=1:=by omega
      clear hgood oAll oL hm m1 m2 m3 m4 m5 e ih hfit
      generalize (spA t).reverse=A at *
      generalize spH t=H at *
      generalize lv (v.b.sorts.length+cc) (vars+more)=L at *
      refine zh6 rfl fun hs=>?_
      simp only [cVw,cBl,eBl,cT,eTs,eArs,ycv,ycu] at hS hO hL hSp
      simp -dsimp [zdb,cT,cVw,cBl]
      refine zaa hS ?_
      simp -dsimp [kH1,eArs]
      refine zaa hO ?_
      generalize hCc:v.b.cons[cc]=C at *
      simp -dsimp
      refine zah A.length (fun i st=>(st.s 0 = .d (.rp (cVw v))∧st.s 2 = .d (.int .i64 first)∧st.s 3 = .d (.int .i64 vars)∧st.s 4 = .d (.int .i64 more))∧(st.s 10 = .ptr 10 1 0∧st.h 10=⟨1,.box [.d (.int .i64 0),.d (.int .i64 0),.fsl 3 []] false⟩) ∧
        (st.s 12 = .d (eTs A)∧st.s 16 = .d (.int .i64 cc))∧st.s 17 = .d (.int .i64 i) ∧
        ∃ u,st.s 13 = .rsl 13 u∧st.h 13=⟨u,.row 3 ((shA (fun x=>putT v x first more vars) (shT v first more vars n) (C.args.take i) A).map eT) false⟩) ?_ ?_
      · simp -dsimp [cVw,cBl,eTs,eArs,eCos,shA]
      · rintro i ⟨s,hp'⟩ hi ⟨⟨g0,g2,g3,g4⟩,⟨g10,k10⟩,⟨g12,g16⟩,g17,u,g13,k13⟩
        dsimp only at g0 g2 g3 g4 g10 k10 g12 g16 g17 g13 k13
        simp only [eTs,cVw,cBl,eCos,eArs,ycv,ycu] at g12 g0
        rcases ybm i A.length with hltA | hge2
        · have w2:IntKind.i64.wrap ((i:Int)+1)=(i:Int)+1:=zab (by omega) (by omega)
          have hlt3:i<C.args.length:=by omega
          have hsn1:=hsn i hlt3 hltA
          have hsl1:=hsl2 i
          rw [yaE] at hsl1
          have hPi:=hput i hltA
          have hRi:=hrec i hlt3 hltA
          have hOi:=hown i hlt3 hltA
          generalize hAr:C.args[i]=Ar_ at *
          generalize hX:A[i]=X at *
          rw [hsn1]
          generalize shA (fun x=>putT v x first more vars) (shT v first more vars n) (C.args.take i) A=G at *
          have hgl:G.length≤40:=by omega
          have r1:(G.length+1)*40≤zad:=zjm hgl trivial
          have r2:(G.length+1+1)*40≤zad:=zxd hgl
          simp only [cT,cVw,cBl,eCos,eArs,ycv,ycu] at hPi hRi hOi
          simp -dsimp [g0,g2,g3,g4,g10,k10,g12,g16,g17,g13,k13,hltA,hX,cT]
          refine zaa hPi ?_
          cases hr:Ar_.rc with
          | false=>simp -dsimp [g0,g2,g3,g4,g10,k10,g12,g16,g17,g13,k13,hltA,hlt3,hX,c1,hgc,hCc,hAr,eCo,cCo,eAr,cAr,cT,hr,r1,w2,za4,eTs,eArs,cVw,cBl,eCos]
          | true =>
            by_cases hd:Ar_.dom=[]
            · have hRi':=(hRi hr (by rw [hd]; rfl)).1
              simp -dsimp [g0,g2,g3,g4,g10,k10,g12,g16,g17,g13,k13,hltA,hlt3,hX,c1,hgc,hCc,hAr,eCo,cCo,eAr,cAr,cT,hr,r1,hd,eTs,eArs]
              refine zaa hRi' ?_
              simp -dsimp [g0,g2,g3,g4,g10,k10,g12,g16,g17,g13,k13,hltA,hlt3,hX,c1,hgc,hCc,hAr,eCo,cCo,eAr,cAr,cT,hr,r1,r2,hd,w2,za4,eTs,eArs,cVw,cBl,eCos]
            · have hd0:Ar_.dom.length ≠ 0:=fun h=>hd (ycL.1 h)
              have hOi':=(hOi hr hd0).1
              simp -dsimp [g0,g2,g3,g4,g10,k10,g12,g16,g17,g13,k13,hltA,hlt3,hX,c1,hgc,hCc,hAr,eCo,cCo,eAr,cAr,cT,hr,r1,hd,eTs,eArs]
              refine zaa hOi' ?_
              simp -dsimp [g0,g2,g3,g4,g10,k10,g12,g16,g17,g13,k13,hltA,hlt3,hX,c1,hgc,hCc,hAr,eCo,cCo,eAr,cAr,cT,hr,r1,r2,hd,w2,za4,eTs,eArs,cVw,cBl,eCos]
        · have ei:i=A.length:=by omega
          subst ei
          rw [k7,yce] at k13
          simp -dsimp [g0,g2,g3,g4,g10,k10,g12,g16,g17,g13,k13,eSos,w1,wv]
          refine zaa hL ?_
          simp -dsimp [g0,g2,g3,g4,g10,k10,g12,g16,g17,g13,k13,cT]
          refine zaa hSp ?_
          simp -dsimp [g10,k10,cT]
end
end
section
section
attribute [local simp] zaf zag tk tn tks zcl zcu zbq zbu zbt zc5
theorem zH5:FnO Tryz.prog zch zdv:=zFu hm Tryz.func115 zl3
theorem zAk (v:Vw) (hv:VwOk v) (hf:Fit v.b) (n:Nat) (hN:n≤1000000) (k:Int) (so:So) (hk0:0≤k) (hk:v.b.sorts[k.toNat]? = some so) (l:List T) (hll:l.length=so.idx.length) (first:Nat) (hfi:first≤v.args.length) (more vars:Int) (h0:0≤more) (h1:more≤1000) (h2:0≤vars) (h3:vars≤1000) (hlt:∀ p ∈ v.pos.take first,p<vars) (c:Int) (cons:Int)
    (hl:∀ x ∈ l,zac x=true∧okT x∧zae x≤n∧wiT x (first+more) c=true) (hg:indF n (plV v first more) so l cons=true) :
    OwnC Tryz.prog zch [.rp (cVw v),.int .i64 k,eTs l,.int .i64 first,.int .i64 vars,.int .i64 more] [.one (.row 3 ((inT v n so l first more vars).map eT) false)]∧(∀ y ∈ inT v n so l first more vars,okT y)∧(inT v n so l first more vars).length≤40:=by
  have hp:=hv.pos
  have hpl:=hv.len
  have hal:=hv.al
  have hsil:=hv.si _ (yas hk)
  have hklt:=(yae.1 hk).1
  have hk':=(yae.1 hk).2
  have hrec:∀ (i:Nat) (h:i<so.idx.length) (h':i<l.length),so.idx[i].rc=true →
      Pure Tryz.prog zbp [.rp (cVw v),.agg (cT l[i]),.int .i64 first,.int .i64 vars,.int .i64 more] [.agg (cT (shT v first more vars n l[i]))]∧okT (shT v first more vars n l[i]):=fun i h h' hr=>by
    obtain ⟨x1,x2,x3,x4⟩:=hl _ (yaf h')
    refine zSh v hv hf first hfi more vars h0 h1 h2 h3 hlt c cons n _ hN x1 x2 x3 x4 (.inr ?_)
    rw [indF] at hg
    have hA:=(zaq _ _ _).1 hg i h
    rw [ybj,yar h'] at hA
    simpa only [hr,if_true] using hA
  have hput:∀ (i:Nat) (h':i<l.length),Pure Tryz.prog zay [.rp (cVw v),.agg (cT l[i]),.int .i64 first,.int .i64 vars,.int .i64 more] [.agg (cT (putT v l[i] first more vars))]:=fun i h'=>by
    obtain ⟨x1,x2,x3,x4⟩:=hl _ (yaf h')
    exact zJw v hp first (by omega) vars more h2 (by omega) h0 (by omega) hlt _ (zsj _ x1) (by omega) x4
  have oAll:∀ y ∈ inT v n so l first more vars,okT y:=zzi _ _ fun i h h'=>by
    obtain ⟨x1,x2,x3,x4⟩:=hl _ (yaf h')
    exact ⟨znb hp x1 x2 (by omega) first more vars h0 (by omega) h2 (by omega),fun hr=>(hrec i h h' hr).2⟩
  have hlen:=zoc (fun x=>putT v x first more vars) (shT v first more vars n) so.idx l
  refine ⟨?_,oAll,by rw [inT]; omega⟩
  have hsn:=zvt (fun x=>putT v x first more vars) (shT v first more vars n) so.idx l
  have hsl2:=fun i=>zoc (fun x=>putT v x first more vars) (shT v first more vars n) (so.idx.take i) l
  rw [inT]
  clear oAll hl hg hlen
  refine zH5 rfl fun hs=>?_
  simp -dsimp [zdv,cVw,cBl,eTs]
  refine zah l.length (fun i st=>(st.s 0 = .d (.rp (cVw v))∧st.s 1 = .d (.int .i64 k)∧st.s 2 = .d (eTs l)∧st.s 3 = .d (.int .i64 first)∧st.s 4 = .d (.int .i64 vars)∧st.s 5 = .d (.int .i64 more))∧(st.s 12 = .rsl 12 1∧st.h 12=⟨1,.row 3 [] false⟩) ∧
    st.s 14 = .d (.int .i64 i) ∧
    ∃ u,st.s 13 = .rsl 13 u∧st.h 13=⟨u,.row 3 ((shA (fun x=>putT v x first more vars) (shT v first more vars n) (so.idx.take i) l).map eT) false⟩) ?_ ?_
  · simp -dsimp [cVw,cBl,eTs,shA]
  · rintro i ⟨s,hp'⟩ hi ⟨⟨g0,g1,g2,g3,g4,g5⟩,⟨g12,k12⟩,g14,u,g13,k13⟩
    dsimp only at g0 g1 g2 g3 g4 g5 g12 k12 g14 g13 k13
    simp only [eTs,cVw,cBl,ycv,ycu] at g2 g0
    rcases ybm i l.length with hltA | hge
    · have w2:IntKind.i64.wrap ((i:Int)+1)=(i:Int)+1:=zab (by omega) (by omega)
      have hlt:i<so.idx.length:=by omega
      have hsn1:=hsn i hlt hltA
      have hsl1:=hsl2 i
      rw [yaE] at hsl1
      have hPi:=hput i hltA
      have hRi:=hrec i hlt hltA
      generalize hAr:so.idx[i]=Ar_ at *
      generalize hX:l[i]=X at *
      rw [hsn1]
      generalize shA (fun x=>putT v x first more vars) (shT v first more vars n) (so.idx.take i) l=G at *
      have hgl:G.length≤40:=by omega
      have r1:(G.length+1)*40≤zad:=zjm hgl trivial
      have r2:(G.length+1+1)*40≤zad:=zxd hgl
      simp only [cT,cVw,cBl,ycv,ycu] at hPi hRi
      simp -dsimp [g0,g1,g2,g3,g4,g5,g12,k12,g14,g13,k13,hltA,hX,cT]
      refine zaa hPi ?_
      cases hr:Ar_.rc with
      | false=>simp -dsimp [g0,g1,g2,g3,g4,g5,g12,k12,g14,g13,k13,hlt,hltA,hX,hk0,hklt,hk,hk',hAr,eSos,eSo,cSo,eAr,cAr,cT,hr,r1,w2,za4,eTs,eArs,cVw,cBl]
      | true =>
        have hRi':=(hRi hr).1
        simp only [eSos] at hRi'
        simp -dsimp [g0,g1,g2,g3,g4,g5,g12,k12,g14,g13,k13,hlt,hltA,hX,hk0,hklt,hk,hk',hAr,eSos,eSo,cSo,eAr,cAr,cT,hr,r1,eArs]
        refine zaa hRi' ?_
        simp -dsimp [g0,g1,g2,g3,g4,g5,g12,k12,g14,g13,k13,hlt,hltA,hX,hk0,hklt,hk,hk',hAr,eSos,eSo,cSo,eAr,cAr,cT,hr,r1,r2,w2,za4,eTs,eArs,cVw,cBl]
    · have e:i=l.length:=by omega
      subst e
      rw [hll,yce] at k13
      simp -dsimp [g0,g1,g2,g3,g4,g5,g12,k12,g14,g13,k13]
set_option maxHeartbeats 2000000 in
theorem zFn (v:Vw) (n:Nat) (hN:n≤1000000) (hn9:9000≤n) (cons:Int) (H:TyOk v n cons) (hinc:∀ (i:Nat) (hi:i<v.pos.length),∀ p ∈ v.pos.take i,p<v.pos[i]):Pure Tryz.prog zcz [.rp (cVw v)] [eTs (tyL v n 0 v.args)]∧(∀ y ∈ tyL v n 0 v.args,okT y)∧(tyL v n 0 v.args).length≤40:=by
  have hv:=H.vw
  have hp:=hv.pos
  have hpl:=hv.len
  have hal:=hv.al
  have hsl:=H.fit.s
  obtain ⟨hr1,hr2⟩:=zC8 H.row
  have hsn:=zEh v n v.args 0
  have hA:∀ (i:Nat) (hi:i<v.args.length),∃ p:Int,v.pos[i]? = some p∧0≤p∧p≤900:=fun i hi =>
    ⟨_,yar (by omega),(hp.at_ _ (yaf _)).1,H.pos _ (yaf (by omega))⟩
  have hty:∀ (i:Nat) (hi:i<v.args.length),VokT (zcj v.b v.base v.args[i])∧okT (zcj v.b v.base v.args[i])∧zae (zcj v.b v.base v.args[i])≤1000000∧wiT (zcj v.b v.base v.args[i]) (i+0) 100000=true:=fun i hi=>by
    have fa:=H.fine.2 _ (yaf hi)
    have oa:=H.ok.2 _ (yaf hi)
    have:=zAb (b:=v.b) (base:=v.base) fa
    obtain ⟨q1,q2⟩:=zFm H.fit H.b0 H.b1 fa (by omega) (hr2 i hi)
    exact ⟨q2,zzt _ _ oa,by omega,by rwa [yda]⟩
  have hrc:∀ (i:Nat) (hi:i<v.args.length),v.args[i].rc=true→0≤v.args[i].sort∧v.args[i].dom.length≤12∧(∀ (j:Nat) (hj:j<v.args[i].dom.length),zac v.args[i].dom[j]=true∧okT v.args[i].dom[j]∧zae v.args[i].dom[j]≤n∧wiT v.args[i].dom[j] (i+j) 65536=true)∧(∀ x ∈ v.args[i].idx,zac x=true∧okT x∧zae x≤n∧wiT x (i+v.args[i].dom.length) 65536=true) ∧
      ∃ so,v.b.sorts[v.args[i].sort.toNat]? = some so∧v.args[i].idx.length=so.idx.length∧indF n (plV v i v.args[i].dom.length) so v.args[i].idx cons=true:=fun i hi hr=>by
    have fa:=H.fine.2 _ (yaf hi)
    have oa:=H.ok.2 _ (yaf hi)
    obtain ⟨_,s0,s1,d1,⟨so,hso,hil⟩,hd,hx⟩:=zut (hr2 i hi) hr (by omega) (by omega)
    refine ⟨s0,d1,fun j hj=>?_,fun x hxm=>?_,so,hso,hil,?_⟩
    · have hxm:=yaf hj
      have hnx:zae v.args[i].dom[j]≤9000:=yac (zdn (ybb.2 ⟨_,hxm,rfl⟩)) fa.dom
      have hf:=zer (hd j hj) (by omega) (by omega) (by omega)
      exact ⟨hf.2.1,oa.dom.2 _ hxm,by omega,hf.1⟩
    · have hnx:zae x≤9000:=yac (zdn (ybb.2 ⟨_,hxm,rfl⟩)) fa.idx
      have hf:=zer (hx x hxm) (by omega) (by omega) (by omega)
      exact ⟨hf.2.1,oa.idx.2 _ hxm,by omega,hf.1⟩
    · have hg:=(zaq _ _ _).1 H.good i hi
      rw [ybj,argF,if_pos hr,hso,ybJ] at hg
      exact hg.2
  have hTok:∀ (i:Nat) (hi:i<v.args.length) (p:Int),v.pos[i]? = some p→0≤p→p≤900 → ∀ y ∈ tyA v n i p v.args[i],okT y:=fun i hi p hpi p0 p1 y hy=>by
    obtain ⟨t1,t2,t3,t4⟩:=hty i hi
    rw [tyA] at hy
    rcases yaZ.1 hy with rfl | hy
    · exact zDs hp t1 t2 t3 i 0 p (by omega) (by omega) p0 (by omega)
    · split at hy
      · rename_i hr
        obtain ⟨s0,d1,hd,hx,so,hso,hil,hg⟩:=hrc i hi hr
        have hsb:=(yae.1 hso).1
        rw [ybw] at hy
        subst hy
        rw [hso]
        have hI:=zof v hv n hN v.args[i].sort so s0 hso v.args[i].idx hil i (by omega) v.args[i].dom.length (p+1) (by omega) (by omega) (by omega) (by omega) cons (fun x hxm=>⟨(hx x hxm).1,(hx x hxm).2.1,(hx x hxm).2.2.1⟩) hg
        refine zyr (by omega) _ (zez _ _ (zlc (by omega) (by omega) (by omega) (by omega)) fun z hz=>?_) _ (zAy _ _ fun j hj=>?_)
        · rcases yaY.1 hz with hz | hz
          · exact hI.2.1 z hz
          · rw [ybw] at hz
            subst hz
            exact zez _ _ (zlc (by omega) (by omega) (by omega) (by omega)) (zyv _ (by omega))
        · obtain ⟨x1,x2,x3,x4⟩:=hd j hj
          exact znb hp x1 x2 (by omega) i _ (p+1) (by omega) (by omega) (by omega) (by omega)
      · simp at hy
  have hlen:∀ (l:List Ar) (i:Nat),(tyL v n i l).length≤2*l.length:=by
    intro l
    induction l with
    | nil=>intro i; simp [tyL]
    | cons a l ih =>
      intro i
      have:=ih (i+1)
      rw [tyL,yaF,tyA,yaS,yaS]
      split <;> simp <;> omega
  have hAll:∀ y ∈ tyL v n 0 v.args,okT y:=by
    have go:∀ j,j≤v.args.length → ∀ y ∈ tyL v n 0 (v.args.take j),okT y:=by
      intro j
      induction j with
      | zero=>intro _ y hy; simp [tyL] at hy
      | succ j ih =>
        intro hj y hy
        rw [hsn j (by omega)] at hy
        rcases yaY.1 hy with hy | hy
        · exact ih (by omega) y hy
        · obtain ⟨p,hpi,p0,p1⟩:=hA j (by omega)
          rw [ybj,hpi] at hy
          exact hTok j (by omega) p hpi p0 p1 y hy
    have:=go v.args.length (yab _)
    rwa [yce] at this
  refine ⟨?_,hAll,by have:=hlen v.args 0; omega⟩
  refine zm5 rfl fun hs=>?_
  simp -dsimp [zel,cVw,cBl,eArs]
  refine zah v.args.length (fun i st=>st.s 0 = .d (.rp (cVw v))∧(st.s 2 = .rsl 2 1∧st.h 2=⟨1,.row 3 [] false⟩)∧st.s 4 = .d (.int .i64 i) ∧
    ∃ u,st.s 3 = .rsl 3 u∧st.h 3=⟨u,.row 3 ((tyL v n 0 (v.args.take i)).map eT) false⟩) ?_ ?_
  · simp -dsimp [cVw,cBl,eArs,tyL]
  · rintro i ⟨s,hp'⟩ hi ⟨g0,⟨g2,k2⟩,g4,u,g3,k3⟩
    dsimp only at g0 g2 k2 g4 g3 k3
    simp only [cVw,cBl,eArs,ycv,ycu] at g0
    rcases ybm i v.args.length with hlt | hge
    · have w1:IntKind.i64.wrap ((i:Int)+1)=(i:Int)+1:=zab (by omega) (by omega)
      obtain ⟨p,hpi,p0,p1⟩:=hA i hlt
      have hlp:i<v.pos.length:=by omega
      have hpi':v.pos[i]=p:=by have:=(yae.1 hpi).2; exact this
      have hin:=hinc i hlp
      rw [hpi'] at hin
      have hs1:=hsn i hlt
      rw [ybj,hpi] at hs1
      have hl1:=hlen (v.args.take i) 0
      rw [yaE] at hl1
      rw [hs1]
      generalize tyL v n 0 (v.args.take i)=G at *
      have hgl:G.length≤40:=by omega
      have hAT:=zy7 v.b H.fit v.base v.args[i] (H.ok.2 _ (yaf hlt)) (H.fine.2 _ (yaf hlt))
      obtain ⟨t1,t2,t3,t4⟩:=hty i hlt
      have hPT:=zJw v hp i (by omega) p 0 p0 (by omega) (by omega) (by omega) hin (zcj v.b v.base v.args[i]) t1 t3 t4
      have hrci:=hrc i hlt
      clear hsn hA hty hrc hTok hlen hAll hinc
      simp only [ybG,tyA]
      generalize hR:v.args[i]=R at *
      generalize putT v (zcj v.b v.base R) i 0 p=PT at *
      generalize zcj v.b v.base R=AT at *
      simp only [eBl,cBl,cVw,eArs,cAr,cT,ycv,ycu] at hAT hPT
      simp -dsimp [g0,g2,k2,g4,g3,k3,hlt,hR,eAr,cAr,cT,cVw,cBl,hlp,hpi,hpi']
      refine zaa hAT ?_
      simp -dsimp [g0,g2,k2,g4,g3,k3,hlt,hR,eAr,cAr,cT,cVw,cBl,hlp,hpi,hpi']
      refine zaa hPT ?_
      cases hr:R.rc with
      | false =>
        simp -dsimp [g0,g2,k2,g4,g3,k3,hlt,hR,eAr,cAr,cT,cVw,cBl,hr,zjm hgl trivial,w1,za4,eArs]
        try exact hlt
      | true =>
        obtain ⟨s0,d1,hd,hx,so,hso,hil,hg⟩:=hrci hr
        have hin2:∀ q ∈ v.pos.take i,q<p+1:=fun q hq=>by have:=hin q hq; omega
        have hI:=zAk v hv H.fit n hN R.sort so s0 hso R.idx hil i (by omega) R.dom.length (p+1) (by omega) (by omega) (by omega) (by omega) hin2 65536 cons hx hg
        have v1:IntKind.i64.wrap (p+1)=p+1:=zab (by omega) (by omega)
        have v2:IntKind.i64.wrap (p+1+(R.dom.length:Int))=p+1+R.dom.length:=zab (by omega) (by omega)
        have hdl:=zHq v i (p+1)
        have hds:=zDj v i (p+1) R.dom 0
        have hPd:∀ (j:Nat) (hj:j<R.dom.length),Pure Tryz.prog zay [.rp (cVw v),.agg (cT R.dom[j]),.int .i64 i,.int .i64 (p+1),.int .i64 j] [.agg (cT (putT v R.dom[j] i j (p+1)))]:=fun j hj=>by
          obtain ⟨x1,x2,x3,x4⟩:=hd j hj
          exact zJw v hp i (by omega) (p+1) j (by omega) (by omega) (by omega) (by omega) hin2 _ (zsj _ x1) (by omega) x4
        have hssl:=(yae.1 hso).1
        have hsr:R.sort≤10:=by omega
        have hL1:=zii p (p+1+R.dom.length) (by omega) (by omega) (by omega) (by omega)
        have oL1:=zlc (l:=p) (vars:=p+1+R.dom.length) (by omega) (by omega) (by omega) (by omega)
        have hV:=zJd R.dom.length (by omega)
        have oV:=zyv R.dom.length (by omega)
        have hVl:=zmb R.dom.length
        have hS1:=zf7 (lv p (p+1+R.dom.length)) (zdy R.dom.length) (by omega) oL1 ⟨by omega,oV⟩
        have oS1:=zez (zdy R.dom.length) _ oL1 oV
        have hL2:=zii R.sort (p+1+R.dom.length) (by omega) (by omega) (by omega) (by omega)
        have oL2:=zlc (l:=R.sort) (vars:=p+1+R.dom.length) (by omega) (by omega) (by omega) (by omega)
        obtain ⟨hI1,hI2,hI3⟩:=hI
        rw [hso]
        simp only
        generalize inT v n so R.idx i R.dom.length (p+1)=J at *
        generalize spT (lv p (p+1+R.dom.length)) (zdy R.dom.length)=S1 at *
        generalize lv p (p+1+R.dom.length)=L1 at *
        generalize zdy R.dom.length=Vs at *
        generalize lv R.sort (p+1+R.dom.length)=L2 at *
        have oJ:∀ y ∈ J ++ [S1],okT y:=fun y hy=>by
          rcases yaY.1 hy with hy | hy
          · exact hI2 y hy
          · rw [ybw] at hy; subst hy; exact oS1
        have hS2:=zf7 L2 (J ++ [S1]) (by rw [yaF,ycZ]; omega) oL2 ⟨by rw [yaF,ycZ]; omega,oJ⟩
        have oS2:=zez (J ++ [S1]) _ oL2 oJ
        generalize spT L2 (J ++ [S1])=S2 at *
        have oD:∀ y ∈ dmP v i (p+1) 0 R.dom,okT y:=zAy _ _ fun j hj=>by
          obtain ⟨x1,x2,x3,x4⟩:=hd j hj
          exact znb hp x1 x2 (by omega) i _ (p+1) (by omega) (by omega) (by omega) (by omega)
        have hPi:=zAv (dmP v i (p+1) 0 R.dom) S2 (by rw [hdl]; omega) oS2 ⟨by rw [hdl]; omega,oD⟩
        generalize zcq 4 (dmP v i (p+1) 0 R.dom) S2=PI at *
        simp only [cVw,cBl,eArs,cT,eTs,ycN,yaV,ycE,za4,ycv,ycu] at hI1 hL1 hV hS1 hL2 hS2 hPd
        simp only [cT,eTs] at hPi
        simp -dsimp [g0,g2,k2,g4,g3,k3,hlt,hR,eAr,cAr,cT,cVw,cBl,hr,zjm hgl trivial,w1,hlp,hpi,hpi',v1,eTs,eArs]
        refine zah R.dom.length (fun j st=>(st.s 0 = .d (.rp (cVw v))∧st.s 4 = .d (.int .i64 i)∧st.s 6 = .d (.int .i64 p))∧(st.s 2 = .rsl 2 1∧st.h 2=⟨1,.row 3 [] false⟩) ∧
          (st.s 3 = .rsl 3 (u+1)∧st.h 3=⟨u+1,.row 3 (G.map eT ++ [.agg (cT PT)]) false⟩) ∧
          (st.s 5 = .ptr 5 ((hp' 5).ver+1) 0∧st.h 5=⟨(hp' 5).ver+1,.box [.d (.bool true),.d (.int .i64 R.ty.kind),.d (.int .i64 R.ty.num),.d (.sl 3 (R.ty.kids.map eT)),.d (eTs R.dom),.d (.int .i64 R.sort),.d (eTs R.idx)] false⟩) ∧
          st.s 8 = .d (.int .i64 j) ∧ ∃ w,st.s 7 = .rsl 7 w∧st.h 7=⟨w,.row 3 ((dmP v i (p+1) 0 (R.dom.take j)).map eT) false⟩) ?_ ?_
        · simp -dsimp [g0,g2,k2,g4,g3,k3,hR,eAr,cAr,cT,cVw,cBl,hr,eTs,eArs,dmP]
        · clear g0 g2 k2 g4 g3 k3
          rintro j ⟨s,hq⟩ hj ⟨⟨g0,g4,g6⟩,⟨g2,k2⟩,⟨g3,k3⟩,⟨g5,k5⟩,g8,w,g7,k7⟩
          dsimp only at g0 g4 g6 g2 k2 g3 k3 g5 k5 g8 g7 k7
          simp only [eTs,cVw,cBl,eArs,ycv,ycu] at k5 g0
          rcases ybm j R.dom.length with hlt2 | hge2
          · have w2:IntKind.i64.wrap ((j:Int)+1)=(j:Int)+1:=zab (by omega) (by omega)
            have hPj:=hPd j hlt2
            have hds1:=hds j hlt2
            have hdl1:=hdl (R.dom.take j) 0
            rw [yaE] at hdl1
            rw [ybj] at hds1
            rw [hds1]
            generalize dmP v i (p+1) 0 (R.dom.take j)=E at *
            have hel:E.length≤40:=by omega
            generalize putT v R.dom[j] i j (p+1)=Y at *
            generalize hX:R.dom[j]=X at *
            simp -dsimp [g0,g4,g6,g2,k2,g3,k3,g5,k5,g8,g7,k7,hlt2,hX,cT,cVw,cBl,v1]
            refine zaa hPj ?_
            simp -dsimp [g0,g4,g6,g2,k2,g3,k3,g5,k5,g8,g7,k7,hlt2,hX,cT,cVw,cBl,zjm hel trivial,w2,za4,eTs,eArs]
            try exact hlt2
          · have ej:j=R.dom.length:=by omega
            subst ej
            rw [yce] at k7
            simp -dsimp [g0,g4,g6,g2,k2,g3,k3,g5,k5,g8,g7,k7,eTs,v1]
            refine zcn hI1 (by simp [za1,zb2,RV.cells]) ?_
            simp -dsimp [g0,g4,g6,g2,k2,g3,k3,g5,k5,g8,g7,k7,v1,v2]
            refine zaa hL1 ?_
            simp -dsimp [g0,g4,g6,g2,k2,g3,k3,g5,k5,g8,g7,k7,cT]
            refine zaa hV ?_
            simp -dsimp [g0,g4,g6,g2,k2,g3,k3,g5,k5,g8,g7,k7,cT]
            refine zaa hS1 ?_
            simp -dsimp [g0,g4,g6,g2,k2,g3,k3,g5,k5,g8,g7,k7,cT,zjm hI3 trivial,v1,v2]
            refine zaa hL2 ?_
            simp -dsimp [g0,g4,g6,g2,k2,g3,k3,g5,k5,g8,g7,k7,cT]
            refine zaa hS2 ?_
            simp -dsimp [g0,g4,g6,g2,k2,g3,k3,g5,k5,g8,g7,k7,cT]
            refine zaa hPi ?_
            simp -dsimp [g0,g4,g6,g2,k2,g3,k3,g5,k5,g8,g7,k7,cT,zxd hgl,w1,za4,cVw,cBl,eArs]
            try exact hlt
    · have e:i=v.args.length:=by omega
      subst e
      rw [yce] at k3
      simp -dsimp [g0,g2,k2,g4,g3,k3,eTs]
end
end
section
section
attribute [local simp] zaf zag tk tn tks zcl zcu zbq zbu zbt zc5
theorem zJr:∀ (l:List Ar) (e:Int) (i:Nat),(posL e l).take i=posL e (l.take i)
  | [],e,i=>by simp [posL]
  | a :: l,e,0=>by simp [posL]
  | a :: l,e,i+1=>by rw [posL,ycC,ycC,posL,zJr l]
theorem zz2:∀ (l:List Ar) (e p:Int),p ∈ posL e l→p<finL e l
  | [],e,p,h=>by simp [posL] at h
  | a :: l,e,p,h=>by
    rw [posL] at h
    rw [finL]
    rcases yaZ.1 h with rfl | h
    · have:=zxl l (if a.rc then p+2 else p+1)
      split at this <;> rename_i hr <;> simp only [hr,if_true,if_false,yao] at this ⊢ <;> omega
    · exact zz2 l _ p h
theorem zL9 (l:List Ar) (e:Int) (i:Nat) (hi:i<(posL e l).length):∀ p ∈ (posL e l).take i,p<(posL e l)[i]:=fun p hp=>by
  rw [zJr] at hp
  rw [zSr l e i hi]
  exact zz2 _ _ _ hp
set_option maxHeartbeats 2000000 in
theorem zL0 (b:Bl) (ob:okBl b) (fb:FineBl b) (hf:Fit b) (base k:Int) (hp:zda 9000 b base=0) (k0:0≤k) (k1:k<b.sorts.length) {S:So} (hget:b.sorts[k.toNat]? = some S) :
    Pure Tryz.prog zg1 [eBl b,.int .i64 base,.int .i64 k] [.agg (cT (zc4 (motT b base k S))),.int .i64 (za0 (motT b base k S))]:=by
  obtain ⟨hz,b0,b1,hpos⟩:=zib hp
  obtain ⟨z1,z4,z8,zl,zs,zc⟩:=(zbo b).1 hz
  have hlt:k.toNat<b.sorts.length:=by omega
  have hsg:=zFt hpos hget
  have hS:b.sorts[k.toNat]=S:=(yae.1 hget).2
  have os:=ob.sorts _ (yas hget)
  have fs:=fb.sorts _ (yas hget)
  have hrow:=zyl (zs _ hlt)
  rw [hS] at hrow
  have hT:=zSf hz fb hf b0 b1 os.idx fs.idx hrow hsg (e:=k) k0 (by omega)
  have hv:=hT.vw
  have hfl:=zxl S.idx k
  have hil:=fs.idx.1
  have hOwn:=zBw (vwOf b base S.idx k) hv (show 0≤finL k S.idx by omega) (show finL k S.idx≤1000 by omega)
  have oOwn:=(zEi (vwOf b base S.idx k) hv (finL k S.idx) (by omega) (by omega)).2
  have hTy:=zFn (vwOf b base S.idx k) 9000 (by omega) (by omega) 0 hT (zL9 S.idx k)
  have hSh:=zO9 b base k S.idx hil k0 (by omega)
  have hfi:=zkr hf b0 (by omega:base≤65535) k
  rw [if_pos ⟨k0,k1⟩] at hfi
  have hC:=zKz (base+k)
  have oC:okT (tC (zbm b base k)):=zdc (by omega) (by omega)
  have hSp:=zf7 (tC (zbm b base k)) ((posL k S.idx).map fun p=>lv p (finL k S.idx)) (by rw [ycn,zjq]; omega) oC ⟨by rw [ycn,zjq]; omega,oOwn⟩
  have oSp:=zez _ _ oC oOwn
  have hU:=zY2 b.elim
  have hN:=zWe 4 [spT (tC (zbm b base k)) ((posL k S.idx).map fun p=>lv p (finL k S.idx)),.mk 2 b.elim []] (by simp only [zad,yaS,ybt]; omega)
  have oB:okT (.mk 4 0 [spT (tC (zbm b base k)) ((posL k S.idx).map fun p=>lv p (finL k S.idx)),.mk 2 b.elim []]):=zUb (by omega) oSp (.mk _ _ _ (by simp only [n64]; omega) ob.elim (by simp) (by simp)) (by omega)
  obtain ⟨hTy1,hTy2,hTy3⟩:=hTy
  have e0:(vwOf b base S.idx k).args=S.idx:=rfl
  rw [e0] at hTy1 hTy2 hTy3
  have hP:=zAv (tyL (vwOf b base S.idx k) 9000 0 S.idx) (.mk 4 0 [spT (tC (zbm b base k)) ((posL k S.idx).map fun p=>lv p (finL k S.idx)),.mk 2 b.elim []]) (by omega) oB ⟨by omega,hTy2⟩
  rw [← motT] at hP
  have hW:=zCs (motT b base k S)
  have w1:IntKind.i64.wrap (base+k)=base+k:=zab (by omega) (by omega)
  clear e0 hT hv oOwn oC oSp oB hrow hsg os fs hTy2 hTy3
  have e3:(vwOf b base S.idx k).pos=posL k S.idx:=rfl
  have e6:(vwOf b base S.idx k).fin=finL k S.idx:=rfl
  rw [e3,e6] at hOwn
  have e4:cVw (vwOf b base S.idx k)=cBl b ++ [.int .i64 base,eArs S.idx,.sl 1 ((posL k S.idx).map (.int .i64)),.int .i64 (finL k S.idx)]:=rfl
  have e5:cVw ⟨b,base,S.idx,posL k S.idx,finL k S.idx⟩=cBl b ++ [.int .i64 base,eArs S.idx,.sl 1 ((posL k S.idx).map (.int .i64)),.int .i64 (finL k S.idx)]:=rfl
  rw [e4] at hOwn hTy1
  rw [e5] at hSh
  generalize za0 (motT b base k S)=CE at *
  generalize zc4 (motT b base k S)=RT at *
  generalize motT b base k S=MT at *
  generalize spT (tC (zbm b base k)) ((posL k S.idx).map fun p=>lv p (finL k S.idx))=SP at *
  generalize ((posL k S.idx).map fun p=>lv p (finL k S.idx))=OW at *
  rw [hfi] at hSp
  generalize tyL (vwOf b base S.idx k) 9000 0 S.idx=TY at *
  refine zsg rfl fun hs=>?_
  simp only [eBl,cBl,eSos,cT,eTs,eArs,tC,tk,tn,tks,ycE,yaV,za4,ycv,ycu] at hOwn hSh hC hSp hU hN hP hW hTy1
  simp -dsimp [zg7,eBl,cBl,eSos,k0,hlt,hS,hget,eSo,cSo,cT,eArs]
  refine zaa hSh ?_
  simp -dsimp [w1]
  refine zaa hTy1 ?_
  simp -dsimp [w1]
  refine zaa hC ?_
  simp -dsimp [w1]
  refine zaa hOwn ?_
  simp -dsimp
  refine zaa hSp ?_
  simp -dsimp [cT]
  refine zaa hU ?_
  simp -dsimp [cT]
  refine zaa hN ?_
  simp -dsimp [cT]
  refine zaa hP ?_
  simp -dsimp [cT]
  refine zaa hW ?_
  simp -dsimp [cT]
set_option maxHeartbeats 2000000 in
theorem zK6 (b:Bl) (ob:okBl b) (fb:FineBl b) (hf:Fit b) (base c:Int) (hp:zda 9000 b base=0) (k0:0≤c) (k1:c<b.cons.length) {MT:T} (hao:metA b base c=some MT) :
    Pure Tryz.prog zg6 [eBl b,.int .i64 base,.int .i64 c] [.agg (cT (zc4 MT)),.int .i64 (za0 MT)]:=by
  obtain ⟨hz,b0,b1,hpos⟩:=zib hp
  obtain ⟨z1,z4,z8,zl,zs,zc⟩:=(zbo b).1 hz
  have hlt:c.toNat<b.cons.length:=by omega
  have hget:b.cons[c.toNat]? = some b.cons[c.toNat]:=yar hlt
  obtain ⟨hsg,so,hso,hig⟩:=zDx hpos hget
  have os:=ob.cons _ (yaf hlt)
  have fs:=fb.cons _ (yaf hlt)
  obtain ⟨hrow,s0,so2,hso2,hil2⟩:=zqy (zc _ (yaf hlt))
  have hcon:=zc _ (yaf hlt)
  have eMT:MT=metT b base c b.cons[c.toNat] so:=by
    rw [metA,hget] at hao
    simp only [hso] at hao
    cases hao; rfl
  generalize hS:b.cons[c.toNat]=S at *
  rw [hso] at hso2
  cases hso2
  rw [show ((c.toNat:Nat):Int)=c by omega] at hsg hig
  have hT:=zSf hz fb hf b0 b1 os.args fs.args hrow hsg (e:=b.sorts.length+c) (by omega) (by omega)
  have hv:=hT.vw
  have hfl:=zxl S.args (b.sorts.length+c)
  have hal:=fs.args.1
  have hsl:=(yae.1 hso).1
  have hOwn:=zBw (vwOf b base S.args (b.sorts.length+c)) hv (show 0≤finL (b.sorts.length+c) S.args by omega) (show finL (b.sorts.length+c) S.args≤1000 by omega)
  have oOwn:=(zEi (vwOf b base S.args (b.sorts.length+c)) hv (finL (b.sorts.length+c) S.args) (by omega) (by omega)).2
  have e3:(vwOf b base S.args (b.sorts.length+c)).pos=posL (b.sorts.length+c) S.args:=rfl
  have e6:(vwOf b base S.args (b.sorts.length+c)).fin=finL (b.sorts.length+c) S.args:=rfl
  rw [e3] at oOwn
  rw [e3,e6] at hOwn
  have hSh:=zO9 b base (b.sorts.length+c) S.args hal (by omega) (by omega)
  have hTy:=zFn (vwOf b base S.args (b.sorts.length+c)) 9000 (by omega) (by omega) c hT (zL9 S.args _)
  have hxf:∀ x ∈ S.idx,zac x=true∧okT x∧zae x≤9000∧wiT x (S.args.length+0) 65536=true:=fun x hx=>by
    have hnx:zae x≤9000:=yac (zdn (ybb.2 ⟨_,hx,rfl⟩)) fs.idx
    have hin:inM x S.args.length=true:=zOc hcon hx
    have hff:=zer hin (by omega) (by omega) (by omega)
    exact ⟨hff.2.1,os.idx.2 _ hx,hnx,by rw [yda]; exact hff.1⟩
  have hig':indF 9000 (plV (vwOf b base S.args (b.sorts.length+c)) S.args.length 0) so S.idx c=true:=by
    have e:plV (vwOf b base S.args (b.sorts.length+c)) S.args.length 0=⟨b,base,S.args,0⟩:=by simp only [plV,vwOf,yce]
    rw [e]; exact hig
  have hI:=zAk (vwOf b base S.args (b.sorts.length+c)) hv hf 9000 (by omega) S.sort so s0 hso S.idx hil2 S.args.length (yab _) 0 (finL (b.sorts.length+c) S.args) (by omega) (by omega) (by omega) (by omega) (fun p hp=>zz2 _ _ _ (ydc hp)) 65536 c hxf hig'
  have hF:=zq9 b hf base c
  have hfi:=zhc hf b0 (by omega:base≤65535) c
  rw [if_pos ⟨k0,k1⟩] at hfi
  have hdl:=zj9 b.sorts
  have hC:=zKz (zap b base c)
  have oC:okT (tC (zap b base c)):=zdc (by omega) (by omega)
  have hSp:=zf7 (tC (zap b base c)) ((posL (b.sorts.length+c) S.args).map fun p=>lv p (finL (b.sorts.length+c) S.args)) (by rw [ycn,zjq]; omega) oC ⟨by rw [ycn,zjq]; omega,oOwn⟩
  have oSp:=zez _ _ oC oOwn
  have hL:=zii S.sort (finL (b.sorts.length+c) S.args) (by omega) (by omega) (by omega) (by omega)
  have oL:=zlc (l:=S.sort) (vars:=finL (b.sorts.length+c) S.args) (by omega) (by omega) (by omega) (by omega)
  obtain ⟨hI1,hI2,hI3⟩:=hI
  obtain ⟨hTy1,hTy2,hTy3⟩:=hTy
  have eT':metT b base c S so=zcq 4 (tyL (vwOf b base S.args (b.sorts.length+c)) 9000 0 S.args) (spT (lv S.sort (finL (b.sorts.length+c) S.args)) (inT (vwOf b base S.args (b.sorts.length+c)) 9000 so S.idx S.args.length 0 (finL (b.sorts.length+c) S.args) ++ [spT (tC (zap b base c)) ((posL (b.sorts.length+c) S.args).map fun p=>lv p (finL (b.sorts.length+c) S.args))])):=rfl
  rw [eT'] at eMT
  clear eT' hao
  have e0:(vwOf b base S.args (b.sorts.length+c)).args=S.args:=rfl
  rw [e0] at hTy1 hTy2 hTy3
  generalize spT (tC (zap b base c)) ((posL (b.sorts.length+c) S.args).map fun p=>lv p (finL (b.sorts.length+c) S.args))=SP at *
  generalize inT (vwOf b base S.args (b.sorts.length+c)) 9000 so S.idx S.args.length 0 (finL (b.sorts.length+c) S.args)=J at *
  generalize lv S.sort (finL (b.sorts.length+c) S.args)=L2 at *
  generalize tyL (vwOf b base S.args (b.sorts.length+c)) 9000 0 S.args=TY at *
  have oJ:∀ y ∈ J ++ [SP],okT y:=fun y hy=>by
    rcases yaY.1 hy with hy | hy
    · exact hI2 y hy
    · rw [ybw] at hy; subst hy; exact oSp
  have hS2:=zf7 L2 (J ++ [SP]) (by rw [yaF,ycZ]; omega) oL ⟨by rw [yaF,ycZ]; omega,oJ⟩
  have oS2:=zez (J ++ [SP]) _ oL oJ
  generalize spT L2 (J ++ [SP])=S2 at *
  have hP:=zAv TY S2 (by omega) oS2 ⟨by omega,hTy2⟩
  rw [← eMT] at hP
  have hW:=zCs MT
  clear eMT hT hv oOwn oC oSp hrow hsg os fs oJ oS2 hig hig' hxf hcon
  have w1:IntKind.i64.wrap ((b.sorts.length:Int)+c)=b.sorts.length+c:=zab (by omega) (by omega)
  have e4:cVw (vwOf b base S.args (b.sorts.length+c))=cBl b ++ [.int .i64 base,eArs S.args,.sl 1 ((posL (b.sorts.length+c) S.args).map (.int .i64)),.int .i64 (finL (b.sorts.length+c) S.args)]:=rfl
  have e5:cVw ⟨b,base,S.args,posL (b.sorts.length+c) S.args,finL (b.sorts.length+c) S.args⟩=cBl b ++ [.int .i64 base,eArs S.args,.sl 1 ((posL (b.sorts.length+c) S.args).map (.int .i64)),.int .i64 (finL (b.sorts.length+c) S.args)]:=rfl
  rw [e4] at hOwn hI1 hTy1
  rw [e5] at hSh
  generalize za0 MT=CE at *
  generalize zc4 MT=RT at *
  generalize ((posL (b.sorts.length+c) S.args).map fun p=>lv p (finL (b.sorts.length+c) S.args))=OW at *
  generalize zap b base c=FO at *
  refine zsa rfl fun hs=>?_
  simp only [eBl,cBl,eCos,cT,eTs,eArs,tC,tk,tn,tks,ycE,yaV,ycN,za4,ycv,ycu] at hOwn hSh hF hC hSp hL hS2 hP hW hI1 hTy1
  simp -dsimp [zg3,eBl,cBl,eCos,k0,hlt,hS,hget,eCo,cCo,cT,eArs,eTs,w1,eSos]
  simp only [eSos] at hSh hF hI1 hTy1 hOwn
  refine zaa hSh ?_
  simp -dsimp
  refine zaa hTy1 ?_
  simp -dsimp
  refine zcn hI1 (by simp [za1,zb2,RV.cells]) ?_
  simp -dsimp
  refine zaa hF ?_
  simp -dsimp
  refine zaa hC ?_
  simp -dsimp
  refine zaa hOwn ?_
  simp -dsimp
  refine zaa hSp ?_
  simp -dsimp [cT,zjm hI3 trivial]
  refine zaa hL ?_
  simp -dsimp [cT]
  refine zaa hS2 ?_
  simp -dsimp [cT]
  refine zaa hP ?_
  simp -dsimp [cT]
  refine zaa hW ?_
  simp -dsimp [cT]
end
end
section
end
section
attribute [local simp] zaf zag tk tn tks zbq zbu zbt zc5
end
section
section
attribute [local simp] zaf zag tk tn tks zcl zcu zbq zbu zbt zc5
theorem zYa:okT zT:=zdc (by omega) (by omega)
theorem zCt {t:T} {l:List T} {u:Int} (hn:zae t≤1048576) (hl:∀ x ∈ l,zae x≤1048576):okT (zei t l u):=by
  by_cases h:zid t l u=0
  · exact zod (zL2 hn hl h).2.2
  · rw [zei,if_neg h]
    exact zYa
end
end
section
section
attribute [local simp] zaf zag tk tn tks zcl zcu zbq zbu zbt zc5
def zXj (b:Bl) (base c:Int) (co:Co) (mo me args:List T):Prop:=args.length=co.args.length∧mo.length=b.sorts.length∧me.length=b.cons.length∧0≤base∧base≤65535
instance (b:Bl) (base c:Int) (co:Co) (mo me args:List T):Decidable (zXj b base c co mo me args):=by unfold zXj; infer_instance
end
end
section
section
attribute [local simp] zaf zag tk tn tks zcl zcu zbq zbu zbt zc5
end
end
section
theorem zVh {c:Int} (t:T):∀ v w:Int,v≤w→wiT t v c=true→wiT t w c=true:=by
  refine T.ind (p:=fun t=>∀ v w:Int,v≤w→wiT t v c=true→wiT t w c=true) ?_ t
  intro k n ks ih v w hvw h
  rw [wiT] at h ⊢
  by_cases h1:k=1
  · rw [if_pos h1] at h ⊢
    simp only [decide_eq_true_eq] at h ⊢
    omega
  rw [if_neg h1] at h ⊢
  by_cases h2:k=2
  · rw [if_pos h2] at h ⊢; exact h
  rw [if_neg h2] at h ⊢
  by_cases h3:k=3
  · rw [if_pos h3] at h ⊢; exact h
  rw [if_neg h3] at h ⊢
  have go:∀ (xs:List T) (i:Nat),(∀ x ∈ xs,x ∈ ks)→wiL k v c i xs=true→wiL k w c i xs=true:=by
    intro xs
    induction xs with
    | nil=>intro i _ _; rw [wiL]
    | cons x xs ihx =>
      intro i hm hw
      rw [wiL,ybJ] at hw ⊢
      exact ⟨ih x (hm x (by simp)) _ _ (by omega) hw.1,ihx _ (fun y hy=>hm y (by simp [hy])) hw.2⟩
  exact go ks 0 (fun x hx=>hx) h
theorem zN4 (l:List T) (u:Int) (hl:∀ x ∈ l,ze6 x 0≤10000) (t:T):∀ b:Int,0≤b→u+b+zae t≤50000→scI l u t b=false:=by
  refine T.ind (p:=fun t=>∀ b:Int,0≤b→u+b+zae t≤50000→scI l u t b=false) ?_ t
  intro k n ks ih b h0 hb
  rw [scI]
  by_cases h1:k=1
  · rw [if_pos h1]
    split
    · rename_i a ha
      have hmem:a ∈ l:=by
        split at ha
        · exact yas ha
        · cases ha
      have:=hl a hmem
      rw [zGp,Bool.and_eq_false_iff]
      right
      rw [decide_eq_false_iff_not]
      omega
    · rfl
  · rw [if_neg h1]
    have go:∀ (xs:List T) (i:Nat),(∀ x ∈ xs,x ∈ ks)→scL l u k b i xs=false:=by
      intro xs
      induction xs with
      | nil=>intro i _; rw [scL]
      | cons x xs ihx =>
        intro i hm
        have hx:=hm x (by simp)
        have hxn:=zcc (k:=k) (n:=n) hx
        have hbl:=zco k i
        rw [scL,ih x hx _ (by omega) (by omega),ihx (i+1) fun y hy=>hm y (by simp [hy])]
        rfl
    exact go ks 0 fun x hx=>hx
theorem zOz {a:T} {V b:Int} (hf:zac a=true) (hn:zae a≤1048576) (hb:0≤b) (hb':b≤8388608) (hV:0≤V) (h:wiT a V 65536=true):wiT (mapT (mv b) a 0) (V+b) 65536=true:=by
  have:=zS5 (mv b) 65536 V (V+b) (fun n c h1 h2 h3 h4 h5=>?_) a 0 hf (by omega) (by omega) (by rw [yda]; exact h)
  · rw [yda] at this; exact this
  · by_cases c1:n<c
    · rw [zVu c1]; exact zFx (by omega)
    · have e:mv b n c = .mk 1 (n+b) []:=by rw [mv,if_pos (by omega),zb3 (by omega) (by omega)]
      rw [e]; exact zFx (by omega)
theorem zHd {t:T} {l:List T} {V u:Int} (hV:0≤V) (hV':V≤65536) (hu:0≤u) (hu':u≤65536) (ht:zae t≤1048576) (ft:zac t=true) (hl:∀ x ∈ l,zac x=true∧zae x≤1048576∧wiT x V 65536=true) (hn:l.length≤65536)
    (hw:wiT t (V+u+l.length) 65536=true):wiT (mapT (zc6 l u) t 0) (V+u) 65536=true:=by
  have:=zS5 (zc6 l u) 65536 (V+u+l.length) (V+u) (fun n b h1 h2 h3 h4 h5=>?_) t 0 ft (by omega) (by omega) (by rw [yda]; exact hw)
  · rw [yda] at this; exact this
  · rw [zc6]
    by_cases hW:0≤zck l.length u n b
    · have hlt:(zck l.length u n b).toNat<l.length:=by
        have h6:=hW
        rw [zck] at h6 ⊢
        split at h6
        · omega
        · rename_i h7
          rw [if_neg h7]
          omega
      generalize (zck l.length u n b).toNat=m at hlt
      rw [if_pos hW,yar hlt]
      obtain ⟨a1,a2,a3⟩:=hl l[m] (yaf _)
      show wiT (znw (w64 (u+b)) l[m]) (V+u+b) 65536=true
      rw [zb3 (by omega) (by omega),zD9]
      have:=zOz (b:=u+b) a1 a2 (by omega) (by omega) hV a3
      rw [← Int.add_assoc] at this
      exact this
    · rw [if_neg hW]
      have h6:=hW
      rw [zck] at h6
      by_cases c:u+b≤n
      · rw [if_pos c]
        have:(l.length:Int)≤n - (u+b):=by
          split at h6
          · rename_i h7; omega
          · omega
        rw [zb3 (by omega) (by omega)]
        exact zFx (by omega)
      · rw [if_neg c]
        exact zFx (by omega)
theorem zQb {t:T} {l:List T} {u:Int} (h:zk0 t l u=0) (ht:zae t≤1048576) (hl:∀ x ∈ l,zae x≤1048576) (hs:scI l u t 0=false):zid t l u=0∨zid t l u=4∨zid t l u=5:=by
  rw [zid,if_pos h,zy8 h ht hl]
  simp only [hs,yao,if_false]
  split
  · omega
  · split <;> omega
theorem zWb {t:T} {l:List T} {V u:Int} (hV:0≤V∧V≤100) (hu:0≤u∧u≤100) (ht:za0 t=0) (hn:zae t≤9000) (hl:∀ x ∈ l,za0 x=0∧zae x≤9000∧wiT x V 65536=true) (hln:l.length≤100) (hw:wiT t (u+l.length) 65536=true) :
    (zid t l u=0∨zid t l u=4∨zid t l u=5)∧(zid t l u=0→wiT (zei t l u) (V+u) 65536=true):=by
  have hf:=zhb ht
  have hO:zk0 t l u=0:=(zG0 t l u).2 ⟨ht,fun x hx=>(hl x hx).1,by omega,by omega⟩
  have hfr:∀ x ∈ l,ze6 x 0≤10000:=fun x hx=>by
    obtain ⟨a1,a2,a3⟩:=hl x hx
    have:=zWy 65536 x V 0 (zhb a1) (by omega) (by omega) a3
    omega
  have hS:=zN4 l u hfr t 0 (by omega) (by omega)
  have hl':∀ x ∈ l,zae x≤1048576:=fun x hx=>by have:=(hl x hx).2.1; omega
  refine ⟨zQb hO (by omega) hl' hS,fun h0=>?_⟩
  rw [zDc h0]
  exact zHd (by omega) (by omega) (by omega) (by omega) (by omega) hf (fun x hx=>⟨zhb (hl x hx).1,hl' x hx,(hl x hx).2.2⟩) (by omega) (zVh t _ _ (by omega) hw)
structure Right (V:Int) (l:List T):Prop where
  c:∀ x ∈ l,za0 x=0
  n:∀ x ∈ l,zae x≤9000
  w:∀ x ∈ l,wiT x V 65536=true
theorem Right.take {V:Int} {l:List T} (h:Right V l) (i:Nat):Right V (l.take i):=⟨fun x hx=>h.c x (ydc hx),fun x hx=>h.n x (ydc hx),fun x hx=>h.w x (ydc hx)⟩
structure RecAt (b:Bl) (a:Ar) (i:Nat):Prop where
  dl:a.dom.length≤12
  sort:0≤a.sort∧a.sort<b.sorts.length
  dom:∀ (j:Nat) (hj:j<a.dom.length),za0 a.dom[j]=0∧wiT a.dom[j] (i+j) 65536=true
  idx:∀ x ∈ a.idx,za0 x=0∧wiT x (i+a.dom.length) 65536=true
end
section
section
attribute [local simp] zaf zag tk tn tks zcl zcu zbq zbu zbt zc5
def lvs (f:Int) (m:Nat) (vars:Int):List T:=(yai m).map fun (i:Nat)=>.mk 1 (vars - 1 - f - (i:Int)) []
theorem zJh (f:Int) (m:Nat) (vars:Int):lvs f (m+1) vars=lvs f m vars ++ [.mk 1 (vars - 1 - f - (m:Int)) []]:=by simp [lvs,ydd]
theorem zwb (f:Int) (m:Nat) (vars:Int):(lvs f m vars).length=m:=by simp [lvs]
theorem zon {f:Int} {m:Nat} {vars:Int} (h0:-10000≤vars - 1 - f - m) (h1:vars - f≤10000):∀ y ∈ lvs f m vars,okT y:=fun y hy=>by
  simp only [lvs,ybb,ybE] at hy
  obtain ⟨i,hi,rfl⟩:=hy
  exact .mk _ _ _ (by simp only [n64]; omega) (by simp only [n64]; omega) (by simp) (by simp)
theorem zCb (f:Int) (m:Nat) (vars:Int) (f0:0≤f) (f1:f≤1000) (m1:m≤1000) (v0:0≤vars) (v1:vars≤1000):OwnC Tryz.prog zi8 [.int .i64 f,.int .i64 m,.int .i64 vars] [.one (.row 3 ((lvs f m vars).map eT) false)]:=by
  refine zDb rfl fun hs=>?_
  simp -dsimp [zow]
  refine zah m (fun i st=>st.s 0 = .d (.int .i64 f)∧st.s 2 = .d (.int .i64 vars)∧(st.s 6 = .rsl 6 1∧st.h 6=⟨1,.row 3 [] false⟩)∧st.s 9 = .d (.int .i64 m)∧st.s 10 = .d (.int .i64 i) ∧
    ∃ u,st.s 7 = .rsl 7 u∧st.h 7=⟨u,.row 3 ((lvs f i vars).map eT) false⟩) ?_ ?_
  · simp -dsimp [lvs]
  · rintro i ⟨s,hp'⟩ hi ⟨g0,g2,⟨g6,k6⟩,g9,g10,u,g7,k7⟩
    dsimp only at g0 g2 g6 k6 g9 g10 g7 k7
    rcases ybm i m with hlt | hge
    · have w1:IntKind.i64.wrap ((i:Int)+1)=(i:Int)+1:=zab (by omega) (by omega)
      have w2:IntKind.i64.wrap (vars - 1)=vars - 1:=zab (by omega) (by omega)
      have w3:IntKind.i64.wrap (vars - 1 - f)=vars - 1 - f:=zab (by omega) (by omega)
      have w4:IntKind.i64.wrap (vars - 1 - f - (i:Int))=vars - 1 - f - i:=zab (by omega) (by omega)
      have hV:=v_ok (vars - 1 - f - i)
      have hr:((lvs f i vars).length+1)*40≤zad:=by rw [zwb]; simp only [zad]; omega
      have hn:(lvs f (i+1) vars).map eT=(lvs f i vars).map eT ++ [.agg [.int .i64 1,.int .i64 (vars - 1 - f - i),.sl 3 []]]:=by
        rw [zJh,ycN]; simp [za4,cT]
      rw [hn]
      generalize lvs f i vars=L at *
      simp only [cT,ycE] at hV
      simp -dsimp [g0,g2,g6,k6,g9,g10,g7,k7,hlt,w2,w3,w4]
      refine zaa hV ?_
      simp -dsimp [g0,g2,g6,k6,g9,g10,g7,k7,hlt,w1,hr]
    · have e:i=m:=by omega
      subst e
      simp -dsimp [g0,g2,g6,k6,g9,g10,g7,k7,eTs]
theorem zO7 (f:Int) (m:Nat) (vars:Int) (f0:0≤f) (f1:f≤1000) (m1:m≤1000) (v0:0≤vars) (v1:vars≤1000):Pure Tryz.prog zi8 [.int .i64 f,.int .i64 m,.int .i64 vars] [eTs (lvs f m vars)]:=(zCb f m vars f0 f1 m1 v0 v1).pure
def rsA (b:Bl) (base:Int) (ahead:Nat) (vars:Int) (own:List T) (i:Nat) (a:Ar):List T :=
  (own[i]?).getD zT :: (if a.rc then [spT (tC (za3 b base a.sort)) (lvs 0 ahead vars ++ a.idx.map (fun t=>zei t (own.take i) 0) ++ [(own[i]?).getD zT])] else [])
def rsL (b:Bl) (base:Int) (ahead:Nat) (vars:Int) (own:List T):Nat→List Ar→List T
  | _,[]=>[]
  | i,a :: l=>rsA b base ahead vars own i a ++ rsL b base ahead vars own (i+1) l
theorem zEt (b:Bl) (base:Int) (ahead:Nat) (vars:Int) (own:List T):∀ (l:List Ar) (i j:Nat) (h:j<l.length),rsL b base ahead vars own i (l.take (j+1))=rsL b base ahead vars own i (l.take j) ++ rsA b base ahead vars own (i+j) l[j]
  | a :: l,i,0,h=>by simp [rsL]
  | a :: l,i,j+1,h=>by
    simp only [ycC,rsL,ycB,ycY]
    rw [zEt b base ahead vars own l (i+1) j (by simpa using h),show i+1+j=i+(j+1) by omega]
theorem zT4 (b:Bl) (base:Int) (ahead:Nat) (vars:Int) (own:List T) (i:Nat) (a:Ar):(rsA b base ahead vars own i a).length≤2:=by
  rw [rsA]; split <;> simp
theorem zzk (b:Bl) (base:Int) (ahead:Nat) (vars:Int) (own:List T):∀ (l:List Ar) (i:Nat),(rsL b base ahead vars own i l).length≤2*l.length
  | [],i=>by simp [rsL]
  | a :: l,i=>by
    have h1:=zzk b base ahead vars own l (i+1)
    have h2:=zT4 b base ahead vars own i a
    rw [rsL,yaF,yaS]
    omega
def resE (b:Bl) (base k vars:Int) (so:So):T :=
  spT (.mk 1 (vars - 1 - k) []) (rsL b base (b.sorts.length+b.cons.length) vars (lvs ((b.sorts.length+b.cons.length:Nat):Int) so.idx.length vars) 0 so.idx ++ [.mk 1 0 []])
theorem zNb (b:Bl) (base k:Int):okT (tC (za3 b base k)):=by
  have:=zFv base (w64 (w64 (b.sorts.length+decs b.sorts)+b.cons.length)) k b.sorts.length
  exact .mk _ _ _ ⟨by omega,by omega⟩ this (by simp) (by simp)
theorem zVb {b:Bl} {base:Int} {ahead:Nat} {vars:Int} {own:List T} {i:Nat} {a:Ar} (ho:∀ x ∈ own,okT x∧zae x≤9000) (hl:∀ y ∈ lvs 0 ahead vars,okT y) (hx:∀ x ∈ a.idx,zae x≤9000):∀ y ∈ rsA b base ahead vars own i a,okT y:=fun y hy=>by
  have h0:okT ((own[i]?).getD zT):=by
    cases h:own[i]? with
    | none=>exact zdc (by omega) (by omega)
    | some x=>exact (ho x (yas h)).1
  rw [rsA] at hy
  rcases yaZ.1 hy with rfl | hy
  · exact h0
  · split at hy
    · rw [ybw] at hy
      subst hy
      refine zez _ _ (zNb b base a.sort) fun x hx'=>?_
      simp only [yaY,ybw,ybb] at hx'
      rcases hx' with (hx' | ⟨t,ht,rfl⟩) | rfl
      · exact hl x hx'
      · exact zCt (by have:=hx t ht; omega) fun z hz=>by have:=(ho z (ydc hz)).2; omega
      · exact h0
    · simp at hy
theorem zy9 {b:Bl} {base:Int} {ahead:Nat} {vars:Int} {own:List T} (ho:∀ x ∈ own,okT x∧zae x≤9000) (hl:∀ y ∈ lvs 0 ahead vars,okT y):∀ (l:List Ar) (i:Nat),(∀ a ∈ l,∀ x ∈ a.idx,zae x≤9000) → ∀ y ∈ rsL b base ahead vars own i l,okT y
  | [],i,_,y,hy=>by simp [rsL] at hy
  | a :: l,i,h,y,hy=>by
    rw [rsL] at hy
    rcases yaY.1 hy with hy | hy
    · exact zVb ho hl (h a (by simp)) y hy
    · exact zy9 ho hl l (i+1) (fun a' ha'=>h a' (by simp [ha'])) y hy
theorem zTh {L0 L1:List T} {j:Nat} (h:L0.length≤100) (h2:L1.length≤60):(L0 ++ L1.take j).length≤200:=by simp only [yaF,yaE]; omega
theorem zOm {L0 L1:List T} (h:L0.length≤100) (h2:L1.length≤60):(L0 ++ L1).length≤200:=by simp only [yaF]; omega
theorem zRn {L:List T} {x:T} (h:L.length≤200):(L ++ [x]).length≤100000000∧(L ++ [x]).length*40≤140737488351232:=by simp only [yaF,ycZ]; omega
theorem zzq {n:Nat} (h:n≤200):(n+1)*40≤zad:=by simp only [zad]; omega
set_option maxHeartbeats 2000000 in
theorem zNc (b:Bl) (hf:Fit b) (base k vars:Int) (so:So) (k0:0≤k) (hk:b.sorts[k.toNat]? = some so) (fl:zjv so.idx) (v0:0≤vars) (v1:vars≤1000)
    (hI:∀ (i:Nat) (h:i<so.idx.length),so.idx[i].rc=true → ∀ t ∈ so.idx[i].idx,zid t ((lvs ((b.sorts.length+b.cons.length:Nat):Int) so.idx.length vars).take i) 0=0) :
    Pure Tryz.prog zo9 [eBl b,.int .i64 base,.int .i64 k,.int .i64 vars] [.agg (cT (resE b base k vars so)),.int .i64 0]:=by
  refine zEg rfl fun hs=>?_
  have hfs:=hf.s
  have hfc:=hf.c
  have hil:=fl.1
  have klt:=(yae.1 hk).1
  have hk':=(yae.1 hk).2
  have w0:IntKind.i64.wrap ((b.sorts.length:Int)+b.cons.length)=((b.sorts.length+b.cons.length:Nat):Int):=by rw [zab (by omega) (by omega)]; omega
  have hah:b.sorts.length+b.cons.length≤100:=by omega
  have hL:=zO7 ((b.sorts.length+b.cons.length:Nat):Int) so.idx.length vars (by omega) (by omega) (by omega) v0 v1
  have hL2:=zCb 0 (b.sorts.length+b.cons.length) vars (by omega) (by omega) (by omega) v0 v1
  have o0:∀ y ∈ lvs 0 (b.sorts.length+b.cons.length) vars,okT y:=zon (by omega) (by omega)
  have l0:(lvs 0 (b.sorts.length+b.cons.length) vars).length=b.sorts.length+b.cons.length:=zwb _ _ _
  have o1:∀ y ∈ lvs ((b.sorts.length+b.cons.length:Nat):Int) so.idx.length vars,okT y∧zae y≤9000:=fun y hy=>⟨zon (by omega) (by omega) y hy,by
    simp only [lvs,ybb] at hy
    obtain ⟨i,_,rfl⟩:=hy
    rw [zcr]; omega⟩
  have l1:(lvs ((b.sorts.length+b.cons.length:Nat):Int) so.idx.length vars).length=so.idx.length:=zwb _ _ _
  have o0':=o0
  rw [resE]
  generalize hAH:b.sorts.length+b.cons.length=AH at *
  generalize hOW:lvs (AH:Int) so.idx.length vars=OW at *
  generalize hL0:lvs 0 AH vars=L0 at o0 l0 hL2 ⊢
  have hrl:=fun j=>zzk b base AH vars OW (so.idx.take j) 0
  have hsn:=zEt b base AH vars OW so.idx 0
  simp only [cT,eTs] at hL
  simp -dsimp [zo2,eBl,cBl,eSos,eCos,w0,k0,klt,hk,hk',eSo,cSo,eArs]
  refine zaa hL ?_
  simp -dsimp
  refine zah so.idx.length (fun i st=>(st.s 1 = .d (.int .i64 base)∧st.s 2 = .d (.int .i64 k)∧st.s 3 = .d (.int .i64 vars)∧st.s 10 = .d (.int .i64 AH)∧st.s 12 = .d (eTs OW)) ∧
    (st.s 4 = .ptr 4 1 0∧st.h 4=⟨1,.box [.d (eSos b.sorts),.d (eCos b.cons),.d (.int .i64 b.elim)] false⟩)∧(st.s 8 = .ptr 8 1 0∧st.h 8=⟨1,.box [.d (.int .i64 0),.d (.int .i64 0),.fsl 3 []] false⟩) ∧
    (st.s 39 = .d (eArs so.idx)∧st.s 40 = .d (.int .i64 so.idx.length)∧st.s 41 = .d (.int .i64 i)) ∧
    ∃ u,st.s 13 = .rsl 13 u∧st.h 13=⟨u,.row 3 ((rsL b base AH vars OW 0 (so.idx.take i)).map eT) false⟩) ?_ ?_
  · simp -dsimp [eSos,eCos,eTs,eArs,rsL]
  · rintro i ⟨s,hp'⟩ hi ⟨⟨g1,g2,g3,g10,g12⟩,⟨g4,k4⟩,⟨g8,k8⟩,⟨g39,g40,g41⟩,u,g13,k13⟩
    dsimp only at g1 g2 g3 g10 g12 g4 k4 g8 k8 g39 g40 g41 g13 k13
    simp only [eTs,eArs] at g12 g39
    rcases ybm i so.idx.length with hlt | hge
    · have w1:IntKind.i64.wrap ((i:Int)+1)=(i:Int)+1:=zab (by omega) (by omega)
      have fa:=fl.2 _ (yaf hlt)
      have hn1:=hsn i hlt
      have hG:=hrl i
      rw [yaE] at hG
      have hII:=hI i hlt
      have hltO:i<OW.length:=by omega
      have oo:=o1 _ (yaf hltO)
      have hxn:∀ x ∈ so.idx[i].idx,zae x≤9000:=fun x hx=>yac (zdn (ybb.2 ⟨_,hx,rfl⟩)) fa.idx
      rw [hn1,ybj,rsA,yar hltO,ybG,hL0]
      generalize hSP:spT (tC (za3 b base so.idx[i].sort)) (L0 ++ so.idx[i].idx.map (fun t=>zei t (OW.take i) 0) ++ [OW[i]])=SP
      have oOWt:∀ z ∈ OW.take i,zae z≤1048576:=fun z hz=>by have:=(o1 z (ydc hz)).2; omega
      have lOWt:(OW.take i).length≤100:=by rw [yaE]; omega
      generalize rsL b base AH vars OW 0 (so.idx.take i)=G at *
      have hgl:G.length≤40:=by omega
      generalize hX:OW[i]=X at *
      generalize hR:so.idx[i]=R at *
      have r1:(G.length+1)*40≤zad:=zjm hgl trivial
      have r2:(G.length+1+1)*40≤zad:=zxd hgl
      cases hr:R.rc with
      | false =>
        simp -dsimp [g1,g2,g3,g10,g12,g4,k4,g8,k8,g39,g40,g41,g13,k13,hlt,hltO,hX,hR,eAr,cAr,cT,hr,r1,w1,za4,eTs,eArs]
      | true =>
        simp -dsimp [g1,g2,g3,g10,g12,g4,k4,g8,k8,g39,g40,g41,g13,k13,hlt,hltO,hX,hR,eAr,cAr,cT,hr,r1]
        refine zcn hL2 (by simp [za1,zb2,RV.cells]) ?_
        simp -dsimp [g1,g2,g3,g10,g12,g4,k4,g8,k8,g39,g40,g41,g13,k13,eTs]
        refine zah R.idx.length (fun j st=>(st.s 1 = .d (.int .i64 base)∧st.s 2 = .d (.int .i64 k)∧st.s 3 = .d (.int .i64 vars)∧st.s 10 = .d (.int .i64 AH)∧st.s 12 = .d (eTs OW)∧st.s 14 = .d (.int .i64 i)) ∧
          (st.s 4 = .ptr 4 1 0∧st.h 4=⟨1,.box [.d (eSos b.sorts),.d (eCos b.cons),.d (.int .i64 b.elim)] false⟩)∧(st.s 8 = .ptr 8 1 0∧st.h 8=⟨1,.box [.d (.int .i64 0),.d (.int .i64 0),.fsl 3 []] false⟩) ∧
          (st.s 39 = .d (eArs so.idx)∧st.s 40 = .d (.int .i64 so.idx.length)∧st.s 41 = .d (.int .i64 i)) ∧
          (∃ u,st.s 13 = .rsl 13 u∧st.h 13=⟨u,.row 3 (G.map eT ++ [eT X]) false⟩) ∧
          (∃ v,st.s 15 = .ptr 15 v 0∧st.h 15=⟨v,.box [.d (.bool R.rc),.d (.int .i64 R.ty.kind),.d (.int .i64 R.ty.num),.d (.sl 3 (R.ty.kids.map eT)),.d (eTs R.dom),.d (.int .i64 R.sort),.d (eTs R.idx)] false⟩) ∧
          (st.s 60 = .d (eTs R.idx)∧st.s 61 = .d (.int .i64 R.idx.length)∧st.s 62 = .d (.int .i64 j)) ∧
          ∃ u,st.s 16 = .rsl 58 u∧st.h 58=⟨u,.row 3 ((L0 ++ (R.idx.map fun t=>zei t (OW.take i) 0).take j).map eT) false⟩) ?_ ?_
        · simp -dsimp [g1,g2,g3,g10,g12,g4,k4,g8,k8,g39,g40,g41,g13,k13,eTs,eArs,eSos,eCos,za4,cT,hr]
        · clear g1 g2 g3 g10 g12 g4 k4 g8 k8 g39 g40 g41 g13 k13
          rintro j ⟨s,hp'⟩ hj ⟨⟨g1,g2,g3,g10,g12,g14⟩,⟨g4,k4⟩,⟨g8,k8⟩,⟨g39,g40,g41⟩,⟨u,g13,k13⟩,⟨v,g15,k15⟩,⟨g60,g61,g62⟩,u2,g16,k58⟩
          dsimp only at g1 g2 g3 g10 g12 g14 g4 k4 g8 k8 g39 g40 g41 g13 k13 g15 k15 g60 g61 g62 g16 k58
          simp only [eTs,eArs] at g12 g39 g60 k15
          have hidl:=fa.idxL
          rcases ybm j R.idx.length with hlt2 | hge2
          · have w2:IntKind.i64.wrap ((j:Int)+1)=(j:Int)+1:=zab (by omega) (by omega)
            have hxm:=yaf hlt2
            have hIn:=zWa R.idx[j] (OW.take i) 0 (by have:=hxn _ hxm; omega) (fun x hx=>by have:=oOWt x hx; omega) (by omega)
            rw [hII hr _ hxm] at hIn
            have hn:(L0 ++ (R.idx.map fun t=>zei t (OW.take i) 0).take (j+1)).map eT=(L0 ++ (R.idx.map fun t=>zei t (OW.take i) 0).take j).map eT ++ [eT (zei R.idx[j] (OW.take i) 0)]:=by
              rw [zce (yar (by simpa using hlt2)),← ycY,ycN]
              simp
            rw [hn]
            have hl2:(L0 ++ (R.idx.map fun t=>zei t (OW.take i) 0).take j).length≤200:=zTh (by rw [l0]; exact hah) (by rw [ycn]; exact hidl)
            generalize L0 ++ (R.idx.map fun t=>zei t (OW.take i) 0).take j=L1 at *
            generalize zei R.idx[j] (OW.take i) 0=Y at *
            have r3:(L1.length+1)*40≤zad:=zzq hl2
            generalize hZ:R.idx[j]=Z at *
            have hio:i≤OW.length:=by omega
            have hio':(i:Int)≤OW.length:=by omega
            simp only [cT,eTs,List.map_take] at hIn
            simp -dsimp [g1,g2,g3,g10,g12,g14,g4,k4,g8,k8,g39,g40,g41,g13,k13,g15,k15,g60,g61,g62,g16,k58,hlt2,hZ,cT,hio,hio']
            refine zaa hIn ?_
            simp -dsimp [g1,g2,g3,g10,g12,g14,g4,k4,g8,k8,g39,g40,g41,g13,k13,g15,k15,g60,g61,g62,g16,k58,hlt2,hZ,cT,r3,w2,za4,eTs,eArs]
          · have e:j=R.idx.length:=by omega
            subst e
            rw [ycd (by simp)] at k58
            have hEl:=zu7 b base R.sort
            have hC:=zPb (za3 b base R.sort)
            have oC:=zNb b base R.sort
            have oL:∀ x ∈ L0 ++ (R.idx.map fun t=>zei t (OW.take i) 0) ++ [X],okT x:=fun x hx=>by
              simp only [yaY,ybw,ybb] at hx
              rcases hx with (hx | ⟨t,ht,rfl⟩) | rfl
              · exact o0 x hx
              · exact zCt (by have:=hxn t ht; omega) oOWt
              · exact oo.1
            have hLl:(L0 ++ (R.idx.map fun t=>zei t (OW.take i) 0)).length≤200:=zOm (by rw [l0]; exact hah) (by rw [ycn]; exact hidl)
            have hS:=zms (tC (za3 b base R.sort)) _ (zRn hLl).1 oC ⟨(zRn hLl).2,oL⟩
            rw [hSP] at hS
            clear hSP
            generalize za3 b base R.sort=EL at *
            generalize L0 ++ (R.idx.map fun t=>zei t (OW.take i) 0)=L1 at *
            have r3:(L1.length+1)*40≤zad:=zzq hLl
            simp only [eBl,cBl,eSos,eCos,cT,eTs,tC,tk,tn,tks,ycE,ycN,yaV,za4] at hEl hC hS
            simp -dsimp [g1,g2,g3,g10,g12,g14,g4,k4,g8,k8,g39,g40,g41,g13,k13,g15,k15,g60,g61,g62,g16,k58,hlt,hltO,hX,eSos,eCos]
            refine zaa hEl ?_
            simp -dsimp [g1,g2,g3,g10,g12,g14,g4,k4,g8,k8,g39,g40,g41,g13,k13,g15,k15,g60,g61,g62,g16,k58,hlt,hltO,hX,eSos,eCos]
            refine zaa hC ?_
            simp -dsimp [g1,g2,g3,g10,g12,g14,g4,k4,g8,k8,g39,g40,g41,g13,k13,g15,k15,g60,g61,g62,g16,k58,hlt,hltO,hX,eSos,eCos,r3,cT]
            refine zaa hS ?_
            simp -dsimp [g1,g2,g3,g10,g12,g14,g4,k4,g8,k8,g39,g40,g41,g13,k13,g15,k15,g60,g61,g62,g16,k58,hlt,hltO,hX,eSos,eCos,r2,w1,cT,za4,eTs,eArs]
    · have e:i=so.idx.length:=by omega
      subst e
      rw [yce] at k13
      have w4:IntKind.i64.wrap (vars - 1)=vars - 1:=zab (by omega) (by omega)
      have w5:IntKind.i64.wrap (vars - 1 - k)=vars - 1 - k:=zab (by omega) (by omega)
      have hV:=v_ok (vars - 1 - k)
      have hV0:=v_ok 0
      have oV:okT (.mk 1 (vars - 1 - k) []):=.mk _ _ _ (by simp only [n64]; omega) (by simp only [n64]; omega) (by simp) (by simp)
      have oL:=zy9 (b:=b) (base:=base) (ahead:=AH) (vars:=vars) (own:=OW) o1 o0' so.idx 0 fun a ha x hx=>yac (zdn (ybb.2 ⟨_,hx,rfl⟩)) (fl.2 a ha).idx
      have hgl:=zzk b base AH vars OW so.idx 0
      generalize rsL b base AH vars OW 0 so.idx=G at *
      have oL2:∀ x ∈ G ++ [.mk 1 0 []],okT x:=fun x hx=>by
        rcases yaY.1 hx with hx | hx
        · exact oL x hx
        · rw [ybw] at hx; subst hx; exact zdc (by omega) (by omega)
      have hGl:G.length≤200:=yac hgl (by omega)
      have hS:=zms (.mk 1 (vars - 1 - k) []) _ (zRn hGl).1 oV ⟨(zRn hGl).2,oL2⟩
      have r1:(G.length+1)*40≤zad:=zjm (by omega) trivial
      generalize spT (.mk 1 (vars - 1 - k) []) _=SP at *
      simp only [cT,eTs,tk,tn,tks,ycE,ycN,yaV,za4] at hV hV0 hS
      simp -dsimp [g1,g2,g3,g10,g12,g4,k4,g8,k8,g39,g40,g41,g13,k13,w4,w5]
      refine zaa hV ?_
      simp -dsimp [g1,g2,g3,g10,g12,g4,k4,g8,k8,g39,g40,g41,g13,k13]
      refine zaa hV0 ?_
      simp -dsimp [g1,g2,g3,g10,g12,g4,k4,g8,k8,g39,g40,g41,g13,k13,r1,za4,cT]
      refine zaa hS ?_
      simp -dsimp [g1,g2,g3,g10,g12,g4,k4,g8,k8,g39,g40,g41,g13,k13,cT]
end
end
section
section
attribute [local simp] zaf zag tk tn tks zcl zcu zbq zbu zbt zc5
theorem zPa {n:Int} (h:0≤n∧n≤65535):za0 (.mk 1 n [])=0:=by
  refine (zqp (by rw [zcr]; omega)).2 ⟨by rw [zcr]; omega,by rw [zjt]; omega,ze7 h⟩
theorem zLw {t:T} {l:List T} {V:Int} (hV:0≤V∧V≤100) (ht:za0 t=0) (hn:zae t≤9000) (hl:∀ x ∈ l,∃ n:Int,x = .mk 1 n []∧0≤n∧n<V) (hln:l.length≤100) (hw:wiT t l.length 65536=true):zid t l 0=0:=by
  have hx:∀ x ∈ l,za0 x=0∧zae x≤9000∧wiT x V 65536=true:=fun x hx=>by
    obtain ⟨n,rfl,h0,h1⟩:=hl x hx
    exact ⟨zPa ⟨h0,by omega⟩,by rw [zcr]; omega,zFx (by omega)⟩
  have hf:=zhb ht
  obtain ⟨c1,c2,_⟩:=(zqp (by omega)).1 ht
  have h1:=(zWb hV (u:=0) ⟨by omega,by omega⟩ ht hn hx hln (by rw [Int.zero_add]; exact hw)).1
  have hleaf:∀ n b,∃ k m:Int,zc6 l 0 n b = .mk k m []:=fun n b=>by
    rw [zc6]
    split
    · split
      · rename_i a ha
        obtain ⟨m,rfl,_,_⟩:=hl a (yas ha)
        exact ⟨_,_,by rw [znw,mapT,if_pos rfl]⟩
      · exact ⟨_,_,rfl⟩
    · exact ⟨_,_,rfl⟩
  have hN:zae (mapT (zc6 l 0) t 0)=zae t:=zCe _ (fun n b=>by obtain ⟨k,m,e⟩:=hleaf n b; rw [e,zcr]) t hf 0
  have hD:zbx (mapT (zc6 l 0) t 0)=zbx t:=zBs _ (fun n b=>by obtain ⟨k,m,e⟩:=hleaf n b; rw [e,zjt]) t hf 0
  have hO:zk0 t l 0=0:=(zG0 t l 0).2 ⟨ht,fun x h=>(hx x h).1,by omega,by omega⟩
  have hl':∀ x ∈ l,zae x≤1048576:=fun x h=>by have:=(hx x h).2.1; omega
  refine (zC7 (by omega) hl').2 ⟨hO,?_,by omega,by omega⟩
  cases hs:scI l 0 t 0 with
  | false=>rfl
  | true =>
    have:zid t l 0=6:=by rw [zid,if_pos hO,zy8 hO (by omega) hl',hs]; rfl
    omega
def fstN (f:Nat→Int):Nat→Int
  | 0=>0
  | n+1=>if fstN f n=0 then f n else fstN f n
theorem zyn {f:Nat→Int} {i:Nat} (h0:fstN f i=0) (h1:f i ≠ 0):∀ {n:Nat},i<n→fstN f n=f i:=by
  intro n
  induction n with
  | zero=>omega
  | succ n ih =>
    intro hlt
    rcases ybm i n with h | h
    · rw [fstN,ih h,if_neg h1]
    · have:i=n:=by omega
      subst this
      rw [fstN,if_pos h0]
theorem zG3 {f:Nat→Int}:∀ {n:Nat},fstN f n=0 ↔ ∀ i,i<n→f i=0:=by
  intro n
  induction n with
  | zero=>simp [fstN]
  | succ n ih =>
    rw [fstN]
    constructor
    · intro h i hi
      split at h
      · rename_i h0
        rcases ybm i n with h1 | h1
        · exact ih.1 h0 i h1
        · have:i=n:=by omega
          subst this; exact h
      · rename_i h0; exact absurd h h0
    · intro h
      rw [if_pos (ih.2 fun i hi=>h i (by omega))]
      exact h n (by omega)
def zfr (b:Bl) (base:Int) (n:Nat):List T:=(yai n).map fun (i:Nat)=>motR b base (i:Int)
def zk6 (b:Bl) (base:Int) (n:Nat):List T:=(yai n).map fun (i:Nat)=>metR b base (i:Int)
theorem zBt (b:Bl) (base:Int) (n:Nat):zfr b base (n+1)=zfr b base n ++ [motR b base n]:=by simp [zfr,ydd]
theorem zCk (b:Bl) (base:Int) (n:Nat):zk6 b base (n+1)=zk6 b base n ++ [metR b base n]:=by simp [zk6,ydd]
theorem zqq (b:Bl) (base:Int) (n:Nat):(zfr b base n).length=n:=by simp [zfr]
theorem zqx (b:Bl) (base:Int) (n:Nat):(zk6 b base n).length=n:=by simp [zk6]
def elL (b:Bl) (base k:Int) (so:So):List T:=zfr b base b.sorts.length ++ zk6 b base b.cons.length ++ so.idx.map (zcj b base) ++ [spT (tC (zbm b base k)) (zdy so.idx.length)]
theorem zIa (b:Bl) (base k:Int) (so:So):(elL b base k so).length=b.sorts.length+b.cons.length+so.idx.length+1:=by
  simp only [elL,yaF,zqq,zqx,ycn,ycZ]
def elT (b:Bl) (base k:Int) (so:So):T:=zcq 4 (elL b base k so) (resE b base k ((elL b base k so).length:Int) so)
def elE (b:Bl) (base k:Int):Int :=
  if mayP b base k b.sorts.length=0 then
    if fstN (fun i=>motE b base i) b.sorts.length=0 then
      if fstN (fun i=>metE b base i) b.cons.length=0 then (match b.sorts[k.toNat]? with | some so=>za0 (elT b base k so) | none=>1)
      else fstN (fun i=>metE b base i) b.cons.length
    else fstN (fun i=>motE b base i) b.sorts.length
  else mayP b base k b.sorts.length
def elR (b:Bl) (base k:Int):T:=if elE b base k=0 then (match b.sorts[k.toNat]? with | some so=>elT b base k so | none=>zT) else zT
theorem zPp (b:Bl) (base k:Int):okT (motR b base k):=by
  rw [motR]
  split
  · rename_i h
    split
    · rename_i so hso
      rw [motE] at h
      split at h
      · simp only [hso] at h
        exact zod (zhb h)
      · rename_i h'; exact absurd h h'
    · exact zdc (by omega) (by omega)
  · exact zdc (by omega) (by omega)
theorem zMn (b:Bl) (base k:Int):okT (metR b base k):=by
  rw [metR]
  split
  · rename_i h
    rw [metE] at h
    split at h
    · cases hA:metA b base k with
      | none=>exact zdc (by omega) (by omega)
      | some t =>
        simp only [hA] at h
        exact zod (zhb h)
    · rename_i h'; exact absurd h h'
  · exact zdc (by omega) (by omega)
theorem zH4 {b:Bl} {l:List Ar} (hr:rowM b l=true) (fl:zjv l) (hd0:∀ a ∈ l,a.rc=true→a.dom=[]) {o V:Int} (h0:0≤V - o - l.length) (h1:0≤o) (V1:V≤100):∀ (i:Nat) (h:i<l.length),l[i].rc=true → ∀ t ∈ l[i].idx,zid t ((lvs o l.length V).take i) 0=0:=fun i h hrc t ht=>by
  obtain ⟨hr1,hr2⟩:=zC8 hr
  have fa:=fl.2 _ (yaf h)
  have hnx:zae t≤9000:=yac (zdn (ybb.2 ⟨_,ht,rfl⟩)) fa.idx
  obtain ⟨_,s0,s1,d1,⟨so,hso,hil⟩,hd,hx⟩:=zut (hr2 i h) hrc (by omega) (by omega)
  have hx1:=hx t ht
  rw [hd0 _ (yaf h) hrc,ybt] at hx1
  have hf:=zer hx1 (by omega) (by omega) (by omega)
  have hlen:((lvs o l.length V).take i).length=i:=by rw [yaE,zwb]; omega
  refine zLw (V:=V) ⟨by omega,by omega⟩ hf.2.2 hnx (fun x hxm=>?_) (by omega) (by rw [hlen]; simpa using hf.1)
  have:=ydc hxm
  simp only [lvs,ybb,ybE] at this
  obtain ⟨j,hj,rfl⟩:=this
  exact ⟨_,rfl,by omega,by omega⟩
theorem zq7 {b:Bl} {base k many:Int}:(zda 9000 b base ≠ 0→mayP b base k many=zda 9000 b base)∧(zda 9000 b base=0→(k<0∨many≤k)→mayP b base k many=1)∧(zda 9000 b base=0 → ¬(k<0∨many≤k)→mayP b base k many=0) :=
  ⟨fun h=>by rw [mayP,if_neg (fun h'=>h h'.1)],fun h h'=>by rw [mayP,if_pos ⟨h,h'⟩],fun h h'=>by rw [mayP,if_neg (fun h2=>h' h2.2),h]⟩
set_option maxHeartbeats 4000000 in
theorem zxe (b:Bl) (ob:okBl b) (fb:FineBl b) (hf:Fit b) (base k:Int):zou Tryz.prog zos [eBl b,.int .i64 base,.int .i64 k] [.agg (cT (elR b base k)),.int .i64 (elE b base k)]:=by
  refine zg8 false Ev.hm Tryz.func45 zIl rfl fun hs nn=>?_
  have hP:=zI8 9000 (by omega) (by omega) b ob fb base
  simp only [eBl,cBl,eSos,eCos] at hP
  obtain ⟨m1,m2,m3⟩:=zq7 (b:=b) (base:=base) (k:=k) (many:=b.sorts.length)
  have bad:elE b base k ≠ 0→elR b base k=zT:=fun h=>by rw [elR,if_neg h]
  by_cases hp:zda 9000 b base=0
  case neg =>
    have e1:elE b base k=zda 9000 b base:=by rw [elE,if_neg (by rw [m1 hp]; exact hp),m1 hp]
    rw [bad (by rw [e1]; exact hp),e1]
    simp -dsimp [zs7,eBl,cBl,eSos,eCos]
    refine zaa hP ?_
    simp -dsimp [hp,zT,cT]
  rw [hp] at hP
  obtain ⟨hz,b0,b1,hpos⟩:=zib hp
  obtain ⟨z1,z4,z8,zl,zs,zc⟩:=(zbo b).1 hz
  simp -dsimp [zs7,eBl,cBl,eSos,eCos]
  refine zaa hP ?_
  by_cases k0:k<0
  · have e0:=m2 hp (.inl k0)
    have e1:elE b base k=1:=by rw [elE,if_neg (by rw [e0]; decide),e0]
    rw [bad (by rw [e1]; decide),e1]
    simp -dsimp [k0,zT,cT]
  by_cases k1:(b.sorts.length:Int)≤k
  · have e0:=m2 hp (.inr k1)
    have e1:elE b base k=1:=by rw [elE,if_neg (by rw [e0]; decide),e0]
    rw [bad (by rw [e1]; decide),e1]
    simp -dsimp [k0,k1,zT,cT]
  have e0:=m3 hp (by omega)
  simp -dsimp [k0,k1]
  have hfs:=hf.s
  have hfc:=hf.c
  refine zah b.sorts.length (fun i st=>(st.s 1 = .d (.int .i64 base)∧st.s 2 = .d (.int .i64 k))∧(st.s 3 = .ptr 3 1 0∧st.h 3=⟨1,.box [.d (eSos b.sorts),.d (eCos b.cons),.d (.int .i64 b.elim)] false⟩) ∧
    (st.s 6 = .ptr 6 1 0∧st.h 6=⟨1,.box [.d (.int .i64 0),.d (.int .i64 0),.fsl 3 []] false⟩)∧(st.s 40 = .d (.int .i64 b.sorts.length)∧st.s 41 = .d (.int .i64 i)) ∧
    (∃ u,st.s 9 = .rsl 9 u∧st.h 9=⟨u,.row 3 ((zfr b base i).map eT) false⟩)∧fstN (fun i=>motE b base i) i=0) ?_ ?_
  · simp -dsimp [eSos,eCos,zfr,fstN]
  rintro i ⟨s,hp'⟩ hi ⟨⟨g1,g2⟩,⟨g3,k3⟩,⟨g6,k6⟩,⟨g40,g41⟩,⟨u,g9,k9⟩,hF⟩
  dsimp only at g1 g2 g3 k3 g6 k6 g40 g41 g9 k9
  simp only [eSos,eCos] at k3
  rcases ybm i b.sorts.length with hlt | hge
  · have w1:IntKind.i64.wrap ((i:Int)+1)=(i:Int)+1:=zab (by omega) (by omega)
    have hM:=zLf b ob fb hf base i
    have hr:((zfr b base i).length+1)*40≤zad:=by rw [zqq]; simp only [zad]; omega
    have hn:(zfr b base (i+1)).map eT=(zfr b base i).map eT ++ [eT (motR b base i)]:=by rw [zBt,ycN]; rfl
    have hF1:fstN (fun i=>motE b base i) (i+1)=motE b base i:=by rw [fstN,if_pos hF]
    rw [hn,hF1]
    by_cases hE:motE b base i=0
    · generalize zfr b base i=G at *
      generalize motR b base i=Y at *
      simp only [eBl,cBl,eSos,eCos,cT] at hM
      rw [hE] at hM
      simp -dsimp [g1,g2,g3,k3,g6,k6,g40,g41,g9,k9,hlt]
      refine zdj hM ?_
      simp -dsimp [g1,g2,g3,k3,g6,k6,g40,g41,g9,k9,hlt,hE,hr,w1,za4,cT,eSos,eCos]
    · have hh:=zyn (f:=fun i=>motE b base i) hF hE hlt
      have e1:elE b base k=motE b base i:=by rw [elE,if_pos e0,hh,if_neg hE]
      rw [bad (by rw [e1]; exact hE),e1]
      generalize motE b base i=E at *
      generalize zfr b base i=G at *
      generalize motR b base i=Y at *
      simp only [eBl,cBl,eSos,eCos,cT] at hM
      simp -dsimp [g1,g2,g3,k3,g6,k6,g40,g41,g9,k9,hlt]
      refine zdj hM ?_
      simp -dsimp [g1,g2,g3,k3,g6,k6,g40,g41,g9,k9,hlt,hE,zT,cT]
  have e:i=b.sorts.length:=by omega
  subst e
  simp -dsimp [g1,g2,g3,k3,g6,k6,g40,g41,g9,k9]
  refine zah b.cons.length (fun i st=>(st.s 1 = .d (.int .i64 base)∧st.s 2 = .d (.int .i64 k))∧(st.s 3 = .ptr 3 1 0∧st.h 3=⟨1,.box [.d (eSos b.sorts),.d (eCos b.cons),.d (.int .i64 b.elim)] false⟩) ∧
    (st.s 6 = .ptr 6 1 0∧st.h 6=⟨1,.box [.d (.int .i64 0),.d (.int .i64 0),.fsl 3 []] false⟩)∧(st.s 62 = .d (.int .i64 b.cons.length)∧st.s 63 = .d (.int .i64 i)) ∧
    (∃ u,st.s 9 = .rsl 9 u∧st.h 9=⟨u,.row 3 ((zfr b base b.sorts.length ++ zk6 b base i).map eT) false⟩)∧fstN (fun i=>metE b base i) i=0) ?_ ?_
  · simp -dsimp [eSos,eCos,zk6,fstN,g1,g2,g3,k3,g6,k6,g40,g41,g9,k9]
  clear g1 g2 g3 k3 g6 k6 g40 g41 g9 k9 hi hge
  rintro i ⟨s,hp'⟩ hi ⟨⟨g1,g2⟩,⟨g3,k3⟩,⟨g6,k6⟩,⟨g62,g63⟩,⟨u,g9,k9⟩,hG⟩
  dsimp only at g1 g2 g3 k3 g6 k6 g62 g63 g9 k9
  simp only [eSos,eCos] at k3
  have lM:=zqq b base b.sorts.length
  rcases ybm i b.cons.length with hlt | hge
  · have w1:IntKind.i64.wrap ((i:Int)+1)=(i:Int)+1:=zab (by omega) (by omega)
    have hM:=zKq b ob fb hf base i
    have hr:((zfr b base b.sorts.length ++ zk6 b base i).length+1)*40≤zad:=by rw [yaF,lM,zqx]; simp only [zad]; omega
    have hn:(zfr b base b.sorts.length ++ zk6 b base (i+1)).map eT=(zfr b base b.sorts.length ++ zk6 b base i).map eT ++ [eT (metR b base i)]:=by rw [zCk,← ycY,ycN]; rfl
    have hF1:fstN (fun i=>metE b base i) (i+1)=metE b base i:=by rw [fstN,if_pos hG]
    rw [hn,hF1]
    generalize zfr b base b.sorts.length ++ zk6 b base i=G at *
    by_cases hE:metE b base i=0
    · generalize metR b base i=Y at *
      simp only [eBl,cBl,eSos,eCos,cT] at hM
      rw [hE] at hM
      simp -dsimp [g1,g2,g3,k3,g6,k6,g62,g63,g9,k9,hlt]
      refine zdj hM ?_
      simp -dsimp [g1,g2,g3,k3,g6,k6,g62,g63,g9,k9,hlt,hE,hr,w1,za4,cT,eSos,eCos]
    · have hh:=zyn (f:=fun i=>metE b base i) hG hE hlt
      have e1:elE b base k=metE b base i:=by rw [elE,if_pos e0,if_pos hF,hh,if_neg hE]
      rw [bad (by rw [e1]; exact hE),e1]
      generalize metE b base i=E at *
      generalize metR b base i=Y at *
      simp only [eBl,cBl,eSos,eCos,cT] at hM
      simp -dsimp [g1,g2,g3,k3,g6,k6,g62,g63,g9,k9,hlt]
      refine zdj hM ?_
      simp -dsimp [g1,g2,g3,k3,g6,k6,g62,g63,g9,k9,hlt,hE,zT,cT]
  have e:i=b.cons.length:=by omega
  subst e
  have klt:k.toNat<b.sorts.length:=by omega
  have hget:b.sorts[k.toNat]? = some b.sorts[k.toNat]:=yar klt
  have kk0:0≤k:=by omega
  have os:=ob.sorts _ (yaf klt)
  have fs:=fb.sorts _ (yaf klt)
  have hsm:=zs _ klt
  have e1:elE b base k=za0 (elT b base k b.sorts[k.toNat]):=by rw [elE,if_pos e0,if_pos hF,if_pos hG,hget]
  have e2:elR b base k=zc4 (elT b base k b.sorts[k.toNat]):=by rw [elR,zc4,e1,hget]
  generalize hS:b.sorts[k.toNat]=S at *
  obtain ⟨hrow,_,_,hbad⟩:=(zcv _ _ _).1 hsm
  have hil:=fs.idx.1
  have hd0:∀ a ∈ S.idx,a.rc=true→a.dom=[]:=fun a ha hr=>by
    have:=hbad a ha
    rw [zf1,if_pos hr] at this
    split at this
    · cases this
    · exact ybo (by omega)
  have lL:=zIa b base k S
  have lN:=zqx b base b.cons.length
  have hA:=zHf b base S.idx os.idx fs.idx
  have hFo:=zvb b base k
  have hC:=zPb (zbm b base k)
  have hfi:=zkr hf b0 (by omega:base≤65535) k
  rw [if_pos ⟨kk0,by omega⟩] at hfi
  have oC:okT (tC (zbm b base k)):=zdc (by omega) (by omega)
  have hV:=zWv S.idx.length (by omega)
  have hSp:=zyy (tC (zbm b base k)) (zdy S.idx.length) (by rw [zmb]; omega) oC (zrk _ (by omega))
  have oSp:=zez (zdy S.idx.length) _ oC (zrk S.idx.length (by omega)).2
  have hR:=zNc b hf base k ((elL b base k S).length:Int) S kk0 hget fs.idx (by omega) (by omega) (zH4 hrow fs.idx hd0 (by omega) (by omega) (by omega))
  have oR:okT (resE b base k ((elL b base k S).length:Int) S):=by
    refine zez _ _ (.mk _ _ _ (by simp only [n64]; omega) (by simp only [n64]; omega) (by simp) (by simp)) fun x hx=>?_
    rcases yaY.1 hx with hx | hx
    · refine zy9 (fun y hy=>⟨zon (by omega) (by omega) y hy,?_⟩) (zon (by omega) (by omega)) S.idx 0 (fun a ha x hx=>yac (zdn (ybb.2 ⟨_,hx,rfl⟩)) (fs.idx.2 a ha).idx) x hx
      simp only [lvs,ybb] at hy
      obtain ⟨i,_,rfl⟩:=hy
      rw [zcr]; omega
    · rw [ybw] at hx; subst hx; exact zdc (by omega) (by omega)
  have oA:=zFh b base os.idx fs.idx
  have oL:∀ x ∈ elL b base k S,okT x:=fun x hx=>by
    simp only [elL,yaY,ybw] at hx
    rcases hx with ((hx | hx) | hx) | rfl
    · obtain ⟨i,_,rfl⟩:=ybb.1 hx
      exact zPp b base i
    · obtain ⟨i,_,rfl⟩:=ybb.1 hx
      exact zMn b base i
    · exact oA.2 x hx
    · exact oSp
  have hPi:=zL6 (elL b base k S) _ (by omega) oR ⟨by omega,oL⟩
  have hCh:=zug (elT b base k S)
  rw [e1,e2]
  rw [← elT] at hPi
  have lA:(S.idx.map (zcj b base)).length=S.idx.length:=ycn ..
  have hLe:(elL b base k S).map eT=(zfr b base b.sorts.length ++ zk6 b base b.cons.length).map eT ++ (S.idx.map (zcj b base)).map eT ++ [eT (spT (tC (zbm b base k)) (zdy S.idx.length))]:=by
    rw [elL,ycN,ycN,yde]
  have hGl:(zfr b base b.sorts.length ++ zk6 b base b.cons.length).length≤100:=by rw [yaF,lM,lN]; omega
  generalize elT b base k S=ET at *
  generalize resE b base k ((elL b base k S).length:Int) S=RE at *
  generalize elL b base k S=EL at *
  generalize zfr b base b.sorts.length ++ zk6 b base b.cons.length=G at *
  generalize S.idx.map (zcj b base)=AR at *
  generalize spT (tC (zbm b base k)) (zdy S.idx.length)=SP at *
  generalize zbm b base k=FO at *
  have hl2:EL.length=G.length+AR.length+1:=by
    have:=congrArg List.length hLe
    simp only [ycn,yaF,ycZ] at this
    exact this
  rw [hl2] at hR
  have r1:(G.length+AR.length)*40≤zad:=by simp only [zad]; omega
  have r2:(G.length+AR.length+1)*40≤zad:=by simp only [zad]; omega
  clear hP e1 e2 bad m1 m2 m3 oL oA oR oSp hd0 hbad hrow zs zc oC
  simp only [eTs] at hPi
  rw [hLe,ycY] at hPi
  have hle2:((G.length+AR.length+1:Nat):Int)=(G.length:Int)+AR.length+1:=by omega
  simp only [eBl,cBl,eSos,eCos,cT,eTs,eArs,tC,tk,tn,tks,ycE,za4,hle2] at hA hFo hC hV hSp hR hPi hCh
  simp -dsimp [g1,g2,g3,k3,g6,k6,g62,g63,g9,k9,kk0,klt,hget,hS,eSo,cSo,cT,eArs]
  refine zaa hA ?_
  simp -dsimp [g1,g2,g3,k3,g6,k6,g62,g63,g9,k9,kk0,klt,hget,hS,eSo,cSo,cT,eArs,r1]
  refine zaa hFo ?_
  simp -dsimp [g1,g2,g3,k3,g6,k6,g62,g63,g9,k9]
  refine zaa hC ?_
  simp -dsimp [g1,g2,g3,k3,g6,k6,g62,g63,g9,k9]
  refine zaa hV ?_
  simp -dsimp [g1,g2,g3,k3,g6,k6,g62,g63,g9,k9]
  refine zdj hSp ?_
  simp -dsimp [g1,g2,g3,k3,g6,k6,g62,g63,g9,k9,r2,cT]
  refine zaa hR ?_
  simp -dsimp [g1,g2,g3,k3,g6,k6,g62,g63,g9,k9,cT]
  refine zdj hPi ?_
  simp -dsimp [g1,g2,g3,k3,g6,k6,g62,g63,g9,k9,cT]
  refine zuq (by simp -dsimp) hCh ?_
  by_cases hc:za0 ET=0
  · simp -dsimp [g1,g2,g3,k3,g6,k6,hc,zc4,cT]
  · simp -dsimp [g1,g2,g3,k3,g6,k6,hc,zc4,zT,cT]
theorem zIu (b:Bl) (ob:okBl b) (fb:FineBl b) (hf:Fit b) (base k:Int):Pure Tryz.prog zos [eBl b,.int .i64 base,.int .i64 k] [.agg (cT (elR b base k)),.int .i64 (elE b base k)]:=(zxe b ob fb hf base k).pure
end
end
section
section
attribute [local simp] zaf zag tk tn tks zcl zcu zbq zbu zbt zc5
structure Hd8 (p:Prop):Prop where
  o:p
def EIa (b:Bl) (base k V:Int) (l:List Ar) (EE L0:List D) (j:Nat) (GG:List D) (x:Int) (st:S):Prop :=
  (st.s 1 = .d (.int .i64 base)∧st.s 2 = .d (.int .i64 k)∧st.s 9 = .d (.int .i64 b.sorts.length)∧st.s 10 = .d (.int .i64 b.cons.length)∧st.s 17 = .d (.sl 7 (l.map eAr))∧st.s 18 = .d (.int .i64 l.length)∧st.s 19 = .d (.int .i64 V)∧st.s 23 = .d (.int .i64 j)) ∧
  (st.s 3 = .ptr 3 1 0∧st.h 3=⟨1,.box [.d (.sl 6 (b.sorts.map eSo)),.d (.sl 6 (b.cons.map eCo)),.d (.int .i64 b.elim)] false⟩)∧(st.s 6 = .ptr 6 1 0∧st.h 6=⟨1,.box [.d (.int .i64 0),.d (.int .i64 0),.fsl 3 []] false⟩) ∧
  (∃ u,st.s 8 = .rsl 8 u∧st.h 8=⟨u,.row 3 EE false⟩)∧(∃ u fz,st.s 20 = .rsl 20 u∧st.h 20=⟨u,.row 3 L0 fz⟩)∧(∃ u,st.s 22 = .rsl 22 u∧st.h 22=⟨u,.row 3 GG false⟩) ∧
  ∃ v,st.s 24 = .ptr 24 v 0∧st.h 24=⟨v,.box [.d (.int .i64 1),.d (.int .i64 x),.d (.sl 3 [])] false⟩
theorem zXt (f:Int) (i:Nat) (vars:Int):lv (f+i) vars = .mk 1 (vars - 1 - f - i) []:=by rw [lv]; congr 1; omega
theorem zU8 (f:Int) (m:Nat) (vars:Int) (i:Nat) (h:i<m):(lvs f m vars)[i]'(by rw [zwb]; exact h) = .mk 1 (vars - 1 - f - i) []:=by simp [lvs]
theorem zP4 (f:Int) (m:Nat) (vars:Int) (i:Nat) (h:i≤m):(lvs f m vars).take i=lvs f i vars:=by
  simp only [lvs,← List.map_take,List.take_range,Nat.min_eq_left h]
set_option maxHeartbeats 2000000 in
theorem zGg (b:Bl) (ob:okBl b) (fb:FineBl b) (hf:Fit b) (base k:Int) (hp:zda 9000 b base=0) (kk0:0≤k) (k1:k<b.sorts.length):Pure Tryz.prog zfp [eBl b,.int .i64 base,.int .i64 k] [.agg (cT (elR b base k)),.int .i64 (elE b base k)]:=by
  refine zpl rfl fun hs=>?_
  obtain ⟨m1,m2,m3⟩:=zq7 (b:=b) (base:=base) (k:=k) (many:=b.sorts.length)
  have bad:elE b base k ≠ 0→elR b base k=zT:=fun h=>by rw [elR,if_neg h]
  obtain ⟨hz,b0,b1,hpos⟩:=zib hp
  obtain ⟨z1,z4,z8,zl,zs,zc⟩:=(zbo b).1 hz
  have e0:=m3 hp (by omega)
  have hfs:=hf.s
  have hfc:=hf.c
  have klt:k.toNat<b.sorts.length:=by omega
  have hget:b.sorts[k.toNat]? = some b.sorts[k.toNat]:=yar klt
  simp -dsimp [zfm,eBl,cBl,eSos,eCos]
  refine zah b.sorts.length (fun i st=>(st.s 1 = .d (.int .i64 base)∧st.s 2 = .d (.int .i64 k)∧st.s 9 = .d (.int .i64 b.sorts.length)∧st.s 10 = .d (.int .i64 b.cons.length))∧(st.s 3 = .ptr 3 1 0∧st.h 3=⟨1,.box [.d (eSos b.sorts),.d (eCos b.cons),.d (.int .i64 b.elim)] false⟩) ∧
    (st.s 6 = .ptr 6 1 0∧st.h 6=⟨1,.box [.d (.int .i64 0),.d (.int .i64 0),.fsl 3 []] false⟩)∧st.s 11 = .d (.int .i64 i) ∧
    (∃ u,st.s 8 = .rsl 8 u∧st.h 8=⟨u,.row 3 ((zfr b base i).map eT) false⟩)∧fstN (fun i=>motE b base i) i=0) ?_ ?_
  · simp -dsimp [eSos,eCos,zfr,fstN]
  rintro i ⟨s,hp'⟩ hi ⟨⟨g1,g2,g9,g10⟩,⟨g3,k3⟩,⟨g6,k6⟩,g11,⟨u,g8,k8⟩,hF⟩
  dsimp only at g1 g2 g9 g10 g3 k3 g6 k6 g11 g8 k8
  simp only [eSos,eCos] at k3
  rcases ybm i b.sorts.length with hlt | hge
  · have w1:IntKind.i64.wrap ((i:Int)+1)=(i:Int)+1:=zab (by omega) (by omega)
    have hgi:b.sorts[((i:Int)).toNat]? = some b.sorts[i]:=by rw [ycS]; exact yar hlt
    have hM:=zL0 b ob fb hf base i hp (by omega) (by omega) hgi
    have hmi:mayP b base i b.sorts.length=0:=by rw [mayP,if_neg (by omega),hp]
    have q1:motE b base i=za0 (motT b base i b.sorts[i]):=by rw [motE,if_pos hmi,hgi]
    have q2:motR b base i=zc4 (motT b base i b.sorts[i]):=by rw [motR,zc4,q1,hgi]
    rw [← q1,← q2] at hM
    clear q1 q2
    have hr:((zfr b base i).length+1)*40≤zad:=by rw [zqq]; simp only [zad]; omega
    have hn:(zfr b base (i+1)).map eT=(zfr b base i).map eT ++ [eT (motR b base i)]:=by rw [zBt,ycN]; rfl
    have hF1:fstN (fun i=>motE b base i) (i+1)=motE b base i:=by rw [fstN,if_pos hF]
    rw [hn,hF1]
    by_cases hE:motE b base i=0
    · generalize zfr b base i=G at *
      generalize motR b base i=Y at *
      simp only [eBl,cBl,eSos,eCos,cT] at hM
      rw [hE] at hM
      simp -dsimp [g1,g2,g9,g10,g3,k3,g6,k6,g11,g8,k8,hlt]
      refine zaa hM ?_
      simp -dsimp [g1,g2,g9,g10,g3,k3,g6,k6,g11,g8,k8,hlt,hE,hr,w1,za4,cT,eSos,eCos]
    · have hh:=zyn (f:=fun i=>motE b base i) hF hE hlt
      have e1:elE b base k=motE b base i:=by rw [elE,if_pos e0,hh,if_neg hE]
      rw [bad (by rw [e1]; exact hE),e1]
      generalize motE b base i=E at *
      generalize zfr b base i=G at *
      generalize motR b base i=Y at *
      simp only [eBl,cBl,eSos,eCos,cT] at hM
      simp -dsimp [g1,g2,g9,g10,g3,k3,g6,k6,g11,g8,k8,hlt]
      refine zaa hM ?_
      simp -dsimp [g1,g2,g9,g10,g3,k3,g6,k6,g11,g8,k8,hlt,hE,zT,cT]
  have e:i=b.sorts.length:=by omega
  subst e
  simp -dsimp [g1,g2,g9,g10,g3,k3,g6,k6,g11,g8,k8]
  refine zah b.cons.length (fun i st=>(st.s 1 = .d (.int .i64 base)∧st.s 2 = .d (.int .i64 k)∧st.s 9 = .d (.int .i64 b.sorts.length)∧st.s 10 = .d (.int .i64 b.cons.length))∧(st.s 3 = .ptr 3 1 0∧st.h 3=⟨1,.box [.d (eSos b.sorts),.d (eCos b.cons),.d (.int .i64 b.elim)] false⟩) ∧
    (st.s 6 = .ptr 6 1 0∧st.h 6=⟨1,.box [.d (.int .i64 0),.d (.int .i64 0),.fsl 3 []] false⟩)∧st.s 14 = .d (.int .i64 i) ∧
    (∃ u,st.s 8 = .rsl 8 u∧st.h 8=⟨u,.row 3 ((zfr b base b.sorts.length ++ zk6 b base i).map eT) false⟩)∧fstN (fun i=>metE b base i) i=0) ?_ ?_
  · simp -dsimp [eSos,eCos,zk6,fstN,g1,g2,g9,g10,g3,k3,g6,k6,g11,g8,k8]
  clear g1 g2 g9 g10 g3 k3 g6 k6 g11 g8 k8 hi hge
  rintro i ⟨s,hp'⟩ hi ⟨⟨g1,g2,g9,g10⟩,⟨g3,k3⟩,⟨g6,k6⟩,g14,⟨u,g8,k8⟩,hG⟩
  dsimp only at g1 g2 g9 g10 g3 k3 g6 k6 g14 g8 k8
  simp only [eSos,eCos] at k3
  have lM:=zqq b base b.sorts.length
  rcases ybm i b.cons.length with hlt | hge
  · have w1:IntKind.i64.wrap ((i:Int)+1)=(i:Int)+1:=zab (by omega) (by omega)
    have hgi:b.cons[((i:Int)).toNat]? = some b.cons[i]:=by rw [ycS]; exact yar hlt
    obtain ⟨MT,hao⟩:∃ t,metA b base i=some t:=by
      have hgi':b.cons[i]? = some b.cons[i]:=yar hlt
      obtain ⟨_,so,hso,_⟩:=zDx hpos hgi'
      refine ⟨metT b base i b.cons[i] so,?_⟩
      rw [metA,hgi]
      simp only [hso]
    have hM:=zK6 b ob fb hf base i hp (by omega) (by omega) hao
    have hmi:mayP b base i b.cons.length=0:=by rw [mayP,if_neg (by omega),hp]
    have q1:metE b base i=za0 MT:=by rw [metE,if_pos hmi,hao]
    have q2:metR b base i=zc4 MT:=by rw [metR,zc4,q1,hao]; rfl
    rw [← q1,← q2] at hM
    clear q1 q2
    have hr:((zfr b base b.sorts.length ++ zk6 b base i).length+1)*40≤zad:=by rw [yaF,lM,zqx]; simp only [zad]; omega
    have hn:(zfr b base b.sorts.length ++ zk6 b base (i+1)).map eT=(zfr b base b.sorts.length ++ zk6 b base i).map eT ++ [eT (metR b base i)]:=by rw [zCk,← ycY,ycN]; rfl
    have hF1:fstN (fun i=>metE b base i) (i+1)=metE b base i:=by rw [fstN,if_pos hG]
    rw [hn,hF1]
    generalize zfr b base b.sorts.length ++ zk6 b base i=G at *
    by_cases hE:metE b base i=0
    · generalize metR b base i=Y at *
      simp only [eBl,cBl,eSos,eCos,cT] at hM
      rw [hE] at hM
      simp -dsimp [g1,g2,g9,g10,g3,k3,g6,k6,g14,g8,k8,hlt]
      refine zaa hM ?_
      simp -dsimp [g1,g2,g9,g10,g3,k3,g6,k6,g14,g8,k8,hlt,hE,hr,w1,za4,cT,eSos,eCos]
    · have hh:=zyn (f:=fun i=>metE b base i) hG hE hlt
      have e1:elE b base k=metE b base i:=by rw [elE,if_pos e0,if_pos hF,hh,if_neg hE]
      rw [bad (by rw [e1]; exact hE),e1]
      generalize metE b base i=E at *
      generalize metR b base i=Y at *
      simp only [eBl,cBl,eSos,eCos,cT] at hM
      simp -dsimp [g1,g2,g9,g10,g3,k3,g6,k6,g14,g8,k8,hlt]
      refine zaa hM ?_
      simp -dsimp [g1,g2,g9,g10,g3,k3,g6,k6,g14,g8,k8,hlt,hE,zT,cT]
  have e:i=b.cons.length:=by omega
  subst e
  have os:=ob.sorts _ (yaf klt)
  have fs:=fb.sorts _ (yaf klt)
  have hsm:=zs _ klt
  have e1:elE b base k=za0 (elT b base k b.sorts[k.toNat]):=by rw [elE,if_pos e0,if_pos hF,if_pos hG,hget]
  have e2:elR b base k=zc4 (elT b base k b.sorts[k.toNat]):=by rw [elR,zc4,e1,hget]
  generalize hS:b.sorts[k.toNat]=S at *
  obtain ⟨hrow,_,_,hbad⟩:=(zcv _ _ _).1 hsm
  have hil:=fs.idx.1
  have hd0:∀ a ∈ S.idx,a.rc=true→a.dom=[]:=fun a ha hr=>by
    have:=hbad a ha
    rw [zf1,if_pos hr] at this
    split at this
    · cases this
    · exact ybo (by omega)
  have lL:=zIa b base k S
  have lN:=zqx b base b.cons.length
  have hA:=zQ7 b hf base S.idx os.idx fs.idx
  have hfi:=zkr hf b0 (by omega:base≤65535) k
  rw [if_pos ⟨kk0,by omega⟩] at hfi
  have hC:=zKz (base+k)
  have oC:okT (tC (zbm b base k)):=zdc (by omega) (by omega)
  have hV:=zJd S.idx.length (by omega)
  have hSp:=zf7 (tC (zbm b base k)) (zdy S.idx.length) (by rw [zmb]; omega) oC (zrk _ (by omega))
  have oSp:=zez (zdy S.idx.length) _ oC (zrk S.idx.length (by omega)).2
  have oRe:=oSp
  have lA:(S.idx.map (zcj b base)).length=S.idx.length:=ycn ..
  have oA:=zFh b base os.idx fs.idx
  have oL:∀ x ∈ elL b base k S,okT x:=fun x hx=>by
    simp only [elL,yaY,ybw] at hx
    rcases hx with ((hx | hx) | hx) | rfl
    · obtain ⟨i,_,rfl⟩:=ybb.1 hx
      exact zPp b base i
    · obtain ⟨i,_,rfl⟩:=ybb.1 hx
      exact zMn b base i
    · exact oA.2 x hx
    · exact oSp
  have hVn:((elL b base k S).length:Int)=((b.sorts.length+b.cons.length:Nat):Int)+S.idx.length+1:=by omega
  have hI:=zH4 (V:=((elL b base k S).length:Int)) (o:=((b.sorts.length+b.cons.length:Nat):Int)) hrow fs.idx hd0 (by omega) (by omega) (by omega)
  have oR:okT (resE b base k ((elL b base k S).length:Int) S):=by
    refine zez _ _ (.mk _ _ _ (by simp only [n64]; omega) (by simp only [n64]; omega) (by simp) (by simp)) fun x hx=>?_
    rcases yaY.1 hx with hx | hx
    · refine zy9 (fun y hy=>⟨zon (by omega) (by omega) y hy,?_⟩) (zon (by omega) (by omega)) S.idx 0 (fun a ha x hx=>yac (zdn (ybb.2 ⟨_,hx,rfl⟩)) (fs.idx.2 a ha).idx) x hx
      simp only [lvs,ybb] at hy
      obtain ⟨i,_,rfl⟩:=hy
      rw [zcr]; omega
    · rw [ybw] at hx; subst hx; exact zdc (by omega) (by omega)
  have hPi:=zAv (elL b base k S) _ (by omega) oR ⟨by omega,oL⟩
  have hW:=zCs (elT b base k S)
  rw [e1,e2]
  rw [← elT] at hPi
  have hLe:(elL b base k S).map eT=(zfr b base b.sorts.length ++ zk6 b base b.cons.length).map eT ++ (S.idx.map (zcj b base)).map eT ++ [eT (spT (tC (zbm b base k)) (zdy S.idx.length))]:=by
    rw [elL,ycN,ycN,yde]
  have hGl:(zfr b base b.sorts.length ++ zk6 b base b.cons.length).length≤100:=by rw [yaF,lM,lN]; omega
  have w0:Hd8 (IntKind.i64.wrap ((b.sorts.length:Int)+b.cons.length)=((b.sorts.length+b.cons.length:Nat):Int)):=.mk <| by rw [zab (by omega) (by omega)]; omega
  have w3:Hd8 (IntKind.i64.wrap (((b.sorts.length+b.cons.length:Nat):Int)+S.idx.length)=((b.sorts.length+b.cons.length:Nat):Int)+S.idx.length):=.mk <| zab (by omega) (by omega)
  have w4:Hd8 (IntKind.i64.wrap (((b.sorts.length+b.cons.length:Nat):Int)+S.idx.length+1)=((elL b base k S).length:Int)):=.mk <| by rw [zab (by omega) (by omega)]; omega
  have hah:b.sorts.length+b.cons.length≤100:=by omega
  have hresE:resE b base k ((elL b base k S).length:Int) S=spT (.mk 1 (((elL b base k S).length:Int) - 1 - k) []) (rsL b base (b.sorts.length+b.cons.length) ((elL b base k S).length:Int) (lvs ((b.sorts.length+b.cons.length:Nat):Int) S.idx.length ((elL b base k S).length:Int)) 0 S.idx ++ [.mk 1 0 []]):=rfl
  have hVle:((elL b base k S).length:Int)≤1000:=by omega
  have hVk:k≤100:=by omega
  have oRs:∀ y ∈ rsL b base (b.sorts.length+b.cons.length) ((elL b base k S).length:Int) (lvs ((b.sorts.length+b.cons.length:Nat):Int) S.idx.length ((elL b base k S).length:Int)) 0 S.idx,okT y:=zy9 (fun y hy=>⟨zon (by omega) (by omega) y hy,by
      simp only [lvs,ybb] at hy
      obtain ⟨i,_,rfl⟩:=hy
      rw [zcr]; omega⟩) (zon (by omega) (by omega)) S.idx 0 (fun a ha x hx=>yac (zdn (ybb.2 ⟨_,hx,rfl⟩)) (fs.idx.2 a ha).idx)
  have w5:Hd8 (IntKind.i64.wrap (base+k)=base+k):=.mk <| zab (by omega) (by omega)
  rw [hresE] at hPi
  rw [hfi] at hSp hLe
  generalize elT b base k S=ET at *
  generalize hVV:((elL b base k S).length:Int)=V at *
  generalize elL b base k S=EL at *
  generalize zfr b base b.sorts.length ++ zk6 b base b.cons.length=G0 at *
  generalize S.idx.map (zcj b base)=AR at *
  generalize spT (tC (base+k)) (zdy S.idx.length)=SPk at *
  generalize hAH:b.sorts.length+b.cons.length=AH at *
  have hl2:EL.length=G0.length+AR.length+1:=by
    have:=congrArg List.length hLe
    simp only [ycn,yaF,ycZ] at this
    exact this
  have r1:(G0.length+AR.length)*40≤zad:=by simp only [zad]; omega
  have r2:(G0.length+AR.length+1)*40≤zad:=by simp only [zad]; omega
  have hLev:∀ (f:Int) (i:Nat),0≤f→f≤200→i≤200→Pure Tryz.prog zar [.int .i64 (f+i),.int .i64 V] [.agg [.int .i64 1,.int .i64 (V - 1 - f - i),.sl 3 []]]:=fun f i h0 h1 h2=>by
    have:=zii (f+i) V (by omega) (by omega) (by omega) (by omega)
    rw [zXt] at this
    simpa [cT] using this
  have hLk:Pure Tryz.prog zar [.int .i64 k,.int .i64 V] [.agg [.int .i64 1,.int .i64 (V - 1 - k),.sl 3 []]]:=by
    have:=zii k V (by omega) (by omega) (by omega) (by omega)
    simpa [cT,lv] using this
  have hLs:∀ (f:Int) (i:Nat),(lvs f (i+1) V).map eT=(lvs f i V).map eT ++ [.agg [.int .i64 1,.int .i64 (V - 1 - f - i),.sl 3 []]]:=fun f i=>by
    rw [zJh,ycN]; simp [za4,cT]
  have hLl:∀ (f:Int) (i:Nat),(lvs f i V).length=i:=fun f i=>zwb f i V
  have oL0:okTs (lvs 0 AH V):=⟨by rw [hLl]; omega,zon (by omega) (by omega)⟩
  have hTw:=zL8 (lvs 0 AH V) oL0
  clear e1 e2 bad m1 m2 m3 oL oA oRe oSp zs zc oC z1 z4 z8 zl hbad hresE hF hG hp hz hpos hsm hrow e0 hfi
  simp only [eBl,cBl,eSos,eCos,cT,eTs,eArs,tC,tk,tn,tks,ycE,za4] at hA hC hV hSp hPi hW hLe
  simp -dsimp [g1,g2,g9,g10,g3,k3,g6,k6,g14,g8,k8,kk0,klt,hget,hS,eSo,cSo,cT,eArs]
  refine zaa hA ?_
  simp -dsimp [g1,g2,g9,g10,g3,k3,g6,k6,g14,g8,k8,kk0,klt,hget,hS,eSo,cSo,cT,eArs,r1,w5.o]
  refine zaa hC ?_
  simp -dsimp [g1,g2,g9,g10,g3,k3,g6,k6,g14,g8,k8]
  refine zaa hV ?_
  simp -dsimp [g1,g2,g9,g10,g3,k3,g6,k6,g14,g8,k8]
  refine zaa hSp ?_
  simp -dsimp [g1,g2,g9,g10,g3,k3,g6,k6,g14,g8,k8,r2,cT,w0.o,w3.o,w4.o]
  clear lM lN oR r1 r2
  have hEE:∃ EE:List D,EE=G0.map eT ++ (AR.map eT ++ [.agg [.int .i64 SPk.kind,.int .i64 SPk.num,.sl 3 (SPk.kids.map eT)]]):=⟨_,rfl⟩
  obtain ⟨EE,hEE⟩:=hEE
  rw [ycY,← hEE] at hLe
  rw [hLe] at hPi
  refine zah AH (fun i st=>(st.s 1 = .d (.int .i64 base)∧st.s 2 = .d (.int .i64 k)∧st.s 9 = .d (.int .i64 b.sorts.length)∧st.s 10 = .d (.int .i64 b.cons.length)∧st.s 17 = .d (eArs S.idx)∧st.s 18 = .d (.int .i64 S.idx.length)∧st.s 19 = .d (.int .i64 V)) ∧
    (st.s 3 = .ptr 3 1 0∧st.h 3=⟨1,.box [.d (eSos b.sorts),.d (eCos b.cons),.d (.int .i64 b.elim)] false⟩)∧(st.s 6 = .ptr 6 1 0∧st.h 6=⟨1,.box [.d (.int .i64 0),.d (.int .i64 0),.fsl 3 []] false⟩) ∧
    (∃ u,st.s 8 = .rsl 8 u∧st.h 8=⟨u,.row 3 EE false⟩)∧st.s 21 = .d (.int .i64 i) ∧ ∃ u,st.s 20 = .rsl 20 u∧st.h 20=⟨u,.row 3 ((lvs 0 i V).map eT) false⟩) ?_ ?_
  · simp -dsimp [eSos,eCos,eArs,lvs,g1,g2,g9,g10,g3,k3,g6,k6,g14,g8,k8,hEE]
  clear g1 g2 g9 g10 g3 k3 g6 k6 g14 g8 k8 hi hge
  rintro i ⟨s,hp'⟩ hi ⟨⟨g1,g2,g9,g10,g17,g18,g19⟩,⟨g3,k3⟩,⟨g6,k6⟩,⟨u,g8,k8⟩,g21,u2,g20,k20⟩
  dsimp only at g1 g2 g9 g10 g17 g18 g19 g3 k3 g6 k6 g8 k8 g21 g20 k20
  simp only [eSos,eCos,eArs] at k3 g17
  rcases ybm i AH with hlt | hge
  · have w1:IntKind.i64.wrap ((i:Int)+1)=(i:Int)+1:=zab (by omega) (by omega)
    have hli:=hLev 0 i (by omega) (by omega) (by omega)
    rw [Int.zero_add] at hli
    have hr:((lvs 0 i V).length+1)*40≤zad:=by rw [hLl]; simp only [zad]; omega
    rw [hLs]
    generalize lvs 0 i V=L at *
    have hltI:(i:Int)<(AH:Int):=by omega
    simp -dsimp [g1,g2,g9,g10,g17,g18,g19,g3,k3,g6,k6,g8,k8,g21,g20,k20,w0.o,hlt,hltI]
    refine zaa hli ?_
    simp -dsimp [g1,g2,g9,g10,g17,g18,g19,g3,k3,g6,k6,g8,k8,g21,g20,k20,hr,w1,hlt,eSos,eCos,eArs]
  have e:i=AH:=by omega
  subst e
  have hltI:¬ (i:Int)<(i:Int):=by omega
  simp -dsimp [g1,g2,g9,g10,g17,g18,g19,g3,k3,g6,k6,g8,k8,g21,g20,k20,w0.o]
  generalize hL0:lvs 0 i V=L0 at *
  have l0:L0.length=i:=by rw [← hL0]; exact hLl 0 i
  have hsn:=zEt b base i V (lvs (i:Int) S.idx.length V) S.idx 0
  have hrl:=fun j=>zzk b base i V (lvs (i:Int) S.idx.length V) (S.idx.take j) 0
  refine zah S.idx.length (fun j st=>(st.s 1 = .d (.int .i64 base)∧st.s 2 = .d (.int .i64 k)∧st.s 9 = .d (.int .i64 b.sorts.length)∧st.s 10 = .d (.int .i64 b.cons.length)∧st.s 17 = .d (eArs S.idx)∧st.s 18 = .d (.int .i64 S.idx.length)∧st.s 19 = .d (.int .i64 V)) ∧
    (st.s 3 = .ptr 3 1 0∧st.h 3=⟨1,.box [.d (eSos b.sorts),.d (eCos b.cons),.d (.int .i64 b.elim)] false⟩)∧(st.s 6 = .ptr 6 1 0∧st.h 6=⟨1,.box [.d (.int .i64 0),.d (.int .i64 0),.fsl 3 []] false⟩) ∧
    (∃ u,st.s 8 = .rsl 8 u∧st.h 8=⟨u,.row 3 EE false⟩)∧(∃ u fz,st.s 20 = .rsl 20 u∧st.h 20=⟨u,.row 3 (L0.map eT) fz⟩)∧st.s 23 = .d (.int .i64 j) ∧
    ∃ u,st.s 22 = .rsl 22 u∧st.h 22=⟨u,.row 3 ((rsL b base i V (lvs (i:Int) S.idx.length V) 0 (S.idx.take j)).map eT) false⟩) ?_ ?_
  · simp -dsimp [eSos,eCos,eArs,rsL,g1,g2,g9,g10,g17,g18,g19,g3,k3,g6,k6,g8,k8,g21,g20,k20]
  clear g1 g2 g9 g10 g17 g18 g19 g3 k3 g6 k6 g8 k8 g21 g20 k20 hltI
  rintro j ⟨s,hp'⟩ hj ⟨⟨g1,g2,g9,g10,g17,g18,g19⟩,⟨g3,k3⟩,⟨g6,k6⟩,⟨u8,g8,k8⟩,⟨u20,fz,g20,k20⟩,g23,u22,g22,k22⟩
  dsimp only at g1 g2 g9 g10 g17 g18 g19 g3 k3 g6 k6 g8 k8 g20 k20 g23 g22 k22
  simp only [eSos,eCos,eArs] at k3 g17
  rcases ybm j S.idx.length with hlt | hge2
  · have w1:IntKind.i64.wrap ((j:Int)+1)=(j:Int)+1:=zab (by omega) (by omega)
    have w6:IntKind.i64.wrap ((i:Int)+j)=i+j:=zab (by omega) (by omega)
    have fa:=fs.idx.2 _ (yaf hlt)
    have hn1:=hsn j hlt
    have hG:=hrl j
    rw [yaE] at hG
    have hII:=hI j hlt
    have hOj:(lvs (i:Int) S.idx.length V)[j]? = some (.mk 1 (V - 1 - i - j) []):=by
      rw [yar (by rw [hLl]; exact hlt),zU8 _ _ _ _ hlt]
    have hOt:(lvs (i:Int) S.idx.length V).take j=lvs (i:Int) j V:=zP4 _ _ _ _ (by omega)
    rw [hOt] at hII
    have hlj:=hLev (i:Int) j (by omega) (by omega) (by omega)
    have hxn:∀ x ∈ S.idx[j].idx,zae x≤9000:=fun x hx=>yac (zdn (ybb.2 ⟨_,hx,rfl⟩)) fa.idx
    have hidl:=fa.idxL
    have hEl:=znc b hf base S.idx[j].sort
    have hCe:=zKz (za3 b base S.idx[j].sort)
    rw [hn1,ybj,rsA,hOj,ybG,hOt,hL0]
    have oX:okT (.mk 1 (V - 1 - i - j) []):=.mk _ _ _ (by simp only [n64]; omega) (by simp only [n64]; omega) (by simp) (by simp)
    have hfl:∀ x ∈ lvs (i:Int) j V,zac x=true∧zae x≤1048576:=fun x hx=>by
      simp only [lvs,ybb,ybE] at hx
      obtain ⟨q,hq,rfl⟩:=hx
      exact ⟨ze7 (by omega),by rw [zcr]; omega⟩
    have hlnj:(lvs (i:Int) j V).length=j:=hLl _ _
    have oIn:∀ y ∈ S.idx[j].idx.map (fun t=>zei t (lvs (i:Int) j V) 0),okT y:=fun y hy=>by
      obtain ⟨t,ht,rfl⟩:=ybb.1 hy
      exact zCt (by have:=hxn t ht; omega) fun z hz=>(hfl z hz).2
    have hSp2:=zf7 (tC (za3 b base S.idx[j].sort)) (L0 ++ S.idx[j].idx.map (fun t=>zei t (lvs (i:Int) j V) 0) ++ [.mk 1 (V - 1 - i - j) []]) (by simp only [yaF,ycn,ycZ]; omega) (zNb b base _) ⟨by simp only [yaF,ycn,ycZ]; omega,fun x hx=>by
      simp only [yaY,ybw] at hx
      rcases hx with (hx | hx) | rfl
      · exact oL0.2 x hx
      · exact oIn x hx
      · exact oX⟩
    obtain ⟨SP,hSPe⟩:∃ SP,SP=spT (tC (za3 b base S.idx[j].sort)) (L0 ++ S.idx[j].idx.map (fun t=>zei t (lvs (i:Int) j V) 0) ++ [.mk 1 (V - 1 - i - j) []]):=⟨_,rfl⟩
    rw [← hSPe] at hSp2 ⊢
    have hInL:(S.idx[j].idx.map (fun t=>zei t (lvs (i:Int) j V) 0)).length=S.idx[j].idx.length:=ycn ..
    have hFill:∀ (q:Nat) (hq:q<S.idx[j].idx.length),S.idx[j].rc=true→Pure Tryz.prog zed [.agg (cT S.idx[j].idx[q]),eTs (lvs (i:Int) j V),.int .i64 0] [.agg (cT (zei S.idx[j].idx[q] (lvs (i:Int) j V) 0))]:=fun q hq hr=>by
      have hxm:=yaf hq
      have hz:=hII hr _ hxm
      have hn9:=hxn _ hxm
      have hO:=((zC7 (by omega) (fun z hz=>(hfl z hz).2)).1 hz).1
      rw [zDc hz]
      exact zN9 _ (by omega) (fun x hx=>⟨(hfl x hx).1,by have:=(hfl x hx).2; omega⟩) 0 (by omega) _ (zsj _ (zpe hO).1) (by omega)
    clear hSPe hII hxn oIn hn1 hfl oX
    generalize rsL b base i V (lvs (i:Int) S.idx.length V) 0 (S.idx.take j)=G at *
    have hgl:G.length≤40:=by omega
    clear hG
    have q1:(G.length+1)*40≤zad:=zjm hgl trivial
    have q2:(G.length+1+1)*40≤zad:=zxd hgl
    have hSn:∀ (q:Nat) (hq:q<S.idx[j].idx.length),(L0 ++ (S.idx[j].idx.map fun t=>zei t (lvs (i:Int) j V) 0).take (q+1)).map eT=(L0 ++ (S.idx[j].idx.map fun t=>zei t (lvs (i:Int) j V) 0).take q).map eT ++ [eT (zei S.idx[j].idx[q] (lvs (i:Int) j V) 0)]:=fun q hq=>by
      rw [zce (yar (by simpa using hq)),← ycY,ycN]
      simp
    generalize hR:S.idx[j]=R at *
    have hl2:∀ q,(L0 ++ (R.idx.map fun t=>zei t (lvs (i:Int) j V) 0).take q).length≤200:=fun q=>zTh (by omega) (by rw [hInL]; exact hidl)
    have q3:((L0 ++ (R.idx.map fun t=>zei t (lvs (i:Int) j V) 0)).length+1)*40≤zad:=zzq (zOm (by omega) (by rw [hInL]; exact hidl))
    simp only [cT,eTs,tC,eBl,cBl,eSos,eCos,ycN,yaV,ycE,za4,tk,tn,tks] at hEl hCe hSp2 hFill
    cases hr:R.rc with
    | false =>
      simp -dsimp [g1,g2,g9,g10,g17,g18,g19,g3,k3,g6,k6,g8,k8,g20,k20,g23,g22,k22,hlt,w0.o,w6]
      refine zaa hlj ?_
      simp -dsimp [g1,g2,g9,g10,g17,g18,g19,g3,k3,g6,k6,g8,k8,g20,k20,g23,g22,k22,hlt,hR,eAr,cAr,cT,hr,q1,w1,za4,eTs,eArs,eSos,eCos]
      done
    | true =>
      simp -dsimp [g1,g2,g9,g10,g17,g18,g19,g3,k3,g6,k6,g8,k8,g20,k20,g23,g22,k22,hlt,w0.o,w6]
      refine zaa hlj ?_
      simp -dsimp [g1,g2,g9,g10,g17,g18,g19,g3,k3,g6,k6,g8,k8,g20,k20,g23,g22,k22,hlt,hR,eAr,cAr,cT,hr,q1]
      refine zah j (fun q st=>EIa b base k V S.idx EE (L0.map eT) j (G.map eT ++ [.agg [.int .i64 1,.int .i64 (V - 1 - i - j),.sl 3 []]]) (V - 1 - i - j) st∧st.s 26 = .d (.int .i64 q) ∧ ∃ u,st.s 25 = .rsl 25 u∧st.h 25=⟨u,.row 3 ((lvs (i:Int) q V).map eT) false⟩) ?_ ?_
      · simp -dsimp [EIa,g1,g2,g9,g10,g17,g18,g19,g3,k3,g6,k6,g8,k8,g20,k20,g23,g22,k22,lvs]
        done
      clear g1 g2 g9 g10 g17 g18 g19 g3 k3 g6 k6 g8 k8 g20 k20 g23 g22 k22
      rintro q ⟨s,hp'⟩ hq ⟨⟨⟨g1,g2,g9,g10,g17,g18,g19,g23⟩,⟨g3,k3⟩,⟨g6,k6⟩,⟨u8,g8,k8⟩,⟨u20,fz,g20,k20⟩,⟨u22,g22,k22⟩,v24,g24,k24⟩,g26,u25,g25,k25⟩
      dsimp only at g1 g2 g9 g10 g17 g18 g19 g23 g3 k3 g6 k6 g8 k8 g20 k20 g22 k22 g24 k24 g26 g25 k25
      rcases ybm q j with hltq | hgeq
      · have w2:IntKind.i64.wrap ((q:Int)+1)=(q:Int)+1:=zab (by omega) (by omega)
        have w7:IntKind.i64.wrap ((i:Int)+q)=i+q:=zab (by omega) (by omega)
        have hlq:=hLev (i:Int) q (by omega) (by omega) (by omega)
        have hr3:((lvs (i:Int) q V).length+1)*40≤zad:=zzq (by rw [hLl]; omega)
        have hltI:(q:Int)<(j:Int):=by omega
        rw [hLs]
        generalize lvs (i:Int) q V=L at *
        simp -dsimp [g1,g2,g9,g10,g17,g18,g19,g23,g3,k3,g6,k6,g8,k8,g20,k20,g22,k22,g24,k24,g26,g25,k25,w0.o,w7,hltI,hltq]
        refine zaa hlq ?_
        simp -dsimp [EIa,g1,g2,g9,g10,g17,g18,g19,g23,g3,k3,g6,k6,g8,k8,g20,k20,g22,k22,g24,k24,g26,g25,k25,w2,hr3,hltq]
        done
      have e:q=j:=by omega
      subst e
      have hnq:¬ (q:Int)<(q:Int):=by omega
      simp -dsimp [g1,g2,g9,g10,g17,g18,g19,g23,g3,k3,g6,k6,g8,k8,g20,k20,g22,k22,g24,k24,g26,g25,k25]
      refine zcn hTw (by simp [za1,zb2,RV.cells]) ?_
      simp -dsimp [g1,g2,g9,g10,g17,g18,g19,g23,g3,k3,g6,k6,g8,k8,g20,k20,g22,k22,g24,k24,g26,g25,k25,hlt,hR,eAr,cAr,cT,eTs]
      refine zah R.idx.length (fun p st=>EIa b base k V S.idx EE (L0.map eT) q (G.map eT ++ [.agg [.int .i64 1,.int .i64 (V - 1 - i - q),.sl 3 []]]) (V - 1 - i - q) st∧st.s 28 = .d (.int .i64 p)∧(∃ u fz,st.s 25 = .rsl 25 u∧st.h 25=⟨u,.row 3 ((lvs (i:Int) q V).map eT) fz⟩) ∧
        ∃ u,st.s 27 = .rsl 156 u∧st.h 156=⟨u,.row 3 ((L0 ++ (R.idx.map fun t=>zei t (lvs (i:Int) q V) 0).take p).map eT) false⟩) ?_ ?_
      · simp -dsimp [EIa,g1,g2,g9,g10,g17,g18,g19,g23,g3,k3,g6,k6,g8,k8,g20,k20,g22,k22,g24,k24,g26,g25,k25]
        done
      clear g1 g2 g9 g10 g17 g18 g19 g23 g3 k3 g6 k6 g8 k8 g20 k20 g22 k22 g24 k24 g26 g25 k25
      rintro p ⟨s,hp'⟩ hp2 ⟨⟨⟨g1,g2,g9,g10,g17,g18,g19,g23⟩,⟨g3,k3⟩,⟨g6,k6⟩,⟨u8,g8,k8⟩,⟨u20,fz,g20,k20⟩,⟨u22,g22,k22⟩,v24,g24,k24⟩,g28,⟨u25,fz2,g25,k25⟩,u27,g27,k27⟩
      dsimp only at g1 g2 g9 g10 g17 g18 g19 g23 g3 k3 g6 k6 g8 k8 g20 k20 g22 k22 g24 k24 g28 g25 k25 g27 k27
      rcases ybm p R.idx.length with hltp | hgep
      · have w2:IntKind.i64.wrap ((p:Int)+1)=(p:Int)+1:=zab (by omega) (by omega)
        have hFp:=hFill p hltp hr
        have hSp':=hSn p hltp
        have hr3:((L0 ++ (R.idx.map fun t=>zei t (lvs (i:Int) q V) 0).take p).length+1)*40≤zad:=zzq (hl2 p)
        rw [hSp']
        generalize (L0 ++ (R.idx.map fun t=>zei t (lvs (i:Int) q V) 0).take p)=L at *
        generalize zei R.idx[p] (lvs (i:Int) q V) 0=Y at *
        generalize lvs (i:Int) q V=OWq at *
        generalize hZ:R.idx[p]=Z at *
        have hltI:(p:Int)<(R.idx.length:Int):=by omega
        simp -dsimp [g1,g2,g9,g10,g17,g18,g19,g23,g3,k3,g6,k6,g8,k8,g20,k20,g22,k22,g24,k24,g28,g25,k25,g27,k27,hlt,hR,eAr,cAr,cT,eTs,hltp,hltI,hZ]
        refine zaa hFp ?_
        simp -dsimp [EIa,g1,g2,g9,g10,g17,g18,g19,g23,g3,k3,g6,k6,g8,k8,g20,k20,g22,k22,g24,k24,g28,g25,k25,g27,k27,w2,hr3,hltp,za4,cT]
        done
      have e:p=R.idx.length:=by omega
      subst e
      rw [ycd (by simp)] at k27
      simp -dsimp [g1,g2,g9,g10,g17,g18,g19,g23,g3,k3,g6,k6,g8,k8,g20,k20,g22,k22,g24,k24,g28,g25,k25,g27,k27,hlt,hR,eAr,cAr,cT,eTs]
      refine zaa hEl ?_
      simp -dsimp [g1,g2,g9,g10,g17,g18,g19,g23,g3,k3,g6,k6,g8,k8,g20,k20,g22,k22,g24,k24,g28,g25,k25,g27,k27]
      refine zaa hCe ?_
      generalize (R.idx.map fun t=>zei t (lvs (i:Int) q V) 0)=IN at *
      rw [yaF] at q3
      simp only [ycY] at hSp2
      simp -dsimp [g1,g2,g9,g10,g17,g18,g19,g23,g3,k3,g6,k6,g8,k8,g20,k20,g22,k22,g24,k24,g28,g25,k25,g27,k27,cT,q3]
      refine zaa hSp2 ?_
      simp -dsimp [g1,g2,g9,g10,g17,g18,g19,g23,g3,k3,g6,k6,g8,k8,g20,k20,g22,k22,g24,k24,g28,g25,k25,g27,k27,cT,q2,w1,hlt,za4,eArs,eSos,eCos]
      done
  have e:j=S.idx.length:=by omega
  subst e
  rw [yce] at k22
  have hnj:¬ (S.idx.length:Int)<(S.idx.length:Int):=by omega
  have hV0:=zQt 0
  have hrs:=zzk b base i V (lvs (i:Int) S.idx.length V) S.idx 0
  have hSpF:=zf7 (.mk 1 (V - 1 - k) []) (rsL b base i V (lvs (i:Int) S.idx.length V) 0 S.idx ++ [.mk 1 0 []]) (by simp only [yaF,ycZ]; omega) (.mk _ _ _ (by simp only [n64]; omega) (by simp only [n64]; omega) (by simp) (by simp)) ⟨by simp only [yaF,ycZ]; omega,fun x hx=>by
    rcases yaY.1 hx with hx | hx
    · exact oRs x hx
    · rw [ybw] at hx; subst hx; exact zdc (by omega) (by omega)⟩
  have hgl:(rsL b base i V (lvs (i:Int) S.idx.length V) 0 S.idx).length≤40:=by omega
  generalize spT (.mk 1 (V - 1 - k) []) (rsL b base i V (lvs (i:Int) S.idx.length V) 0 S.idx ++ [.mk 1 0 []])=SF at *
  generalize rsL b base i V (lvs (i:Int) S.idx.length V) 0 S.idx=G at *
  have q1:(G.length+1)*40≤zad:=zjm hgl trivial
  simp only [cT,eTs,ycN,yaV,ycE,za4,tk,tn,tks] at hV0 hSpF
  simp -dsimp [g1,g2,g9,g10,g17,g18,g19,g3,k3,g6,k6,g8,k8,g20,k20,g23,g22,k22]
  refine zaa hV0 ?_
  simp -dsimp [g1,g2,g9,g10,g17,g18,g19,g3,k3,g6,k6,g8,k8,g20,k20,g23,g22,k22,q1]
  refine zaa hLk ?_
  simp -dsimp [g1,g2,g9,g10,g17,g18,g19,g3,k3,g6,k6,g8,k8,g20,k20,g23,g22,k22]
  refine zaa hSpF ?_
  simp -dsimp [g1,g2,g9,g10,g17,g18,g19,g3,k3,g6,k6,g8,k8,g20,k20,g23,g22,k22]
  refine zaa hPi ?_
  simp -dsimp [g1,g2,g9,g10,g17,g18,g19,g3,k3,g6,k6,g8,k8,g20,k20,g23,g22,k22]
  refine zaa hW ?_
  simp -dsimp [g1,g2,g9,g10,g17,g18,g19,g3,k3,g6,k6,g8,k8,g20,k20,g23,g22,k22,cT]
end
end
section
end
section
section
attribute [local simp] zaf zag tk tn tks zcl zcu
end
end
section
def n64B (n:Int):Bool:=decide (-9223372036854775808≤n) && decide (n<9223372036854775808)
theorem zB3 {n:Int} (h:n64B n=true):n64 n:=by
  rw [n64B,ybJ,decide_eq_true_eq,decide_eq_true_eq] at h
  exact h
mutual
def okTB:T→Bool
  | .mk k n ks=>n64B k && (n64B n && (decide (ks.length*40≤140737488351232) && okLB ks))
def okLB:List T→Bool
  | []=>true
  | x :: xs=>okTB x && okLB xs
end
theorem zSx {xs:List T} (hx:∀ x ∈ xs,okTB x=true→okT x) (h:okLB xs=true):∀ x ∈ xs,okT x:=by
  induction xs with
  | nil=>intro x hx'; simp at hx'
  | cons y ys ih =>
    rw [okLB,ybJ] at h
    intro x hm
    rcases yaZ.1 hm with rfl | hm
    · exact hx _ (by simp) h.1
    · exact ih (fun z hz=>hx z (by simp [hz])) h.2 x hm
theorem zCh (t:T):okTB t=true→okT t:=by
  refine T.ind (p:=fun t=>okTB t=true→okT t) ?_ t
  intro k n ks ih h
  rw [okTB] at h
  simp only [ybJ,decide_eq_true_eq] at h
  exact .mk k n ks (zB3 h.1) (zB3 h.2.1) h.2.2.1 (zSx ih h.2.2.2)
def zPi (l:List T):Bool:=decide (l.length*40≤140737488351232) && okLB l
theorem zC5 {l:List T} (h:zPi l=true):okTs l:=by
  rw [zPi,ybJ,decide_eq_true_eq] at h
  exact ⟨h.1,zSx (fun x _=>zCh x) h.2⟩
def zXh (a:Ar):Bool:=okTB a.ty && (zPi a.dom && (n64B a.sort && zPi a.idx))
def zJ8 (l:List Ar):Bool:=decide (l.length*104≤140737488351232) && l.all zXh
theorem zJ7 {l:List Ar} (h:zJ8 l=true):zw6 l:=by
  rw [zJ8,ybJ,decide_eq_true_eq,yaC] at h
  refine ⟨h.1,fun a ha=>?_⟩
  have:=h.2 a ha
  simp only [zXh,ybJ] at this
  exact ⟨zCh _ this.1,zC5 this.2.1,zB3 this.2.2.1,zC5 this.2.2.2⟩
def zW3 (b:Bl):Bool:=decide (b.sorts.length*80≤140737488351232) && (b.sorts.all (fun s=>zJ8 s.idx && (n64B s.level && okTB s.dty)) && (decide (b.cons.length*96≤140737488351232) &&
  (b.cons.all (fun c=>n64B c.sort && (zJ8 c.args && (zPi c.idx && okTB c.dec))) && n64B b.elim)))
theorem zV6 {b:Bl} (h:zW3 b=true):okBl b:=by
  simp only [zW3,ybJ,decide_eq_true_eq,yaC] at h
  obtain ⟨h1,h2,h3,h4,h5⟩:=h
  exact ⟨h1,fun s hs=>⟨zJ7 (h2 s hs).1,zB3 (h2 s hs).2.1,zCh _ (h2 s hs).2.2⟩,h3,fun c hc=>⟨zB3 (h4 c hc).1,zJ7 (h4 c hc).2.1,zC5 (h4 c hc).2.2.1,zCh _ (h4 c hc).2.2.2⟩,zB3 h5⟩
mutual
def nodB:T→Nat
  | .mk _ _ ks=>1+zGi ks
def zGi:List T→Nat
  | []=>0
  | x :: xs=>nodB x+zGi xs
end
theorem zJ1 {xs:List T} (h:∀ x ∈ xs,nodB x=zae x):zGi xs=(xs.map zae).sum:=by
  induction xs with
  | nil=>rfl
  | cons y ys ih=>rw [zGi,h y (by simp),ih fun z hz=>h z (by simp [hz]),yaV,List.sum_cons]
theorem zzr (t:T):nodB t=zae t:=by
  refine T.ind (p:=fun t=>nodB t=zae t) ?_ t
  intro k n ks ih
  rw [nodB,zae,zJ1 ih,Nat.add_comm]
theorem zJv (l:List T):zGi l=(l.map zae).sum:=zJ1 fun x _=>zzr x
def zye (l:List Ar):Bool:=decide (l.length≤20) && l.all fun a=>decide (nodB a.ty≤9000) && (decide (a.dom.length≤60) && (decide (zGi a.dom≤9000) && (decide (a.idx.length≤60) && decide (zGi a.idx≤9000))))
theorem zB5 {l:List Ar} (h:zye l=true):zjv l:=by
  simp only [zye,zzr,zJv,ybJ,decide_eq_true_eq,yaC] at h
  exact ⟨h.1,fun a ha=>⟨(h.2 a ha).1,(h.2 a ha).2.1,(h.2 a ha).2.2.1,(h.2 a ha).2.2.2.1,(h.2 a ha).2.2.2.2⟩⟩
def zIi (b:Bl):Bool:=decide (b.sorts.length≤10) && (decide (b.cons.length≤20) && ((b.sorts.all fun s=>zye s.idx && decide (nodB s.dty≤9000)) &&
  b.cons.all fun c=>zye c.args && (decide (c.idx.length≤60) && (decide (zGi c.idx≤9000) && decide (nodB c.dec≤9000)))))
theorem zMo {b:Bl} (h:zIi b=true):FineBl b:=by
  simp only [zIi,zzr,zJv,ybJ,decide_eq_true_eq,yaC] at h
  obtain ⟨h1,h2,h3,h4⟩:=h
  exact ⟨h1,h2,fun s hs=>⟨zB5 (h3 s hs).1,(h3 s hs).2⟩,fun c hc=>⟨zB5 (h4 c hc).1,(h4 c hc).2.1,(h4 c hc).2.2.1,(h4 c hc).2.2.2⟩⟩
mutual
def zBl:T→Bool
  | .mk k n ks=>if (ks.length:Int)=zf5 k then if zf5 k=0 then inB n 0 65535 && zG5 ks else if n=0 then zG5 ks else false else false
def zG5:List T→Bool
  | []=>true
  | x :: xs=>zBl x && zG5 xs
end
theorem zP1 {xs:List T} (h:∀ x ∈ xs,zBl x=zac x):zG5 xs=xs.all zac:=by
  induction xs with
  | nil=>rfl
  | cons y ys ih=>rw [zG5,h y (by simp),ih fun z hz=>h z (by simp [hz]),List.all_cons]
theorem zJj (t:T):zBl t=zac t:=by
  refine T.ind (p:=fun t=>zBl t=zac t) ?_ t
  intro k n ks ih
  rw [zBl,zbf,zP1 ih]
def inC (t:T) (v:Nat):Bool:=decide (v≤65536) && (decide (nodB t≤200) && (zBl t && wiT t v 65536))
theorem zKc {t:T} {v:Nat} (h:inC t v=true):inM t v=true:=by
  simp only [inC,ybJ,decide_eq_true_eq,zzr,zJj] at h
  obtain ⟨h1,h2,h3,h4⟩:=h
  have hd:=zry t
  exact (zR7 (by omega) (by omega) (by omega)).2 ⟨(zqp (by omega)).2 ⟨by omega,by omega,h3⟩,h4⟩
def domC:Nat→List T→Bool
  | _,[]=>true
  | i,x :: xs=>inC x i && domC (i+1) xs
theorem zMv:∀ (l:List T) (i:Nat),domC i l=true → ∀ (j:Nat) (hj:j<l.length),inC l[j] (i+j)=true
  | x :: xs,i,h,0,_=>by rw [domC,ybJ] at h; exact h.1
  | x :: xs,i,h,j+1,hj=>by
    rw [domC,ybJ] at h
    have:=zMv xs (i+1) h.2 j (by simpa using hj)
    rw [show i+(j+1)=i+1+j by omega]
    exact this
def argC (b:Bl) (a:Ar) (i:Nat):Bool :=
  if a.rc then zzx a.ty && (decide (a.dom.length≤12) && (decide (0≤a.sort) && match b.sorts[a.sort.toNat]? with
    | none=>false
    | some s=>decide (a.idx.length=s.idx.length) && (domC i a.dom && a.idx.all fun t=>inC t (i+a.dom.length))))
  else inC a.ty i && (decide (a.dom=[]) && (decide (a.idx=[]) && decide (a.sort=0)))
theorem zOw {l:List T} {v:Nat} (h:l.all (fun t=>inC t v)=true):allM l v=true:=by
  rw [allM,ybK,ycf]
  intro x hx
  have:=zKc (yaC.1 h x hx)
  simp [this]
theorem zUl {b:Bl} {a:Ar} {i:Nat} (hi:i≤12) (h:argC b a i=true):argM b a i=true:=by
  rw [argC] at h
  rw [argM]
  split at h
  · rename_i hr
    simp only [ybJ,decide_eq_true_eq] at h
    obtain ⟨h1,h2,h3,h4⟩:=h
    rw [if_pos hr,if_pos h1,if_neg (by omega),if_neg (by omega)]
    split at h4
    · cases h4
    · rename_i s hs
      simp only [ybJ,decide_eq_true_eq] at h4
      obtain ⟨h5,h6,h7⟩:=h4
      rw [hs]
      dsimp only
      rw [if_pos (by omega),ybJ]
      refine ⟨(zaq _ _ _).2 fun j hj=>?_,?_⟩
      · rw [ybj,zb3 (by omega) (by omega),show (i:Int)+(j:Int)=((i+j:Nat):Int) by omega]
        exact zKc (zMv _ _ h6 j hj)
      · rw [zb3 (by omega) (by omega),show (i:Int)+(a.dom.length:Int)=((i+a.dom.length:Nat):Int) by omega]
        exact zOw h7
  · rename_i hr
    simp only [ybJ,decide_eq_true_eq] at h
    obtain ⟨h1,h2,h3,h4⟩:=h
    rw [if_neg hr,if_pos (zKc h1),h2,h3]
    simp [h4,w64]
    rfl
def zMk (b:Bl):Nat→List Ar→Bool
  | _,[]=>true
  | i,x :: xs=>argC b x i && zMk b (i+1) xs
theorem zI9 {b:Bl}:∀ (l:List Ar) (i:Nat),zMk b i l=true → ∀ (j:Nat) (hj:j<l.length),argC b l[j] (i+j)=true
  | x :: xs,i,h,0,_=>by rw [zMk,ybJ] at h; exact h.1
  | x :: xs,i,h,j+1,hj=>by
    rw [zMk,ybJ] at h
    have:=zI9 xs (i+1) h.2 j (by simpa using hj)
    rw [show i+(j+1)=i+1+j by omega]
    exact this
def rowC (b:Bl) (l:List Ar):Bool:=decide (l.length≤12) && zMk b 0 l
theorem zPl {b:Bl} {l:List Ar} (h:rowC b l=true):rowM b l=true:=by
  rw [rowC,ybJ,decide_eq_true_eq] at h
  rw [rowM,if_neg (by omega)]
  refine (zaq _ _ _).2 fun j hj=>?_
  have:=zI9 _ _ h.2 j hj
  rw [ybj] at this ⊢
  exact zUl (by omega) this
def zJx (is:Bool) (t:T) (v:Nat):Bool:=if is then inC t v else zzx t
theorem zEz {is:Bool} {t:T} {v:Nat} (h:zJx is t v=true):zgi is t v=true:=by
  rw [zJx] at h
  rw [zgi]
  split at h
  · rename_i h1
    rw [if_pos h1]; exact zKc h
  · rename_i h1
    rw [if_neg h1]; exact h
def zE6 (b:Bl):Nat→List So→Bool
  | _,[]=>true
  | k,s :: l=>(rowC b s.idx && (zmp s.level && (zJx s.dec s.dty s.idx.length && !s.idx.any (zf1 k s)))) && zE6 b (k+1) l
theorem zE9 {b:Bl}:∀ (l:List So) (k:Nat),zE6 b k l=true → ∀ (j:Nat) (hj:j<l.length),zh2 b (k+j) l[j]=true
  | x :: xs,k,h,0,_=>by
    simp only [zE6,ybJ,ybK] at h
    obtain ⟨⟨h1,h2,h3,h4⟩,_⟩:=h
    refine (zcv _ _ _).2 ⟨zPl h1,h2,zEz h3,fun a ha=>?_⟩
    have:=ycf.1 h4 a ha
    simpa using this
  | x :: xs,k,h,j+1,hj=>by
    rw [zE6,ybJ] at h
    have:=zE9 xs (k+1) h.2 j (by simpa using hj)
    rw [show k+(j+1)=k+1+j by omega]
    exact this
def conC (b:Bl) (c:Co):Bool:=decide (0≤c.sort) && (rowC b c.args && match b.sorts[c.sort.toNat]? with
  | none=>false
  | some s=>decide (c.idx.length=s.idx.length) && (c.idx.all (fun t=>inC t c.args.length) && zJx s.dec c.dec c.args.length))
theorem zWc {b:Bl} {c:Co} (h:conC b c=true):conM b c=true:=by
  simp only [conC,ybJ,decide_eq_true_eq] at h
  obtain ⟨h1,h2,h3⟩:=h
  rw [conM,if_neg (by omega),if_pos (zPl h2)]
  split at h3
  · cases h3
  · rename_i s hs
    simp only [ybJ,decide_eq_true_eq] at h3
    rw [hs]
    dsimp only
    rw [if_pos (by omega),if_pos (zOw h3.2.1)]
    exact zEz h3.2.2
def zOb (b:Bl):Bool:=decide (1≤b.sorts.length) && (decide (b.sorts.length≤4) && (decide (b.cons.length≤8) && (zmp b.elim && (zE6 b 0 b.sorts && b.cons.all (conC b)))))
theorem zOr {b:Bl} (h:zOb b=true):zgc b=0:=by
  simp only [zOb,ybJ,decide_eq_true_eq,yaC] at h
  obtain ⟨h1,h2,h3,h4,h5,h6⟩:=h
  exact (zbo b).2 ⟨h1,h2,h3,h4,fun j hj=>by have:=zE9 _ _ h5 j hj; rwa [ybj] at this,fun c hc=>zWc (h6 c hc)⟩
def zBq (b:Bl) (base:Int) (good:Bool):Bool:=zW3 b && (zIi b && (zOb b && (decide (0≤base) && (decide (base≤65535) && (posF 9000 b base == good)))))
end
section
section
attribute [local simp] zaf zag tk tn tks zcl zcu zbq zbu zbt zc5
end
end
section
section
attribute [local simp] zaf zag tk tn tks zcl zcu zbq zbu zbt zc5
theorem traw (k:Int) (l:List D) (hl:l.length*40≤zad):Pure Tryz.prog zdu [.int .i64 k,.sl 3 l] [.agg [.int .i64 k,.int .i64 0,.sl 3 l]]:=by
  refine zq4 rfl fun hs=>?_
  simp -dsimp [zif,hl]
theorem craw (n:Int):Pure Tryz.prog zc2 [.int .i64 n] [.agg [.int .i64 3,.int .i64 n,.sl 3 []]]:=by simpa [cT] using zKz n
theorem vraw (n:Int):Pure Tryz.prog zc1 [.int .i64 n] [.agg [.int .i64 1,.int .i64 n,.sl 3 []]]:=by simpa [cT] using zQt n
theorem uraw (n:Int):Pure Tryz.prog zjf [.int .i64 n] [.agg [.int .i64 2,.int .i64 n,.sl 3 []]]:=by simpa [cT] using zY2 n
theorem zLl {b:Bl} {base:Int} (h:zBq b base true=true):zda 9000 b base=0:=by
  simp only [zBq,ybJ,decide_eq_true_eq,beq_iff_eq] at h
  obtain ⟨h1,h2,h3,h4,h5,h6⟩:=h
  rw [zda,if_pos (zOr h3),if_neg (by omega),h6]
  rfl
theorem zB7 {b:Bl} {base:Int} {g:Bool} (h:zBq b base g=true):okBl b∧FineBl b∧Fit b:=by
  simp only [zBq,ybJ] at h
  have fb:=zMo h.2.1
  exact ⟨zV6 h.1,fb,⟨fb.s,fb.c⟩⟩
theorem zPq {t:T} (h:zBl t=true) (hn:nodB t≤200):za0 t=0:=by
  rw [zzr] at hn
  rw [zJj] at h
  have hd:=zry t
  exact (zqp (by omega)).2 ⟨by omega,by omega,h⟩
theorem nat8:zBq natB 0 true=true:=by decide +kernel
end
end
section
section
attribute [local simp] zaf zag tk tn tks zcl zcu zbq zbu zbt zc5
def tA (f a:T):T:=.mk 6 0 [f,a]
def tP (f a:T):T:=.mk 4 0 [f,a]
end
end
section
section
attribute [local simp] zaf zag tk tn tks zcl zcu zbq zbu zbt zc5
def vA:Nat→List Ar→List Int
  | _,[]=>[]
  | i,a :: l=>(if a.rc then (i:Int) else -1) :: vA (i+1) l
theorem zB9:∀ (l:List Ar) (i:Nat),(vA i l).length=l.length
  | [],_=>rfl
  | a :: l,i=>by rw [vA,yaS,zB9 l,yaS]
theorem zY5:∀ (l:List Ar) (i j:Nat) (h:j<l.length),(vA i l)[j]? = some (if l[j].rc then ((i+j:Nat):Int) else -1)
  | a :: l,i,0,h=>by simp [vA]
  | a :: l,i,j+1,h=>by
    simp only [vA,List.getElem?_cons_succ,ycB]
    rw [zY5 l (i+1) j (by simpa using h),show i+1+j=i+(j+1) by omega]
theorem zMf:∀ (l:List Ar) (i j:Nat) (h:j<l.length),vA i (l.take (j+1))=vA i (l.take j) ++ [if l[j].rc then ((i+j:Nat):Int) else -1]
  | a :: l,i,0,h=>by simp [vA]
  | a :: l,i,j+1,h=>by
    simp only [ycC,vA,ycB,ycv]
    rw [zMf l (i+1) j (by simpa using h),show i+1+j=i+(j+1) by omega]
def vrs (p:Pl):List Int:=vA 0 p.args ++ yaa p.more.toNat (-1)
def rp (p:Pl):List D:=cBl p.b ++ [.int .i64 p.base,.sl 1 ((vrs p).map (.int .i64)),eArs p.args]
theorem zzy (p:Pl):(vrs p).length=p.args.length+p.more.toNat:=by rw [vrs,yaF,zB9,ybc]
def grd (p:Pl) (n:Int):Int:=if zbb p (.mk 1 n []) then zeq p (.mk 1 n []) else -1
theorem zWl {p:Pl} {n:Int} (h0:0≤p.more) (h:((vrs p).length:Int)≤n):grd p n = -1:=by
  rw [zzy] at h
  have hJ:zfu p (.mk 1 n [])=none:=by rw [zfu,if_neg]; simp only [tk,tn]; omega
  rw [grd,zbb,hJ]
  rfl
theorem zY7 {p:Pl} {n:Int} (h0:0≤p.more) (hn:0≤n) (h:n<((vrs p).length:Int)):(vrs p)[((vrs p).length - 1 - n.toNat)]? = some (grd p n):=by
  have hl:=zzy p
  rw [zzy] at h
  by_cases c:n<p.more
  · have hJ:zfu p (.mk 1 n [])=none:=by rw [zfu,if_neg]; simp only [tk,tn]; omega
    have e:grd p n = -1:=by rw [grd,zbb,hJ]; rfl
    have hx:(vrs p).length - 1 - n.toNat - (vA 0 p.args).length<p.more.toNat:=by rw [zB9,hl]; omega
    have hy:(vA 0 p.args).length≤(vrs p).length - 1 - n.toNat:=by rw [zB9,hl]; omega
    rw [e]
    generalize (vrs p).length - 1 - n.toNat=j at *
    rw [vrs,List.getElem?_append_right hy,List.getElem?_replicate,if_pos hx]
  · have hJ:zfu p (.mk 1 n [])=some (p.args.length - 1 - (n - p.more).toNat):=by
      rw [zfu,if_pos ⟨rfl,by show p.more≤n; omega,by show n - p.more<(p.args.length:Int); omega⟩]
      rfl
    have hidx:(vrs p).length - 1 - n.toNat=p.args.length - 1 - (n - p.more).toNat:=by rw [hl]; omega
    have hlt:p.args.length - 1 - (n - p.more).toNat<p.args.length:=by omega
    rw [hidx,vrs,List.getElem?_append_left (by rw [zB9]; omega),zY5 _ _ _ hlt]
    rw [grd,zbb,zeq,hJ]
    simp only [yar hlt,ybj]
theorem zC9 (p:Pl) (n:Int):(grd p n<0 ↔ zbb p (.mk 1 n [])=false)∧(zbb p (.mk 1 n [])=true→grd p n=zeq p (.mk 1 n [])):=by
  rw [grd]
  cases hb:zbb p (.mk 1 n []) with
  | true =>
    obtain ⟨_,j,hj,_⟩:_ ∧ ∃ j:Nat,zeq p (.mk 1 n [])=j∧j<p.args.length:=by
      rw [zbb] at hb
      cases hJ:zfu p (.mk 1 n []) with
      | none=>rw [hJ] at hb; cases hb
      | some j =>
        have e:zeq p (.mk 1 n [])=j:=by rw [zeq,hJ]
        rw [zfu] at hJ
        split at hJ
        · rename_i hh
          cases hJ
          exact ⟨hh.1,_,e,by omega⟩
        · cases hJ
    rw [if_pos rfl,hj]
    refine ⟨⟨fun h=>by omega,fun h=>by cases h⟩,fun _=>rfl⟩
  | false=>rw [if_neg (by simp)]; exact ⟨⟨fun _=>rfl,fun _=>by omega⟩,fun h=>by cases h⟩
theorem zol (p:Pl) (n:Int) (hn:0≤n) (h0:0≤p.more) (h1:p.more≤1000000000) (hl:p.args.length≤1000000):Pure Tryz.prog zba [.agg (rp p),.int .i64 n] [.int .i64 (grd p n)]:=by
  refine zlv rfl fun hs=>?_
  have hvl:=zzy p
  have ho:=zWl (p:=p) (n:=n) h0
  have hi:=zY7 (p:=p) (n:=n) h0 hn
  have e:rp p=cBl p.b ++ [.int .i64 p.base,.sl 1 ((vrs p).map (.int .i64)),eArs p.args]:=rfl
  rw [e]
  generalize vrs p=L at *
  by_cases c:(L.length:Int)≤n
  · have:=ho c
    simp -dsimp [zca,cBl,c,this]
  · have hI:=hi (by omega)
    have hlt:L.length - 1 - n.toNat<L.length:=by omega
    have hI':=(yae.1 hI).2
    have w1:IntKind.i64.wrap ((L.length:Int) - 1)=(L.length:Int) - 1:=zab (by omega) (by omega)
    have w2:IntKind.i64.wrap ((L.length:Int) - 1 - n)=((L.length - 1 - n.toNat:Nat):Int):=by rw [zab (by omega) (by omega)]; omega
    generalize L.length - 1 - n.toNat=j at *
    simp -dsimp [zca,cBl,c,w1,w2,hlt,hI,hI']
theorem zGj (l:List Int) (hl:l.length≤2000000000):OwnC Tryz.prog zgg [.sl 1 (l.map (.int .i64))] [.one (.row 1 (l.map (.int .i64)) false)]:=by
  refine zq6 rfl fun hs=>?_
  simp -dsimp [zge,(by simp only [zad]; omega:l.length*8≤zad)]
theorem zI7 (p:Pl) (n:Nat) (hn:n≤1000000) (h0:0≤p.more) (h1:p.more≤1000000000) (hl:p.args.length≤1000000):Pure Tryz.prog za9 [.agg (rp p),.int .i64 n] [.agg (rp (p.fwd n))]:=by
  refine znx rfl fun hs=>?_
  have hvl:=zzy p
  have e:rp p=cBl p.b ++ [.int .i64 p.base,.sl 1 ((vrs p).map (.int .i64)),eArs p.args]:=rfl
  have e2:rp (p.fwd n)=cBl p.b ++ [.int .i64 p.base,.sl 1 ((vrs p ++ yaa n (-1)).map (.int .i64)),eArs p.args]:=by
    rw [rp]
    simp only [Pl.fwd,vrs,ycY]
    rw [show (p.more+(n:Int)).toNat=p.more.toNat+n by omega,← List.replicate_append_replicate]
  rw [e,e2]
  have hT:=zGj (vrs p) (by omega)
  generalize vrs p=L at *
  simp -dsimp [zey,cBl]
  refine zcn hT (by simp [za1,zb2,RV.cells]) ?_
  simp -dsimp
  refine zah n (fun i st=>st.s 1 = .d (.int .i64 n)∧st.s 6 = .d (.int .i64 i)∧(st.s 4 = .ptr 4 1 0∧st.h 4=⟨1,.box [.fsl 6 [],.fsl 6 [],.d (.int .i64 0),.d (.int .i64 0),.fsl 1 [],.fsl 7 []] false⟩) ∧
    ∃ v,st.s 5 = .ptr 5 1 0∧st.h 5=⟨1,.box [.d (eSos p.b.sorts),.d (eCos p.b.cons),.d (.int .i64 p.b.elim),.d (.int .i64 p.base),.rsl 10 v,.d (eArs p.args)] false⟩∧st.h 10=⟨v,.row 1 ((L ++ yaa i (-1)).map (.int .i64)) false⟩) ?_ ?_
  · simp -dsimp
  · rintro i ⟨s,hp⟩ hi ⟨g1,g6,⟨g4,k4⟩,v,g5,k5,k10⟩
    dsimp only at g1 g6 g4 k4 g5 k5 k10
    rcases ybm i n with hlt | hge
    · have w1:IntKind.i64.wrap ((i:Int)+1)=(i:Int)+1:=zab (by omega) (by omega)
      have hn':(L ++ yaa (i+1) (-1)).map (D.int .i64)=(L ++ yaa i (-1)).map (D.int .i64) ++ [.int .i64 (-1)]:=by
        rw [List.replicate_succ',← ycY,ycN]; rfl
      have hll:(L ++ yaa i (-1:Int)).length=L.length+i:=by rw [yaF,ybc]
      rw [hn']
      generalize L ++ yaa i (-1:Int)=M at *
      simp -dsimp [g1,g6,g4,k4,g5,k5,k10,hlt,w1,(by simp only [zad]; omega:(M.length+1)*8≤zad)]
    · have ei:i=n:=by omega
      subst ei
      simp -dsimp [g1,g6,g4,k4,g5,k5,k10]
theorem zM7 (b:Bl) (base:Int) (l:List Ar) (hl:l.length≤1000000):Pure Tryz.prog zfg [eBl b,.int .i64 base,eArs l] [.agg (rp ⟨b,base,l,0⟩)]:=by
  refine zxp rfl fun hs=>?_
  have e:rp ⟨b,base,l,0⟩=cBl b ++ [.int .i64 base,.sl 1 ((vA 0 l).map (.int .i64)),eArs l]:=by
    rw [rp]; simp only [vrs]
    rw [show (0:Int).toNat=0 from rfl,List.replicate_zero,List.append_nil]
  rw [e]
  simp -dsimp [zlb,eBl,cBl,eArs]
  refine zah l.length (fun i st=>st.s 2 = .d (eArs l)∧st.s 8 = .d (.int .i64 i)∧(st.s 6 = .ptr 6 1 0∧st.h 6=⟨1,.box [.fsl 6 [],.fsl 6 [],.d (.int .i64 0),.d (.int .i64 0),.fsl 1 [],.fsl 7 []] false⟩) ∧
    ∃ c,st.s 7 = .ptr 7 1 0∧st.h 7=⟨1,.box [.d (eSos b.sorts),.d (eCos b.cons),.d (.int .i64 b.elim),.d (.int .i64 base),c,.d (eArs l)] false⟩ ∧
    ((i=0∧c = .fsl 1 [])∨(0<i ∧ ∃ k v,(k=28∨k=33)∧c = .rsl k v∧st.h k=⟨v,.row 1 ((vA 0 (l.take i)).map (.int .i64)) false⟩))) ?_ ?_
  · simp -dsimp [eArs]
  · rintro i ⟨s,hp⟩ hi ⟨g2,g8,⟨g6,k6⟩,c,g7,k7,kc⟩
    dsimp only at g2 g8 g6 k6 g7 k7 kc
    simp only [eArs] at g2 k7
    rcases ybm i l.length with hlt | hge
    · have w1:IntKind.i64.wrap ((i:Int)+1)=(i:Int)+1:=zab (by omega) (by omega)
      have hsn:=zMf l 0 i hlt
      have hvl:=zB9 (l.take i) 0
      rw [yaE] at hvl
      rw [ybj] at hsn
      rw [hsn]
      generalize hR:l[i]=R at *
      have hV0:i=0→vA 0 (l.take i)=[]:=fun h=>by subst h; rfl
      generalize vA 0 (l.take i)=V at *
      have w1':IntKind.i64.wrap 1=1:=by rfl
      rcases kc with ⟨rfl,rfl⟩ | ⟨hi0,k,v,hk,rfl,kc⟩
      · have:=hV0 rfl
        subst this
        cases hrc:R.rc with
        | true=>simp -dsimp [g2,g8,g6,k6,g7,k7,hlt,hR,hrc,eAr,cAr,cT,w1',(by decide:8≤zad),eArs]
        | false=>simp -dsimp [g2,g8,g6,k6,g7,k7,hlt,hR,hrc,eAr,cAr,cT,w1',(by decide:8≤zad),eArs]
      · rcases hk with rfl | rfl <;> cases hrc:R.rc
        all_goals
          simp -dsimp [g2,g8,g6,k6,g7,k7,kc,hlt,hR,hrc,eAr,cAr,cT,w1,(by simp only [zad]; omega:(V.length+1)*8≤zad),eArs]
    · have ei:i=l.length:=by omega
      subst ei
      rw [yce] at kc
      rcases kc with ⟨hz,rfl⟩ | ⟨hi0,k,v,hk,rfl,kc⟩
      · have hl0:l=[]:=ycL.1 hz
        subst hl0
        simp -dsimp [g2,g8,g6,k6,g7,k7,vA]
      · rcases hk with rfl | rfl
        all_goals
          simp -dsimp [g2,g8,g6,k6,g7,k7,kc]
end
end
end Ev
end Go.Proofs.YtncmainjcffanaaGreat
