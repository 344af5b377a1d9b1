/- Several texts in one. -/
import Derived.Test.YtncmainjcffanaaGreatX
import Derived.Test.YtncmainjcffanaaGreatEE
set_option maxRecDepth 100000
set_option linter.unusedSimpArgs false
set_option linter.unusedVariables false
open List renaming all_eq_not_any_not→yck,all_eq_true→yaC,any_eq_false→ycg,append_nil→ybp,findIdx?_eq_none_iff→ycj,findIdx?_eq_some_iff_getElem→ych,foldl_append→ycd,foldl_cons→ycl,foldr_cons→ycm,getElem?_eq_getElem→yar,getElem_map→yco,getElem_mem→yaf,length_map→ycn,map_cons→yaV,mem_append→yaY,mem_map→ybb,mem_take_iff_getElem→yci,replicate→yaa,replicate_zero→ycp,sum_cons→yca,take_add_one→ycc,take_length→ycf,take_of_length_le→yce
open Nat renaming lt_or_ge→ybm
open Bool renaming and_eq_true→ybJ
/- Terms,arguments,sorts,constructors,blocks as data. -/
namespace Go.Proofs.YtncmainjcffanaaGreat
namespace Ev
open Go
inductive T where
  | mk (kind num:Int) (kids:List T)
def T.kind:T→Int | .mk k _ _=>k
def T.num:T→Int | .mk _ n _=>n
def T.kids:T→List T | .mk _ _ ks=>ks
def eT:T→D
  | .mk k n ks=>.agg [.int .i64 k,.int .i64 n,.sl 3 (ks.map eT)]
def cT (t:T):List D:=[.int .i64 t.kind,.int .i64 t.num,.sl 3 (t.kids.map eT)]
theorem zb4 (t:T):eT t = .agg (cT t):=by cases t; rw [eT]; rfl
@[simp] theorem zmy (t:T):(eT t).cells=cT t:=by rw [zb4]; rfl
def eTs (l:List T):D:=.sl 3 (l.map eT)
theorem T.ind {p:T→Prop} (h:∀ k n ks,(∀ x ∈ ks,p x)→p (.mk k n ks)):∀ t,p t
  | .mk k n ks=>h k n ks fun x _=>T.ind h x
structure Ar where
  rc:Bool
  ty:T
  dom:List T
  sort:Int
  idx:List T
def cAr (a:Ar):List D:=.bool a.rc :: cT a.ty ++ [eTs a.dom,.int .i64 a.sort,eTs a.idx]
def eAr (a:Ar):D:=.agg (cAr a)
def eArs (l:List Ar):D:=.sl 7 (l.map eAr)
structure So where
  idx:List Ar
  level:Int
  dec:Bool
  dty:T
def cSo (s:So):List D:=[eArs s.idx,.int .i64 s.level,.bool s.dec] ++ cT s.dty
def eSo (s:So):D:=.agg (cSo s)
def eSos (l:List So):D:=.sl 6 (l.map eSo)
structure Co where
  sort:Int
  args:List Ar
  idx:List T
  dec:T
def cCo (c:Co):List D:=[.int .i64 c.sort,eArs c.args,eTs c.idx] ++ cT c.dec
def eCo (c:Co):D:=.agg (cCo c)
def eCos (l:List Co):D:=.sl 6 (l.map eCo)
structure Bl where
  sorts:List So
  cons:List Co
  elim:Int
def cBl (b:Bl):List D:=[eSos b.sorts,eCos b.cons,.int .i64 b.elim]
def eBl (b:Bl):D:=.agg (cBl b)
def w64 (n:Int):Int:=IntKind.i64.wrap n
end Ev
end Go.Proofs.YtncmainjcffanaaGreat
/- Sizes and depths of terms; what is played. -/
namespace Go.Proofs.YtncmainjcffanaaGreat
namespace Ev
open Go
def zez:T→Int
  | .mk _ _ ks=>(ks.map zez).foldl (fun a s=>w64 (a+s)) 1
def mx (a b:Int):Int:=if a<b then b else a
def zco:T→Int
  | .mk _ _ ks=>w64 ((ks.map zco).foldl mx 0+1)
theorem zfp {t:T} (h:∀ d ∈ [D.agg (cT t)],small 8 d):t.kids.length≤9223372036854775807:=by
  have:=h (D.agg (cT t)) (by simp)
  simp -dsimp [cT,small] at this
  exact this.1
theorem zcd {α:Type} {l:List α} {i:Nat} {x:α} (h:l[i]? = some x):l.take (i+1)=l.take i ++ [x]:=by simp -dsimp [ycc,h]
theorem zm5 {α β:Type} (f:β→α→β) (b:β) (l:List α) (i:Nat) (x:α) (h:l[i]? = some x):(l.take (i+1)).foldl f b=f ((l.take i).foldl f b) x:=by
  rw [zcd h,ycd]; rfl
theorem zz2 (t:T):Pure Tryz.prog zbs [.agg (cT t)] [.int .i64 (zez t)]:=by
  refine T.ind (p:=fun t=>Pure Tryz.prog zbs [.agg (cT t)] [.int .i64 (zez t)]) ?_ t
  intro k n ks ih
  refine zpo rfl fun hs=>?_
  have hl:=zfp hs
  simp -dsimp [T.kids] at hl
  simp -dsimp [zgs,cT,T.kind,T.num,T.kids]
  refine zaj ks.length (fun i st=>st.s 1 = .ptr 1 1 0∧st.h 1=⟨1,.box [.d (.int .i64 k),.d (.int .i64 n),.d (.sl 3 (ks.map eT))] false⟩∧st.s 4 = .d (.int .i64 i)∧st.s 3 = .d (.int .i64 (((ks.map zez).take i).foldl (fun a s=>w64 (a+s)) 1))) ?_ ?_
  · simp
  · rintro i ⟨s,hp⟩ hi ⟨h1,h2,h3,h4⟩
    dsimp only at h1 h2 h3 h4
    rcases ybm i ks.length with hlt | hge
    · have w1:IntKind.i64.wrap ((i:Int)+1)=(i:Int)+1:=zad (by omega) (by omega)
      simp -dsimp [h1,h2,h3,h4,hlt,cT]
      refine zaa (ih ks[i] (yaf _)) ?_
      have hf:=zm5 (fun a s=>w64 (a+s)) 1 (ks.map zez) i (zez ks[i]) (by simp [hlt])
      simp -dsimp [h1,h2,h3,h4,hlt,w1,hf]
      rfl
    · have e:i=ks.length:=by omega
      subst e
      have ht:(ks.map zez).take ks.length=ks.map zez:=yce (by simp)
      simp -dsimp [h1,h2,h3,h4,zez,ht]
theorem zAq (l:List Int) (i:Nat) (x:Int) (h:l[i]? = some x):(l.take (i+1)).foldl mx 0=mx ((l.take i).foldl mx 0) x:=zm5 _ _ _ _ _ h
theorem zvv (t:T):Pure Tryz.prog zbj [.agg (cT t)] [.int .i64 (zco t)]:=by
  refine T.ind (p:=fun t=>Pure Tryz.prog zbj [.agg (cT t)] [.int .i64 (zco t)]) ?_ t
  intro k n ks ih
  refine zob rfl fun hs=>?_
  have hl:=zfp hs
  simp [T.kids] at hl
  simp -dsimp [zfc,cT,T.kind,T.num,T.kids]
  refine zaj ks.length (fun i st=>st.s 1 = .ptr 1 1 0∧st.h 1=⟨1,.box [.d (.int .i64 k),.d (.int .i64 n),.d (.sl 3 (ks.map eT))] false⟩∧st.s 4 = .d (.int .i64 i)∧st.s 3 = .d (.int .i64 (((ks.map zco).take i).foldl mx 0))) ?_ ?_
  · simp -dsimp
  · rintro i ⟨s,hp⟩ hi ⟨h1,h2,h3,h4⟩
    dsimp only at h1 h2 h3 h4
    rcases ybm i ks.length with hlt | hge
    · have w1:IntKind.i64.wrap ((i:Int)+1)=(i:Int)+1:=zad (by omega) (by omega)
      simp -dsimp [h1,h2,h3,h4,hlt,cT]
      refine zaa (ih ks[i] (yaf _)) ?_
      have hf:=zAq (ks.map zco) i (zco ks[i]) (by simp [hlt])
      simp -dsimp [h1,h2,h3,h4,hlt,w1,hf]
      rfl
    · have e:i=ks.length:=by omega
      subst e
      have ht:(ks.map zco).take ks.length=ks.map zco:=yce (by simp)
      simp -dsimp [h1,h2,h3,h4,zco,ht]
      rfl
def zc8 (l:List T):Bool:=decide ((60:Int)<(l.length:Int)) || l.any (fun t=>decide (300<zco t)) || decide (9000<(l.map zez).foldl (fun a s=>w64 (a+s)) 0)
theorem zhq (l:List T):Pure Tryz.prog zar [eTs l] [.bool (zc8 l)]:=by
  refine zoa rfl fun hs=>?_
  simp -dsimp [zfh,eTs]
  (first | refine zah ?_ ?_ | refine zag ?_ ?_) <;> intro h1 <;> (try simp only [nrm] at h1) <;> simp -dsimp [h1,zc8]
  have hl:l.length≤60:=by omega
  refine zaj l.length (fun i st=>st.s 0 = .d (.sl 3 (l.map eT))∧st.s 4 = .d (.int .i64 i)∧st.s 3 = .d (.int .i64 (((l.map zez).take i).foldl (fun a s=>w64 (a+s)) 0))∧(l.take i).any (fun t=>decide (300<zco t))=false) ?_ ?_
  · simp -dsimp
  · rintro i ⟨s,hp⟩ hi ⟨h2,h3,h4,h5⟩
    dsimp only at h2 h3 h4 h5
    rcases ybm i l.length with hlt | hge
    · have w1:IntKind.i64.wrap ((i:Int)+1)=(i:Int)+1:=zad (by omega) (by omega)
      simp -dsimp [h2,h3,h4,hlt,cT]
      refine zaa (zvv l[i]) ?_
      simp -dsimp [h2,h3,h4,hlt]
      (first | refine zah ?_ ?_ | refine zag ?_ ?_) <;> intro h6 <;> (try simp only [nrm] at h6) <;> simp -dsimp [h6,zc8]
      · exact .inl (.inr ⟨l[i],yaf _,h6⟩)
      · simp -dsimp [h2,h3,h4,hlt,h6,cT]
        refine zaa (zz2 l[i]) ?_
        have hf:=zm5 (fun a s=>w64 (a+s)) 0 (l.map zez) i (zez l[i]) (by simp [hlt])
        have h7:(l.take (i+1)).any (fun t=>decide (300<zco t))=false:=by
          rw [zcd (yar hlt),List.any_append,h5]
          simp [h6]
        simp -dsimp [h2,h3,h4,hlt,w1,hf]
        exact ⟨rfl,by simpa using h7⟩
    · have e:i=l.length:=by omega
      subst e
      have ht:(l.map zez).take l.length=l.map zez:=yce (by simp)
      simp -dsimp [h2,h3,h4,zc8,ht]
      rintro (h | ⟨x,hx,h⟩)
      · exact absurd h h1
      · rw [ycf] at h5
        have:=ycg.1 h5 x hx
        simp at this
        omega
end Ev
end Go.Proofs.YtncmainjcffanaaGreat
/- Kinds. -/
namespace Go.Proofs.YtncmainjcffanaaGreat
namespace Ev
open Go
theorem zaf (h:Nat→Ent) (n:Nat) (cs:List D):allD (toD h n) (cs.map .d)=some cs:=by
  induction cs with
  | nil=>rfl
  | cons c cs ih=>simp only [yaV,allD,zv0,ih]
theorem zai (h:Nat→Ent) (cs:List D):sks h (cs.map .d)=[]:=by
  induction cs with
  | nil=>rfl
  | cons c cs ih=>simp only [yaV,sks,sk_d,ih,List.nil_append]
def isM (k:Int):Bool:=decide (1≤k) && decide (k≤13)
theorem is_ok (k:Int):Pure Tryz.prog zs6 [.int .i64 k] [.bool (isM k)]:=by
  refine zEn rfl fun hs=>?_
  simp -dsimp [zuq]
  (first | refine zah ?_ ?_ | refine zag ?_ ?_) <;> intro h1 <;> (try simp only [nrm] at h1) <;> simp -dsimp [h1,isM]
def zdw (k:Int):Int :=
  if k=1 then 0 else if k=2 then 0 else if k=3 then 0 else if k=9 then 1 else if k=10 then 1 else if k=8 then 3 else if k=11 then 3 else if k=13 then 3 else if isM k then 2 else -1
theorem zLd (k:Int):Pure Tryz.prog zod [.int .i64 k] [.int .i64 (zdw k)]:=by
  refine zz1 rfl fun hs=>?_
  simp -dsimp [zol]
  (first | refine zah ?_ ?_ | refine zag ?_ ?_) <;> intro h1 <;> (try simp only [nrm] at h1) <;> simp -dsimp [h1,zdw]
  (first | refine zah ?_ ?_ | refine zag ?_ ?_) <;> intro h2 <;> (try simp only [nrm] at h2) <;> simp -dsimp [h2,zdw,h1]
  (first | refine zah ?_ ?_ | refine zag ?_ ?_) <;> intro h3 <;> (try simp only [nrm] at h3) <;> simp -dsimp [h3,zdw,h1,h2]
  (first | refine zah ?_ ?_ | refine zag ?_ ?_) <;> intro h4 <;> (try simp only [nrm] at h4) <;> simp -dsimp [h4,zdw,h1,h2,h3]
  (first | refine zah ?_ ?_ | refine zag ?_ ?_) <;> intro h5 <;> (try simp only [nrm] at h5) <;> simp -dsimp [h5,zdw,h1,h2,h3,h4]
  (first | refine zah ?_ ?_ | refine zag ?_ ?_) <;> intro h6 <;> (try simp only [nrm] at h6) <;> simp -dsimp [h6,zdw,h1,h2,h3,h4,h5]
  (first | refine zah ?_ ?_ | refine zag ?_ ?_) <;> intro h7 <;> (try simp only [nrm] at h7) <;> simp -dsimp [h7,zdw,h1,h2,h3,h4,h5,h6]
  (first | refine zah ?_ ?_ | refine zag ?_ ?_) <;> intro h8 <;> (try simp only [nrm] at h8) <;> simp -dsimp [h8,zdw,h1,h2,h3,h4,h5,h6,h7]
  refine zaa (is_ok k) ?_
  simp -dsimp
  (first | refine zah ?_ ?_ | refine zag ?_ ?_) <;> intro h9 <;> (try simp only [nrm] at h9) <;> simp -dsimp [h9,zdw,h1,h2,h3,h4,h5,h6,h7,h8]
def idxI (n:Int) (l:List Int):Int:=match l.findIdx? (fun x=>n == x) with
  | some i=>i
  | none=>-1
theorem zxi (l:List Int) (n:Int):Pure Tryz.prog zfx [.sl 1 (l.map (.int .i64)),.int .i64 n] [.int .i64 (idxI n l)]:=by
  refine zpx rfl fun hs=>?_
  have hl:=hs (.sl 1 (l.map (.int .i64))) (by simp)
  simp [small] at hl
  simp -dsimp [zgc]
  refine zaj l.length (fun i st=>st.s 0 = .d (.sl 1 (l.map (.int .i64)))∧st.s 1 = .d (.int .i64 n)∧st.s 7 = .d (.int .i64 l.length)∧st.s 8 = .d (.int .i64 i) ∧ ∀ x ∈ l.take i,(n == x)=false) ?_ ?_
  · simp -dsimp
  · rintro i ⟨s,hp⟩ hi ⟨h1,h2,h3,h4,h5⟩
    dsimp only at h1 h2 h3 h4 h5
    rcases ybm i l.length with hlt | hge
    · have w1:IntKind.i64.wrap ((i:Int)+1)=(i:Int)+1:=zad (by omega) (by omega)
      simp -dsimp [h1,h2,h3,h4,hlt]
      (first | refine zah ?_ ?_ | refine zag ?_ ?_) <;> intro h6 <;> (try simp only [nrm] at h6) <;> simp -dsimp [h6,h1,h2,h3,h4,hlt,w1]
      · have:l.findIdx? (fun x=>n == x)=some i:=by
          rw [ych]
          refine ⟨hlt,by simpa using h6,fun j hj=>?_⟩
          have:=h5 l[j] (by rw [yci]; exact ⟨j,by omega,rfl⟩)
          simpa using this
        rw [← h6]
        simp only [idxI,this]
      · intro x hx
        rw [zcd (yar hlt),yaY] at hx
        rcases hx with hx | hx
        · simpa using h5 x hx
        · simp at hx; subst hx; exact h6
    · have e:i=l.length:=by omega
      subst e
      rw [ycf] at h5
      have:l.findIdx? (fun x=>n == x)=none:=by
        rw [ycj]; exact h5
      simp -dsimp [h1,h2,h3,h4,idxI,this]
theorem zuc (l:List Int) (n:Int):Pure Tryz.prog zd7 [.sl 1 (l.map (.int .i64)),.int .i64 n] [.bool (decide (0≤idxI n l))]:=by
  refine zlx rfl fun hs=>?_
  simp -dsimp [zeb]
  refine zaa (zxi l n) ?_
  simp -dsimp
def zal (k i:Int):Int:=if i=1∧(k=4∨k=5∨k=7) then 1 else 0
theorem zk3 (k i:Int):Pure Tryz.prog zfr [.int .i64 k,.int .i64 i] [.int .i64 (zal k i)]:=by
  refine zx9 rfl fun hs=>?_
  simp -dsimp [zl5]
  (first | refine zah ?_ ?_ | refine zag ?_ ?_) <;> intro h1 <;> (try simp only [nrm] at h1) <;> simp -dsimp [h1,zal]
  refine zaa (zuc [4,5,7] k) ?_
  have hc:decide (0≤idxI k [4,5,7])=decide (k=4∨k=5∨k=7):=by
    simp only [idxI,List.findIdx?_cons,List.findIdx?_nil]
    by_cases h4:k=4
    · simp [h4]
    · by_cases h5:k=5
      · simp [h5]
      · by_cases h7:k=7 <;> simp [h4,h5,h7]
  rw [hc]
  simp -dsimp [h1]
  (first | refine zah ?_ ?_ | refine zag ?_ ?_) <;> intro h2 <;> (try simp only [nrm] at h2) <;> simp -dsimp [h2,zal,h1]
end Ev
end Go.Proofs.YtncmainjcffanaaGreat
/- slices.IndexFunc,slices.ContainsFunc; what a right term is. -/
namespace Go.Proofs.YtncmainjcffanaaGreat
namespace Ev
open Go
attribute [local simp] zaf zai
@[simp] theorem zMo (a:Ar):(eAr a).cells=cAr a:=rfl
@[simp] theorem zM9 (a:So):(eSo a).cells=cSo a:=rfl
@[simp] theorem zLv (a:Co):(eCo a).cells=cCo a:=rfl
def idxF {α:Type} (l:List α) (p:α→Bool):Int:=match l.findIdx? p with
  | some i=>i
  | none=>-1
theorem zza {α:Type} (l:List α) (p:α→Bool):decide (0≤idxF l p)=l.any p:=by
  cases h:l.findIdx? p with
  | none =>
    have h1:=ycj.1 h
    have h2:l.any p=false:=by rw [ycg]; intro x hx; simp [h1 x hx]
    have h3:idxF l p = -1:=by simp only [idxF,h]
    rw [h2,h3]; rfl
  | some i =>
    obtain ⟨hi,hp,_⟩:=ych.1 h
    have h2:l.any p=true:=List.any_eq_true.2 ⟨_,yaf hi,hp⟩
    have h3:idxF l p=(i:Int):=by simp only [idxF,h]
    rw [h2,h3]; simp
theorem zux (l:List T) (g:FuncId) (caps:List D) (p:T→Bool) (hp:∀ x ∈ l,Pure Tryz.prog g (.agg (cT x) :: caps) [.bool (p x)]) :
    Pure Tryz.prog zdh [.sl 3 (l.map eT),.clo g caps] [.int .i64 (idxF l p)]:=by
  refine zks rfl fun hs=>?_
  have hl:=hs (.sl 3 (l.map eT)) (by simp)
  simp [small] at hl
  replace hl:=hl.1
  simp -dsimp [zdk]
  refine zaj l.length (fun i st=>st.s 0 = .d (.sl 3 (l.map eT))∧st.s 1 = .d (.clo g caps)∧st.s 7 = .d (.int .i64 l.length)∧st.s 8 = .d (.int .i64 i) ∧ ∀ x ∈ l.take i,p x=false) ?_ ?_
  · simp -dsimp
  · rintro i ⟨s,hp'⟩ hi ⟨h1,h2,h3,h4,h5⟩
    dsimp only at h1 h2 h3 h4 h5
    rcases ybm i l.length with hlt | hge
    · have w1:IntKind.i64.wrap ((i:Int)+1)=(i:Int)+1:=zad (by omega) (by omega)
      have hc:(cT l[i]).length=3:=rfl
      simp -dsimp [h1,h2,h3,h4,hlt,hc]
      have ht:(cT l[i]).take 3=cT l[i]:=yce (by omega)
      refine zaa (by rw [ht]; exact hp l[i] (yaf _)) ?_
      simp -dsimp [h1,h2,h3,h4,hlt]
      (first | refine zah ?_ ?_ | refine zag ?_ ?_) <;> intro h6 <;> (try simp only [nrm] at h6) <;> simp -dsimp [h6,h1,h2,h3,h4,hlt,w1]
      · have:l.findIdx? p=some i:=by
          rw [ych]
          refine ⟨hlt,h6,fun j hj=>?_⟩
          have:=h5 l[j] (by rw [yci]; exact ⟨j,by omega,rfl⟩)
          simpa using this
        simp only [idxF,this]
      · intro x hx
        rw [zcd (yar hlt),yaY] at hx
        rcases hx with hx | hx
        · simpa using h5 x hx
        · simp at hx; subst hx; exact h6
    · have e:i=l.length:=by omega
      subst e
      rw [ycf] at h5
      have:l.findIdx? p=none:=by
        rw [ycj]; exact h5
      simp -dsimp [h1,h2,h3,h4,idxF,this]
theorem zhk (l:List T) (g:FuncId) (caps:List D) (p:T→Bool) (hp:∀ x ∈ l,Pure Tryz.prog g (.agg (cT x) :: caps) [.bool (p x)]) :
    Pure Tryz.prog zbz [.sl 3 (l.map eT),.clo g caps] [.bool (l.any p)]:=by
  refine zjb rfl fun hs=>?_
  simp -dsimp [zcq]
  refine zaa (zux l g caps p hp) ?_
  simp -dsimp [zza]
end Ev
end Go.Proofs.YtncmainjcffanaaGreat
/- term: sizes,right terms,scopes. -/
namespace Go.Proofs.YtncmainjcffanaaGreat
namespace Ev
open Go
attribute [local simp] zaf zai
theorem zAh (t:T):Pure Tryz.prog zg5 [.agg (cT t)] [.int .i64 (zez t)]:=by
  refine T.ind (p:=fun t=>Pure Tryz.prog zg5 [.agg (cT t)] [.int .i64 (zez t)]) ?_ t
  intro k n ks ih
  refine zzh rfl fun hs=>?_
  have hl:=zfp hs
  simp [T.kids] at hl
  simp -dsimp [zn9,cT,T.kind,T.num,T.kids]
  refine zaj ks.length (fun i st=>st.s 7 = .d (.sl 3 (ks.map eT))∧st.s 8 = .d (.int .i64 ks.length)∧st.s 9 = .d (.int .i64 i)∧st.s 3 = .d (.int .i64 (((ks.map zez).take i).foldl (fun a s=>w64 (a+s)) 1))) ?_ ?_
  · simp -dsimp
  · rintro i ⟨s,hp⟩ hi ⟨h1,h2,h3,h4⟩
    dsimp only at h1 h2 h3 h4
    rcases ybm i ks.length with hlt | hge
    · have w1:IntKind.i64.wrap ((i:Int)+1)=(i:Int)+1:=zad (by omega) (by omega)
      simp -dsimp [h1,h2,h3,h4,hlt,cT]
      refine zaa (ih ks[i] (yaf _)) ?_
      have hf:=zm5 (fun a s=>w64 (a+s)) 1 (ks.map zez) i (zez ks[i]) (by simp [hlt])
      simp -dsimp [h1,h2,h3,h4,hlt,w1,hf]
      rfl
    · have e:i=ks.length:=by omega
      subst e
      have ht:(ks.map zez).take ks.length=ks.map zez:=yce (by simp)
      simp -dsimp [h1,h2,h3,h4,zez,ht]
theorem zxw (t:T):Pure Tryz.prog zfu [.agg (cT t)] [.int .i64 (zco t)]:=by
  refine T.ind (p:=fun t=>Pure Tryz.prog zfu [.agg (cT t)] [.int .i64 (zco t)]) ?_ t
  intro k n ks ih
  refine zya rfl fun hs=>?_
  have hl:=zfp hs
  simp [T.kids] at hl
  simp -dsimp [zma,cT,T.kind,T.num,T.kids]
  refine zaj ks.length (fun i st=>st.s 7 = .d (.sl 3 (ks.map eT))∧st.s 8 = .d (.int .i64 ks.length)∧st.s 9 = .d (.int .i64 i)∧st.s 3 = .d (.int .i64 (((ks.map zco).take i).foldl mx 0))) ?_ ?_
  · simp -dsimp
  · rintro i ⟨s,hp⟩ hi ⟨h1,h2,h3,h4⟩
    dsimp only at h1 h2 h3 h4
    rcases ybm i ks.length with hlt | hge
    · have w1:IntKind.i64.wrap ((i:Int)+1)=(i:Int)+1:=zad (by omega) (by omega)
      simp -dsimp [h1,h2,h3,h4,hlt,cT]
      refine zaa (ih ks[i] (yaf _)) ?_
      have hf:=zAq (ks.map zco) i (zco ks[i]) (by simp [hlt])
      simp -dsimp [h1,h2,h3,h4,hlt,w1,hf]
      rfl
    · have e:i=ks.length:=by omega
      subst e
      have ht:(ks.map zco).take ks.length=ks.map zco:=yce (by simp)
      simp -dsimp [h1,h2,h3,h4,zco,ht]
      rfl
def zab:T→Bool
  | .mk k n ks=>if zdw k<0 then false else if (ks.length:Int)=zdw k then if n<0 then false else if 65535<n then false else if 0<zdw k∧n ≠ 0 then false else (ks.map zab).all id else false
theorem zvg (t:T) (h:Pure Tryz.prog zeh [.agg (cT t)] [.bool (zab t)]):Pure Tryz.prog zec [.agg (cT t)] [.bool (!zab t)]:=by
  refine zts rfl fun hs=>?_
  simp -dsimp [ziu,cT]
  refine zaa h ?_
  simp -dsimp
theorem zC9 (t:T):Pure Tryz.prog zeh [.agg (cT t)] [.bool (zab t)]:=by
  refine T.ind (p:=fun t=>Pure Tryz.prog zeh [.agg (cT t)] [.bool (zab t)]) ?_ t
  intro k n ks ih
  refine zvp rfl fun hs=>?_
  simp -dsimp [zkh,cT,T.kind,T.num,T.kids]
  refine zaa (zLd k) ?_
  simp -dsimp
  (first | refine zah ?_ ?_ | refine zag ?_ ?_) <;> intro h1 <;> (try simp only [nrm] at h1) <;> simp -dsimp [h1,zab]
  (first | refine zah ?_ ?_ | refine zag ?_ ?_) <;> intro h2 <;> (try simp only [nrm] at h2) <;> simp -dsimp [h2,zab,h1]
  (first | refine zah ?_ ?_ | refine zag ?_ ?_) <;> intro h3 <;> (try simp only [nrm] at h3) <;> simp -dsimp [h3,zab,h1,h2]
  (first | refine zah ?_ ?_ | refine zag ?_ ?_) <;> intro h4 <;> (try simp only [nrm] at h4) <;> simp -dsimp [h4,zab,h1,h2,h3]
  (first | refine zah ?_ ?_ | refine zag ?_ ?_) <;> intro h5 <;> (try simp only [nrm] at h5) <;> simp -dsimp [h5,zab,h1,h2,h3,h4]
  · (first | refine zah ?_ ?_ | refine zag ?_ ?_) <;> intro h6 <;> (try simp only [nrm] at h6) <;> simp -dsimp [h6,zab,h1,h2,h3,h4,h5]
    refine zaa (zhk ks zec [] (fun t=>!zab t) (fun x hx=>zvg x (ih x hx))) ?_
    have hf:zab (.mk k 0 ks) = !(ks.any fun t=>!zab t):=by
      rw [zab,if_neg h1,if_pos h2]
      simp [yck,Function.comp_def]
    subst h6
    simp -dsimp [hf]
  · refine zaa (zhk ks zec [] (fun t=>!zab t) (fun x hx=>zvg x (ih x hx))) ?_
    have hf:zab (.mk k n ks) = !(ks.any fun t=>!zab t):=by
      rw [zab,if_neg h1,if_pos h2,if_neg h3,if_neg h4,if_neg (fun h=>h5 h.1)]
      simp [yck,Function.comp_def]
    simp -dsimp [hf]
def zam (t:T):Int:=if 6000<zez t then 4 else if 200<zco t then 5 else if zab t then 0 else 1
theorem zk2 (t:T):Pure Tryz.prog zdg [.agg (cT t)] [.int .i64 (zam t)]:=by
  refine zx3 rfl fun hs=>?_
  simp -dsimp [zln,cT]
  refine zaa (zAh t) ?_
  simp -dsimp
  (first | refine zah ?_ ?_ | refine zag ?_ ?_) <;> intro h1 <;> (try simp only [nrm] at h1) <;> simp -dsimp [h1,zam]
  refine zaa (zxw t) ?_
  simp -dsimp
  (first | refine zah ?_ ?_ | refine zag ?_ ?_) <;> intro h2 <;> (try simp only [nrm] at h2) <;> simp -dsimp [h2,zam,h1]
  refine zaa (zC9 t) ?_
  simp -dsimp
  (first | refine zah ?_ ?_ | refine zag ?_ ?_) <;> intro h3 <;> (try simp only [nrm] at h3) <;> simp -dsimp [h3,zam,h1,h2]
mutual
def zcp:T→Int→Int→Bool
  | .mk k n ks,v,c=>if k=1 then decide (n<v) else if k=2 then decide (n≤6) else if k=3 then decide (n<c) else zi9 k v c 0 ks
def zi9 (k v c:Int):Nat→List T→Bool
  | _,[]=>true
  | i,x :: xs=>zcp x (w64 (v+zal k i)) c && zi9 k v c (i+1) xs
end
theorem zi3 (k v c:Int):∀ (l:List T) (i:Nat),zi9 k v c i l=true ↔ ∀ (j:Nat) (hj:j<l.length),zcp l[j] (w64 (v+zal k (i+j:Nat))) c=true
  | [],i=>by simp [zi9]
  | x :: xs,i=>by
    rw [zi9,ybJ,zi3 k v c xs (i+1)]
    constructor
    · rintro ⟨h1,h2⟩ j hj
      cases j with
      | zero=>simpa using h1
      | succ j =>
        have:=h2 j (by simpa using hj)
        have e:i+1+j=i+(j+1):=by omega
        rw [e] at this
        simpa using this
    · intro h
      refine ⟨h 0 (by simp),fun j hj=>?_⟩
      have:=h (j+1) (by simpa using hj)
      have e:i+1+j=i+(j+1):=by omega
      rw [e]
      simpa using this
theorem zDw (t:T):∀ v c:Int,Pure Tryz.prog zgk [.agg (cT t),.int .i64 v,.int .i64 c] [.bool (zcp t v c)]:=by
  refine T.ind (p:=fun t=>∀ v c:Int,Pure Tryz.prog zgk [.agg (cT t),.int .i64 v,.int .i64 c] [.bool (zcp t v c)]) ?_ t
  intro k n ks ih v c
  refine zwg rfl fun hs=>?_
  have hl:=zfp (t:=.mk k n ks) (fun d hd=>hs d (by simp at hd; simp [hd]))
  simp [T.kids] at hl
  simp -dsimp [zke,cT,T.kind,T.num,T.kids]
  (first | refine zah ?_ ?_ | refine zag ?_ ?_) <;> intro h1 <;> (try simp only [nrm] at h1) <;> simp -dsimp [h1,zcp]
  (first | refine zah ?_ ?_ | refine zag ?_ ?_) <;> intro h2 <;> (try simp only [nrm] at h2) <;> simp -dsimp [h2,zcp,h1]
  (first | refine zah ?_ ?_ | refine zag ?_ ?_) <;> intro h3 <;> (try simp only [nrm] at h3) <;> simp -dsimp [h3,zcp,h1,h2]
  have hw:zcp (.mk k n ks) v c=zi9 k v c 0 ks:=by rw [zcp,if_neg h1,if_neg h2,if_neg h3]
  rw [hw]
  refine zaj ks.length (fun i st=>st.s 3 = .ptr 3 1 0∧st.h 3=⟨1,.box [.d (.int .i64 k),.d (.int .i64 n),.d (.sl 3 (ks.map eT))] false⟩∧st.s 1 = .d (.int .i64 v)∧st.s 2 = .d (.int .i64 c) ∧
    st.s 29 = .d (.sl 3 (ks.map eT))∧st.s 30 = .d (.int .i64 ks.length)∧st.s 31 = .d (.int .i64 i) ∧ ∀ (j:Nat) (hj:j<ks.length),j<i→zcp ks[j] (w64 (v+zal k j)) c=true) ?_ ?_
  · simp -dsimp
  · rintro i ⟨s,hp⟩ hi ⟨g1,g2,g3,g4,g5,g6,g7,g8⟩
    dsimp only at g1 g2 g3 g4 g5 g6 g7
    rcases ybm i ks.length with hlt | hge
    · have w1:IntKind.i64.wrap ((i:Int)+1)=(i:Int)+1:=zad (by omega) (by omega)
      simp -dsimp [g1,g2,g3,g4,g5,g6,g7,hlt,cT]
      refine zaa (zk3 k i) ?_
      simp -dsimp [g1,g2,g3,g4,g5,g6,g7,hlt]
      refine zaa (ih ks[i] (yaf _) (w64 (v+zal k i)) c) ?_
      simp -dsimp [g1,g2,g3,g4,g5,g6,g7,hlt]
      (first | refine zah ?_ ?_ | refine zag ?_ ?_) <;> intro h4 <;> (try simp only [nrm] at h4) <;> simp -dsimp [h4,g1,g2,g3,g4,g5,g6,g7,hlt,w1]
      · cases hw:zi9 k v c 0 ks with
        | false=>rfl
        | true =>
          have:=(zi3 k v c ks 0).1 hw i hlt
          rw [Nat.zero_add,h4] at this
          cases this
      · intro j hj hji
        rcases ybm j i with h | h
        · exact g8 j hj h
        · have:j=i:=by omega
          subst this
          exact h4
    · have e:i=ks.length:=by omega
      subst e
      have:zi9 k v c 0 ks=true:=(zi3 k v c ks 0).2 fun j hj=>by simpa using g8 j hj hj
      simp -dsimp [g1,g2,g3,g4,g5,g6,g7,this]
def zp3 (t:T) (v c:Int):Bool:=if v<0 then false else if c<0 then false else if zam t=0 then zcp t (if 65536<v then 65536 else v) c else false
theorem zGq (t:T) (v c:Int):Pure Tryz.prog zmb [.agg (cT t),.int .i64 v,.int .i64 c] [.bool (zp3 t v c)]:=by
  refine zyi rfl fun hs=>?_
  simp -dsimp [zlz,cT]
  (first | refine zah ?_ ?_ | refine zag ?_ ?_) <;> intro h1 <;> (try simp only [nrm] at h1) <;> simp -dsimp [h1,zp3]
  · (first | refine zah ?_ ?_ | refine zag ?_ ?_) <;> intro h2 <;> (try simp only [nrm] at h2) <;> simp -dsimp [h2,zp3,h1]
    · refine zaa (zk2 t) ?_
      simp -dsimp [h1,h2]
      (first | refine zah ?_ ?_ | refine zag ?_ ?_) <;> intro h3 <;> (try simp only [nrm] at h3) <;> simp -dsimp [h3,zp3,h1,h2]
      · refine zaa (zDw t _ _) ?_
        have hS:zp3 t v c=zcp t (if 65536<v then 65536 else v) c:=by rw [zp3,if_neg (by omega),if_neg (by omega),if_pos h3]
        rw [hS]
        simp -dsimp [h3]
end Ev
end Go.Proofs.YtncmainjcffanaaGreat
/- What comes in by type: numbers,terms,and how long their rows may be. -/
namespace Go.Proofs.YtncmainjcffanaaGreat
namespace Ev
open Go
theorem zu5:Tryz.prog.cellsOf 28=3:=by kernel_rfl
theorem zzl:Tryz.prog.cellsOf 26=1:=by kernel_rfl
theorem zEr:Tryz.prog.cellsOf 3=1:=by kernel_rfl
theorem zIe:Tryz.prog.cellsOf 4=1:=by kernel_rfl
theorem zH8:Tryz.prog.bytesOf 28=40:=by kernel_rfl
def n64 (n:Int):Prop:=-9223372036854775808≤n∧n<9223372036854775808
inductive okT:T→Prop
  | mk (k n:Int) (ks:List T) (hk:n64 k) (hn:n64 n) (hl:ks.length*40≤140737488351232) (h:∀ x ∈ ks,okT x):okT (.mk k n ks)
def okTs (l:List T):Prop:=l.length*40≤140737488351232 ∧ ∀ x ∈ l,okT x
theorem okT.kids {k n:Int} {ks:List T} (h:okT (.mk k n ks)):okTs ks:=by
  cases h with
  | mk _ _ _ _ _ hl h=>exact ⟨hl,h⟩
theorem zvh {α:Type} {f:α→D} {q:α→Prop}:∀ {xs:List D},(∀ x ∈ xs,∃ a,q a∧x=f a) → ∃ l:List α,xs=l.map f ∧ ∀ a ∈ l,q a
  | [],_=>⟨[],rfl,by simp⟩
  | x :: xs,h=>by
    obtain ⟨a,ha,rfl⟩:=h x (List.mem_cons_self ..)
    obtain ⟨l,rfl,hl⟩:=zvh (xs:=xs) fun y hy=>h y (List.mem_cons_of_mem _ hy)
    exact ⟨a :: l,rfl,by simpa using ⟨ha,hl⟩⟩
theorem zH5:∀ {x:D},x.isAgg=true→x = .agg x.cells:=by
  intro x h
  cases x <;> first | rfl | cases h
theorem len3 {xs:List D} (h:xs.length=3):∃ a b c,xs=[a,b,c]:=by
  match xs,h with
  | [a,b,c],_=>exact ⟨a,b,c,rfl⟩
theorem wf64 {i:Int} (hw:(Lit.int .i64 i).wf=true):n64 i:=by
  obtain ⟨u,v⟩:IntKind.i64.min≤i∧i≤IntKind.i64.max:=by simpa [Lit.wf] using hw
  have e1:IntKind.i64.min = -9223372036854775808:=by decide
  have e2:IntKind.i64.max=9223372036854775807:=by decide
  exact ⟨by omega,by omega⟩
theorem zoi {n:Nat} {cs:List D} (h:typ Tryz.prog n 3 cs):∃ i,cs=[.int .i64 i]∧n64 i:=by
  cases n with
  | zero=>exact h.elim
  | succ n =>
    simp only [typ,Tryz.underlying3] at h
    obtain ⟨i,hi,hw⟩:=h
    exact ⟨i,hi,wf64 hw⟩
theorem zBe {n:Nat} {cs:List D} (h:typ Tryz.prog n 4 cs):∃ b,cs=[.bool b]:=by
  cases n with
  | zero=>exact h.elim
  | succ n=>simp only [typ,Tryz.underlying4] at h; exact h
theorem zD4:za1 Tryz.prog 28=true:=by simp only [za1,Tryz.underlying28]
theorem zl7 {e t:TypeId} {k y:Nat} {n:Nat} {cs:List D} (hu:Tryz.prog.underlying t=some (.slice e)) (hc:Tryz.prog.cellsOf e=k) (hy:Tryz.prog.bytesOf e=y) (hs:za1 Tryz.prog e=true) (h:typ Tryz.prog n t cs) :
    ∃ (m:Nat) (xs:List D),n=m+1∧cs=[.sl k xs]∧xs.length*y≤140737488351232 ∧ ∀ x ∈ xs,typ Tryz.prog m e x.cells∧x = .agg x.cells:=by
  cases n with
  | zero=>exact h.elim
  | succ n =>
    simp only [typ,hu] at h
    obtain ⟨xs,rfl,_,hl,hx⟩:=h
    exact ⟨n,xs,rfl,by rw [hc],by rw [hy] at hl; exact hl,fun x hxx=>⟨(hx x hxx).1,zH5 (by rw [(hx x hxx).2,hs])⟩⟩
theorem zst (n:Nat):∀ {cs:List D},typ Tryz.prog n 28 cs → ∃ t:T,cs=cT t∧okT t:=by
  induction n using Nat.strongRecOn with
  | ind n ih =>
    intro cs h
    cases n with
    | zero=>exact h.elim
    | succ n =>
    simp only [typ,Tryz.underlying28,zu5,zEr,zzl,List.forall_mem_cons] at h
    obtain ⟨hl,h1,h2,h3,_⟩:=h
    obtain ⟨a,b,c,rfl⟩:=len3 hl
    obtain ⟨i,hi,wi⟩:=zoi h1
    obtain ⟨j,hj,wj⟩:=zoi h2
    obtain ⟨m,xs,rfl,hc,hb,hx⟩:=zl7 Tryz.underlying26 zu5 zH8 zD4 h3
    simp at hi hj hc
    subst hi hj hc
    obtain ⟨ks,rfl,hks⟩:∃ l:List T,xs=l.map eT ∧ ∀ a ∈ l,okT a:=zvh fun x hxx=>by
      obtain ⟨h4,h5⟩:=hx x hxx
      obtain ⟨t,ht,hq⟩:=ih m (by omega) h4
      exact ⟨t,hq,by rw [h5,ht,zb4]⟩
    exact ⟨.mk i j ks,rfl,.mk i j ks wi wj (by simpa using hb) hks⟩
theorem zqk {n:Nat} {cs:List D} (h:typ Tryz.prog n 26 cs):∃ l:List T,cs=[eTs l]∧okTs l:=by
  obtain ⟨m,xs,rfl,hc,hb,hx⟩:=zl7 Tryz.underlying26 zu5 zH8 zD4 h
  obtain ⟨ks,rfl,hks⟩:∃ l:List T,xs=l.map eT ∧ ∀ a ∈ l,okT a:=zvh fun x hxx=>by
    obtain ⟨h4,h5⟩:=hx x hxx
    obtain ⟨t,ht,hq⟩:=zst m h4
    exact ⟨t,hq,by rw [h5,ht,zb4]⟩
  exact ⟨ks,hc,by simpa using hb,hks⟩
theorem zEq {x:D} (h:x.isAgg=false):x.cells=[x]:=by
  cases x <;> first | rfl | cases h
theorem zFe {x:D} (h:TypD Tryz.prog 3 x):∃ i,x = .int .i64 i∧n64 i:=by
  obtain ⟨⟨n,h1⟩,h2⟩:=h
  obtain ⟨i,hi,hw⟩:=zoi h1
  have h3:za1 Tryz.prog 3=false:=by simp only [za1,Tryz.underlying3]
  rw [zEq (h2.trans h3)] at hi
  exact ⟨i,by simpa using hi,hw⟩
theorem zuo {x:D} (h:TypD Tryz.prog 26 x):∃ l:List T,x=eTs l∧okTs l:=by
  obtain ⟨⟨n,h1⟩,h2⟩:=h
  obtain ⟨l,hl,hq⟩:=zqk h1
  have h3:za1 Tryz.prog 26=false:=by simp only [za1,Tryz.underlying26]
  rw [zEq (h2.trans h3)] at hl
  exact ⟨l,by simpa using hl,hq⟩
end Ev
end Go.Proofs.YtncmainjcffanaaGreat
/- Twins are what they are twins of. -/
namespace Go.Proofs.YtncmainjcffanaaGreat
namespace Ev
open Go
attribute [local simp] zaf zai
theorem zix {α:Type} (f:α→D) (g:α→List D) (hg:∀ a,f a = .agg (g a)) (l:List α) (i:Nat) (h:i<l.length):(l.map f).take i ++ [.agg (g l[i])]=(l.map f).take (i+1):=by
  rw [ycc,yar (by simpa using h)]
  simp [hg]
theorem zAw (l:List T) (hl:l.length*40≤140737488351232) (h:∀ x ∈ l,Pure Tryz.prog zaw [.agg (cT x)] [.agg (cT x)]):Pure Tryz.prog za2 [eTs l] [eTs l]:=by
  refine zqo rfl fun hs=>?_
  simp -dsimp [zf1,eTs]
  refine zaj l.length (fun i st=>st.s 0 = .d (.sl 3 (l.map eT))∧st.s 4 = .d (.int .i64 i) ∧ ∃ v,st.s 3 = .rsl 3 v∧st.h 3=⟨v,.row 3 ((l.map eT).take i) false⟩) ?_ ?_
  · simp -dsimp
  · rintro i ⟨s,hp⟩ hi ⟨g1,g2,v,g3,g4⟩
    dsimp only at g1 g2 g3 g4
    rcases ybm i l.length with hlt | hge
    · have w1:IntKind.i64.wrap ((i:Int)+1)=(i:Int)+1:=zad (by omega) (by omega)
      simp -dsimp [g1,g2,g3,g4,hlt,cT]
      refine zaa (h l[i] (yaf _)) ?_
      have hr:(min i l.length+1)*40≤zae:=by simp only [zae]; omega
      have hn:=zix eT cT zb4 l i hlt
      simp only [cT] at hn
      simp -dsimp [g1,g2,g3,g4,hlt,cT,hr,hn,w1]
    · have e:i=l.length:=by omega
      subst e
      simp -dsimp [g1,g2,g3,g4]
      exact yce (by simp)
theorem zmj (t:T):okT t→Pure Tryz.prog zaw [.agg (cT t)] [.agg (cT t)]:=by
  refine T.ind (p:=fun t=>okT t→Pure Tryz.prog zaw [.agg (cT t)] [.agg (cT t)]) ?_ t
  intro k n ks ih h
  obtain ⟨h1,h2⟩:=h.kids
  refine zrj rfl fun hs=>?_
  simp -dsimp [zg1,cT,T.kind,T.num,T.kids]
  refine zaa (zAw ks h1 fun x hx=>ih x hx (h2 x hx)) ?_
  simp -dsimp [eTs]
theorem zm2 (l:List T) (h:okTs l):Pure Tryz.prog za2 [eTs l] [eTs l]:=zAw l h.1 fun x hx=>zmj x (h.2 x hx)
end Ev
end Go.Proofs.YtncmainjcffanaaGreat
/- What is compared with itself is alike. -/
namespace Go.Proofs.YtncmainjcffanaaGreat
namespace Ev
open Go
attribute [local simp] zaf zai
theorem zrx (l:List T) (h:∀ x ∈ l,Pure Tryz.prog zay [.agg (cT x),.agg (cT x)] [.bool true]):Pure Tryz.prog zaq [eTs l,eTs l] [.bool true]:=by
  refine zp1 rfl fun hs=>?_
  have hl:=hs (eTs l) (by simp)
  simp [eTs,small] at hl
  replace hl:=hl.1
  simp -dsimp [zgb,eTs]
  refine zaj l.length (fun i st=>st.s 0 = .d (.sl 3 (l.map eT))∧st.s 1 = .d (.sl 3 (l.map eT))∧st.s 5 = .d (.int .i64 i)) ?_ ?_
  · simp -dsimp
  · rintro i ⟨s,hp⟩ hi ⟨g1,g2,g3⟩
    dsimp only at g1 g2 g3
    rcases ybm i l.length with hlt | hge
    · have w1:IntKind.i64.wrap ((i:Int)+1)=(i:Int)+1:=zad (by omega) (by omega)
      simp -dsimp [g1,g2,g3,hlt,cT,eAr,cAr,eTs]
      refine zaa (h l[i] (yaf _)) ?_
      simp -dsimp [g1,g2,g3,hlt,w1]
    · have e:i=l.length:=by omega
      subst e
      simp -dsimp [g1,g2,g3]
theorem zfn (t:T):Pure Tryz.prog zay [.agg (cT t),.agg (cT t)] [.bool true]:=by
  refine T.ind (p:=fun t=>Pure Tryz.prog zay [.agg (cT t),.agg (cT t)] [.bool true]) ?_ t
  intro k n ks ih
  refine zrl rfl fun hs=>?_
  simp -dsimp [zhd,cT,T.kind,T.num,T.kids]
  refine zaa (zrx ks ih) ?_
  simp -dsimp
theorem zfs (l:List T):Pure Tryz.prog zaq [eTs l,eTs l] [.bool true]:=zrx l fun x _=>zfn x
end Ev
end Go.Proofs.YtncmainjcffanaaGreat
/- The document's answers: right terms,scopes. -/
namespace Go.Proofs.YtncmainjcffanaaGreat
namespace Ev
open Go
attribute [local simp] zaf zai
def inB (n lo hi:Int):Bool:=decide (lo≤n) && decide (n≤hi)
theorem zb1 (n lo hi:Int):inB n lo hi=true ↔ lo≤n∧n≤hi:=by simp [inB]
theorem zoc (n lo hi:Int):inB n lo hi=false ↔ ¬(lo≤n∧n≤hi):=by rw [← zb1]; simp
theorem zxt (n lo hi:Int):Pure Tryz.prog zb5 [.int .i64 n,.int .i64 lo,.int .i64 hi] [.bool (inB n lo hi)]:=by
  refine zsd rfl fun hs=>?_
  simp -dsimp [zh4,inB]
  (first | refine zah ?_ ?_ | refine zag ?_ ?_) <;> intro h1 <;> (try simp only [nrm] at h1) <;> simp -dsimp [h1]
theorem zGd (k:Int):Pure Tryz.prog zfv [.int .i64 k] [.int .i64 (zdw k)]:=by
  refine zqc rfl fun hs=>?_
  have e:zdw k=if k=1 then 0 else if k=2 then 0 else if k=3 then 0 else if k=9 then 1 else if k=10 then 1 else if k=4 then 2 else if k=5 then 2 else if k=6 then 2 else if k=7 then 2 else if k=12 then 2 else if k=8 then 3 else if k=11 then 3 else if k=13 then 3 else -1:=by
    simp only [zdw,isM,ybJ,decide_eq_true_eq]
    repeat' split
    all_goals omega
  rw [e]
  simp -dsimp [zgr]
  (first | refine zah ?_ ?_ | refine zag ?_ ?_) <;> intro h1 <;> (try simp only [nrm] at h1) <;> simp -dsimp [h1]
  (first | refine zah ?_ ?_ | refine zag ?_ ?_) <;> intro h2 <;> (try simp only [nrm] at h2) <;> simp -dsimp [h2,h1]
  (first | refine zah ?_ ?_ | refine zag ?_ ?_) <;> intro h3 <;> (try simp only [nrm] at h3) <;> simp -dsimp [h3,h1,h2]
  (first | refine zah ?_ ?_ | refine zag ?_ ?_) <;> intro h4 <;> (try simp only [nrm] at h4) <;> simp -dsimp [h4,h1,h2,h3]
  (first | refine zah ?_ ?_ | refine zag ?_ ?_) <;> intro h5 <;> (try simp only [nrm] at h5) <;> simp -dsimp [h5,h1,h2,h3,h4]
  (first | refine zah ?_ ?_ | refine zag ?_ ?_) <;> intro h6 <;> (try simp only [nrm] at h6) <;> simp -dsimp [h6,h1,h2,h3,h4,h5]
  (first | refine zah ?_ ?_ | refine zag ?_ ?_) <;> intro h7 <;> (try simp only [nrm] at h7) <;> simp -dsimp [h7,h1,h2,h3,h4,h5,h6]
  (first | refine zah ?_ ?_ | refine zag ?_ ?_) <;> intro h8 <;> (try simp only [nrm] at h8) <;> simp -dsimp [h8,h1,h2,h3,h4,h5,h6,h7]
  (first | refine zah ?_ ?_ | refine zag ?_ ?_) <;> intro h9 <;> (try simp only [nrm] at h9) <;> simp -dsimp [h9,h1,h2,h3,h4,h5,h6,h7,h8]
  (first | refine zah ?_ ?_ | refine zag ?_ ?_) <;> intro h10 <;> (try simp only [nrm] at h10) <;> simp -dsimp [h10,h1,h2,h3,h4,h5,h6,h7,h8,h9]
  (first | refine zah ?_ ?_ | refine zag ?_ ?_) <;> intro h11 <;> (try simp only [nrm] at h11) <;> simp -dsimp [h11,h1,h2,h3,h4,h5,h6,h7,h8,h9,h10]
  (first | refine zah ?_ ?_ | refine zag ?_ ?_) <;> intro h12 <;> (try simp only [nrm] at h12) <;> simp -dsimp [h12,h1,h2,h3,h4,h5,h6,h7,h8,h9,h10,h11]
  (first | refine zah ?_ ?_ | refine zag ?_ ?_) <;> intro h13 <;> (try simp only [nrm] at h13) <;> simp -dsimp [h13,h1,h2,h3,h4,h5,h6,h7,h8,h9,h10,h11,h12]
theorem zj3 (k i:Int):Pure Tryz.prog zbl [.int .i64 k,.int .i64 i] [.int .i64 (zal k i)]:=by
  refine zn7 rfl fun hs=>?_
  simp -dsimp [zfi]
  (first | refine zah ?_ ?_ | refine zag ?_ ?_) <;> intro h1 <;> (try simp only [nrm] at h1) <;> simp -dsimp [h1,zal]
  (first | refine zah ?_ ?_ | refine zag ?_ ?_) <;> intro g1 <;> (try simp only [nrm] at g1) <;> simp -dsimp [g1,zal,h1]
  (first | refine zah ?_ ?_ | refine zag ?_ ?_) <;> intro g2 <;> (try simp only [nrm] at g2) <;> simp -dsimp [g2,zal,h1,g1]
  (first | refine zah ?_ ?_ | refine zag ?_ ?_) <;> intro g3 <;> (try simp only [nrm] at g3) <;> simp -dsimp [g3,zal,h1,g1,g2]
theorem za5 (k n:Int) (ks:List T):zab (.mk k n ks)=if (ks.length:Int)=zdw k then if zdw k=0 then inB n 0 65535 && ks.all zab else if n=0 then ks.all zab else false else false:=by
  rw [zab]
  have ha:(ks.map zab).all id=ks.all zab:=by rw [List.all_map]; rfl
  rw [ha]
  by_cases h1:(ks.length:Int)=zdw k
  · rw [if_neg (by omega),if_pos h1,if_pos h1]
    by_cases h0:zdw k=0
    · rw [if_pos h0]
      by_cases h2:n<0
      · rw [if_pos h2,(zoc n 0 65535).2 (by omega)]; rfl
      · rw [if_neg h2]
        by_cases h3:65535<n
        · rw [if_pos h3,(zoc n 0 65535).2 (by omega)]; rfl
        · rw [if_neg h3,if_neg (by omega),(zb1 n 0 65535).2 (by omega)]; rfl
    · rw [if_neg h0]
      by_cases h2:n=0
      · rw [if_neg (by omega),if_neg (by omega),if_neg (by omega),if_pos h2]
      · rw [if_neg h2]
        by_cases h3:n<0
        · rw [if_pos h3]
        · rw [if_neg h3]
          by_cases h4:65535<n
          · rw [if_pos h4]
          · rw [if_neg h4,if_pos ⟨by omega,h2⟩]
  · rw [if_neg h1,if_neg h1]
    split <;> rfl
theorem zsr {α:Type} {p:α→Bool} {l:List α} (h:∀ (j:Nat) (hj:j<l.length),j<l.length→p l[j]=true):l.all p=true:=by
  rw [yaC]
  intro x hx
  obtain ⟨j,hj,rfl⟩:=List.mem_iff_getElem.1 hx
  exact h j hj hj
theorem zE6 {α:Type} {p:α→Bool} {l:List α} {i:Nat} (hi:i<l.length) (h:p l[i]=false):l.all p=false:=by
  cases hq:l.all p with
  | false=>rfl
  | true =>
    have:=yaC.1 hq l[i] (yaf _)
    rw [h] at this
    cases this
theorem zmh {α:Type} {p:α→Bool} {l:List α} {i:Nat} (hi:i<l.length) (h:∀ (j:Nat) (hj:j<l.length),j<i→p l[j]=true) (hx:p l[i]=true) :
    ∀ (j:Nat) (hj:j<l.length),j<i+1→p l[j]=true:=by
  intro j hj hji
  rcases ybm j i with h' | h'
  · exact h j hj h'
  · have:j=i:=by omega
    subst this
    exact hx
theorem zCh (t:T):Pure Tryz.prog zb8 [.agg (cT t)] [.bool (zab t)]:=by
  refine T.ind (p:=fun t=>Pure Tryz.prog zb8 [.agg (cT t)] [.bool (zab t)]) ?_ t
  intro k n ks ih
  refine znf rfl fun hs=>?_
  have hl:=zfp hs
  simp [T.kids] at hl
  simp -dsimp [zev,cT,T.kind,T.num,T.kids]
  refine zaa (zGd k) ?_
  simp -dsimp
  (first | refine zah ?_ ?_ | refine zag ?_ ?_) <;> intro h1 <;> (try simp only [nrm] at h1) <;> simp -dsimp [h1,za5]
  (first | refine zah ?_ ?_ | refine zag ?_ ?_) <;> intro h2 <;> (try simp only [nrm] at h2) <;> simp -dsimp [h2,za5,h1]
  · refine zaa (zxt n 0 65535) ?_
    simp -dsimp [h1,h2]
    (first | refine zah ?_ ?_ | refine zag ?_ ?_) <;> intro h3 <;> (try simp only [nrm] at h3) <;> simp -dsimp [h3,za5,h1,h2]
    have hR:zab (.mk k n ks)=ks.all zab:=by rw [za5,if_pos h1,if_pos h2,h3]; rfl
    rw [hR]
    refine zaj ks.length (fun i st=>st.s 1 = .ptr 1 1 0∧st.h 1=⟨1,.box [.d (.int .i64 k),.d (.int .i64 n),.d (.sl 3 (ks.map eT))] false⟩∧st.s 3 = .d (.int .i64 i) ∧ ∀ (j:Nat) (hj:j<ks.length),j<i→zab ks[j]=true) ?_ ?_
    · simp -dsimp
    · rintro i ⟨s,hp⟩ hi ⟨g1,g2,g3,g4⟩
      dsimp only at g1 g2 g3
      rcases ybm i ks.length with hlt | hge
      · have w1:IntKind.i64.wrap ((i:Int)+1)=(i:Int)+1:=zad (by omega) (by omega)
        simp -dsimp [g1,g2,g3,hlt,cT]
        refine zaa (ih ks[i] (yaf _)) ?_
        simp -dsimp [g1,g2,g3,hlt]
        (first | refine zah ?_ ?_ | refine zag ?_ ?_) <;> intro h6 <;> (try simp only [nrm] at h6) <;> simp -dsimp [h6,g1,g2,g3,hlt,w1]
        · have:=zE6 (p:=zab) hlt h6
          simpa using this
        · exact zmh hlt g4 h6
      · have e:i=ks.length:=by omega
        subst e
        have hA:=zsr (p:=zab) g4
        simp -dsimp [g1,g2,g3,hA]
  · (first | refine zah ?_ ?_ | refine zag ?_ ?_) <;> intro h3 <;> (try simp only [nrm] at h3) <;> simp -dsimp [h3,za5,h1,h2]
    · (first | refine zah ?_ ?_ | refine zag ?_ ?_) <;> intro h4 <;> (try simp only [nrm] at h4) <;> simp -dsimp [h4,za5,h1,h2,h3]
      subst h4
      have hR:zab (.mk k 0 ks)=ks.all zab:=by rw [za5,if_pos h1,if_neg h2,if_pos rfl]
      rw [hR]
      refine zaj ks.length (fun i st=>st.s 1 = .ptr 1 1 0∧st.h 1=⟨1,.box [.d (.int .i64 k),.d (.int .i64 0),.d (.sl 3 (ks.map eT))] false⟩∧st.s 3 = .d (.int .i64 i) ∧ ∀ (j:Nat) (hj:j<ks.length),j<i→zab ks[j]=true) ?_ ?_
      · simp -dsimp
      · rintro i ⟨s,hp⟩ hi ⟨g1,g2,g3,g4⟩
        dsimp only at g1 g2 g3
        rcases ybm i ks.length with hlt | hge
        · have w1:IntKind.i64.wrap ((i:Int)+1)=(i:Int)+1:=zad (by omega) (by omega)
          simp -dsimp [g1,g2,g3,hlt,cT]
          refine zaa (ih ks[i] (yaf _)) ?_
          simp -dsimp [g1,g2,g3,hlt]
          (first | refine zah ?_ ?_ | refine zag ?_ ?_) <;> intro h6 <;> (try simp only [nrm] at h6) <;> simp -dsimp [h6,g1,g2,g3,hlt,w1]
          · have:=zE6 (p:=zab) hlt h6
            simpa using this
          · exact zmh hlt g4 h6
        · have e:i=ks.length:=by omega
          subst e
          have hA:=zsr (p:=zab) g4
          simp -dsimp [g1,g2,g3,hA]
    · omega
theorem zfz (t:T):Pure Tryz.prog zau [.agg (cT t)] [.int .i64 (zam t)]:=by
  refine zny rfl fun hs=>?_
  simp -dsimp [zff,cT]
  refine zaa (zz2 t) ?_
  simp -dsimp
  (first | refine zah ?_ ?_ | refine zag ?_ ?_) <;> intro h1 <;> (try simp only [nrm] at h1) <;> simp -dsimp [h1,zam]
  refine zaa (zvv t) ?_
  simp -dsimp
  (first | refine zah ?_ ?_ | refine zag ?_ ?_) <;> intro h2 <;> (try simp only [nrm] at h2) <;> simp -dsimp [h2,zam,h1]
  refine zaa (zCh t) ?_
  simp -dsimp
  (first | refine zah ?_ ?_ | refine zag ?_ ?_) <;> intro h3 <;> (try simp only [nrm] at h3) <;> simp -dsimp [h3,zam,h1,h2]
end Ev
end Go.Proofs.YtncmainjcffanaaGreat
/- Terms: small things. -/
namespace Go.Proofs.YtncmainjcffanaaGreat
namespace Ev
open Go
theorem tk (k n:Int) (ks:List T):(T.mk k n ks).kind=k:=rfl
theorem tn (k n:Int) (ks:List T):(T.mk k n ks).num=n:=rfl
theorem tks (k n:Int) (ks:List T):(T.mk k n ks).kids=ks:=rfl
theorem zj4 {l:List D} {z:D} {i:Nat} (h:i<l.length):(l.take i ++ yaa (l.length - i) z).set i l[i]=l.take (i+1) ++ yaa (l.length - (i+1)) z:=by
  have e:l.length - i=(l.length - (i+1))+1:=by omega
  rw [e,List.replicate_succ,List.set_append_right _ _ (by simp; omega)]
  have e2:i - (l.take i).length=0:=by simp; omega
  have e3:l.take (i+1)=l.take i ++ [l[i]]:=by rw [ycc,yar h]; rfl
  rw [e2,List.set_cons_zero,e3,List.append_assoc]
  rfl
end Ev
end Go.Proofs.YtncmainjcffanaaGreat
/- Terms,in plain numbers: zac,depths,right terms,scopes. -/
namespace Go.Proofs.YtncmainjcffanaaGreat
namespace Ev
open Go
attribute [local simp] tk tn tks
def zac:T→Nat | .mk _ _ ks=>(ks.map zac).sum+1
theorem zf4 {l:List Nat} {x:Nat} (h:x ∈ l):x≤l.sum:=by
  induction l with
  | nil=>cases h
  | cons y l ih =>
    rw [yca]
    rcases List.mem_cons.1 h with rfl | h
    · omega
    · have:=ih h; omega
theorem zb7 {k n:Int} {ks:List T} {x:T} (h:x ∈ ks):zac x+1≤zac (.mk k n ks):=by
  rw [zac]
  have:=zf4 (ybb.2 ⟨x,h,rfl⟩:zac x ∈ ks.map zac)
  omega
theorem zcv (k i:Int):0≤zal k i∧zal k i≤1:=by
  rw [zal]
  split <;> omega
inductive Slim:T→Prop
  | mk (k n:Int) (ks:List T) (hl:ks.length≤1000) (h:∀ x ∈ ks,Slim x):Slim (.mk k n ks)
theorem Slim.kids {k n:Int} {ks:List T} (h:Slim (.mk k n ks)):ks.length≤1000 ∧ ∀ x ∈ ks,Slim x:=by
  cases h with
  | mk _ _ _ h1 h2=>exact ⟨h1,h2⟩
theorem zHb (k:Int):zdw k≤3:=by
  rw [zdw]
  repeat' split
  all_goals omega
theorem zc7 {k n:Int} {ks:List T} (h1:k=1) (hfm:zab (.mk k n ks)=true):0≤n∧n≤65535:=by
  rw [za5,h1] at hfm
  have h0:zdw 1=0:=rfl
  rw [h0] at hfm
  split at hfm
  · simp only [if_true,ybJ] at hfm
    exact (zb1 _ _ _).1 hfm.1
  · cases hfm
theorem za9 {k n:Int} {ks:List T} (hfm:zab (.mk k n ks)=true):∀ x ∈ ks,zab x=true:=by
  rw [za5] at hfm
  refine yaC.1 ?_
  split at hfm
  · split at hfm
    · rw [ybJ] at hfm; exact hfm.2
    · split at hfm
      · exact hfm
      · cases hfm
  · cases hfm
theorem zvq (t:T):zab t=true→Slim t:=by
  refine T.ind (p:=fun t=>zab t=true→Slim t) ?_ t
  intro k n ks ih h
  rw [za5] at h
  have hk:=zHb k
  by_cases h1:(ks.length:Int)=zdw k
  · rw [if_pos h1] at h
    have ha:ks.all zab=true:=by
      by_cases h2:zdw k=0
      · rw [if_pos h2,ybJ] at h; exact h.2
      · rw [if_neg h2] at h
        by_cases h3:n=0
        · rw [if_pos h3] at h; exact h
        · rw [if_neg h3] at h; cases h
    exact .mk k n ks (by omega) fun x hx=>ih x hx (yaC.1 ha x hx)
  · rw [if_neg h1] at h; cases h
theorem zj1 {t:T} (h:zam t=0):zab t=true:=by
  rw [zam] at h
  split at h
  · simp at h
  · split at h
    · simp at h
    · split at h
      · assumption
      · simp at h
theorem zd8 {n:Int} (h1:-9223372036854775808≤n) (h2:n<9223372036854775808):w64 n=n:=zad h1 (by omega)
def dmax (l:List Nat):Nat:=l.foldr max 0
def za7:T→Nat | .mk _ _ ks=>dmax (ks.map za7)+1
theorem zuy (a b:Int):mx a b=max a b:=by rw [mx]; split <;> omega
theorem zs7:∀ (l:List T) (a:Int),0≤a→a+(l.map zac).sum≤1099511627776→(∀ x ∈ l,zez x=zac x)→(l.map zez).foldl (fun a s=>w64 (a+s)) a=a+(l.map zac).sum
  | [],a,_,_,_=>by simp
  | x :: xs,a,h0,hb,h=>by
    have hx:=h x (by simp)
    simp only [yaV,ycl,yca] at hb ⊢
    rw [hx,zd8 (by omega) (by omega),zs7 xs (a+zac x) (by omega) (by omega) fun y hy=>h y (by simp [hy])]
    omega
theorem ztw (t:T):zac t≤1099511627776→zez t=zac t:=by
  refine T.ind (p:=fun t=>zac t≤1099511627776→zez t=zac t) ?_ t
  intro k n ks ih hb
  have hk:∀ x ∈ ks,zez x=zac x:=fun x hx=>ih x hx (by have:=zb7 (k:=k) (n:=n) hx; omega)
  rw [zac] at hb
  rw [zez,zs7 ks 1 (by omega) (by omega) hk,zac]
  omega
theorem zJl {l:List Nat} {m:Nat} (h:∀ x ∈ l,x≤m):dmax l≤m:=by
  induction l with
  | nil=>simp [dmax]
  | cons y l ih =>
    have h1:=h y (by simp)
    have h2:=ih fun x hx=>h x (by simp [hx])
    simp only [dmax,ycm] at h2 ⊢
    omega
theorem zps (t:T):za7 t≤zac t:=by
  refine T.ind (p:=fun t=>za7 t≤zac t) ?_ t
  intro k n ks ih
  rw [za7,zac]
  have:dmax (ks.map za7)≤(ks.map zac).sum:=zJl fun x hx=>by
    obtain ⟨y,hy,rfl⟩:=ybb.1 hx
    have:=zf4 (ybb.2 ⟨y,hy,rfl⟩:zac y ∈ ks.map zac)
    have:=ih y hy
    omega
  omega
theorem zvc:∀ (l:List T) (a:Int),0≤a→(∀ x ∈ l,zco x=za7 x)→(l.map zco).foldl mx a=max a (dmax (l.map za7))
  | [],a,h0,_=>by simp [dmax]; omega
  | x :: xs,a,h0,h=>by
    have hx:=h x (by simp)
    simp only [yaV,ycl,dmax,ycm]
    rw [hx,zuy,zvc xs _ (by omega) fun y hy=>h y (by simp [hy])]
    simp only [dmax]
    omega
theorem zqq (t:T):zac t≤1099511627776→zco t=za7 t:=by
  refine T.ind (p:=fun t=>zac t≤1099511627776→zco t=za7 t) ?_ t
  intro k n ks ih hb
  have hk:∀ x ∈ ks,zco x=za7 x:=fun x hx=>ih x hx (by have:=zb7 (k:=k) (n:=n) hx; omega)
  have hd:=zps (.mk k n ks)
  rw [za7] at hd
  rw [zco,zvc ks 0 (by omega) hk,za7,zd8 (by omega) (by omega)]
  omega
theorem zcs (k n:Int):zac (.mk k n [])=1:=by rw [zac]; rfl
theorem zhj (k n:Int):za7 (.mk k n [])=1:=by rw [za7]; rfl
theorem zpy {k n:Int} {ks:List T} (h1:k=1) (hfm:zab (.mk k n ks)=true):ks=[]:=by
  rw [za5,h1] at hfm
  have h0:zdw 1=0:=rfl
  rw [h0] at hfm
  split at hfm
  · exact List.length_eq_zero_iff.1 (by omega)
  · cases hfm
theorem ztp {t:T} (h:zac t≤1048576):zam t=0 ↔ zac t≤6000∧za7 t≤200∧zab t=true:=by
  rw [zam,ztw _ (by omega),zqq _ (by omega)]
  by_cases h1:(6000:Int)<zac t
  · rw [if_pos h1]
    constructor
    · intro h; cases h
    · omega
  · rw [if_neg h1]
    by_cases h2:(200:Int)<za7 t
    · rw [if_pos h2]
      constructor
      · intro h; cases h
      · omega
    · rw [if_neg h2]
      cases zab t
      · simp
      · simp; omega
theorem zNk (k n:Int) (a b:T):zac (.mk k n [a,b])=zac a+zac b+1:=by rw [zac]; simp
theorem zm1 (t:T):zac t≤bulk (eT t):=by
  refine T.ind (p:=fun t=>zac t≤bulk (eT t)) ?_ t
  intro k n ks ih
  rw [zac,zb4]
  simp only [cT,tks,bulk,yaV,List.map_nil,yca,List.sum_nil,List.map_map]
  have:∀ l:List T,(∀ x ∈ l,zac x≤bulk (eT x))→(l.map zac).sum≤(l.map (bulk ∘ eT)).sum:=by
    intro l
    induction l with
    | nil=>intro _; simp
    | cons x xs ihx =>
      intro h
      have h1:=h x (by simp)
      have h2:=ihx fun y hy=>h y (by simp [hy])
      simp only [yaV,yca,Function.comp] at h2 ⊢
      omega
  have:=this ks ih
  omega
theorem ztx (t:T):zac t≤bulk (.agg (cT t)):=by rw [← zb4]; exact zm1 t
theorem zrm (l:List T):(∀ x ∈ l,zac x≤bulk (eTs l))∧l.length≤bulk (eTs l):=by
  simp only [eTs,bulk,List.map_map]
  have h1:∀ x ∈ l,zac x≤(l.map (bulk ∘ eT)).sum:=fun x hx=>by
    have:=zf4 (ybb.2 ⟨x,hx,rfl⟩:(bulk ∘ eT) x ∈ l.map (bulk ∘ eT))
    have h2:=zm1 x
    simp only [Function.comp] at this
    omega
  have h2:l.length≤(l.map (bulk ∘ eT)).sum:=by
    clear h1
    induction l with
    | nil=>simp
    | cons x xs ih =>
      have h3:=zm1 x
      have h4:1≤zac x:=by cases x; rw [zac]; omega
      simp only [List.length_cons,yaV,yca,Function.comp] at ih ⊢
      omega
  exact ⟨fun x hx=>by have:=h1 x hx; omega,by omega⟩
end Ev
end Go.Proofs.YtncmainjcffanaaGreat
/- slices.Reverse on a row of one's own. -/
namespace Go.Proofs.YtncmainjcffanaaGreat
namespace Ev
open Go
attribute [local simp] zaf zai zde zee
end Ev
end Go.Proofs.YtncmainjcffanaaGreat
/- tele: twins,spines. -/
namespace Go.Proofs.YtncmainjcffanaaGreat
namespace Ev
open Go
attribute [local simp] zaf zai tk tn tks
theorem zEk (l:List T) (hl:l.length*40≤140737488351232) (h:∀ x ∈ l,Pure Tryz.prog zc3 [.agg (cT x)] [.agg (cT x)]):Pure Tryz.prog zjd [eTs l] [eTs l]:=by
  refine zxj rfl fun hs=>?_
  simp -dsimp [zjk,eTs]
  by_cases hz:l=[]
  · subst hz
    simp -dsimp
  simp -dsimp [hz]
  have r1:(l.length:Int)*40≤(zae:Int):=by simp only [zae]; omega
  have r2:l.length≤zae:=by simp only [zae]; omega
  simp -dsimp [hz,r1,r2]
  refine zaj l.length (fun i st=>st.s 0 = .d (.sl 3 (l.map eT))∧st.s 3 = .rsl 10 1∧st.s 12 = .d (.int .i64 l.length)∧st.s 13 = .d (.int .i64 i) ∧
    st.h 10=⟨1,.row 3 ((l.map eT).take i ++ yaa (l.length - i) (D.agg [.int .i64 0,.int .i64 0,.sl 3 []])) false⟩) ?_ ?_
  · simp -dsimp
  · rintro i ⟨s,hp⟩ hi ⟨g1,g2,g3,g4,g5⟩
    dsimp only at g1 g2 g3 g4 g5
    rcases ybm i l.length with hlt | hge
    · have w1:IntKind.i64.wrap ((i:Int)+1)=(i:Int)+1:=zad (by omega) (by omega)
      simp -dsimp [g1,g2,g3,g4,g5,hlt,cT]
      refine zaa (h l[i] (yaf _)) ?_
      have q1:(i:Int)<((min i l.length:Nat):Int)+((l.length - i:Nat):Int):=by omega
      have q2:i<min i l.length+(l.length - i):=by omega
      have hle:(l.map eT).length=l.length:=ycn ..
      have hfn:=zj4 (l:=l.map eT) (z:=D.agg [.int .i64 0,.int .i64 0,.sl 3 []]) (i:=i) (by rw [hle]; exact hlt)
      have hel:(l.map eT)[i]'(by rw [hle]; exact hlt) = .agg (cT l[i]):=by rw [yco,zb4]
      rw [hel,hle] at hfn
      simp only [cT] at hfn
      simp -dsimp [g1,g2,g3,g4,g5,hlt,w1,q1,q2,cT,hfn]
    · have e:i=l.length:=by omega
      subst e
      have ht:(l.map eT).take l.length=l.map eT:=yce (by rw [ycn]; exact Nat.le_refl _)
      rw [ht,Nat.sub_self,ycp,ybp] at g5
      simp -dsimp [g1,g2,g3,g4,g5]
theorem zpm (t:T):okT t→Pure Tryz.prog zc3 [.agg (cT t)] [.agg (cT t)]:=by
  refine T.ind (p:=fun t=>okT t→Pure Tryz.prog zc3 [.agg (cT t)] [.agg (cT t)]) ?_ t
  intro k n ks ih h
  obtain ⟨h1,h2⟩:=h.kids
  refine zzz rfl fun hs=>?_
  simp -dsimp [zkm,cT]
  refine zaa (zEk ks h1 fun x hx=>ih x hx (h2 x hx)) ?_
  simp -dsimp [eTs]
end Ev
end Go.Proofs.YtncmainjcffanaaGreat
/- tele: spines taken apart. -/
namespace Go.Proofs.YtncmainjcffanaaGreat
namespace Ev
open Go
attribute [local simp] zaf zai tk tn tks
def spT (f:T) (l:List T):T:=l.foldl (fun o a=>.mk 6 0 [o,a]) f
theorem zMa (n:Int):Pure Tryz.prog zf7 [.int .i64 n] [.agg (cT (.mk 3 n []))]:=by
  refine zuh rfl fun hs=>?_
  simp -dsimp [ziz,cT]
theorem zM2 (n:Int):Pure Tryz.prog zf3 [.int .i64 n] [.agg (cT (.mk 1 n []))]:=by
  refine ztv rfl fun hs=>?_
  simp -dsimp [zir,cT]
theorem ru_ok (n:Int):Pure Tryz.prog ziq [.int .i64 n] [.agg (cT (.mk 2 n []))]:=by
  refine zua rfl fun hs=>?_
  simp -dsimp [zil,cT]
theorem v_ok (n:Int):Pure Tryz.prog zjm [.int .i64 n] [.agg (cT (.mk 1 n []))]:=by
  refine zHl rfl fun hs=>?_
  simp -dsimp [zsw,cT]
theorem zAd (k:Int) (l:List T):Pure Tryz.prog zn3 [.int .i64 k,.sl 3 (l.map eT)] [.agg [.int .i64 k,.int .i64 0,.sl 3 (l.map eT)]]:=by
  refine zzk rfl fun hs=>?_
  simp -dsimp [zor,cT]
theorem zww (f:T) (l:List T) (hl:l.length≤100000000) (hf:okT f) (ho:okTs l):Pure Tryz.prog zfq [.agg (cT f),eTs l] [.agg (cT (spT f l))]:=by
  refine zyt rfl fun hs=>?_
  simp -dsimp [zji,cT,eTs]
  refine zaa (zpm f hf) ?_
  simp -dsimp [cT]
  refine zaj l.length (fun i st=>st.s 4 = .ptr 4 1 0∧st.h 4=⟨1,.box [.d (.int .i64 0),.d (.int .i64 0),.fsl 3 []] false⟩∧st.s 10 = .d (.sl 3 (l.map eT))∧st.s 11 = .d (.int .i64 l.length)∧st.s 12 = .d (.int .i64 i) ∧
    st.s 5 = .ptr 5 1 0 ∧ ∃ cs,st.h 5=⟨1,.box [.d (.int .i64 (spT f (l.take i)).kind),.d (.int .i64 (spT f (l.take i)).num),cs] false⟩∧(cs = .d (.sl 3 ((spT f (l.take i)).kids.map eT))∨cs = .fsl 3 ((spT f (l.take i)).kids.map eT))) ?_ ?_
  · simp -dsimp [spT]
  · rintro i ⟨s,hp⟩ hi ⟨g1,g2,g3,g4,g5,g6,cs,g7,g8⟩
    dsimp only at g1 g2 g3 g4 g5 g6 g7
    rcases ybm i l.length with hlt | hge
    · have w1:IntKind.i64.wrap ((i:Int)+1)=(i:Int)+1:=zad (by omega) (by omega)
      have hnx:spT f (l.take (i+1)) = .mk 6 0 [spT f (l.take i),l[i]]:=by
        have e:l.take (i+1)=l.take i ++ [l[i]]:=by rw [ycc,yar hlt]; rfl
        rw [spT,e,ycd]
        rfl
      rw [hnx]
      generalize spT f (l.take i)=Y at g7 g8
      have hnode:=zAd 6 [Y,l[i]]
      simp only [yaV,List.map_nil,zb4,cT] at hnode
      rcases g8 with rfl | rfl
      · simp -dsimp [g1,g2,g3,g4,g5,g6,g7,hlt,cT]
        refine zaa (zpm l[i] (ho.2 _ (yaf _))) ?_
        simp -dsimp [g1,g2,g3,g4,g5,g6,g7,hlt,cT]
        refine zaa hnode ?_
        simp -dsimp [g1,g2,g3,g4,g5,g6,g7,hlt,w1,zb4,cT]
      · simp -dsimp [g1,g2,g3,g4,g5,g6,g7,hlt,cT]
        refine zaa (zpm l[i] (ho.2 _ (yaf _))) ?_
        simp -dsimp [g1,g2,g3,g4,g5,g6,g7,hlt,cT]
        refine zaa hnode ?_
        simp -dsimp [g1,g2,g3,g4,g5,g6,g7,hlt,w1,zb4,cT]
    · have e:i=l.length:=by omega
      subst e
      rw [ycf] at g7 g8
      rcases g8 with rfl | rfl
      · simp -dsimp [g1,g2,g3,g4,g5,g6,g7]
      · simp -dsimp [g1,g2,g3,g4,g5,g6,g7]
end Ev
end Go.Proofs.YtncmainjcffanaaGreat
/- tele: variables; TeleVars. -/
namespace Go.Proofs.YtncmainjcffanaaGreat
namespace Ev
open Go
attribute [local simp] zaf zai tk tn tks
def tV (n:Int):T:=.mk 1 n []
def zdp (n:Nat):List T:=(List.range n).map fun (i:Nat)=>tV ((n:Int) - 1 - (i:Int))
theorem zmg (n:Nat):(zdp n).length=n:=by simp [zdp]
theorem zxc (n i:Nat) (h:i<(zdp n).length):(zdp n)[i]=tV ((n:Int) - 1 - i):=by simp [zdp]
def zwa (n:Int):List T:=if n<1∨65536<n then [] else zdp n.toNat
theorem zKr (n:Int):Pure Tryz.prog zkd [.int .i64 n] [eTs (zwa n)]:=by
  refine zAg rfl fun hs=>?_
  simp -dsimp [znv]
  (first | refine zah ?_ ?_ | refine zag ?_ ?_) <;> intro h1 <;> (try simp only [nrm] at h1) <;> simp -dsimp [h1]
  · have:zwa n=[]:=by rw [zwa,if_pos (.inl h1)]
    simp -dsimp [this,eTs]
  (first | refine zah ?_ ?_ | refine zag ?_ ?_) <;> intro h2 <;> (try simp only [nrm] at h2) <;> simp -dsimp [h2,h1]
  · have:zwa n=[]:=by rw [zwa,if_pos (.inr h2)]
    simp -dsimp [this,eTs]
  obtain ⟨m,rfl⟩:=Int.eq_ofNat_of_zero_le (show 0≤n by omega)
  have hV:zwa (m:Int)=zdp m:=by rw [zwa,if_neg (by omega)]; rfl
  rw [hV]
  have r1:(m:Int)*40≤(zae:Int):=by simp only [zae]; omega
  have r2:m≤zae:=by simp only [zae]; omega
  have hvl:=zmg m
  simp -dsimp [h1,h2,r1,r2]
  refine zaj m (fun i st=>st.s 0 = .d (.int .i64 m)∧st.s 3 = .rsl 12 1∧st.s 14 = .d (.int .i64 m)∧st.s 15 = .d (.int .i64 i) ∧
    st.h 12=⟨1,.row 3 (((zdp m).map eT).take i ++ yaa (m - i) (D.agg [.int .i64 0,.int .i64 0,.sl 3 []])) false⟩) ?_ ?_
  · simp -dsimp
  · rintro i ⟨s,hp⟩ hi ⟨g1,g2,g3,g4,g5⟩
    dsimp only at g1 g2 g3 g4 g5
    rcases ybm i m with hlt | hge
    · have w0:IntKind.i64.wrap ((m:Int) - 1)=(m:Int) - 1:=zad (by omega) (by omega)
      have w1:IntKind.i64.wrap ((i:Int)+1)=(i:Int)+1:=zad (by omega) (by omega)
      have w2:IntKind.i64.wrap ((m:Int) - 1 - i)=(m:Int) - 1 - i:=zad (by omega) (by omega)
      simp -dsimp [g1,g2,g3,g4,g5,hlt,w0,w2]
      refine zaa (v_ok _) ?_
      have q1:(i:Int)<((min i m:Nat):Int)+((m - i:Nat):Int):=by omega
      have q2:i<min i m+(m - i):=by omega
      have hle:((zdp m).map eT).length=m:=by rw [ycn,hvl]
      have hfn:=zj4 (l:=(zdp m).map eT) (z:=D.agg [.int .i64 0,.int .i64 0,.sl 3 []]) (i:=i) (by rw [hle]; exact hlt)
      have hel:((zdp m).map eT)[i]'(by rw [hle]; exact hlt) = .agg [.int .i64 1,.int .i64 ((m:Int) - 1 - i),.sl 3 []]:=by
        rw [yco,zxc,zb4]; simp [cT,tV]
      rw [hel,hle] at hfn
      simp -dsimp [g1,g2,g3,g4,g5,hlt,w0,w1,w2,q1,q2,hvl,cT,hfn]
    · have e:i=m:=by omega
      subst e
      have ht:((zdp i).map eT).take i=(zdp i).map eT:=yce (by rw [ycn,hvl]; exact Nat.le_refl _)
      rw [ht,Nat.sub_self,ycp,ybp] at g5
      simp -dsimp [g1,g2,g3,g4,g5,eTs]
theorem zjn {k n:Int} (hk:0≤k∧k≤100000) (hn:0≤n∧n≤100000):okT (.mk k n []):=.mk k n [] (by simp only [n64]; omega) (by simp only [n64]; omega) (by simp) (by simp)
theorem zLc {n:Int} {a b:T} (ha:okT a) (hb:okT b) (hn:0≤n∧n≤100000):okT (.mk 6 n [a,b]) :=
  .mk 6 n [a,b] (by simp only [n64]; omega) (by simp only [n64]; omega) (by simp) (by intro x hx; simp at hx; rcases hx with rfl | rfl <;> assumption)
end Ev
end Go.Proofs.YtncmainjcffanaaGreat
