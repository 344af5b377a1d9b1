/- Several texts in one. -/
import Derived.Test.YtncmainjcffanaaX
import Derived.Test.YtncmainjcffanaaEE
set_option maxRecDepth 100000
set_option linter.unusedSimpArgs false
set_option linter.unusedVariables false
open List renaming all_eq_not_any_not→yci,all_eq_true→yaC,any_eq_false→yce,findIdx?_eq_none_iff→ych,findIdx?_eq_some_iff_getElem→ycf,foldl_cons→ycj,foldr_cons→yck,getElem?_eq_getElem→yar,getElem_mem→yaf,map_cons→yaV,mem_append→yaY,mem_map→ybb,mem_take_iff_getElem→ycg,sum_cons→ybZ,take_add_one→ycb,take_length→ycd,take_of_length_le→ycc
open Nat renaming lt_or_ge→ybm
open Bool renaming and_eq_true→ybJ
/- Terms,arguments,sorts,constructors,blocks as data. -/
namespace Go.Proofs.Ytncmainjcffanaa
namespace Ev
open Go
inductive T where
  | mk (kind num:Int) (kids:List T)
def T.kind:T→Int | .mk k _ _=>k
def T.num:T→Int | .mk _ n _=>n
def T.kids:T→List T | .mk _ _ ks=>ks
def eT:T→D
  | .mk k n ks=>.agg [.int .i64 k,.int .i64 n,.sl 3 (ks.map eT)]
def cT (t:T):List D:=[.int .i64 t.kind,.int .i64 t.num,.sl 3 (t.kids.map eT)]
theorem zfg (t:T):eT t = .agg (cT t):=by cases t; rw [eT]; rfl
@[simp] theorem zs5 (t:T):(eT t).cells=cT t:=by rw [zfg]; rfl
def eTs (l:List T):D:=.sl 3 (l.map eT)
theorem T.ind {p:T→Prop} (h:∀ k n ks,(∀ x ∈ ks,p x)→p (.mk k n ks)):∀ t,p t
  | .mk k n ks=>h k n ks fun x _=>T.ind h x
structure Ar where
  rc:Bool
  ty:T
  dom:List T
  sort:Int
  idx:List T
def cAr (a:Ar):List D:=.bool a.rc :: cT a.ty ++ [eTs a.dom,.int .i64 a.sort,eTs a.idx]
def eAr (a:Ar):D:=.agg (cAr a)
def eArs (l:List Ar):D:=.sl 7 (l.map eAr)
structure So where
  idx:List Ar
  level:Int
  dec:Bool
  dty:T
def cSo (s:So):List D:=[eArs s.idx,.int .i64 s.level,.bool s.dec] ++ cT s.dty
def eSo (s:So):D:=.agg (cSo s)
structure Co where
  sort:Int
  args:List Ar
  idx:List T
  dec:T
def cCo (c:Co):List D:=[.int .i64 c.sort,eArs c.args,eTs c.idx] ++ cT c.dec
def eCo (c:Co):D:=.agg (cCo c)
structure Bl where
  sorts:List So
  cons:List Co
  elim:Int
def w64 (n:Int):Int:=IntKind.i64.wrap n
end Ev
end Go.Proofs.Ytncmainjcffanaa
/- Sizes and depths of terms; what is played. -/
namespace Go.Proofs.Ytncmainjcffanaa
namespace Ev
open Go
def zcr:T→Int
  | .mk _ _ ks=>(ks.map zcr).foldl (fun a s=>w64 (a+s)) 1
def mx (a b:Int):Int:=if a<b then b else a
def zbn:T→Int
  | .mk _ _ ks=>w64 ((ks.map zbn).foldl mx 0+1)
theorem zec {t:T} (h:∀ d ∈ [D.agg (cT t)],small 8 d):t.kids.length≤9223372036854775807:=by
  have:=h (D.agg (cT t)) (by simp)
  simp -dsimp [cT,small] at this
  exact this.1
theorem zek {α:Type} {l:List α} {i:Nat} {x:α} (h:l[i]? = some x):l.take (i+1)=l.take i ++ [x]:=by simp -dsimp [ycb,h]
theorem zgg {α β:Type} (f:β→α→β) (b:β) (l:List α) (i:Nat) (x:α) (h:l[i]? = some x):(l.take (i+1)).foldl f b=f ((l.take i).foldl f b) x:=by
  rw [zek h,List.foldl_append]; rfl
theorem znf (t:T):Pure Try.prog zaz [.agg (cT t)] [.int .i64 (zcr t)]:=by
  refine T.ind (p:=fun t=>Pure Try.prog zaz [.agg (cT t)] [.int .i64 (zcr t)]) ?_ t
  intro k n ks ih
  refine zhy rfl fun hs=>?_
  have hl:=zec hs
  simp -dsimp [T.kids] at hl
  simp -dsimp [zdj,cT,T.kind,T.num,T.kids]
  refine zaw ks.length (fun i st=>st.s 1 = .ptr 1 1 0∧st.h 1=⟨1,.box [.d (.int .i64 k),.d (.int .i64 n),.d (.sl 3 (ks.map eT))] false⟩∧st.s 4 = .d (.int .i64 i)∧st.s 3 = .d (.int .i64 (((ks.map zcr).take i).foldl (fun a s=>w64 (a+s)) 1))) ?_ ?_
  · simp
  · rintro i ⟨s,hp⟩ hi ⟨h1,h2,h3,h4⟩
    dsimp only at h1 h2 h3 h4
    rcases ybm i ks.length with hlt | hge
    · have w1:IntKind.i64.wrap ((i:Int)+1)=(i:Int)+1:=zag (by omega) (by omega)
      simp -dsimp [h1,h2,h3,h4,hlt,cT]
      refine zaa (ih ks[i] (yaf _)) ?_
      have hf:=zgg (fun a s=>w64 (a+s)) 1 (ks.map zcr) i (zcr ks[i]) (by simp [hlt])
      simp -dsimp [h1,h2,h3,h4,hlt,w1,hf]
      rfl
    · have e:i=ks.length:=by omega
      subst e
      have ht:(ks.map zcr).take ks.length=ks.map zcr:=ycc (by simp)
      simp -dsimp [h1,h2,h3,h4,zcr,ht]
theorem zoi (l:List Int) (i:Nat) (x:Int) (h:l[i]? = some x):(l.take (i+1)).foldl mx 0=mx ((l.take i).foldl mx 0) x:=zgg _ _ _ _ _ h
theorem zlp (t:T):Pure Try.prog zav [.agg (cT t)] [.int .i64 (zbn t)]:=by
  refine T.ind (p:=fun t=>Pure Try.prog zav [.agg (cT t)] [.int .i64 (zbn t)]) ?_ t
  intro k n ks ih
  refine zg7 rfl fun hs=>?_
  have hl:=zec hs
  simp [T.kids] at hl
  simp -dsimp [zc2,cT,T.kind,T.num,T.kids]
  refine zaw ks.length (fun i st=>st.s 1 = .ptr 1 1 0∧st.h 1=⟨1,.box [.d (.int .i64 k),.d (.int .i64 n),.d (.sl 3 (ks.map eT))] false⟩∧st.s 4 = .d (.int .i64 i)∧st.s 3 = .d (.int .i64 (((ks.map zbn).take i).foldl mx 0))) ?_ ?_
  · simp -dsimp
  · rintro i ⟨s,hp⟩ hi ⟨h1,h2,h3,h4⟩
    dsimp only at h1 h2 h3 h4
    rcases ybm i ks.length with hlt | hge
    · have w1:IntKind.i64.wrap ((i:Int)+1)=(i:Int)+1:=zag (by omega) (by omega)
      simp -dsimp [h1,h2,h3,h4,hlt,cT]
      refine zaa (ih ks[i] (yaf _)) ?_
      have hf:=zoi (ks.map zbn) i (zbn ks[i]) (by simp [hlt])
      simp -dsimp [h1,h2,h3,h4,hlt,w1,hf]
      rfl
    · have e:i=ks.length:=by omega
      subst e
      have ht:(ks.map zbn).take ks.length=ks.map zbn:=ycc (by simp)
      simp -dsimp [h1,h2,h3,h4,zbn,ht]
      rfl
def zij (l:List T):Bool:=decide ((60:Int)<(l.length:Int)) || l.any (fun t=>decide (300<zbn t)) || decide (9000<(l.map zcr).foldl (fun a s=>w64 (a+s)) 0)
theorem zk1 (l:List T):Pure Try.prog zb7 [eTs l] [.bool (zij l)]:=by
  refine zhe rfl fun hs=>?_
  simp -dsimp [zc0,eTs]
  (first | refine zaj ?_ ?_ | refine zak ?_ ?_) <;> intro h1 <;> (try simp only [nrm] at h1) <;> simp -dsimp [h1,zij]
  have hl:l.length≤60:=by omega
  refine zaw l.length (fun i st=>st.s 0 = .d (.sl 3 (l.map eT))∧st.s 4 = .d (.int .i64 i)∧st.s 3 = .d (.int .i64 (((l.map zcr).take i).foldl (fun a s=>w64 (a+s)) 0))∧(l.take i).any (fun t=>decide (300<zbn t))=false) ?_ ?_
  · simp -dsimp
  · rintro i ⟨s,hp⟩ hi ⟨h2,h3,h4,h5⟩
    dsimp only at h2 h3 h4 h5
    rcases ybm i l.length with hlt | hge
    · have w1:IntKind.i64.wrap ((i:Int)+1)=(i:Int)+1:=zag (by omega) (by omega)
      simp -dsimp [h2,h3,h4,hlt,cT]
      refine zaa (zlp l[i]) ?_
      simp -dsimp [h2,h3,h4,hlt]
      (first | refine zaj ?_ ?_ | refine zak ?_ ?_) <;> intro h6 <;> (try simp only [nrm] at h6) <;> simp -dsimp [h6,zij]
      · exact .inl (.inr ⟨l[i],yaf _,h6⟩)
      · simp -dsimp [h2,h3,h4,hlt,h6,cT]
        refine zaa (znf l[i]) ?_
        have hf:=zgg (fun a s=>w64 (a+s)) 0 (l.map zcr) i (zcr l[i]) (by simp [hlt])
        have h7:(l.take (i+1)).any (fun t=>decide (300<zbn t))=false:=by
          rw [zek (yar hlt),List.any_append,h5]
          simp [h6]
        simp -dsimp [h2,h3,h4,hlt,w1,hf]
        exact ⟨rfl,by simpa using h7⟩
    · have e:i=l.length:=by omega
      subst e
      have ht:(l.map zcr).take l.length=l.map zcr:=ycc (by simp)
      simp -dsimp [h2,h3,h4,zij,ht]
      rintro (h | ⟨x,hx,h⟩)
      · exact absurd h h1
      · rw [ycd] at h5
        have:=yce.1 h5 x hx
        simp at this
        omega
end Ev
end Go.Proofs.Ytncmainjcffanaa
/- Kinds. -/
namespace Go.Proofs.Ytncmainjcffanaa
namespace Ev
open Go
theorem zah (h:Nat→Ent) (n:Nat) (cs:List D):allD (toD h n) (cs.map .d)=some cs:=by
  induction cs with
  | nil=>rfl
  | cons c cs ih=>simp only [yaV,allD,zlo,ih]
theorem zai (h:Nat→Ent) (cs:List D):sks h (cs.map .d)=[]:=by
  induction cs with
  | nil=>rfl
  | cons c cs ih=>simp only [yaV,sks,sk_d,ih,List.nil_append]
def isM (k:Int):Bool:=decide (1≤k) && decide (k≤13)
theorem is_ok (k:Int):Pure Try.prog zj1 [.int .i64 k] [.bool (isM k)]:=by
  refine zpm rfl fun hs=>?_
  simp -dsimp [zj4]
  (first | refine zaj ?_ ?_ | refine zak ?_ ?_) <;> intro h1 <;> (try simp only [nrm] at h1) <;> simp -dsimp [h1,isM]
def zct (k:Int):Int :=
  if k=1 then 0 else if k=2 then 0 else if k=3 then 0 else if k=9 then 1 else if k=10 then 1 else if k=8 then 3 else if k=11 then 3 else if k=13 then 3 else if isM k then 2 else -1
theorem zvv (k:Int):Pure Try.prog zgw [.int .i64 k] [.int .i64 (zct k)]:=by
  refine znx rfl fun hs=>?_
  simp -dsimp [zgu]
  (first | refine zaj ?_ ?_ | refine zak ?_ ?_) <;> intro h1 <;> (try simp only [nrm] at h1) <;> simp -dsimp [h1,zct]
  (first | refine zaj ?_ ?_ | refine zak ?_ ?_) <;> intro h2 <;> (try simp only [nrm] at h2) <;> simp -dsimp [h2,zct,h1]
  (first | refine zaj ?_ ?_ | refine zak ?_ ?_) <;> intro h3 <;> (try simp only [nrm] at h3) <;> simp -dsimp [h3,zct,h1,h2]
  (first | refine zaj ?_ ?_ | refine zak ?_ ?_) <;> intro h4 <;> (try simp only [nrm] at h4) <;> simp -dsimp [h4,zct,h1,h2,h3]
  (first | refine zaj ?_ ?_ | refine zak ?_ ?_) <;> intro h5 <;> (try simp only [nrm] at h5) <;> simp -dsimp [h5,zct,h1,h2,h3,h4]
  (first | refine zaj ?_ ?_ | refine zak ?_ ?_) <;> intro h6 <;> (try simp only [nrm] at h6) <;> simp -dsimp [h6,zct,h1,h2,h3,h4,h5]
  (first | refine zaj ?_ ?_ | refine zak ?_ ?_) <;> intro h7 <;> (try simp only [nrm] at h7) <;> simp -dsimp [h7,zct,h1,h2,h3,h4,h5,h6]
  (first | refine zaj ?_ ?_ | refine zak ?_ ?_) <;> intro h8 <;> (try simp only [nrm] at h8) <;> simp -dsimp [h8,zct,h1,h2,h3,h4,h5,h6,h7]
  refine zaa (is_ok k) ?_
  simp -dsimp
  (first | refine zaj ?_ ?_ | refine zak ?_ ?_) <;> intro h9 <;> (try simp only [nrm] at h9) <;> simp -dsimp [h9,zct,h1,h2,h3,h4,h5,h6,h7,h8]
def idxI (n:Int) (l:List Int):Int:=match l.findIdx? (fun x=>n == x) with
  | some i=>i
  | none=>-1
theorem zma (l:List Int) (n:Int):Pure Try.prog zdf [.sl 1 (l.map (.int .i64)),.int .i64 n] [.int .i64 (idxI n l)]:=by
  refine zhw rfl fun hs=>?_
  have hl:=hs (.sl 1 (l.map (.int .i64))) (by simp)
  simp [small] at hl
  simp -dsimp [zdi]
  refine zaw l.length (fun i st=>st.s 0 = .d (.sl 1 (l.map (.int .i64)))∧st.s 1 = .d (.int .i64 n)∧st.s 7 = .d (.int .i64 l.length)∧st.s 8 = .d (.int .i64 i) ∧ ∀ x ∈ l.take i,(n == x)=false) ?_ ?_
  · simp -dsimp
  · rintro i ⟨s,hp⟩ hi ⟨h1,h2,h3,h4,h5⟩
    dsimp only at h1 h2 h3 h4 h5
    rcases ybm i l.length with hlt | hge
    · have w1:IntKind.i64.wrap ((i:Int)+1)=(i:Int)+1:=zag (by omega) (by omega)
      simp -dsimp [h1,h2,h3,h4,hlt]
      (first | refine zaj ?_ ?_ | refine zak ?_ ?_) <;> intro h6 <;> (try simp only [nrm] at h6) <;> simp -dsimp [h6,h1,h2,h3,h4,hlt,w1]
      · have:l.findIdx? (fun x=>n == x)=some i:=by
          rw [ycf]
          refine ⟨hlt,by simpa using h6,fun j hj=>?_⟩
          have:=h5 l[j] (by rw [ycg]; exact ⟨j,by omega,rfl⟩)
          simpa using this
        rw [← h6]
        simp only [idxI,this]
      · intro x hx
        rw [zek (yar hlt),yaY] at hx
        rcases hx with hx | hx
        · simpa using h5 x hx
        · simp at hx; subst hx; exact h6
    · have e:i=l.length:=by omega
      subst e
      rw [ycd] at h5
      have:l.findIdx? (fun x=>n == x)=none:=by
        rw [ych]; exact h5
      simp -dsimp [h1,h2,h3,h4,idxI,this]
theorem zj8 (l:List Int) (n:Int):Pure Try.prog zch [.sl 1 (l.map (.int .i64)),.int .i64 n] [.bool (decide (0≤idxI n l))]:=by
  refine zf9 rfl fun hs=>?_
  simp -dsimp [zci]
  refine zaa (zma l n) ?_
  simp -dsimp
def zaf (k i:Int):Int:=if i=1∧(k=4∨k=5∨k=7) then 1 else 0
theorem zhr (k i:Int):Pure Try.prog zd3 [.int .i64 k,.int .i64 i] [.int .i64 (zaf k i)]:=by
  refine zmi rfl fun hs=>?_
  simp -dsimp [zf8]
  (first | refine zaj ?_ ?_ | refine zak ?_ ?_) <;> intro h1 <;> (try simp only [nrm] at h1) <;> simp -dsimp [h1,zaf]
  refine zaa (zj8 [4,5,7] k) ?_
  have hc:decide (0≤idxI k [4,5,7])=decide (k=4∨k=5∨k=7):=by
    simp only [idxI,List.findIdx?_cons,List.findIdx?_nil]
    by_cases h4:k=4
    · simp [h4]
    · by_cases h5:k=5
      · simp [h5]
      · by_cases h7:k=7 <;> simp [h4,h5,h7]
  rw [hc]
  simp -dsimp [h1]
  (first | refine zaj ?_ ?_ | refine zak ?_ ?_) <;> intro h2 <;> (try simp only [nrm] at h2) <;> simp -dsimp [h2,zaf,h1]
end Ev
end Go.Proofs.Ytncmainjcffanaa
/- slices.IndexFunc,slices.ContainsFunc; what a right term is. -/
namespace Go.Proofs.Ytncmainjcffanaa
namespace Ev
open Go
attribute [local simp] zah zai
@[simp] theorem zxe (a:Ar):(eAr a).cells=cAr a:=rfl
@[simp] theorem zwc (a:So):(eSo a).cells=cSo a:=rfl
@[simp] theorem zw2 (a:Co):(eCo a).cells=cCo a:=rfl
def idxF {α:Type} (l:List α) (p:α→Bool):Int:=match l.findIdx? p with
  | some i=>i
  | none=>-1
theorem zur {α:Type} (l:List α) (p:α→Bool):decide (0≤idxF l p)=l.any p:=by
  cases h:l.findIdx? p with
  | none =>
    have h1:=ych.1 h
    have h2:l.any p=false:=by rw [yce]; intro x hx; simp [h1 x hx]
    have h3:idxF l p = -1:=by simp only [idxF,h]
    rw [h2,h3]; rfl
  | some i =>
    obtain ⟨hi,hp,_⟩:=ycf.1 h
    have h2:l.any p=true:=List.any_eq_true.2 ⟨_,yaf hi,hp⟩
    have h3:idxF l p=(i:Int):=by simp only [idxF,h]
    rw [h2,h3]; simp
theorem zkt (l:List T) (g:FuncId) (caps:List D) (p:T→Bool) (hp:∀ x ∈ l,Pure Try.prog g (.agg (cT x) :: caps) [.bool (p x)]) :
    Pure Try.prog zb6 [.sl 3 (l.map eT),.clo g caps] [.int .i64 (idxF l p)]:=by
  refine zfa rfl fun hs=>?_
  have hl:=hs (.sl 3 (l.map eT)) (by simp)
  simp [small] at hl
  replace hl:=hl.1
  simp -dsimp [zb5]
  refine zaw l.length (fun i st=>st.s 0 = .d (.sl 3 (l.map eT))∧st.s 1 = .d (.clo g caps)∧st.s 7 = .d (.int .i64 l.length)∧st.s 8 = .d (.int .i64 i) ∧ ∀ x ∈ l.take i,p x=false) ?_ ?_
  · simp -dsimp
  · rintro i ⟨s,hp'⟩ hi ⟨h1,h2,h3,h4,h5⟩
    dsimp only at h1 h2 h3 h4 h5
    rcases ybm i l.length with hlt | hge
    · have w1:IntKind.i64.wrap ((i:Int)+1)=(i:Int)+1:=zag (by omega) (by omega)
      have hc:(cT l[i]).length=3:=rfl
      simp -dsimp [h1,h2,h3,h4,hlt,hc]
      have ht:(cT l[i]).take 3=cT l[i]:=ycc (by omega)
      refine zaa (by rw [ht]; exact hp l[i] (yaf _)) ?_
      simp -dsimp [h1,h2,h3,h4,hlt]
      (first | refine zaj ?_ ?_ | refine zak ?_ ?_) <;> intro h6 <;> (try simp only [nrm] at h6) <;> simp -dsimp [h6,h1,h2,h3,h4,hlt,w1]
      · have:l.findIdx? p=some i:=by
          rw [ycf]
          refine ⟨hlt,h6,fun j hj=>?_⟩
          have:=h5 l[j] (by rw [ycg]; exact ⟨j,by omega,rfl⟩)
          simpa using this
        simp only [idxF,this]
      · intro x hx
        rw [zek (yar hlt),yaY] at hx
        rcases hx with hx | hx
        · simpa using h5 x hx
        · simp at hx; subst hx; exact h6
    · have e:i=l.length:=by omega
      subst e
      rw [ycd] at h5
      have:l.findIdx? p=none:=by
        rw [ych]; exact h5
      simp -dsimp [h1,h2,h3,h4,idxF,this]
theorem ze2 (l:List T) (g:FuncId) (caps:List D) (p:T→Bool) (hp:∀ x ∈ l,Pure Try.prog g (.agg (cT x) :: caps) [.bool (p x)]) :
    Pure Try.prog zbo [.sl 3 (l.map eT),.clo g caps] [.bool (l.any p)]:=by
  refine zer rfl fun hs=>?_
  simp -dsimp [zbp]
  refine zaa (zkt l g caps p hp) ?_
  simp -dsimp [zur]
end Ev
end Go.Proofs.Ytncmainjcffanaa
/- term: sizes,right terms,scopes. -/
namespace Go.Proofs.Ytncmainjcffanaa
namespace Ev
open Go
attribute [local simp] zah zai
theorem zn9 (t:T):Pure Try.prog zdq [.agg (cT t)] [.int .i64 (zcr t)]:=by
  refine T.ind (p:=fun t=>Pure Try.prog zdq [.agg (cT t)] [.int .i64 (zcr t)]) ?_ t
  intro k n ks ih
  refine znu rfl fun hs=>?_
  have hl:=zec hs
  simp [T.kids] at hl
  simp -dsimp [zhd,cT,T.kind,T.num,T.kids]
  refine zaw ks.length (fun i st=>st.s 7 = .d (.sl 3 (ks.map eT))∧st.s 8 = .d (.int .i64 ks.length)∧st.s 9 = .d (.int .i64 i)∧st.s 3 = .d (.int .i64 (((ks.map zcr).take i).foldl (fun a s=>w64 (a+s)) 1))) ?_ ?_
  · simp -dsimp
  · rintro i ⟨s,hp⟩ hi ⟨h1,h2,h3,h4⟩
    dsimp only at h1 h2 h3 h4
    rcases ybm i ks.length with hlt | hge
    · have w1:IntKind.i64.wrap ((i:Int)+1)=(i:Int)+1:=zag (by omega) (by omega)
      simp -dsimp [h1,h2,h3,h4,hlt,cT]
      refine zaa (ih ks[i] (yaf _)) ?_
      have hf:=zgg (fun a s=>w64 (a+s)) 1 (ks.map zcr) i (zcr ks[i]) (by simp [hlt])
      simp -dsimp [h1,h2,h3,h4,hlt,w1,hf]
      rfl
    · have e:i=ks.length:=by omega
      subst e
      have ht:(ks.map zcr).take ks.length=ks.map zcr:=ycc (by simp)
      simp -dsimp [h1,h2,h3,h4,zcr,ht]
theorem zm7 (t:T):Pure Try.prog zc5 [.agg (cT t)] [.int .i64 (zbn t)]:=by
  refine T.ind (p:=fun t=>Pure Try.prog zc5 [.agg (cT t)] [.int .i64 (zbn t)]) ?_ t
  intro k n ks ih
  refine zmz rfl fun hs=>?_
  have hl:=zec hs
  simp [T.kids] at hl
  simp -dsimp [zfp,cT,T.kind,T.num,T.kids]
  refine zaw ks.length (fun i st=>st.s 7 = .d (.sl 3 (ks.map eT))∧st.s 8 = .d (.int .i64 ks.length)∧st.s 9 = .d (.int .i64 i)∧st.s 3 = .d (.int .i64 (((ks.map zbn).take i).foldl mx 0))) ?_ ?_
  · simp -dsimp
  · rintro i ⟨s,hp⟩ hi ⟨h1,h2,h3,h4⟩
    dsimp only at h1 h2 h3 h4
    rcases ybm i ks.length with hlt | hge
    · have w1:IntKind.i64.wrap ((i:Int)+1)=(i:Int)+1:=zag (by omega) (by omega)
      simp -dsimp [h1,h2,h3,h4,hlt,cT]
      refine zaa (ih ks[i] (yaf _)) ?_
      have hf:=zoi (ks.map zbn) i (zbn ks[i]) (by simp [hlt])
      simp -dsimp [h1,h2,h3,h4,hlt,w1,hf]
      rfl
    · have e:i=ks.length:=by omega
      subst e
      have ht:(ks.map zbn).take ks.length=ks.map zbn:=ycc (by simp)
      simp -dsimp [h1,h2,h3,h4,zbn,ht]
      rfl
def zab:T→Bool
  | .mk k n ks=>if zct k<0 then false else if (ks.length:Int)=zct k then if n<0 then false else if 65535<n then false else if 0<zct k∧n ≠ 0 then false else (ks.map zab).all id else false
theorem zkx (t:T) (h:Pure Try.prog zcn [.agg (cT t)] [.bool (zab t)]):Pure Try.prog zcj [.agg (cT t)] [.bool (!zab t)]:=by
  refine zj5 rfl fun hs=>?_
  simp -dsimp [zep,cT]
  refine zaa h ?_
  simp -dsimp
theorem zp8 (t:T):Pure Try.prog zcn [.agg (cT t)] [.bool (zab t)]:=by
  refine T.ind (p:=fun t=>Pure Try.prog zcn [.agg (cT t)] [.bool (zab t)]) ?_ t
  intro k n ks ih
  refine zlk rfl fun hs=>?_
  simp -dsimp [zfj,cT,T.kind,T.num,T.kids]
  refine zaa (zvv k) ?_
  simp -dsimp
  (first | refine zaj ?_ ?_ | refine zak ?_ ?_) <;> intro h1 <;> (try simp only [nrm] at h1) <;> simp -dsimp [h1,zab]
  (first | refine zaj ?_ ?_ | refine zak ?_ ?_) <;> intro h2 <;> (try simp only [nrm] at h2) <;> simp -dsimp [h2,zab,h1]
  (first | refine zaj ?_ ?_ | refine zak ?_ ?_) <;> intro h3 <;> (try simp only [nrm] at h3) <;> simp -dsimp [h3,zab,h1,h2]
  (first | refine zaj ?_ ?_ | refine zak ?_ ?_) <;> intro h4 <;> (try simp only [nrm] at h4) <;> simp -dsimp [h4,zab,h1,h2,h3]
  (first | refine zaj ?_ ?_ | refine zak ?_ ?_) <;> intro h5 <;> (try simp only [nrm] at h5) <;> simp -dsimp [h5,zab,h1,h2,h3,h4]
  · (first | refine zaj ?_ ?_ | refine zak ?_ ?_) <;> intro h6 <;> (try simp only [nrm] at h6) <;> simp -dsimp [h6,zab,h1,h2,h3,h4,h5]
    refine zaa (ze2 ks zcj [] (fun t=>!zab t) (fun x hx=>zkx x (ih x hx))) ?_
    have hf:zab (.mk k 0 ks) = !(ks.any fun t=>!zab t):=by
      rw [zab,if_neg h1,if_pos h2]
      simp [yci,Function.comp_def]
    subst h6
    simp -dsimp [hf]
  · refine zaa (ze2 ks zcj [] (fun t=>!zab t) (fun x hx=>zkx x (ih x hx))) ?_
    have hf:zab (.mk k n ks) = !(ks.any fun t=>!zab t):=by
      rw [zab,if_neg h1,if_pos h2,if_neg h3,if_neg h4,if_neg (fun h=>h5 h.1)]
      simp [yci,Function.comp_def]
    simp -dsimp [hf]
def zat (t:T):Int:=if 6000<zcr t then 4 else if 200<zbn t then 5 else if zab t then 0 else 1
theorem zob (t:T):Pure Try.prog zex [.agg (cT t)] [.int .i64 (zat t)]:=by
  refine zmm rfl fun hs=>?_
  simp -dsimp [zfs,cT]
  refine zaa (zn9 t) ?_
  simp -dsimp
  (first | refine zaj ?_ ?_ | refine zak ?_ ?_) <;> intro h1 <;> (try simp only [nrm] at h1) <;> simp -dsimp [h1,zat]
  refine zaa (zm7 t) ?_
  simp -dsimp
  (first | refine zaj ?_ ?_ | refine zak ?_ ?_) <;> intro h2 <;> (try simp only [nrm] at h2) <;> simp -dsimp [h2,zat,h1]
  refine zaa (zp8 t) ?_
  simp -dsimp
  (first | refine zaj ?_ ?_ | refine zak ?_ ?_) <;> intro h3 <;> (try simp only [nrm] at h3) <;> simp -dsimp [h3,zat,h1,h2]
end Ev
end Go.Proofs.Ytncmainjcffanaa
/- What comes in by type: numbers,terms,and how long their rows may be. -/
namespace Go.Proofs.Ytncmainjcffanaa
namespace Ev
open Go
theorem zrg:Try.prog.cellsOf 24=3:=by kernel_rfl
theorem zvu:Try.prog.cellsOf 22=1:=by kernel_rfl
theorem c_int:Try.prog.cellsOf 3=1:=by kernel_rfl
theorem zth:Try.prog.bytesOf 24=40:=by kernel_rfl
def n64 (n:Int):Prop:=-9223372036854775808≤n∧n<9223372036854775808
inductive okT:T→Prop
  | mk (k n:Int) (ks:List T) (hk:n64 k) (hn:n64 n) (hl:ks.length*40≤140737488351232) (h:∀ x ∈ ks,okT x):okT (.mk k n ks)
def okTs (l:List T):Prop:=l.length*40≤140737488351232 ∧ ∀ x ∈ l,okT x
theorem okT.kids {k n:Int} {ks:List T} (h:okT (.mk k n ks)):okTs ks:=by
  cases h with
  | mk _ _ _ _ _ hl h=>exact ⟨hl,h⟩
theorem zp6 {α:Type} {f:α→D} {q:α→Prop}:∀ {xs:List D},(∀ x ∈ xs,∃ a,q a∧x=f a) → ∃ l:List α,xs=l.map f ∧ ∀ a ∈ l,q a
  | [],_=>⟨[],rfl,by simp⟩
  | x :: xs,h=>by
    obtain ⟨a,ha,rfl⟩:=h x (List.mem_cons_self ..)
    obtain ⟨l,rfl,hl⟩:=zp6 (xs:=xs) fun y hy=>h y (List.mem_cons_of_mem _ hy)
    exact ⟨a :: l,rfl,by simpa using ⟨ha,hl⟩⟩
theorem ztt:∀ {x:D},x.isAgg=true→x = .agg x.cells:=by
  intro x h
  cases x <;> first | rfl | cases h
theorem len3 {xs:List D} (h:xs.length=3):∃ a b c,xs=[a,b,c]:=by
  match xs,h with
  | [a,b,c],_=>exact ⟨a,b,c,rfl⟩
theorem wf64 {i:Int} (hw:(Lit.int .i64 i).wf=true):n64 i:=by
  obtain ⟨u,v⟩:IntKind.i64.min≤i∧i≤IntKind.i64.max:=by simpa [Lit.wf] using hw
  have e1:IntKind.i64.min = -9223372036854775808:=by decide
  have e2:IntKind.i64.max=9223372036854775807:=by decide
  exact ⟨by omega,by omega⟩
theorem zny {n:Nat} {cs:List D} (h:typ Try.prog n 3 cs):∃ i,cs=[.int .i64 i]∧n64 i:=by
  cases n with
  | zero=>exact h.elim
  | succ n =>
    simp only [typ,Try.underlying3] at h
    obtain ⟨i,hi,hw⟩:=h
    exact ⟨i,hi,wf64 hw⟩
theorem znq:zay Try.prog 24=true:=by simp only [zay,Try.underlying24]
theorem zl9 {e t:TypeId} {k y:Nat} {n:Nat} {cs:List D} (hu:Try.prog.underlying t=some (.slice e)) (hc:Try.prog.cellsOf e=k) (hy:Try.prog.bytesOf e=y) (hs:zay Try.prog e=true) (h:typ Try.prog n t cs) :
    ∃ (m:Nat) (xs:List D),n=m+1∧cs=[.sl k xs]∧xs.length*y≤140737488351232 ∧ ∀ x ∈ xs,typ Try.prog m e x.cells∧x = .agg x.cells:=by
  cases n with
  | zero=>exact h.elim
  | succ n =>
    simp only [typ,hu] at h
    obtain ⟨xs,rfl,_,hl,hx⟩:=h
    exact ⟨n,xs,rfl,by rw [hc],by rw [hy] at hl; exact hl,fun x hxx=>⟨(hx x hxx).1,ztt (by rw [(hx x hxx).2,hs])⟩⟩
theorem zol (n:Nat):∀ {cs:List D},typ Try.prog n 24 cs → ∃ t:T,cs=cT t∧okT t:=by
  induction n using Nat.strongRecOn with
  | ind n ih =>
    intro cs h
    cases n with
    | zero=>exact h.elim
    | succ n =>
    simp only [typ,Try.underlying24,zrg,c_int,zvu,List.forall_mem_cons] at h
    obtain ⟨hl,h1,h2,h3,_⟩:=h
    obtain ⟨a,b,c,rfl⟩:=len3 hl
    obtain ⟨i,hi,wi⟩:=zny h1
    obtain ⟨j,hj,wj⟩:=zny h2
    obtain ⟨m,xs,rfl,hc,hb,hx⟩:=zl9 Try.underlying22 zrg zth znq h3
    simp at hi hj hc
    subst hi hj hc
    obtain ⟨ks,rfl,hks⟩:∃ l:List T,xs=l.map eT ∧ ∀ a ∈ l,okT a:=zp6 fun x hxx=>by
      obtain ⟨h4,h5⟩:=hx x hxx
      obtain ⟨t,ht,hq⟩:=ih m (by omega) h4
      exact ⟨t,hq,by rw [h5,ht,zfg]⟩
    exact ⟨.mk i j ks,rfl,.mk i j ks wi wj (by simpa using hb) hks⟩
theorem zqc {n:Nat} {cs:List D} (h:typ Try.prog n 22 cs):∃ l:List T,cs=[eTs l]∧okTs l:=by
  obtain ⟨m,xs,rfl,hc,hb,hx⟩:=zl9 Try.underlying22 zrg zth znq h
  obtain ⟨ks,rfl,hks⟩:∃ l:List T,xs=l.map eT ∧ ∀ a ∈ l,okT a:=zp6 fun x hxx=>by
    obtain ⟨h4,h5⟩:=hx x hxx
    obtain ⟨t,ht,hq⟩:=zol m h4
    exact ⟨t,hq,by rw [h5,ht,zfg]⟩
  exact ⟨ks,hc,by simpa using hb,hks⟩
theorem zqa {x:D} (h:x.isAgg=false):x.cells=[x]:=by
  cases x <;> first | rfl | cases h
theorem zvr {x:D} (h:TypD Try.prog 3 x):∃ i,x = .int .i64 i∧n64 i:=by
  obtain ⟨⟨n,h1⟩,h2⟩:=h
  obtain ⟨i,hi,hw⟩:=zny h1
  have h3:zay Try.prog 3=false:=by simp only [zay,Try.underlying3]
  rw [zqa (h2.trans h3)] at hi
  exact ⟨i,by simpa using hi,hw⟩
theorem zsg {x:D} (h:TypD Try.prog 24 x):∃ t:T,x = .agg (cT t)∧okT t:=by
  obtain ⟨⟨n,h1⟩,h2⟩:=h
  obtain ⟨b,hb,hq⟩:=zol n h1
  exact ⟨b,by rw [ztt (h2.trans znq),hb],hq⟩
theorem zqp {x:D} (h:TypD Try.prog 22 x):∃ l:List T,x=eTs l∧okTs l:=by
  obtain ⟨⟨n,h1⟩,h2⟩:=h
  obtain ⟨l,hl,hq⟩:=zqc h1
  have h3:zay Try.prog 22=false:=by simp only [zay,Try.underlying22]
  rw [zqa (h2.trans h3)] at hl
  exact ⟨l,by simpa using hl,hq⟩
end Ev
end Go.Proofs.Ytncmainjcffanaa
/- Twins are what they are twins of. -/
namespace Go.Proofs.Ytncmainjcffanaa
namespace Ev
open Go
attribute [local simp] zah zai
theorem zhn {α:Type} (f:α→D) (g:α→List D) (hg:∀ a,f a = .agg (g a)) (l:List α) (i:Nat) (h:i<l.length):(l.map f).take i ++ [.agg (g l[i])]=(l.map f).take (i+1):=by
  rw [ycb,yar (by simpa using h)]
  simp [hg]
theorem zoe (l:List T) (hl:l.length*40≤140737488351232) (h:∀ x ∈ l,Pure Try.prog zbk [.agg (cT x)] [.agg (cT x)]):Pure Try.prog zbr [eTs l] [eTs l]:=by
  refine zhv rfl fun hs=>?_
  simp -dsimp [zdk,eTs]
  refine zaw l.length (fun i st=>st.s 0 = .d (.sl 3 (l.map eT))∧st.s 4 = .d (.int .i64 i) ∧ ∃ v,st.s 3 = .rsl 3 v∧st.h 3=⟨v,.row 3 ((l.map eT).take i) false⟩) ?_ ?_
  · simp -dsimp
  · rintro i ⟨s,hp⟩ hi ⟨g1,g2,v,g3,g4⟩
    dsimp only at g1 g2 g3 g4
    rcases ybm i l.length with hlt | hge
    · have w1:IntKind.i64.wrap ((i:Int)+1)=(i:Int)+1:=zag (by omega) (by omega)
      simp -dsimp [g1,g2,g3,g4,hlt,cT]
      refine zaa (h l[i] (yaf _)) ?_
      have hr:(min i l.length+1)*40≤zao:=by simp only [zao]; omega
      have hn:=zhn eT cT zfg l i hlt
      simp only [cT] at hn
      simp -dsimp [g1,g2,g3,g4,hlt,cT,hr,hn,w1]
    · have e:i=l.length:=by omega
      subst e
      simp -dsimp [g1,g2,g3,g4]
      exact ycc (by simp)
theorem zri (t:T):okT t→Pure Try.prog zbk [.agg (cT t)] [.agg (cT t)]:=by
  refine T.ind (p:=fun t=>okT t→Pure Try.prog zbk [.agg (cT t)] [.agg (cT t)]) ?_ t
  intro k n ks ih h
  obtain ⟨h1,h2⟩:=h.kids
  refine zih rfl fun hs=>?_
  simp -dsimp [zdt,cT,T.kind,T.num,T.kids]
  refine zaa (zoe ks h1 fun x hx=>ih x hx (h2 x hx)) ?_
  simp -dsimp [eTs]
theorem zs9 (l:List T) (h:okTs l):Pure Try.prog zbr [eTs l] [eTs l]:=zoe l h.1 fun x hx=>zri x (h.2 x hx)
end Ev
end Go.Proofs.Ytncmainjcffanaa
/- What is compared with itself is alike. -/
namespace Go.Proofs.Ytncmainjcffanaa
namespace Ev
open Go
attribute [local simp] zah zai
theorem zit (l:List T) (h:∀ x ∈ l,Pure Try.prog zar [.agg (cT x),.agg (cT x)] [.bool true]):Pure Try.prog zbb [eTs l,eTs l] [.bool true]:=by
  refine zhm rfl fun hs=>?_
  have hl:=hs (eTs l) (by simp)
  simp [eTs,small] at hl
  replace hl:=hl.1
  simp -dsimp [zdc,eTs]
  refine zaw l.length (fun i st=>st.s 0 = .d (.sl 3 (l.map eT))∧st.s 1 = .d (.sl 3 (l.map eT))∧st.s 5 = .d (.int .i64 i)) ?_ ?_
  · simp -dsimp
  · rintro i ⟨s,hp⟩ hi ⟨g1,g2,g3⟩
    dsimp only at g1 g2 g3
    rcases ybm i l.length with hlt | hge
    · have w1:IntKind.i64.wrap ((i:Int)+1)=(i:Int)+1:=zag (by omega) (by omega)
      simp -dsimp [g1,g2,g3,hlt,cT,eAr,cAr,eTs]
      refine zaa (h l[i] (yaf _)) ?_
      simp -dsimp [g1,g2,g3,hlt,w1]
    · have e:i=l.length:=by omega
      subst e
      simp -dsimp [g1,g2,g3]
theorem ze8 (t:T):Pure Try.prog zar [.agg (cT t),.agg (cT t)] [.bool true]:=by
  refine T.ind (p:=fun t=>Pure Try.prog zar [.agg (cT t),.agg (cT t)] [.bool true]) ?_ t
  intro k n ks ih
  refine zil rfl fun hs=>?_
  simp -dsimp [zds,cT,T.kind,T.num,T.kids]
  refine zaa (zit ks ih) ?_
  simp -dsimp
theorem zmw (l:List T):Pure Try.prog zbb [eTs l,eTs l] [.bool true]:=zit l fun x _=>ze8 x
end Ev
end Go.Proofs.Ytncmainjcffanaa
/- The document's answers: right terms,scopes. -/
namespace Go.Proofs.Ytncmainjcffanaa
namespace Ev
open Go
attribute [local simp] zah zai
def inB (n lo hi:Int):Bool:=decide (lo≤n) && decide (n≤hi)
theorem zd5 (n lo hi:Int):inB n lo hi=true ↔ lo≤n∧n≤hi:=by simp [inB]
theorem zpg (n lo hi:Int):inB n lo hi=false ↔ ¬(lo≤n∧n≤hi):=by rw [← zd5]; simp
theorem zqn (n lo hi:Int):Pure Try.prog zca [.int .i64 n,.int .i64 lo,.int .i64 hi] [.bool (inB n lo hi)]:=by
  refine zi2 rfl fun hs=>?_
  simp -dsimp [zd6,inB]
  (first | refine zaj ?_ ?_ | refine zak ?_ ?_) <;> intro h1 <;> (try simp only [nrm] at h1) <;> simp -dsimp [h1]
theorem zrz (k:Int):Pure Try.prog zdb [.int .i64 k] [.int .i64 (zct k)]:=by
  refine zhp rfl fun hs=>?_
  have e:zct k=if k=1 then 0 else if k=2 then 0 else if k=3 then 0 else if k=9 then 1 else if k=10 then 1 else if k=4 then 2 else if k=5 then 2 else if k=6 then 2 else if k=7 then 2 else if k=12 then 2 else if k=8 then 3 else if k=11 then 3 else if k=13 then 3 else -1:=by
    simp only [zct,isM,ybJ,decide_eq_true_eq]
    repeat' split
    all_goals omega
  rw [e]
  simp -dsimp [zdl]
  (first | refine zaj ?_ ?_ | refine zak ?_ ?_) <;> intro h1 <;> (try simp only [nrm] at h1) <;> simp -dsimp [h1]
  (first | refine zaj ?_ ?_ | refine zak ?_ ?_) <;> intro h2 <;> (try simp only [nrm] at h2) <;> simp -dsimp [h2,h1]
  (first | refine zaj ?_ ?_ | refine zak ?_ ?_) <;> intro h3 <;> (try simp only [nrm] at h3) <;> simp -dsimp [h3,h1,h2]
  (first | refine zaj ?_ ?_ | refine zak ?_ ?_) <;> intro h4 <;> (try simp only [nrm] at h4) <;> simp -dsimp [h4,h1,h2,h3]
  (first | refine zaj ?_ ?_ | refine zak ?_ ?_) <;> intro h5 <;> (try simp only [nrm] at h5) <;> simp -dsimp [h5,h1,h2,h3,h4]
  (first | refine zaj ?_ ?_ | refine zak ?_ ?_) <;> intro h6 <;> (try simp only [nrm] at h6) <;> simp -dsimp [h6,h1,h2,h3,h4,h5]
  (first | refine zaj ?_ ?_ | refine zak ?_ ?_) <;> intro h7 <;> (try simp only [nrm] at h7) <;> simp -dsimp [h7,h1,h2,h3,h4,h5,h6]
  (first | refine zaj ?_ ?_ | refine zak ?_ ?_) <;> intro h8 <;> (try simp only [nrm] at h8) <;> simp -dsimp [h8,h1,h2,h3,h4,h5,h6,h7]
  (first | refine zaj ?_ ?_ | refine zak ?_ ?_) <;> intro h9 <;> (try simp only [nrm] at h9) <;> simp -dsimp [h9,h1,h2,h3,h4,h5,h6,h7,h8]
  (first | refine zaj ?_ ?_ | refine zak ?_ ?_) <;> intro h10 <;> (try simp only [nrm] at h10) <;> simp -dsimp [h10,h1,h2,h3,h4,h5,h6,h7,h8,h9]
  (first | refine zaj ?_ ?_ | refine zak ?_ ?_) <;> intro h11 <;> (try simp only [nrm] at h11) <;> simp -dsimp [h11,h1,h2,h3,h4,h5,h6,h7,h8,h9,h10]
  (first | refine zaj ?_ ?_ | refine zak ?_ ?_) <;> intro h12 <;> (try simp only [nrm] at h12) <;> simp -dsimp [h12,h1,h2,h3,h4,h5,h6,h7,h8,h9,h10,h11]
  (first | refine zaj ?_ ?_ | refine zak ?_ ?_) <;> intro h13 <;> (try simp only [nrm] at h13) <;> simp -dsimp [h13,h1,h2,h3,h4,h5,h6,h7,h8,h9,h10,h11,h12]
theorem zf6 (k i:Int):Pure Try.prog za5 [.int .i64 k,.int .i64 i] [.int .i64 (zaf k i)]:=by
  refine zg8 rfl fun hs=>?_
  simp -dsimp [zcx]
  (first | refine zaj ?_ ?_ | refine zak ?_ ?_) <;> intro h1 <;> (try simp only [nrm] at h1) <;> simp -dsimp [h1,zaf]
  (first | refine zaj ?_ ?_ | refine zak ?_ ?_) <;> intro g1 <;> (try simp only [nrm] at g1) <;> simp -dsimp [g1,zaf,h1]
  (first | refine zaj ?_ ?_ | refine zak ?_ ?_) <;> intro g2 <;> (try simp only [nrm] at g2) <;> simp -dsimp [g2,zaf,h1,g1]
  (first | refine zaj ?_ ?_ | refine zak ?_ ?_) <;> intro g3 <;> (try simp only [nrm] at g3) <;> simp -dsimp [g3,zaf,h1,g1,g2]
theorem zaq (k n:Int) (ks:List T):zab (.mk k n ks)=if (ks.length:Int)=zct k then if zct k=0 then inB n 0 65535 && ks.all zab else if n=0 then ks.all zab else false else false:=by
  rw [zab]
  have ha:(ks.map zab).all id=ks.all zab:=by rw [List.all_map]; rfl
  rw [ha]
  by_cases h1:(ks.length:Int)=zct k
  · rw [if_neg (by omega),if_pos h1,if_pos h1]
    by_cases h0:zct k=0
    · rw [if_pos h0]
      by_cases h2:n<0
      · rw [if_pos h2,(zpg n 0 65535).2 (by omega)]; rfl
      · rw [if_neg h2]
        by_cases h3:65535<n
        · rw [if_pos h3,(zpg n 0 65535).2 (by omega)]; rfl
        · rw [if_neg h3,if_neg (by omega),(zd5 n 0 65535).2 (by omega)]; rfl
    · rw [if_neg h0]
      by_cases h2:n=0
      · rw [if_neg (by omega),if_neg (by omega),if_neg (by omega),if_pos h2]
      · rw [if_neg h2]
        by_cases h3:n<0
        · rw [if_pos h3]
        · rw [if_neg h3]
          by_cases h4:65535<n
          · rw [if_pos h4]
          · rw [if_neg h4,if_pos ⟨by omega,h2⟩]
  · rw [if_neg h1,if_neg h1]
    split <;> rfl
theorem zoc {α:Type} {p:α→Bool} {l:List α} (h:∀ (j:Nat) (hj:j<l.length),j<l.length→p l[j]=true):l.all p=true:=by
  rw [yaC]
  intro x hx
  obtain ⟨j,hj,rfl⟩:=List.mem_iff_getElem.1 hx
  exact h j hj hj
theorem zqk {α:Type} {p:α→Bool} {l:List α} {i:Nat} (hi:i<l.length) (h:p l[i]=false):l.all p=false:=by
  cases hq:l.all p with
  | false=>rfl
  | true =>
    have:=yaC.1 hq l[i] (yaf _)
    rw [h] at this
    cases this
theorem zna {α:Type} {p:α→Bool} {l:List α} {i:Nat} (hi:i<l.length) (h:∀ (j:Nat) (hj:j<l.length),j<i→p l[j]=true) (hx:p l[i]=true) :
    ∀ (j:Nat) (hj:j<l.length),j<i+1→p l[j]=true:=by
  intro j hj hji
  rcases ybm j i with h' | h'
  · exact h j hj h'
  · have:j=i:=by omega
    subst this
    exact hx
theorem zo3 (t:T):Pure Try.prog zbf [.agg (cT t)] [.bool (zab t)]:=by
  refine T.ind (p:=fun t=>Pure Try.prog zbf [.agg (cT t)] [.bool (zab t)]) ?_ t
  intro k n ks ih
  refine zgl rfl fun hs=>?_
  have hl:=zec hs
  simp [T.kids] at hl
  simp -dsimp [zcp,cT,T.kind,T.num,T.kids]
  refine zaa (zrz k) ?_
  simp -dsimp
  (first | refine zaj ?_ ?_ | refine zak ?_ ?_) <;> intro h1 <;> (try simp only [nrm] at h1) <;> simp -dsimp [h1,zaq]
  (first | refine zaj ?_ ?_ | refine zak ?_ ?_) <;> intro h2 <;> (try simp only [nrm] at h2) <;> simp -dsimp [h2,zaq,h1]
  · refine zaa (zqn n 0 65535) ?_
    simp -dsimp [h1,h2]
    (first | refine zaj ?_ ?_ | refine zak ?_ ?_) <;> intro h3 <;> (try simp only [nrm] at h3) <;> simp -dsimp [h3,zaq,h1,h2]
    have hR:zab (.mk k n ks)=ks.all zab:=by rw [zaq,if_pos h1,if_pos h2,h3]; rfl
    rw [hR]
    refine zaw ks.length (fun i st=>st.s 1 = .ptr 1 1 0∧st.h 1=⟨1,.box [.d (.int .i64 k),.d (.int .i64 n),.d (.sl 3 (ks.map eT))] false⟩∧st.s 3 = .d (.int .i64 i) ∧ ∀ (j:Nat) (hj:j<ks.length),j<i→zab ks[j]=true) ?_ ?_
    · simp -dsimp
    · rintro i ⟨s,hp⟩ hi ⟨g1,g2,g3,g4⟩
      dsimp only at g1 g2 g3
      rcases ybm i ks.length with hlt | hge
      · have w1:IntKind.i64.wrap ((i:Int)+1)=(i:Int)+1:=zag (by omega) (by omega)
        simp -dsimp [g1,g2,g3,hlt,cT]
        refine zaa (ih ks[i] (yaf _)) ?_
        simp -dsimp [g1,g2,g3,hlt]
        (first | refine zaj ?_ ?_ | refine zak ?_ ?_) <;> intro h6 <;> (try simp only [nrm] at h6) <;> simp -dsimp [h6,g1,g2,g3,hlt,w1]
        · have:=zqk (p:=zab) hlt h6
          simpa using this
        · exact zna hlt g4 h6
      · have e:i=ks.length:=by omega
        subst e
        have hA:=zoc (p:=zab) g4
        simp -dsimp [g1,g2,g3,hA]
  · (first | refine zaj ?_ ?_ | refine zak ?_ ?_) <;> intro h3 <;> (try simp only [nrm] at h3) <;> simp -dsimp [h3,zaq,h1,h2]
    · (first | refine zaj ?_ ?_ | refine zak ?_ ?_) <;> intro h4 <;> (try simp only [nrm] at h4) <;> simp -dsimp [h4,zaq,h1,h2,h3]
      subst h4
      have hR:zab (.mk k 0 ks)=ks.all zab:=by rw [zaq,if_pos h1,if_neg h2,if_pos rfl]
      rw [hR]
      refine zaw ks.length (fun i st=>st.s 1 = .ptr 1 1 0∧st.h 1=⟨1,.box [.d (.int .i64 k),.d (.int .i64 0),.d (.sl 3 (ks.map eT))] false⟩∧st.s 3 = .d (.int .i64 i) ∧ ∀ (j:Nat) (hj:j<ks.length),j<i→zab ks[j]=true) ?_ ?_
      · simp -dsimp
      · rintro i ⟨s,hp⟩ hi ⟨g1,g2,g3,g4⟩
        dsimp only at g1 g2 g3
        rcases ybm i ks.length with hlt | hge
        · have w1:IntKind.i64.wrap ((i:Int)+1)=(i:Int)+1:=zag (by omega) (by omega)
          simp -dsimp [g1,g2,g3,hlt,cT]
          refine zaa (ih ks[i] (yaf _)) ?_
          simp -dsimp [g1,g2,g3,hlt]
          (first | refine zaj ?_ ?_ | refine zak ?_ ?_) <;> intro h6 <;> (try simp only [nrm] at h6) <;> simp -dsimp [h6,g1,g2,g3,hlt,w1]
          · have:=zqk (p:=zab) hlt h6
            simpa using this
          · exact zna hlt g4 h6
        · have e:i=ks.length:=by omega
          subst e
          have hA:=zoc (p:=zab) g4
          simp -dsimp [g1,g2,g3,hA]
    · omega
theorem zh5 (t:T):Pure Try.prog za4 [.agg (cT t)] [.int .i64 (zat t)]:=by
  refine zgq rfl fun hs=>?_
  simp -dsimp [zc3,cT]
  refine zaa (znf t) ?_
  simp -dsimp
  (first | refine zaj ?_ ?_ | refine zak ?_ ?_) <;> intro h1 <;> (try simp only [nrm] at h1) <;> simp -dsimp [h1,zat]
  refine zaa (zlp t) ?_
  simp -dsimp
  (first | refine zaj ?_ ?_ | refine zak ?_ ?_) <;> intro h2 <;> (try simp only [nrm] at h2) <;> simp -dsimp [h2,zat,h1]
  refine zaa (zo3 t) ?_
  simp -dsimp
  (first | refine zaj ?_ ?_ | refine zak ?_ ?_) <;> intro h3 <;> (try simp only [nrm] at h3) <;> simp -dsimp [h3,zat,h1,h2]
end Ev
end Go.Proofs.Ytncmainjcffanaa
/- Terms: small things. -/
namespace Go.Proofs.Ytncmainjcffanaa
namespace Ev
open Go
theorem tk (k n:Int) (ks:List T):(T.mk k n ks).kind=k:=rfl
theorem tn (k n:Int) (ks:List T):(T.mk k n ks).num=n:=rfl
theorem tks (k n:Int) (ks:List T):(T.mk k n ks).kids=ks:=rfl
theorem zmd {l:List D} {z:D} {i:Nat} (h:i<l.length):(l.take i ++ List.replicate (l.length - i) z).set i l[i]=l.take (i+1) ++ List.replicate (l.length - (i+1)) z:=by
  have e:l.length - i=(l.length - (i+1))+1:=by omega
  rw [e,List.replicate_succ,List.set_append_right _ _ (by simp; omega)]
  have e2:i - (l.take i).length=0:=by simp; omega
  have e3:l.take (i+1)=l.take i ++ [l[i]]:=by rw [ycb,yar h]; rfl
  rw [e2,List.set_cons_zero,e3,List.append_assoc]
  rfl
end Ev
end Go.Proofs.Ytncmainjcffanaa
/- Terms,in plain numbers: zac,depths,right terms,scopes. -/
namespace Go.Proofs.Ytncmainjcffanaa
namespace Ev
open Go
attribute [local simp] tk tn tks
def zac:T→Nat | .mk _ _ ks=>(ks.map zac).sum+1
theorem znd {l:List Nat} {x:Nat} (h:x ∈ l):x≤l.sum:=by
  induction l with
  | nil=>cases h
  | cons y l ih =>
    rw [ybZ]
    rcases List.mem_cons.1 h with rfl | h
    · omega
    · have:=ih h; omega
theorem zbs {k n:Int} {ks:List T} {x:T} (h:x ∈ ks):zac x+1≤zac (.mk k n ks):=by
  rw [zac]
  have:=znd (ybb.2 ⟨x,h,rfl⟩:zac x ∈ ks.map zac)
  omega
theorem zcd (k i:Int):0≤zaf k i∧zaf k i≤1:=by
  rw [zaf]
  split <;> omega
inductive Slim:T→Prop
  | mk (k n:Int) (ks:List T) (hl:ks.length≤1000) (h:∀ x ∈ ks,Slim x):Slim (.mk k n ks)
theorem Slim.kids {k n:Int} {ks:List T} (h:Slim (.mk k n ks)):ks.length≤1000 ∧ ∀ x ∈ ks,Slim x:=by
  cases h with
  | mk _ _ _ h1 h2=>exact ⟨h1,h2⟩
theorem zsl (k:Int):zct k≤3:=by
  rw [zct]
  repeat' split
  all_goals omega
theorem zdr {k n:Int} {ks:List T} (h1:k=1) (hfm:zab (.mk k n ks)=true):0≤n∧n≤65535:=by
  rw [zaq,h1] at hfm
  have h0:zct 1=0:=rfl
  rw [h0] at hfm
  split at hfm
  · simp only [if_true,ybJ] at hfm
    exact (zd5 _ _ _).1 hfm.1
  · cases hfm
theorem zbc {k n:Int} {ks:List T} (hfm:zab (.mk k n ks)=true):∀ x ∈ ks,zab x=true:=by
  rw [zaq] at hfm
  refine yaC.1 ?_
  split at hfm
  · split at hfm
    · rw [ybJ] at hfm; exact hfm.2
    · split at hfm
      · exact hfm
      · cases hfm
  · cases hfm
theorem zqh (t:T):zab t=true→Slim t:=by
  refine T.ind (p:=fun t=>zab t=true→Slim t) ?_ t
  intro k n ks ih h
  rw [zaq] at h
  have hk:=zsl k
  by_cases h1:(ks.length:Int)=zct k
  · rw [if_pos h1] at h
    have ha:ks.all zab=true:=by
      by_cases h2:zct k=0
      · rw [if_pos h2,ybJ] at h; exact h.2
      · rw [if_neg h2] at h
        by_cases h3:n=0
        · rw [if_pos h3] at h; exact h
        · rw [if_neg h3] at h; cases h
    exact .mk k n ks (by omega) fun x hx=>ih x hx (yaC.1 ha x hx)
  · rw [if_neg h1] at h; cases h
theorem zke {t:T} (h:zat t=0):zab t=true:=by
  rw [zat] at h
  split at h
  · simp at h
  · split at h
    · simp at h
    · split at h
      · assumption
      · simp at h
theorem zd7 {n:Int} (h1:-9223372036854775808≤n) (h2:n<9223372036854775808):w64 n=n:=zag h1 (by omega)
def dmax (l:List Nat):Nat:=l.foldr max 0
def zal:T→Nat | .mk _ _ ks=>dmax (ks.map zal)+1
theorem zne (a b:Int):mx a b=max a b:=by rw [mx]; split <;> omega
theorem zmo:∀ (l:List T) (a:Int),0≤a→a+(l.map zac).sum≤1099511627776→(∀ x ∈ l,zcr x=zac x)→(l.map zcr).foldl (fun a s=>w64 (a+s)) a=a+(l.map zac).sum
  | [],a,_,_,_=>by simp
  | x :: xs,a,h0,hb,h=>by
    have hx:=h x (by simp)
    simp only [yaV,ycj,ybZ] at hb ⊢
    rw [hx,zd7 (by omega) (by omega),zmo xs (a+zac x) (by omega) (by omega) fun y hy=>h y (by simp [hy])]
    omega
theorem znw (t:T):zac t≤1099511627776→zcr t=zac t:=by
  refine T.ind (p:=fun t=>zac t≤1099511627776→zcr t=zac t) ?_ t
  intro k n ks ih hb
  have hk:∀ x ∈ ks,zcr x=zac x:=fun x hx=>ih x hx (by have:=zbs (k:=k) (n:=n) hx; omega)
  rw [zac] at hb
  rw [zcr,zmo ks 1 (by omega) (by omega) hk,zac]
  omega
theorem zvt {l:List Nat} {m:Nat} (h:∀ x ∈ l,x≤m):dmax l≤m:=by
  induction l with
  | nil=>simp [dmax]
  | cons y l ih =>
    have h1:=h y (by simp)
    have h2:=ih fun x hx=>h x (by simp [hx])
    simp only [dmax,yck] at h2 ⊢
    omega
theorem zjk (t:T):zal t≤zac t:=by
  refine T.ind (p:=fun t=>zal t≤zac t) ?_ t
  intro k n ks ih
  rw [zal,zac]
  have:dmax (ks.map zal)≤(ks.map zac).sum:=zvt fun x hx=>by
    obtain ⟨y,hy,rfl⟩:=ybb.1 hx
    have:=znd (ybb.2 ⟨y,hy,rfl⟩:zac y ∈ ks.map zac)
    have:=ih y hy
    omega
  omega
theorem zky:∀ (l:List T) (a:Int),0≤a→(∀ x ∈ l,zbn x=zal x)→(l.map zbn).foldl mx a=max a (dmax (l.map zal))
  | [],a,h0,_=>by simp [dmax]; omega
  | x :: xs,a,h0,h=>by
    have hx:=h x (by simp)
    simp only [yaV,ycj,dmax,yck]
    rw [hx,zne,zky xs _ (by omega) fun y hy=>h y (by simp [hy])]
    simp only [dmax]
    omega
theorem zlz (t:T):zac t≤1099511627776→zbn t=zal t:=by
  refine T.ind (p:=fun t=>zac t≤1099511627776→zbn t=zal t) ?_ t
  intro k n ks ih hb
  have hk:∀ x ∈ ks,zbn x=zal x:=fun x hx=>ih x hx (by have:=zbs (k:=k) (n:=n) hx; omega)
  have hd:=zjk (.mk k n ks)
  rw [zal] at hd
  rw [zbn,zky ks 0 (by omega) hk,zal,zd7 (by omega) (by omega)]
  omega
theorem zdv (k n:Int):zac (.mk k n [])=1:=by rw [zac]; rfl
theorem zdu (k n:Int):zal (.mk k n [])=1:=by rw [zal]; rfl
theorem zhz {k n:Int} {ks:List T} (h1:k=1) (hfm:zab (.mk k n ks)=true):ks=[]:=by
  rw [zaq,h1] at hfm
  have h0:zct 1=0:=rfl
  rw [h0] at hfm
  split at hfm
  · exact List.length_eq_zero_iff.1 (by omega)
  · cases hfm
theorem zml {t:T} (h:zac t≤1048576):zat t=0 ↔ zac t≤6000∧zal t≤200∧zab t=true:=by
  rw [zat,znw _ (by omega),zlz _ (by omega)]
  by_cases h1:(6000:Int)<zac t
  · rw [if_pos h1]
    constructor
    · intro h; cases h
    · omega
  · rw [if_neg h1]
    by_cases h2:(200:Int)<zal t
    · rw [if_pos h2]
      constructor
      · intro h; cases h
      · omega
    · rw [if_neg h2]
      cases zab t
      · simp
      · simp; omega
theorem zto (k n:Int) (a b:T):zac (.mk k n [a,b])=zac a+zac b+1:=by rw [zac]; simp
theorem ziq (t:T):zac t≤bulk (eT t):=by
  refine T.ind (p:=fun t=>zac t≤bulk (eT t)) ?_ t
  intro k n ks ih
  rw [zac,zfg]
  simp only [cT,tks,bulk,yaV,List.map_nil,ybZ,List.sum_nil,List.map_map]
  have:∀ l:List T,(∀ x ∈ l,zac x≤bulk (eT x))→(l.map zac).sum≤(l.map (bulk ∘ eT)).sum:=by
    intro l
    induction l with
    | nil=>intro _; simp
    | cons x xs ihx =>
      intro h
      have h1:=h x (by simp)
      have h2:=ihx fun y hy=>h y (by simp [hy])
      simp only [yaV,ybZ,Function.comp] at h2 ⊢
      omega
  have:=this ks ih
  omega
theorem zqv (t:T):zac t≤bulk (.agg (cT t)):=by rw [← zfg]; exact ziq t
theorem zo0 (l:List T):(∀ x ∈ l,zac x≤bulk (eTs l))∧l.length≤bulk (eTs l):=by
  simp only [eTs,bulk,List.map_map]
  have h1:∀ x ∈ l,zac x≤(l.map (bulk ∘ eT)).sum:=fun x hx=>by
    have:=znd (ybb.2 ⟨x,hx,rfl⟩:(bulk ∘ eT) x ∈ l.map (bulk ∘ eT))
    have h2:=ziq x
    simp only [Function.comp] at this
    omega
  have h2:l.length≤(l.map (bulk ∘ eT)).sum:=by
    clear h1
    induction l with
    | nil=>simp
    | cons x xs ih =>
      have h3:=ziq x
      have h4:1≤zac x:=by cases x; rw [zac]; omega
      simp only [List.length_cons,yaV,ybZ,Function.comp] at ih ⊢
      omega
  exact ⟨fun x hx=>by have:=h1 x hx; omega,by omega⟩
end Ev
end Go.Proofs.Ytncmainjcffanaa
/- slices.Reverse on a row of one's own. -/
namespace Go.Proofs.Ytncmainjcffanaa
namespace Ev
open Go
attribute [local simp] zah zai zi1 zku
end Ev
end Go.Proofs.Ytncmainjcffanaa
/- tele: twins,spines. -/
namespace Go.Proofs.Ytncmainjcffanaa
namespace Ev
open Go
attribute [local simp] zah zai tk tn tks
end Ev
end Go.Proofs.Ytncmainjcffanaa
/- tele: spines taken apart. -/
namespace Go.Proofs.Ytncmainjcffanaa
namespace Ev
open Go
attribute [local simp] zah zai tk tn tks
theorem zwz (n:Int):Pure Try.prog zc9 [.int .i64 n] [.agg (cT (.mk 1 n []))]:=by
  refine zj3 rfl fun hs=>?_
  simp -dsimp [zel,cT]
theorem zs2 (n:Int):Pure Try.prog zby [.int .i64 n] [.agg (cT (.mk 2 n []))]:=by
  refine zju rfl fun hs=>?_
  simp -dsimp [zem,cT]
theorem v_ok (n:Int):Pure Try.prog zht [.int .i64 n] [.agg (cT (.mk 1 n []))]:=by
  refine ztb rfl fun hs=>?_
  simp -dsimp [zi8,cT]
end Ev
end Go.Proofs.Ytncmainjcffanaa
/- tele: variables; TeleVars. -/
namespace Go.Proofs.Ytncmainjcffanaa
namespace Ev
open Go
attribute [local simp] zah zai tk tn tks
def tV (n:Int):T:=.mk 1 n []
end Ev
end Go.Proofs.Ytncmainjcffanaa
