/- Several texts in one. -/
import Derived.Test.YtncmainjcffanaaGreatX
import Derived.Test.YtncmainjcffanaaGreatEE
set_option maxRecDepth 100000
set_option linter.unusedSimpArgs false
set_option linter.unusedVariables false
open List renaming all_eq_not_any_not→ycj,all_eq_true→yaC,any_eq_false→ycf,append_nil→ybp,findIdx?_eq_none_iff→yci,findIdx?_eq_some_iff_getElem→ycg,foldl_append→ycc,foldl_cons→yck,foldr_cons→ycl,getElem?_eq_getElem→yar,getElem?_eq_none→ybB,getElem?_set→yaM,getElem_map→yco,getElem_mem→yaf,length_append→yaF,length_map→ycn,length_set→ycm,map_cons→yaV,mem_append→yaY,mem_map→ybb,mem_take_iff_getElem→ych,replicate→yaa,replicate_zero→ycp,sum_cons→ybZ,take_add_one→ycb,take_length→yce,take_of_length_le→ycd
open Nat renaming lt_or_ge→ybm
open Bool renaming and_eq_true→ybJ
/- Terms,arguments,sorts,constructors,blocks as data. -/
namespace Go.Proofs.YtncmainjcffanaaGreat
namespace Ev
open Go
inductive T where
  | mk (kind num:Int) (kids:List T)
def T.kind:T→Int | .mk k _ _=>k
def T.num:T→Int | .mk _ n _=>n
def T.kids:T→List T | .mk _ _ ks=>ks
def eT:T→D
  | .mk k n ks=>.agg [.int .i64 k,.int .i64 n,.sl 3 (ks.map eT)]
def cT (t:T):List D:=[.int .i64 t.kind,.int .i64 t.num,.sl 3 (t.kids.map eT)]
theorem za4 (t:T):eT t = .agg (cT t):=by cases t; rw [eT]; rfl
@[simp] theorem zr1 (t:T):(eT t).cells=cT t:=by rw [za4]; rfl
def eTs (l:List T):D:=.sl 3 (l.map eT)
theorem T.ind {p:T→Prop} (h:∀ k n ks,(∀ x ∈ ks,p x)→p (.mk k n ks)):∀ t,p t
  | .mk k n ks=>h k n ks fun x _=>T.ind h x
structure Ar where
  rc:Bool
  ty:T
  dom:List T
  sort:Int
  idx:List T
def cAr (a:Ar):List D:=.bool a.rc :: cT a.ty ++ [eTs a.dom,.int .i64 a.sort,eTs a.idx]
def eAr (a:Ar):D:=.agg (cAr a)
def eArs (l:List Ar):D:=.sl 7 (l.map eAr)
structure So where
  idx:List Ar
  level:Int
  dec:Bool
  dty:T
def cSo (s:So):List D:=[eArs s.idx,.int .i64 s.level,.bool s.dec] ++ cT s.dty
def eSo (s:So):D:=.agg (cSo s)
def eSos (l:List So):D:=.sl 6 (l.map eSo)
structure Co where
  sort:Int
  args:List Ar
  idx:List T
  dec:T
def cCo (c:Co):List D:=[.int .i64 c.sort,eArs c.args,eTs c.idx] ++ cT c.dec
def eCo (c:Co):D:=.agg (cCo c)
def eCos (l:List Co):D:=.sl 6 (l.map eCo)
structure Bl where
  sorts:List So
  cons:List Co
  elim:Int
def cBl (b:Bl):List D:=[eSos b.sorts,eCos b.cons,.int .i64 b.elim]
def eBl (b:Bl):D:=.agg (cBl b)
def w64 (n:Int):Int:=IntKind.i64.wrap n
end Ev
end Go.Proofs.YtncmainjcffanaaGreat
/- Sizes and depths of terms; what is played. -/
namespace Go.Proofs.YtncmainjcffanaaGreat
namespace Ev
open Go
def zhd:T→Int
  | .mk _ _ ks=>(ks.map zhd).foldl (fun a s=>w64 (a+s)) 1
def mx (a b:Int):Int:=if a<b then b else a
def zec:T→Int
  | .mk _ _ ks=>w64 ((ks.map zec).foldl mx 0+1)
theorem zic {t:T} (h:∀ d ∈ [D.agg (cT t)],small 8 d):t.kids.length≤9223372036854775807:=by
  have:=h (D.agg (cT t)) (by simp)
  simp -dsimp [cT,small] at this
  exact this.1
theorem zce {α:Type} {l:List α} {i:Nat} {x:α} (h:l[i]? = some x):l.take (i+1)=l.take i ++ [x]:=by simp -dsimp [ycb,h]
theorem zr3 {α β:Type} (f:β→α→β) (b:β) (l:List α) (i:Nat) (x:α) (h:l[i]? = some x):(l.take (i+1)).foldl f b=f ((l.take i).foldl f b) x:=by
  rw [zce h,ycc]; rfl
theorem zM0 (t:T):Pure Tryz.prog zc9 [.agg (cT t)] [.int .i64 (zhd t)]:=by
  refine T.ind (p:=fun t=>Pure Tryz.prog zc9 [.agg (cT t)] [.int .i64 (zhd t)]) ?_ t
  intro k n ks ih
  refine zuw rfl fun hs=>?_
  have hl:=zic hs
  simp -dsimp [T.kids] at hl
  simp -dsimp [zjj,cT,T.kind,T.num,T.kids]
  refine zah ks.length (fun i st=>st.s 1 = .ptr 1 1 0∧st.h 1=⟨1,.box [.d (.int .i64 k),.d (.int .i64 n),.d (.sl 3 (ks.map eT))] false⟩∧st.s 4 = .d (.int .i64 i)∧st.s 3 = .d (.int .i64 (((ks.map zhd).take i).foldl (fun a s=>w64 (a+s)) 1))) ?_ ?_
  · simp
  · rintro i ⟨s,hp⟩ hi ⟨h1,h2,h3,h4⟩
    dsimp only at h1 h2 h3 h4
    rcases ybm i ks.length with hlt | hge
    · have w1:IntKind.i64.wrap ((i:Int)+1)=(i:Int)+1:=zab (by omega) (by omega)
      simp -dsimp [h1,h2,h3,h4,hlt,cT]
      refine zaa (ih ks[i] (yaf _)) ?_
      have hf:=zr3 (fun a s=>w64 (a+s)) 1 (ks.map zhd) i (zhd ks[i]) (by simp [hlt])
      simp -dsimp [h1,h2,h3,h4,hlt,w1,hf]
      rfl
    · have e:i=ks.length:=by omega
      subst e
      have ht:(ks.map zhd).take ks.length=ks.map zhd:=ycd (by simp)
      simp -dsimp [h1,h2,h3,h4,zhd,ht]
theorem zJc (l:List Int) (i:Nat) (x:Int) (h:l[i]? = some x):(l.take (i+1)).foldl mx 0=mx ((l.take i).foldl mx 0) x:=zr3 _ _ _ _ _ h
theorem zI5 (t:T):Pure Tryz.prog zct [.agg (cT t)] [.int .i64 (zec t)]:=by
  refine T.ind (p:=fun t=>Pure Tryz.prog zct [.agg (cT t)] [.int .i64 (zec t)]) ?_ t
  intro k n ks ih
  refine zs4 rfl fun hs=>?_
  have hl:=zic hs
  simp [T.kids] at hl
  simp -dsimp [zhm,cT,T.kind,T.num,T.kids]
  refine zah ks.length (fun i st=>st.s 1 = .ptr 1 1 0∧st.h 1=⟨1,.box [.d (.int .i64 k),.d (.int .i64 n),.d (.sl 3 (ks.map eT))] false⟩∧st.s 4 = .d (.int .i64 i)∧st.s 3 = .d (.int .i64 (((ks.map zec).take i).foldl mx 0))) ?_ ?_
  · simp -dsimp
  · rintro i ⟨s,hp⟩ hi ⟨h1,h2,h3,h4⟩
    dsimp only at h1 h2 h3 h4
    rcases ybm i ks.length with hlt | hge
    · have w1:IntKind.i64.wrap ((i:Int)+1)=(i:Int)+1:=zab (by omega) (by omega)
      simp -dsimp [h1,h2,h3,h4,hlt,cT]
      refine zaa (ih ks[i] (yaf _)) ?_
      have hf:=zJc (ks.map zec) i (zec ks[i]) (by simp [hlt])
      simp -dsimp [h1,h2,h3,h4,hlt,w1,hf]
      rfl
    · have e:i=ks.length:=by omega
      subst e
      have ht:(ks.map zec).take ks.length=ks.map zec:=ycd (by simp)
      simp -dsimp [h1,h2,h3,h4,zec,ht]
      rfl
def zga (l:List T):Bool:=decide ((60:Int)<(l.length:Int)) || l.any (fun t=>decide (300<zec t)) || decide (9000<(l.map zhd).foldl (fun a s=>w64 (a+s)) 0)
theorem zrm (l:List T):Pure Tryz.prog zbg [eTs l] [.bool (zga l)]:=by
  refine zsw rfl fun hs=>?_
  simp -dsimp [zhj,eTs]
  (first | refine zal ?_ ?_ | refine zam ?_ ?_) <;> intro h1 <;> (try simp only [nrm] at h1) <;> simp -dsimp [h1,zga]
  have hl:l.length≤60:=by omega
  refine zah l.length (fun i st=>st.s 0 = .d (.sl 3 (l.map eT))∧st.s 4 = .d (.int .i64 i)∧st.s 3 = .d (.int .i64 (((l.map zhd).take i).foldl (fun a s=>w64 (a+s)) 0))∧(l.take i).any (fun t=>decide (300<zec t))=false) ?_ ?_
  · simp -dsimp
  · rintro i ⟨s,hp⟩ hi ⟨h2,h3,h4,h5⟩
    dsimp only at h2 h3 h4 h5
    rcases ybm i l.length with hlt | hge
    · have w1:IntKind.i64.wrap ((i:Int)+1)=(i:Int)+1:=zab (by omega) (by omega)
      simp -dsimp [h2,h3,h4,hlt,cT]
      refine zaa (zI5 l[i]) ?_
      simp -dsimp [h2,h3,h4,hlt]
      (first | refine zal ?_ ?_ | refine zam ?_ ?_) <;> intro h6 <;> (try simp only [nrm] at h6) <;> simp -dsimp [h6,zga]
      · exact .inl (.inr ⟨l[i],yaf _,h6⟩)
      · simp -dsimp [h2,h3,h4,hlt,h6,cT]
        refine zaa (zM0 l[i]) ?_
        have hf:=zr3 (fun a s=>w64 (a+s)) 0 (l.map zhd) i (zhd l[i]) (by simp [hlt])
        have h7:(l.take (i+1)).any (fun t=>decide (300<zec t))=false:=by
          rw [zce (yar hlt),List.any_append,h5]
          simp [h6]
        simp -dsimp [h2,h3,h4,hlt,w1,hf]
        exact ⟨rfl,by simpa using h7⟩
    · have e:i=l.length:=by omega
      subst e
      have ht:(l.map zhd).take l.length=l.map zhd:=ycd (by simp)
      simp -dsimp [h2,h3,h4,zga,ht]
      rintro (h | ⟨x,hx,h⟩)
      · exact absurd h h1
      · rw [yce] at h5
        have:=ycf.1 h5 x hx
        simp at this
        omega
end Ev
end Go.Proofs.YtncmainjcffanaaGreat
/- Kinds. -/
namespace Go.Proofs.YtncmainjcffanaaGreat
namespace Ev
open Go
theorem zaf (h:Nat→Ent) (n:Nat) (cs:List D):allD (toD h n) (cs.map .d)=some cs:=by
  induction cs with
  | nil=>rfl
  | cons c cs ih=>simp only [yaV,allD,zDm,ih]
theorem zag (h:Nat→Ent) (cs:List D):sks h (cs.map .d)=[]:=by
  induction cs with
  | nil=>rfl
  | cons c cs ih=>simp only [yaV,sks,sk_d,ih,List.nil_append]
def isM (k:Int):Bool:=decide (1≤k) && decide (k≤13)
theorem is_ok (k:Int):Pure Tryz.prog zAn [.int .i64 k] [.bool (isM k)]:=by
  refine zN2 rfl fun hs=>?_
  simp -dsimp [zz5]
  (first | refine zal ?_ ?_ | refine zam ?_ ?_) <;> intro h1 <;> (try simp only [nrm] at h1) <;> simp -dsimp [h1,isM]
def zf5 (k:Int):Int :=
  if k=1 then 0 else if k=2 then 0 else if k=3 then 0 else if k=9 then 1 else if k=10 then 1 else if k=8 then 3 else if k=11 then 3 else if k=13 then 3 else if isM k then 2 else -1
theorem zVf (k:Int):Pure Tryz.prog zs2 [.int .i64 k] [.int .i64 (zf5 k)]:=by
  refine zHk rfl fun hs=>?_
  simp -dsimp [zsy]
  (first | refine zal ?_ ?_ | refine zam ?_ ?_) <;> intro h1 <;> (try simp only [nrm] at h1) <;> simp -dsimp [h1,zf5]
  (first | refine zal ?_ ?_ | refine zam ?_ ?_) <;> intro h2 <;> (try simp only [nrm] at h2) <;> simp -dsimp [h2,zf5,h1]
  (first | refine zal ?_ ?_ | refine zam ?_ ?_) <;> intro h3 <;> (try simp only [nrm] at h3) <;> simp -dsimp [h3,zf5,h1,h2]
  (first | refine zal ?_ ?_ | refine zam ?_ ?_) <;> intro h4 <;> (try simp only [nrm] at h4) <;> simp -dsimp [h4,zf5,h1,h2,h3]
  (first | refine zal ?_ ?_ | refine zam ?_ ?_) <;> intro h5 <;> (try simp only [nrm] at h5) <;> simp -dsimp [h5,zf5,h1,h2,h3,h4]
  (first | refine zal ?_ ?_ | refine zam ?_ ?_) <;> intro h6 <;> (try simp only [nrm] at h6) <;> simp -dsimp [h6,zf5,h1,h2,h3,h4,h5]
  (first | refine zal ?_ ?_ | refine zam ?_ ?_) <;> intro h7 <;> (try simp only [nrm] at h7) <;> simp -dsimp [h7,zf5,h1,h2,h3,h4,h5,h6]
  (first | refine zal ?_ ?_ | refine zam ?_ ?_) <;> intro h8 <;> (try simp only [nrm] at h8) <;> simp -dsimp [h8,zf5,h1,h2,h3,h4,h5,h6,h7]
  refine zaa (is_ok k) ?_
  simp -dsimp
  (first | refine zal ?_ ?_ | refine zam ?_ ?_) <;> intro h9 <;> (try simp only [nrm] at h9) <;> simp -dsimp [h9,zf5,h1,h2,h3,h4,h5,h6,h7,h8]
def idxI (n:Int) (l:List Int):Int:=match l.findIdx? (fun x=>n == x) with
  | some i=>i
  | none=>-1
theorem zEy (l:List Int) (n:Int):Pure Tryz.prog zih [.sl 1 (l.map (.int .i64)),.int .i64 n] [.int .i64 (idxI n l)]:=by
  refine zvn rfl fun hs=>?_
  have hl:=hs (.sl 1 (l.map (.int .i64))) (by simp)
  simp [small] at hl
  simp -dsimp [zim]
  refine zah l.length (fun i st=>st.s 0 = .d (.sl 1 (l.map (.int .i64)))∧st.s 1 = .d (.int .i64 n)∧st.s 7 = .d (.int .i64 l.length)∧st.s 8 = .d (.int .i64 i) ∧ ∀ x ∈ l.take i,(n == x)=false) ?_ ?_
  · simp -dsimp
  · rintro i ⟨s,hp⟩ hi ⟨h1,h2,h3,h4,h5⟩
    dsimp only at h1 h2 h3 h4 h5
    rcases ybm i l.length with hlt | hge
    · have w1:IntKind.i64.wrap ((i:Int)+1)=(i:Int)+1:=zab (by omega) (by omega)
      simp -dsimp [h1,h2,h3,h4,hlt]
      (first | refine zal ?_ ?_ | refine zam ?_ ?_) <;> intro h6 <;> (try simp only [nrm] at h6) <;> simp -dsimp [h6,h1,h2,h3,h4,hlt,w1]
      · have:l.findIdx? (fun x=>n == x)=some i:=by
          rw [ycg]
          refine ⟨hlt,by simpa using h6,fun j hj=>?_⟩
          have:=h5 l[j] (by rw [ych]; exact ⟨j,by omega,rfl⟩)
          simpa using this
        rw [← h6]
        simp only [idxI,this]
      · intro x hx
        rw [zce (yar hlt),yaY] at hx
        rcases hx with hx | hx
        · simpa using h5 x hx
        · simp at hx; subst hx; exact h6
    · have e:i=l.length:=by omega
      subst e
      rw [yce] at h5
      have:l.findIdx? (fun x=>n == x)=none:=by
        rw [yci]; exact h5
      simp -dsimp [h1,h2,h3,h4,idxI,this]
theorem zA5 (l:List Int) (n:Int):Pure Tryz.prog zf8 [.sl 1 (l.map (.int .i64)),.int .i64 n] [.bool (decide (0≤idxI n l))]:=by
  refine zrg rfl fun hs=>?_
  simp -dsimp [zgj]
  refine zaa (zEy l n) ?_
  simp -dsimp
def zak (k i:Int):Int:=if i=1∧(k=4∨k=5∨k=7) then 1 else 0
theorem zoe (k i:Int):Pure Tryz.prog zf0 [.int .i64 k,.int .i64 i] [.int .i64 (zak k i)]:=by
  refine zFl rfl fun hs=>?_
  simp -dsimp [zpy]
  (first | refine zal ?_ ?_ | refine zam ?_ ?_) <;> intro h1 <;> (try simp only [nrm] at h1) <;> simp -dsimp [h1,zak]
  refine zaa (zA5 [4,5,7] k) ?_
  have hc:decide (0≤idxI k [4,5,7])=decide (k=4∨k=5∨k=7):=by
    simp only [idxI,List.findIdx?_cons,List.findIdx?_nil]
    by_cases h4:k=4
    · simp [h4]
    · by_cases h5:k=5
      · simp [h5]
      · by_cases h7:k=7 <;> simp [h4,h5,h7]
  rw [hc]
  simp -dsimp [h1]
  (first | refine zal ?_ ?_ | refine zam ?_ ?_) <;> intro h2 <;> (try simp only [nrm] at h2) <;> simp -dsimp [h2,zak,h1]
end Ev
end Go.Proofs.YtncmainjcffanaaGreat
/- slices.IndexFunc,slices.ContainsFunc; what a right term is. -/
namespace Go.Proofs.YtncmainjcffanaaGreat
namespace Ev
open Go
attribute [local simp] zaf zag
@[simp] theorem zYq (a:Ar):(eAr a).cells=cAr a:=rfl
@[simp] theorem zXm (a:So):(eSo a).cells=cSo a:=rfl
@[simp] theorem zYr (a:Co):(eCo a).cells=cCo a:=rfl
def idxF {α:Type} (l:List α) (p:α→Bool):Int:=match l.findIdx? p with
  | some i=>i
  | none=>-1
theorem zHu {α:Type} (l:List α) (p:α→Bool):decide (0≤idxF l p)=l.any p:=by
  cases h:l.findIdx? p with
  | none =>
    have h1:=yci.1 h
    have h2:l.any p=false:=by rw [ycf]; intro x hx; simp [h1 x hx]
    have h3:idxF l p = -1:=by simp only [idxF,h]
    rw [h2,h3]; rfl
  | some i =>
    obtain ⟨hi,hp,_⟩:=ycg.1 h
    have h2:l.any p=true:=List.any_eq_true.2 ⟨_,yaf hi,hp⟩
    have h3:idxF l p=(i:Int):=by simp only [idxF,h]
    rw [h2,h3]; simp
theorem zBi (l:List T) (g:FuncId) (caps:List D) (p:T→Bool) (hp:∀ x ∈ l,Pure Tryz.prog g (.agg (cT x) :: caps) [.bool (p x)]) :
    Pure Tryz.prog ze9 [.sl 3 (l.map eT),.clo g caps] [.int .i64 (idxF l p)]:=by
  refine zoq rfl fun hs=>?_
  have hl:=hs (.sl 3 (l.map eT)) (by simp)
  simp [small] at hl
  replace hl:=hl.1
  simp -dsimp [zfd]
  refine zah l.length (fun i st=>st.s 0 = .d (.sl 3 (l.map eT))∧st.s 1 = .d (.clo g caps)∧st.s 7 = .d (.int .i64 l.length)∧st.s 8 = .d (.int .i64 i) ∧ ∀ x ∈ l.take i,p x=false) ?_ ?_
  · simp -dsimp
  · rintro i ⟨s,hp'⟩ hi ⟨h1,h2,h3,h4,h5⟩
    dsimp only at h1 h2 h3 h4 h5
    rcases ybm i l.length with hlt | hge
    · have w1:IntKind.i64.wrap ((i:Int)+1)=(i:Int)+1:=zab (by omega) (by omega)
      have hc:(cT l[i]).length=3:=rfl
      simp -dsimp [h1,h2,h3,h4,hlt,hc]
      have ht:(cT l[i]).take 3=cT l[i]:=ycd (by omega)
      refine zaa (by rw [ht]; exact hp l[i] (yaf _)) ?_
      simp -dsimp [h1,h2,h3,h4,hlt]
      (first | refine zal ?_ ?_ | refine zam ?_ ?_) <;> intro h6 <;> (try simp only [nrm] at h6) <;> simp -dsimp [h6,h1,h2,h3,h4,hlt,w1]
      · have:l.findIdx? p=some i:=by
          rw [ycg]
          refine ⟨hlt,h6,fun j hj=>?_⟩
          have:=h5 l[j] (by rw [ych]; exact ⟨j,by omega,rfl⟩)
          simpa using this
        simp only [idxF,this]
      · intro x hx
        rw [zce (yar hlt),yaY] at hx
        rcases hx with hx | hx
        · simpa using h5 x hx
        · simp at hx; subst hx; exact h6
    · have e:i=l.length:=by omega
      subst e
      rw [yce] at h5
      have:l.findIdx? p=none:=by
        rw [yci]; exact h5
      simp -dsimp [h1,h2,h3,h4,idxF,this]
theorem zgx (l:List T) (g:FuncId) (caps:List D) (p:T→Bool) (hp:∀ x ∈ l,Pure Tryz.prog g (.agg (cT x) :: caps) [.bool (p x)]) :
    Pure Tryz.prog zbw [.sl 3 (l.map eT),.clo g caps] [.bool (l.any p)]:=by
  refine zml rfl fun hs=>?_
  simp -dsimp [zd2]
  refine zaa (zBi l g caps p hp) ?_
  simp -dsimp [zHu]
end Ev
end Go.Proofs.YtncmainjcffanaaGreat
/- term: sizes,right terms,scopes. -/
namespace Go.Proofs.YtncmainjcffanaaGreat
namespace Ev
open Go
attribute [local simp] zaf zag
theorem zI3 (t:T):Pure Tryz.prog zjo [.agg (cT t)] [.int .i64 (zhd t)]:=by
  refine T.ind (p:=fun t=>Pure Tryz.prog zjo [.agg (cT t)] [.int .i64 (zhd t)]) ?_ t
  intro k n ks ih
  refine zH0 rfl fun hs=>?_
  have hl:=zic hs
  simp [T.kids] at hl
  simp -dsimp [zst,cT,T.kind,T.num,T.kids]
  refine zah ks.length (fun i st=>st.s 7 = .d (.sl 3 (ks.map eT))∧st.s 8 = .d (.int .i64 ks.length)∧st.s 9 = .d (.int .i64 i)∧st.s 3 = .d (.int .i64 (((ks.map zhd).take i).foldl (fun a s=>w64 (a+s)) 1))) ?_ ?_
  · simp -dsimp
  · rintro i ⟨s,hp⟩ hi ⟨h1,h2,h3,h4⟩
    dsimp only at h1 h2 h3 h4
    rcases ybm i ks.length with hlt | hge
    · have w1:IntKind.i64.wrap ((i:Int)+1)=(i:Int)+1:=zab (by omega) (by omega)
      simp -dsimp [h1,h2,h3,h4,hlt,cT]
      refine zaa (ih ks[i] (yaf _)) ?_
      have hf:=zr3 (fun a s=>w64 (a+s)) 1 (ks.map zhd) i (zhd ks[i]) (by simp [hlt])
      simp -dsimp [h1,h2,h3,h4,hlt,w1,hf]
      rfl
    · have e:i=ks.length:=by omega
      subst e
      have ht:(ks.map zhd).take ks.length=ks.map zhd:=ycd (by simp)
      simp -dsimp [h1,h2,h3,h4,zhd,ht]
theorem zFe (t:T):Pure Tryz.prog zh9 [.agg (cT t)] [.int .i64 (zec t)]:=by
  refine T.ind (p:=fun t=>Pure Tryz.prog zh9 [.agg (cT t)] [.int .i64 (zec t)]) ?_ t
  intro k n ks ih
  refine zGr rfl fun hs=>?_
  have hl:=zic hs
  simp [T.kids] at hl
  simp -dsimp [zrc,cT,T.kind,T.num,T.kids]
  refine zah ks.length (fun i st=>st.s 7 = .d (.sl 3 (ks.map eT))∧st.s 8 = .d (.int .i64 ks.length)∧st.s 9 = .d (.int .i64 i)∧st.s 3 = .d (.int .i64 (((ks.map zec).take i).foldl mx 0))) ?_ ?_
  · simp -dsimp
  · rintro i ⟨s,hp⟩ hi ⟨h1,h2,h3,h4⟩
    dsimp only at h1 h2 h3 h4
    rcases ybm i ks.length with hlt | hge
    · have w1:IntKind.i64.wrap ((i:Int)+1)=(i:Int)+1:=zab (by omega) (by omega)
      simp -dsimp [h1,h2,h3,h4,hlt,cT]
      refine zaa (ih ks[i] (yaf _)) ?_
      have hf:=zJc (ks.map zec) i (zec ks[i]) (by simp [hlt])
      simp -dsimp [h1,h2,h3,h4,hlt,w1,hf]
      rfl
    · have e:i=ks.length:=by omega
      subst e
      have ht:(ks.map zec).take ks.length=ks.map zec:=ycd (by simp)
      simp -dsimp [h1,h2,h3,h4,zec,ht]
      rfl
def zac:T→Bool
  | .mk k n ks=>if zf5 k<0 then false else if (ks.length:Int)=zf5 k then if n<0 then false else if 65535<n then false else if 0<zf5 k∧n ≠ 0 then false else (ks.map zac).all id else false
theorem zB8 (t:T) (h:Pure Tryz.prog zgq [.agg (cT t)] [.bool (zac t)]):Pure Tryz.prog zgb [.agg (cT t)] [.bool (!zac t)]:=by
  refine zAf rfl fun hs=>?_
  simp -dsimp [zmh,cT]
  refine zaa h ?_
  simp -dsimp
theorem zOd (t:T):Pure Tryz.prog zgq [.agg (cT t)] [.bool (zac t)]:=by
  refine T.ind (p:=fun t=>Pure Tryz.prog zgq [.agg (cT t)] [.bool (zac t)]) ?_ t
  intro k n ks ih
  refine zEq rfl fun hs=>?_
  simp -dsimp [zn0,cT,T.kind,T.num,T.kids]
  refine zaa (zVf k) ?_
  simp -dsimp
  (first | refine zal ?_ ?_ | refine zam ?_ ?_) <;> intro h1 <;> (try simp only [nrm] at h1) <;> simp -dsimp [h1,zac]
  (first | refine zal ?_ ?_ | refine zam ?_ ?_) <;> intro h2 <;> (try simp only [nrm] at h2) <;> simp -dsimp [h2,zac,h1]
  (first | refine zal ?_ ?_ | refine zam ?_ ?_) <;> intro h3 <;> (try simp only [nrm] at h3) <;> simp -dsimp [h3,zac,h1,h2]
  (first | refine zal ?_ ?_ | refine zam ?_ ?_) <;> intro h4 <;> (try simp only [nrm] at h4) <;> simp -dsimp [h4,zac,h1,h2,h3]
  (first | refine zal ?_ ?_ | refine zam ?_ ?_) <;> intro h5 <;> (try simp only [nrm] at h5) <;> simp -dsimp [h5,zac,h1,h2,h3,h4]
  · (first | refine zal ?_ ?_ | refine zam ?_ ?_) <;> intro h6 <;> (try simp only [nrm] at h6) <;> simp -dsimp [h6,zac,h1,h2,h3,h4,h5]
    refine zaa (zgx ks zgb [] (fun t=>!zac t) (fun x hx=>zB8 x (ih x hx))) ?_
    have hf:zac (.mk k 0 ks) = !(ks.any fun t=>!zac t):=by
      rw [zac,if_neg h1,if_pos h2]
      simp [ycj,Function.comp_def]
    subst h6
    simp -dsimp [hf]
  · refine zaa (zgx ks zgb [] (fun t=>!zac t) (fun x hx=>zB8 x (ih x hx))) ?_
    have hf:zac (.mk k n ks) = !(ks.any fun t=>!zac t):=by
      rw [zac,if_neg h1,if_pos h2,if_neg h3,if_neg h4,if_neg (fun h=>h5 h.1)]
      simp [ycj,Function.comp_def]
    simp -dsimp [hf]
def za0 (t:T):Int:=if 6000<zhd t then 4 else if 200<zec t then 5 else if zac t then 0 else 1
theorem zug (t:T):Pure Tryz.prog zgd [.agg (cT t)] [.int .i64 (za0 t)]:=by
  refine zFw rfl fun hs=>?_
  simp -dsimp [zqa,cT]
  refine zaa (zI3 t) ?_
  simp -dsimp
  (first | refine zal ?_ ?_ | refine zam ?_ ?_) <;> intro h1 <;> (try simp only [nrm] at h1) <;> simp -dsimp [h1,za0]
  refine zaa (zFe t) ?_
  simp -dsimp
  (first | refine zal ?_ ?_ | refine zam ?_ ?_) <;> intro h2 <;> (try simp only [nrm] at h2) <;> simp -dsimp [h2,za0,h1]
  refine zaa (zOd t) ?_
  simp -dsimp
  (first | refine zal ?_ ?_ | refine zam ?_ ?_) <;> intro h3 <;> (try simp only [nrm] at h3) <;> simp -dsimp [h3,za0,h1,h2]
mutual
def zde:T→Int→Int→Bool
  | .mk k n ks,v,c=>if k=1 then decide (n<v) else if k=2 then decide (n≤6) else if k=3 then decide (n<c) else ziq k v c 0 ks
def ziq (k v c:Int):Nat→List T→Bool
  | _,[]=>true
  | i,x :: xs=>zde x (w64 (v+zak k i)) c && ziq k v c (i+1) xs
end
theorem zl1 (k v c:Int):∀ (l:List T) (i:Nat),ziq k v c i l=true ↔ ∀ (j:Nat) (hj:j<l.length),zde l[j] (w64 (v+zak k (i+j:Nat))) c=true
  | [],i=>by simp [ziq]
  | x :: xs,i=>by
    rw [ziq,ybJ,zl1 k v c xs (i+1)]
    constructor
    · rintro ⟨h1,h2⟩ j hj
      cases j with
      | zero=>simpa using h1
      | succ j =>
        have:=h2 j (by simpa using hj)
        have e:i+1+j=i+(j+1):=by omega
        rw [e] at this
        simpa using this
    · intro h
      refine ⟨h 0 (by simp),fun j hj=>?_⟩
      have:=h (j+1) (by simpa using hj)
      have e:i+1+j=i+(j+1):=by omega
      rw [e]
      simpa using this
theorem zOf (t:T):∀ v c:Int,Pure Tryz.prog ziz [.agg (cT t),.int .i64 v,.int .i64 c] [.bool (zde t v c)]:=by
  refine T.ind (p:=fun t=>∀ v c:Int,Pure Tryz.prog ziz [.agg (cT t),.int .i64 v,.int .i64 c] [.bool (zde t v c)]) ?_ t
  intro k n ks ih v c
  refine zEo rfl fun hs=>?_
  have hl:=zic (t:=.mk k n ks) (fun d hd=>hs d (by simp at hd; simp [hd]))
  simp [T.kids] at hl
  simp -dsimp [zpg,cT,T.kind,T.num,T.kids]
  (first | refine zal ?_ ?_ | refine zam ?_ ?_) <;> intro h1 <;> (try simp only [nrm] at h1) <;> simp -dsimp [h1,zde]
  (first | refine zal ?_ ?_ | refine zam ?_ ?_) <;> intro h2 <;> (try simp only [nrm] at h2) <;> simp -dsimp [h2,zde,h1]
  (first | refine zal ?_ ?_ | refine zam ?_ ?_) <;> intro h3 <;> (try simp only [nrm] at h3) <;> simp -dsimp [h3,zde,h1,h2]
  have hw:zde (.mk k n ks) v c=ziq k v c 0 ks:=by rw [zde,if_neg h1,if_neg h2,if_neg h3]
  rw [hw]
  refine zah ks.length (fun i st=>st.s 3 = .ptr 3 1 0∧st.h 3=⟨1,.box [.d (.int .i64 k),.d (.int .i64 n),.d (.sl 3 (ks.map eT))] false⟩∧st.s 1 = .d (.int .i64 v)∧st.s 2 = .d (.int .i64 c) ∧
    st.s 29 = .d (.sl 3 (ks.map eT))∧st.s 30 = .d (.int .i64 ks.length)∧st.s 31 = .d (.int .i64 i) ∧ ∀ (j:Nat) (hj:j<ks.length),j<i→zde ks[j] (w64 (v+zak k j)) c=true) ?_ ?_
  · simp -dsimp
  · rintro i ⟨s,hp⟩ hi ⟨g1,g2,g3,g4,g5,g6,g7,g8⟩
    dsimp only at g1 g2 g3 g4 g5 g6 g7
    rcases ybm i ks.length with hlt | hge
    · have w1:IntKind.i64.wrap ((i:Int)+1)=(i:Int)+1:=zab (by omega) (by omega)
      simp -dsimp [g1,g2,g3,g4,g5,g6,g7,hlt,cT]
      refine zaa (zoe k i) ?_
      simp -dsimp [g1,g2,g3,g4,g5,g6,g7,hlt]
      refine zaa (ih ks[i] (yaf _) (w64 (v+zak k i)) c) ?_
      simp -dsimp [g1,g2,g3,g4,g5,g6,g7,hlt]
      (first | refine zal ?_ ?_ | refine zam ?_ ?_) <;> intro h4 <;> (try simp only [nrm] at h4) <;> simp -dsimp [h4,g1,g2,g3,g4,g5,g6,g7,hlt,w1]
      · cases hw:ziq k v c 0 ks with
        | false=>rfl
        | true =>
          have:=(zl1 k v c ks 0).1 hw i hlt
          rw [Nat.zero_add,h4] at this
          cases this
      · intro j hj hji
        rcases ybm j i with h | h
        · exact g8 j hj h
        · have:j=i:=by omega
          subst this
          exact h4
    · have e:i=ks.length:=by omega
      subst e
      have:ziq k v c 0 ks=true:=(zl1 k v c ks 0).2 fun j hj=>by simpa using g8 j hj hj
      simp -dsimp [g1,g2,g3,g4,g5,g6,g7,this]
def zni (t:T) (v c:Int):Bool:=if v<0 then false else if c<0 then false else if za0 t=0 then zde t (if 65536<v then 65536 else v) c else false
theorem zR1 (t:T) (v c:Int):Pure Tryz.prog zpx [.agg (cT t),.int .i64 v,.int .i64 c] [.bool (zni t v c)]:=by
  refine zEx rfl fun hs=>?_
  simp -dsimp [zra,cT]
  (first | refine zal ?_ ?_ | refine zam ?_ ?_) <;> intro h1 <;> (try simp only [nrm] at h1) <;> simp -dsimp [h1,zni]
  · (first | refine zal ?_ ?_ | refine zam ?_ ?_) <;> intro h2 <;> (try simp only [nrm] at h2) <;> simp -dsimp [h2,zni,h1]
    · refine zaa (zug t) ?_
      simp -dsimp [h1,h2]
      (first | refine zal ?_ ?_ | refine zam ?_ ?_) <;> intro h3 <;> (try simp only [nrm] at h3) <;> simp -dsimp [h3,zni,h1,h2]
      · refine zaa (zOf t _ _) ?_
        have hS:zni t v c=zde t (if 65536<v then 65536 else v) c:=by rw [zni,if_neg (by omega),if_neg (by omega),if_pos h3]
        rw [hS]
        simp -dsimp [h3]
end Ev
end Go.Proofs.YtncmainjcffanaaGreat
/- What comes in by type: numbers,terms,and how long their rows may be. -/
namespace Go.Proofs.YtncmainjcffanaaGreat
namespace Ev
open Go
theorem zBx:Tryz.prog.cellsOf 28=3:=by kernel_rfl
theorem zHh:Tryz.prog.cellsOf 26=1:=by kernel_rfl
theorem zOp:Tryz.prog.cellsOf 3=1:=by kernel_rfl
theorem zSy:Tryz.prog.cellsOf 4=1:=by kernel_rfl
theorem zTj:Tryz.prog.bytesOf 28=40:=by kernel_rfl
def n64 (n:Int):Prop:=-9223372036854775808≤n∧n<9223372036854775808
inductive okT:T→Prop
  | mk (k n:Int) (ks:List T) (hk:n64 k) (hn:n64 n) (hl:ks.length*40≤140737488351232) (h:∀ x ∈ ks,okT x):okT (.mk k n ks)
def okTs (l:List T):Prop:=l.length*40≤140737488351232 ∧ ∀ x ∈ l,okT x
theorem okT.kids {k n:Int} {ks:List T} (h:okT (.mk k n ks)):okTs ks:=by
  cases h with
  | mk _ _ _ _ _ hl h=>exact ⟨hl,h⟩
theorem zBn {α:Type} {f:α→D} {q:α→Prop}:∀ {xs:List D},(∀ x ∈ xs,∃ a,q a∧x=f a) → ∃ l:List α,xs=l.map f ∧ ∀ a ∈ l,q a
  | [],_=>⟨[],rfl,by simp⟩
  | x :: xs,h=>by
    obtain ⟨a,ha,rfl⟩:=h x (List.mem_cons_self ..)
    obtain ⟨l,rfl,hl⟩:=zBn (xs:=xs) fun y hy=>h y (List.mem_cons_of_mem _ hy)
    exact ⟨a :: l,rfl,by simpa using ⟨ha,hl⟩⟩
theorem zS3:∀ {x:D},x.isAgg=true→x = .agg x.cells:=by
  intro x h
  cases x <;> first | rfl | cases h
theorem len3 {xs:List D} (h:xs.length=3):∃ a b c,xs=[a,b,c]:=by
  match xs,h with
  | [a,b,c],_=>exact ⟨a,b,c,rfl⟩
theorem wf64 {i:Int} (hw:(Lit.int .i64 i).wf=true):n64 i:=by
  obtain ⟨u,v⟩:IntKind.i64.min≤i∧i≤IntKind.i64.max:=by simpa [Lit.wf] using hw
  have e1:IntKind.i64.min = -9223372036854775808:=by decide
  have e2:IntKind.i64.max=9223372036854775807:=by decide
  exact ⟨by omega,by omega⟩
theorem zty {n:Nat} {cs:List D} (h:typ Tryz.prog n 3 cs):∃ i,cs=[.int .i64 i]∧n64 i:=by
  cases n with
  | zero=>exact h.elim
  | succ n =>
    simp only [typ,Tryz.underlying3] at h
    obtain ⟨i,hi,hw⟩:=h
    exact ⟨i,hi,wf64 hw⟩
theorem zI6 {n:Nat} {cs:List D} (h:typ Tryz.prog n 4 cs):∃ b,cs=[.bool b]:=by
  cases n with
  | zero=>exact h.elim
  | succ n=>simp only [typ,Tryz.underlying4] at h; exact h
theorem zN7:zbh Tryz.prog 28=true:=by simp only [zbh,Tryz.underlying28]
theorem zqg {e t:TypeId} {k y:Nat} {n:Nat} {cs:List D} (hu:Tryz.prog.underlying t=some (.slice e)) (hc:Tryz.prog.cellsOf e=k) (hy:Tryz.prog.bytesOf e=y) (hs:zbh Tryz.prog e=true) (h:typ Tryz.prog n t cs) :
    ∃ (m:Nat) (xs:List D),n=m+1∧cs=[.sl k xs]∧xs.length*y≤140737488351232 ∧ ∀ x ∈ xs,typ Tryz.prog m e x.cells∧x = .agg x.cells:=by
  cases n with
  | zero=>exact h.elim
  | succ n =>
    simp only [typ,hu] at h
    obtain ⟨xs,rfl,_,hl,hx⟩:=h
    exact ⟨n,xs,rfl,by rw [hc],by rw [hy] at hl; exact hl,fun x hxx=>⟨(hx x hxx).1,zS3 (by rw [(hx x hxx).2,hs])⟩⟩
theorem zys (n:Nat):∀ {cs:List D},typ Tryz.prog n 28 cs → ∃ t:T,cs=cT t∧okT t:=by
  induction n using Nat.strongRecOn with
  | ind n ih =>
    intro cs h
    cases n with
    | zero=>exact h.elim
    | succ n =>
    simp only [typ,Tryz.underlying28,zBx,zOp,zHh,List.forall_mem_cons] at h
    obtain ⟨hl,h1,h2,h3,_⟩:=h
    obtain ⟨a,b,c,rfl⟩:=len3 hl
    obtain ⟨i,hi,wi⟩:=zty h1
    obtain ⟨j,hj,wj⟩:=zty h2
    obtain ⟨m,xs,rfl,hc,hb,hx⟩:=zqg Tryz.underlying26 zBx zTj zN7 h3
    simp at hi hj hc
    subst hi hj hc
    obtain ⟨ks,rfl,hks⟩:∃ l:List T,xs=l.map eT ∧ ∀ a ∈ l,okT a:=zBn fun x hxx=>by
      obtain ⟨h4,h5⟩:=hx x hxx
      obtain ⟨t,ht,hq⟩:=ih m (by omega) h4
      exact ⟨t,hq,by rw [h5,ht,za4]⟩
    exact ⟨.mk i j ks,rfl,.mk i j ks wi wj (by simpa using hb) hks⟩
theorem zy3 {n:Nat} {cs:List D} (h:typ Tryz.prog n 26 cs):∃ l:List T,cs=[eTs l]∧okTs l:=by
  obtain ⟨m,xs,rfl,hc,hb,hx⟩:=zqg Tryz.underlying26 zBx zTj zN7 h
  obtain ⟨ks,rfl,hks⟩:∃ l:List T,xs=l.map eT ∧ ∀ a ∈ l,okT a:=zBn fun x hxx=>by
    obtain ⟨h4,h5⟩:=hx x hxx
    obtain ⟨t,ht,hq⟩:=zys m h4
    exact ⟨t,hq,by rw [h5,ht,za4]⟩
  exact ⟨ks,hc,by simpa using hb,hks⟩
theorem zTn {x:D} (h:x.isAgg=false):x.cells=[x]:=by
  cases x <;> first | rfl | cases h
theorem zNk {x:D} (h:TypD Tryz.prog 3 x):∃ i,x = .int .i64 i∧n64 i:=by
  obtain ⟨⟨n,h1⟩,h2⟩:=h
  obtain ⟨i,hi,hw⟩:=zty h1
  have h3:zbh Tryz.prog 3=false:=by simp only [zbh,Tryz.underlying3]
  rw [zTn (h2.trans h3)] at hi
  exact ⟨i,by simpa using hi,hw⟩
end Ev
end Go.Proofs.YtncmainjcffanaaGreat
/- Twins are what they are twins of. -/
namespace Go.Proofs.YtncmainjcffanaaGreat
namespace Ev
open Go
attribute [local simp] zaf zag
theorem zkk {α:Type} (f:α→D) (g:α→List D) (hg:∀ a,f a = .agg (g a)) (l:List α) (i:Nat) (h:i<l.length):(l.map f).take i ++ [.agg (g l[i])]=(l.map f).take (i+1):=by
  rw [ycb,yar (by simpa using h)]
  simp [hg]
theorem zKf (l:List T) (hl:l.length*40≤140737488351232) (h:∀ x ∈ l,Pure Tryz.prog zas [.agg (cT x)] [.agg (cT x)]):Pure Tryz.prog zbd [eTs l] [eTs l]:=by
  refine zur rfl fun hs=>?_
  simp -dsimp [zef,eTs]
  refine zah l.length (fun i st=>st.s 0 = .d (.sl 3 (l.map eT))∧st.s 4 = .d (.int .i64 i) ∧ ∃ v,st.s 3 = .rsl 3 v∧st.h 3=⟨v,.row 3 ((l.map eT).take i) false⟩) ?_ ?_
  · simp -dsimp
  · rintro i ⟨s,hp⟩ hi ⟨g1,g2,v,g3,g4⟩
    dsimp only at g1 g2 g3 g4
    rcases ybm i l.length with hlt | hge
    · have w1:IntKind.i64.wrap ((i:Int)+1)=(i:Int)+1:=zab (by omega) (by omega)
      simp -dsimp [g1,g2,g3,g4,hlt,cT]
      refine zaa (h l[i] (yaf _)) ?_
      have hr:(min i l.length+1)*40≤zad:=by simp only [zad]; omega
      have hn:=zkk eT cT za4 l i hlt
      simp only [cT] at hn
      simp -dsimp [g1,g2,g3,g4,hlt,cT,hr,hn,w1]
    · have e:i=l.length:=by omega
      subst e
      simp -dsimp [g1,g2,g3,g4]
      exact ycd (by simp)
theorem zir (t:T):okT t→Pure Tryz.prog zas [.agg (cT t)] [.agg (cT t)]:=by
  refine T.ind (p:=fun t=>okT t→Pure Tryz.prog zas [.agg (cT t)] [.agg (cT t)]) ?_ t
  intro k n ks ih h
  obtain ⟨h1,h2⟩:=h.kids
  refine zxa rfl fun hs=>?_
  simp -dsimp [zkd,cT,T.kind,T.num,T.kids]
  refine zaa (zKf ks h1 fun x hx=>ih x hx (h2 x hx)) ?_
  simp -dsimp [eTs]
theorem zDr (l:List T) (h:okTs l):Pure Tryz.prog zbd [eTs l] [eTs l]:=zKf l h.1 fun x hx=>zir x (h.2 x hx)
end Ev
end Go.Proofs.YtncmainjcffanaaGreat
/- What is compared with itself is alike. -/
namespace Go.Proofs.YtncmainjcffanaaGreat
namespace Ev
open Go
attribute [local simp] zaf zag
theorem zxf (l:List T) (h:∀ x ∈ l,Pure Tryz.prog zbl [.agg (cT x),.agg (cT x)] [.bool true]):Pure Tryz.prog zcg [eTs l,eTs l] [.bool true]:=by
  refine zu6 rfl fun hs=>?_
  have hl:=hs (eTs l) (by simp)
  simp [eTs,small] at hl
  replace hl:=hl.1
  simp -dsimp [zi5,eTs]
  refine zah l.length (fun i st=>st.s 0 = .d (.sl 3 (l.map eT))∧st.s 1 = .d (.sl 3 (l.map eT))∧st.s 5 = .d (.int .i64 i)) ?_ ?_
  · simp -dsimp
  · rintro i ⟨s,hp⟩ hi ⟨g1,g2,g3⟩
    dsimp only at g1 g2 g3
    rcases ybm i l.length with hlt | hge
    · have w1:IntKind.i64.wrap ((i:Int)+1)=(i:Int)+1:=zab (by omega) (by omega)
      simp -dsimp [g1,g2,g3,hlt,cT,eAr,cAr,eTs]
      refine zaa (h l[i] (yaf _)) ?_
      simp -dsimp [g1,g2,g3,hlt,w1]
    · have e:i=l.length:=by omega
      subst e
      simp -dsimp [g1,g2,g3]
theorem zjp (t:T):Pure Tryz.prog zbl [.agg (cT t),.agg (cT t)] [.bool true]:=by
  refine T.ind (p:=fun t=>Pure Tryz.prog zbl [.agg (cT t),.agg (cT t)] [.bool true]) ?_ t
  intro k n ks ih
  refine zwg rfl fun hs=>?_
  simp -dsimp [zju,cT,T.kind,T.num,T.kids]
  refine zaa (zxf ks ih) ?_
  simp -dsimp
theorem zq3 (l:List T):Pure Tryz.prog zcg [eTs l,eTs l] [.bool true]:=zxf l fun x _=>zjp x
end Ev
end Go.Proofs.YtncmainjcffanaaGreat
/- The document's answers: right terms,scopes. -/
namespace Go.Proofs.YtncmainjcffanaaGreat
namespace Ev
open Go
attribute [local simp] zaf zag
def inB (n lo hi:Int):Bool:=decide (lo≤n) && decide (n≤hi)
theorem zeu (n lo hi:Int):inB n lo hi=true ↔ lo≤n∧n≤hi:=by simp [inB]
theorem zis (n lo hi:Int):inB n lo hi=false ↔ ¬(lo≤n∧n≤hi):=by rw [← zeu]; simp
theorem zZf (n lo hi:Int):Pure Tryz.prog zk8 [.int .i64 n,.int .i64 lo,.int .i64 hi] [.bool (inB n lo hi)]:=by
  refine zxu rfl fun hs=>?_
  simp -dsimp [zla,inB]
  (first | refine zal ?_ ?_ | refine zam ?_ ?_) <;> intro h1 <;> (try simp only [nrm] at h1) <;> simp -dsimp [h1]
theorem zRi (k:Int):Pure Tryz.prog zik [.int .i64 k] [.int .i64 (zf5 k)]:=by
  refine zt7 rfl fun hs=>?_
  have e:zf5 k=if k=1 then 0 else if k=2 then 0 else if k=3 then 0 else if k=9 then 1 else if k=10 then 1 else if k=4 then 2 else if k=5 then 2 else if k=6 then 2 else if k=7 then 2 else if k=12 then 2 else if k=8 then 3 else if k=11 then 3 else if k=13 then 3 else -1:=by
    simp only [zf5,isM,ybJ,decide_eq_true_eq]
    repeat' split
    all_goals omega
  rw [e]
  simp -dsimp [zi9]
  (first | refine zal ?_ ?_ | refine zam ?_ ?_) <;> intro h1 <;> (try simp only [nrm] at h1) <;> simp -dsimp [h1]
  (first | refine zal ?_ ?_ | refine zam ?_ ?_) <;> intro h2 <;> (try simp only [nrm] at h2) <;> simp -dsimp [h2,h1]
  (first | refine zal ?_ ?_ | refine zam ?_ ?_) <;> intro h3 <;> (try simp only [nrm] at h3) <;> simp -dsimp [h3,h1,h2]
  (first | refine zal ?_ ?_ | refine zam ?_ ?_) <;> intro h4 <;> (try simp only [nrm] at h4) <;> simp -dsimp [h4,h1,h2,h3]
  (first | refine zal ?_ ?_ | refine zam ?_ ?_) <;> intro h5 <;> (try simp only [nrm] at h5) <;> simp -dsimp [h5,h1,h2,h3,h4]
  (first | refine zal ?_ ?_ | refine zam ?_ ?_) <;> intro h6 <;> (try simp only [nrm] at h6) <;> simp -dsimp [h6,h1,h2,h3,h4,h5]
  (first | refine zal ?_ ?_ | refine zam ?_ ?_) <;> intro h7 <;> (try simp only [nrm] at h7) <;> simp -dsimp [h7,h1,h2,h3,h4,h5,h6]
  (first | refine zal ?_ ?_ | refine zam ?_ ?_) <;> intro h8 <;> (try simp only [nrm] at h8) <;> simp -dsimp [h8,h1,h2,h3,h4,h5,h6,h7]
  (first | refine zal ?_ ?_ | refine zam ?_ ?_) <;> intro h9 <;> (try simp only [nrm] at h9) <;> simp -dsimp [h9,h1,h2,h3,h4,h5,h6,h7,h8]
  (first | refine zal ?_ ?_ | refine zam ?_ ?_) <;> intro h10 <;> (try simp only [nrm] at h10) <;> simp -dsimp [h10,h1,h2,h3,h4,h5,h6,h7,h8,h9]
  (first | refine zal ?_ ?_ | refine zam ?_ ?_) <;> intro h11 <;> (try simp only [nrm] at h11) <;> simp -dsimp [h11,h1,h2,h3,h4,h5,h6,h7,h8,h9,h10]
  (first | refine zal ?_ ?_ | refine zam ?_ ?_) <;> intro h12 <;> (try simp only [nrm] at h12) <;> simp -dsimp [h12,h1,h2,h3,h4,h5,h6,h7,h8,h9,h10,h11]
  (first | refine zal ?_ ?_ | refine zam ?_ ?_) <;> intro h13 <;> (try simp only [nrm] at h13) <;> simp -dsimp [h13,h1,h2,h3,h4,h5,h6,h7,h8,h9,h10,h11,h12]
theorem zus (k i:Int):Pure Tryz.prog zb4 [.int .i64 k,.int .i64 i] [.int .i64 (zak k i)]:=by
  refine zto rfl fun hs=>?_
  simp -dsimp [zhp]
  (first | refine zal ?_ ?_ | refine zam ?_ ?_) <;> intro h1 <;> (try simp only [nrm] at h1) <;> simp -dsimp [h1,zak]
  (first | refine zal ?_ ?_ | refine zam ?_ ?_) <;> intro g1 <;> (try simp only [nrm] at g1) <;> simp -dsimp [g1,zak,h1]
  (first | refine zal ?_ ?_ | refine zam ?_ ?_) <;> intro g2 <;> (try simp only [nrm] at g2) <;> simp -dsimp [g2,zak,h1,g1]
  (first | refine zal ?_ ?_ | refine zam ?_ ?_) <;> intro g3 <;> (try simp only [nrm] at g3) <;> simp -dsimp [g3,zak,h1,g1,g2]
theorem zbf (k n:Int) (ks:List T):zac (.mk k n ks)=if (ks.length:Int)=zf5 k then if zf5 k=0 then inB n 0 65535 && ks.all zac else if n=0 then ks.all zac else false else false:=by
  rw [zac]
  have ha:(ks.map zac).all id=ks.all zac:=by rw [List.all_map]; rfl
  rw [ha]
  by_cases h1:(ks.length:Int)=zf5 k
  · rw [if_neg (by omega),if_pos h1,if_pos h1]
    by_cases h0:zf5 k=0
    · rw [if_pos h0]
      by_cases h2:n<0
      · rw [if_pos h2,(zis n 0 65535).2 (by omega)]; rfl
      · rw [if_neg h2]
        by_cases h3:65535<n
        · rw [if_pos h3,(zis n 0 65535).2 (by omega)]; rfl
        · rw [if_neg h3,if_neg (by omega),(zeu n 0 65535).2 (by omega)]; rfl
    · rw [if_neg h0]
      by_cases h2:n=0
      · rw [if_neg (by omega),if_neg (by omega),if_neg (by omega),if_pos h2]
      · rw [if_neg h2]
        by_cases h3:n<0
        · rw [if_pos h3]
        · rw [if_neg h3]
          by_cases h4:65535<n
          · rw [if_pos h4]
          · rw [if_neg h4,if_pos ⟨by omega,h2⟩]
  · rw [if_neg h1,if_neg h1]
    split <;> rfl
theorem zym {α:Type} {p:α→Bool} {l:List α} (h:∀ (j:Nat) (hj:j<l.length),j<l.length→p l[j]=true):l.all p=true:=by
  rw [yaC]
  intro x hx
  obtain ⟨j,hj,rfl⟩:=List.mem_iff_getElem.1 hx
  exact h j hj hj
theorem zPs {α:Type} {p:α→Bool} {l:List α} {i:Nat} (hi:i<l.length) (h:p l[i]=false):l.all p=false:=by
  cases hq:l.all p with
  | false=>rfl
  | true =>
    have:=yaC.1 hq l[i] (yaf _)
    rw [h] at this
    cases this
theorem zp1 {α:Type} {p:α→Bool} {l:List α} {i:Nat} (hi:i<l.length) (h:∀ (j:Nat) (hj:j<l.length),j<i→p l[j]=true) (hx:p l[i]=true) :
    ∀ (j:Nat) (hj:j<l.length),j<i+1→p l[j]=true:=by
  intro j hj hji
  rcases ybm j i with h' | h'
  · exact h j hj h'
  · have:j=i:=by omega
    subst this
    exact hx
theorem zK9 (t:T):Pure Tryz.prog zdg [.agg (cT t)] [.bool (zac t)]:=by
  refine T.ind (p:=fun t=>Pure Tryz.prog zdg [.agg (cT t)] [.bool (zac t)]) ?_ t
  intro k n ks ih
  refine zr7 rfl fun hs=>?_
  have hl:=zic hs
  simp [T.kids] at hl
  simp -dsimp [zg2,cT,T.kind,T.num,T.kids]
  refine zaa (zRi k) ?_
  simp -dsimp
  (first | refine zal ?_ ?_ | refine zam ?_ ?_) <;> intro h1 <;> (try simp only [nrm] at h1) <;> simp -dsimp [h1,zbf]
  (first | refine zal ?_ ?_ | refine zam ?_ ?_) <;> intro h2 <;> (try simp only [nrm] at h2) <;> simp -dsimp [h2,zbf,h1]
  · refine zaa (zZf n 0 65535) ?_
    simp -dsimp [h1,h2]
    (first | refine zal ?_ ?_ | refine zam ?_ ?_) <;> intro h3 <;> (try simp only [nrm] at h3) <;> simp -dsimp [h3,zbf,h1,h2]
    have hR:zac (.mk k n ks)=ks.all zac:=by rw [zbf,if_pos h1,if_pos h2,h3]; rfl
    rw [hR]
    refine zah ks.length (fun i st=>st.s 1 = .ptr 1 1 0∧st.h 1=⟨1,.box [.d (.int .i64 k),.d (.int .i64 n),.d (.sl 3 (ks.map eT))] false⟩∧st.s 3 = .d (.int .i64 i) ∧ ∀ (j:Nat) (hj:j<ks.length),j<i→zac ks[j]=true) ?_ ?_
    · simp -dsimp
    · rintro i ⟨s,hp⟩ hi ⟨g1,g2,g3,g4⟩
      dsimp only at g1 g2 g3
      rcases ybm i ks.length with hlt | hge
      · have w1:IntKind.i64.wrap ((i:Int)+1)=(i:Int)+1:=zab (by omega) (by omega)
        simp -dsimp [g1,g2,g3,hlt,cT]
        refine zaa (ih ks[i] (yaf _)) ?_
        simp -dsimp [g1,g2,g3,hlt]
        (first | refine zal ?_ ?_ | refine zam ?_ ?_) <;> intro h6 <;> (try simp only [nrm] at h6) <;> simp -dsimp [h6,g1,g2,g3,hlt,w1]
        · have:=zPs (p:=zac) hlt h6
          simpa using this
        · exact zp1 hlt g4 h6
      · have e:i=ks.length:=by omega
        subst e
        have hA:=zym (p:=zac) g4
        simp -dsimp [g1,g2,g3,hA]
  · (first | refine zal ?_ ?_ | refine zam ?_ ?_) <;> intro h3 <;> (try simp only [nrm] at h3) <;> simp -dsimp [h3,zbf,h1,h2]
    · (first | refine zal ?_ ?_ | refine zam ?_ ?_) <;> intro h4 <;> (try simp only [nrm] at h4) <;> simp -dsimp [h4,zbf,h1,h2,h3]
      subst h4
      have hR:zac (.mk k 0 ks)=ks.all zac:=by rw [zbf,if_pos h1,if_neg h2,if_pos rfl]
      rw [hR]
      refine zah ks.length (fun i st=>st.s 1 = .ptr 1 1 0∧st.h 1=⟨1,.box [.d (.int .i64 k),.d (.int .i64 0),.d (.sl 3 (ks.map eT))] false⟩∧st.s 3 = .d (.int .i64 i) ∧ ∀ (j:Nat) (hj:j<ks.length),j<i→zac ks[j]=true) ?_ ?_
      · simp -dsimp
      · rintro i ⟨s,hp⟩ hi ⟨g1,g2,g3,g4⟩
        dsimp only at g1 g2 g3
        rcases ybm i ks.length with hlt | hge
        · have w1:IntKind.i64.wrap ((i:Int)+1)=(i:Int)+1:=zab (by omega) (by omega)
          simp -dsimp [g1,g2,g3,hlt,cT]
          refine zaa (ih ks[i] (yaf _)) ?_
          simp -dsimp [g1,g2,g3,hlt]
          (first | refine zal ?_ ?_ | refine zam ?_ ?_) <;> intro h6 <;> (try simp only [nrm] at h6) <;> simp -dsimp [h6,g1,g2,g3,hlt,w1]
          · have:=zPs (p:=zac) hlt h6
            simpa using this
          · exact zp1 hlt g4 h6
        · have e:i=ks.length:=by omega
          subst e
          have hA:=zym (p:=zac) g4
          simp -dsimp [g1,g2,g3,hA]
    · omega
theorem zG6 (t:T):Pure Tryz.prog ze8 [.agg (cT t)] [.int .i64 (za0 t)]:=by
  refine zsz rfl fun hs=>?_
  simp -dsimp [zh4,cT]
  refine zaa (zM0 t) ?_
  simp -dsimp
  (first | refine zal ?_ ?_ | refine zam ?_ ?_) <;> intro h1 <;> (try simp only [nrm] at h1) <;> simp -dsimp [h1,za0]
  refine zaa (zI5 t) ?_
  simp -dsimp
  (first | refine zal ?_ ?_ | refine zam ?_ ?_) <;> intro h2 <;> (try simp only [nrm] at h2) <;> simp -dsimp [h2,za0,h1]
  refine zaa (zK9 t) ?_
  simp -dsimp
  (first | refine zal ?_ ?_ | refine zam ?_ ?_) <;> intro h3 <;> (try simp only [nrm] at h3) <;> simp -dsimp [h3,za0,h1,h2]
end Ev
end Go.Proofs.YtncmainjcffanaaGreat
/- Terms: small things. -/
namespace Go.Proofs.YtncmainjcffanaaGreat
namespace Ev
open Go
theorem tk (k n:Int) (ks:List T):(T.mk k n ks).kind=k:=rfl
theorem tn (k n:Int) (ks:List T):(T.mk k n ks).num=n:=rfl
theorem tks (k n:Int) (ks:List T):(T.mk k n ks).kids=ks:=rfl
theorem zvs {l:List D} {z:D} {i:Nat} (h:i<l.length):(l.take i ++ yaa (l.length - i) z).set i l[i]=l.take (i+1) ++ yaa (l.length - (i+1)) z:=by
  have e:l.length - i=(l.length - (i+1))+1:=by omega
  rw [e,List.replicate_succ,List.set_append_right _ _ (by simp; omega)]
  have e2:i - (l.take i).length=0:=by simp; omega
  have e3:l.take (i+1)=l.take i ++ [l[i]]:=by rw [ycb,yar h]; rfl
  rw [e2,List.set_cons_zero,e3,List.append_assoc]
  rfl
end Ev
end Go.Proofs.YtncmainjcffanaaGreat
/- Terms,in plain numbers: zae,depths,right terms,scopes. -/
namespace Go.Proofs.YtncmainjcffanaaGreat
namespace Ev
open Go
attribute [local simp] tk tn tks
def zae:T→Nat | .mk _ _ ks=>(ks.map zae).sum+1
theorem zdn {l:List Nat} {x:Nat} (h:x ∈ l):x≤l.sum:=by
  induction l with
  | nil=>cases h
  | cons y l ih =>
    rw [ybZ]
    rcases List.mem_cons.1 h with rfl | h
    · omega
    · have:=ih h; omega
theorem zcc {k n:Int} {ks:List T} {x:T} (h:x ∈ ks):zae x+1≤zae (.mk k n ks):=by
  rw [zae]
  have:=zdn (ybb.2 ⟨x,h,rfl⟩:zae x ∈ ks.map zae)
  omega
theorem zco (k i:Int):0≤zak k i∧zak k i≤1:=by
  rw [zak]
  split <;> omega
inductive Slim:T→Prop
  | mk (k n:Int) (ks:List T) (hl:ks.length≤1000) (h:∀ x ∈ ks,Slim x):Slim (.mk k n ks)
theorem Slim.kids {k n:Int} {ks:List T} (h:Slim (.mk k n ks)):ks.length≤1000 ∧ ∀ x ∈ ks,Slim x:=by
  cases h with
  | mk _ _ _ h1 h2=>exact ⟨h1,h2⟩
theorem zQ0 (k:Int):zf5 k≤3:=by
  rw [zf5]
  repeat' split
  all_goals omega
theorem zds {k n:Int} {ks:List T} (h1:k=1) (hfm:zac (.mk k n ks)=true):0≤n∧n≤65535:=by
  rw [zbf,h1] at hfm
  have h0:zf5 1=0:=rfl
  rw [h0] at hfm
  split at hfm
  · simp only [if_true,ybJ] at hfm
    exact (zeu _ _ _).1 hfm.1
  · cases hfm
theorem zbn {k n:Int} {ks:List T} (hfm:zac (.mk k n ks)=true):∀ x ∈ ks,zac x=true:=by
  rw [zbf] at hfm
  refine yaC.1 ?_
  split at hfm
  · split at hfm
    · rw [ybJ] at hfm; exact hfm.2
    · split at hfm
      · exact hfm
      · cases hfm
  · cases hfm
theorem zIx (t:T):zac t=true→Slim t:=by
  refine T.ind (p:=fun t=>zac t=true→Slim t) ?_ t
  intro k n ks ih h
  rw [zbf] at h
  have hk:=zQ0 k
  by_cases h1:(ks.length:Int)=zf5 k
  · rw [if_pos h1] at h
    have ha:ks.all zac=true:=by
      by_cases h2:zf5 k=0
      · rw [if_pos h2,ybJ] at h; exact h.2
      · rw [if_neg h2] at h
        by_cases h3:n=0
        · rw [if_pos h3] at h; exact h
        · rw [if_neg h3] at h; cases h
    exact .mk k n ks (by omega) fun x hx=>ih x hx (yaC.1 ha x hx)
  · rw [if_neg h1] at h; cases h
theorem zhb {t:T} (h:za0 t=0):zac t=true:=by
  rw [za0] at h
  split at h
  · simp at h
  · split at h
    · simp at h
    · split at h
      · assumption
      · simp at h
theorem zb3 {n:Int} (h1:-9223372036854775808≤n) (h2:n<9223372036854775808):w64 n=n:=zab h1 (by omega)
def dmax (l:List Nat):Nat:=l.foldr max 0
def zbx:T→Nat | .mk _ _ ks=>dmax (ks.map zbx)+1
theorem zAu (a b:Int):mx a b=max a b:=by rw [mx]; split <;> omega
theorem zzu:∀ (l:List T) (a:Int),0≤a→a+(l.map zae).sum≤1099511627776→(∀ x ∈ l,zhd x=zae x)→(l.map zhd).foldl (fun a s=>w64 (a+s)) a=a+(l.map zae).sum
  | [],a,_,_,_=>by simp
  | x :: xs,a,h0,hb,h=>by
    have hx:=h x (by simp)
    simp only [yaV,yck,ybZ] at hb ⊢
    rw [hx,zb3 (by omega) (by omega),zzu xs (a+zae x) (by omega) (by omega) fun y hy=>h y (by simp [hy])]
    omega
theorem zIy (t:T):zae t≤1099511627776→zhd t=zae t:=by
  refine T.ind (p:=fun t=>zae t≤1099511627776→zhd t=zae t) ?_ t
  intro k n ks ih hb
  have hk:∀ x ∈ ks,zhd x=zae x:=fun x hx=>ih x hx (by have:=zcc (k:=k) (n:=n) hx; omega)
  rw [zae] at hb
  rw [zhd,zzu ks 1 (by omega) (by omega) hk,zae]
  omega
theorem zU5 {l:List Nat} {m:Nat} (h:∀ x ∈ l,x≤m):dmax l≤m:=by
  induction l with
  | nil=>simp [dmax]
  | cons y l ih =>
    have h1:=h y (by simp)
    have h2:=ih fun x hx=>h x (by simp [hx])
    simp only [dmax,ycl] at h2 ⊢
    omega
theorem zry (t:T):zbx t≤zae t:=by
  refine T.ind (p:=fun t=>zbx t≤zae t) ?_ t
  intro k n ks ih
  rw [zbx,zae]
  have:dmax (ks.map zbx)≤(ks.map zae).sum:=zU5 fun x hx=>by
    obtain ⟨y,hy,rfl⟩:=ybb.1 hx
    have:=zdn (ybb.2 ⟨y,hy,rfl⟩:zae y ∈ ks.map zae)
    have:=ih y hy
    omega
  omega
theorem zCl:∀ (l:List T) (a:Int),0≤a→(∀ x ∈ l,zec x=zbx x)→(l.map zec).foldl mx a=max a (dmax (l.map zbx))
  | [],a,h0,_=>by simp [dmax]; omega
  | x :: xs,a,h0,h=>by
    have hx:=h x (by simp)
    simp only [yaV,yck,dmax,ycl]
    rw [hx,zAu,zCl xs _ (by omega) fun y hy=>h y (by simp [hy])]
    simp only [dmax]
    omega
theorem zEn (t:T):zae t≤1099511627776→zec t=zbx t:=by
  refine T.ind (p:=fun t=>zae t≤1099511627776→zec t=zbx t) ?_ t
  intro k n ks ih hb
  have hk:∀ x ∈ ks,zec x=zbx x:=fun x hx=>ih x hx (by have:=zcc (k:=k) (n:=n) hx; omega)
  have hd:=zry (.mk k n ks)
  rw [zbx] at hd
  rw [zec,zCl ks 0 (by omega) hk,zbx,zb3 (by omega) (by omega)]
  omega
theorem zcr (k n:Int):zae (.mk k n [])=1:=by rw [zae]; rfl
theorem zjt (k n:Int):zbx (.mk k n [])=1:=by rw [zbx]; rfl
theorem zln {k n:Int} {ks:List T} (h1:k=1) (hfm:zac (.mk k n ks)=true):ks=[]:=by
  rw [zbf,h1] at hfm
  have h0:zf5 1=0:=rfl
  rw [h0] at hfm
  split at hfm
  · exact List.length_eq_zero_iff.1 (by omega)
  · cases hfm
theorem zqp {t:T} (h:zae t≤1048576):za0 t=0 ↔ zae t≤6000∧zbx t≤200∧zac t=true:=by
  rw [za0,zIy _ (by omega),zEn _ (by omega)]
  by_cases h1:(6000:Int)<zae t
  · rw [if_pos h1]
    constructor
    · intro h; cases h
    · omega
  · rw [if_neg h1]
    by_cases h2:(200:Int)<zbx t
    · rw [if_pos h2]
      constructor
      · intro h; cases h
      · omega
    · rw [if_neg h2]
      cases zac t
      · simp
      · simp; omega
theorem zCg (k n:Int) (a b:T):zae (.mk k n [a,b])=zae a+zae b+1:=by rw [zae]; simp
theorem zCa (t:T):zae t≤bulk (eT t):=by
  refine T.ind (p:=fun t=>zae t≤bulk (eT t)) ?_ t
  intro k n ks ih
  rw [zae,za4]
  simp only [cT,tks,bulk,yaV,List.map_nil,ybZ,List.sum_nil,List.map_map]
  have:∀ l:List T,(∀ x ∈ l,zae x≤bulk (eT x))→(l.map zae).sum≤(l.map (bulk ∘ eT)).sum:=by
    intro l
    induction l with
    | nil=>intro _; simp
    | cons x xs ihx =>
      intro h
      have h1:=h x (by simp)
      have h2:=ihx fun y hy=>h y (by simp [hy])
      simp only [yaV,ybZ,Function.comp] at h2 ⊢
      omega
  have:=this ks ih
  omega
theorem zz7 (t:T):zae t≤bulk (.agg (cT t)):=by rw [← za4]; exact zCa t
mutual
def wiT:T→Int→Int→Bool
  | .mk k n ks,v,c=>if k=1 then decide (n<v) else if k=2 then decide (n≤6) else if k=3 then decide (n<c) else wiL k v c 0 ks
def wiL (k v c:Int):Nat→List T→Bool
  | _,[]=>true
  | i,x :: xs=>wiT x (v+zak k i) c && wiL k v c (i+1) xs
end
theorem zGx (c:Int) (t:T):∀ v:Int,0≤v→v+zae t≤4194304→zde t v c=wiT t v c:=by
  refine T.ind (p:=fun t=>∀ v:Int,0≤v→v+zae t≤4194304→zde t v c=wiT t v c) ?_ t
  intro k n ks ih v h0 hb
  rw [zde,wiT]
  split
  · rfl
  split
  · rfl
  split
  · rfl
  have go:∀ (l:List T) (i:Nat),(∀ x ∈ l,x ∈ ks)→ziq k v c i l=wiL k v c i l:=by
    intro l
    induction l with
    | nil=>intro i _; rw [ziq,wiL]
    | cons x xs ihx =>
      intro i hm
      have hx:=hm x (by simp)
      have hxn:=zcc (k:=k) (n:=n) hx
      have hbl:=zco k i
      rw [ziq,wiL,zb3 (by omega) (by omega),ih x hx _ (by omega) (by omega),ihx (i+1) fun y hy=>hm y (by simp [hy])]
  exact go ks 0 fun x hx=>hx
theorem zI4 (k v c:Int):∀ (l:List T) (i:Nat),wiL k v c i l=true ↔ ∀ (j:Nat) (hj:j<l.length),wiT l[j] (v+zak k (i+j:Nat)) c=true
  | [],i=>by simp [wiL]
  | x :: xs,i=>by
    rw [wiL,ybJ,zI4 k v c xs (i+1)]
    constructor
    · rintro ⟨h1,h2⟩ j hj
      cases j with
      | zero=>simpa using h1
      | succ j =>
        have:=h2 j (by simpa using hj)
        rw [show i+1+j=i+(j+1) by omega] at this
        simpa using this
    · intro h
      refine ⟨h 0 (Nat.succ_pos _),fun j hj=>?_⟩
      have:=h (j+1) (by simpa using hj)
      rw [show i+(j+1)=i+1+j by omega] at this
      simpa using this
theorem zR7 {t:T} {v:Int} (h0:0≤v) (h1:v≤65536) (hn:zae t≤1048576):zni t v 65536=true ↔ za0 t=0∧wiT t v 65536=true:=by
  rw [zni,if_neg (by omega),if_neg (by omega),if_neg (show ¬65536<v by omega),zGx 65536 t v h0 (by omega)]
  by_cases h:za0 t=0
  · rw [if_pos h]; simp [h]
  · rw [if_neg h]; simp [h]
end Ev
end Go.Proofs.YtncmainjcffanaaGreat
/- slices.Reverse on a row of one's own. -/
namespace Go.Proofs.YtncmainjcffanaaGreat
namespace Ev
open Go
attribute [local simp] zaf zag zcl zcu
def swp (xs:List T):Nat→List T
  | 0=>xs
  | i+1=>match (swp xs i)[i]?,(swp xs i)[xs.length - 1 - i]? with
    | some a,some b=>((swp xs i).set i b).set (xs.length - 1 - i) a
    | _,_=>swp xs i
theorem zwv (xs:List T):∀ i,(swp xs i).length=xs.length
  | 0=>rfl
  | i+1=>by
    rw [swp]
    split
    · rw [ycm,ycm,zwv xs i]
    · exact zwv xs i
theorem zMd (xs:List T):∀ (i:Nat),2*i≤xs.length → ∀ (q:Nat) (hq:q<xs.length),(swp xs i)[q]? = if q<i∨xs.length - i≤q then xs[xs.length - 1 - q]? else xs[q]?
  | 0,_,q,hq=>by
    rw [swp,if_neg (by omega)]
  | i+1,h2,q,hq=>by
    have ih:=zMd xs i (by omega)
    have h3:i<(swp xs i).length:=by rw [zwv]; omega
    have h4:xs.length - 1 - i<(swp xs i).length:=by rw [zwv]; omega
    have g1:(swp xs i)[i]? = some (xs[i]'(by omega)):=by rw [ih i (by omega),if_neg (by omega),yar (by omega)]
    have g2:(swp xs i)[xs.length - 1 - i]? = some (xs[xs.length - 1 - i]'(by omega)):=by rw [ih (xs.length - 1 - i) (by omega),if_neg (by omega),yar (by omega)]
    rw [swp,g1,g2]
    simp only
    rw [yaM]
    by_cases c1:xs.length - 1 - i=q
    · rw [if_pos c1,if_pos (by rw [ycm]; exact h4),if_pos (by omega),yar (by omega)]
      congr 2
      omega
    · rw [if_neg c1,yaM]
      by_cases c2:i=q
      · subst c2
        rw [if_pos rfl,if_pos h3,if_pos (by omega),yar (by omega)]
      · rw [if_neg c2,ih q hq]
        by_cases c3:q<i∨xs.length - i≤q
        · rw [if_pos c3,if_pos (by omega)]
        · rw [if_neg c3,if_neg (by omega)]
theorem zTy (xs:List T):swp xs (xs.length / 2)=xs.reverse:=by
  apply List.ext_getElem?
  intro q
  rcases ybm q xs.length with hq | hq
  · rw [zMd xs _ (by omega) q hq,List.getElem?_reverse hq]
    split
    · rfl
    · have:q=xs.length - 1 - q:=by omega
      rw [← this]
  · rw [ybB (by rw [zwv]; exact hq),ybB (by rw [List.length_reverse]; exact hq)]
def revH (k v:Nat) (xs:List T):Nat→Ent:=fun q=>if q=k then ⟨v,.row 3 (xs.map eT) false⟩ else ⟨0,.dead⟩
theorem zHl (k v:Nat) (xs:List T) (hl:xs.length≤1000000000):MutC Tryz.prog zkn [.rsl k v] [k] (revH k v xs) [] (revH k v xs.reverse):=by
  refine zSn hm Tryz.func208 zq0 rfl ?_ fun G h w vs hk hlen hr=>?_
  · intro q hq
    simp only [revH]
    split <;> trivial
  have e1:h k=⟨v,.row 3 (xs.map eT) false⟩:=by rw [hk k (by simp)]; simp [revH]
  have w0:IntKind.i64.wrap ((xs.length:Int) - 1)=(xs.length:Int) - 1:=zab (by omega) (by omega)
  simp -dsimp [zko,e1,w0]
  refine zah (xs.length / 2) (fun i st=>st.s 0 = .rsl k v∧st.h k=⟨v,.row 3 ((swp xs i).map eT) false⟩∧st.s 2 = .d (.int .i64 i)∧st.s 3 = .d (.int .i64 ((xs.length:Int) - 1 - i))) ?_ ?_
  · simp -dsimp [e1,swp]
  · rintro i ⟨s,hp⟩ hi ⟨g1,g2,g3,g4⟩
    dsimp only at g1 g2 g3 g4
    rcases ybm i (xs.length / 2) with hlt | hge
    · obtain ⟨m,hm⟩:∃ m:Nat,xs.length=m+1+i:=⟨xs.length - 1 - i,by omega⟩
      have hmi:(xs.length:Int) - 1 - i=(m:Int):=by omega
      have hmn:xs.length - 1 - i=m:=by omega
      rw [hmi] at g4
      have him:i<m:=by omega
      have w1:IntKind.i64.wrap ((i:Int)+1)=(i:Int)+1:=zab (by omega) (by omega)
      have w2:IntKind.i64.wrap ((m:Int) - 1)=(xs.length:Int) - 1 - ((i:Int)+1):=by rw [zab (by omega) (by omega)]; omega
      have hsl:=zwv xs i
      have hi1:i<(swp xs i).length:=by omega
      have hm1:m<(swp xs i).length:=by omega
      have hnx:swp xs (i+1)=((swp xs i).set i (swp xs i)[m]).set m (swp xs i)[i]:=by
        rw [swp,hmn,yar hi1,yar hm1]
      rw [hnx]
      generalize swp xs i=Y at g2 hsl hi1 hm1
      simp -dsimp [g1,g2,g3,g4,hi1,hm1,him,w1,w2,za4,cT]
      exact hlt
    · have e:i=xs.length / 2:=by omega
      rw [e,zTy] at g2
      have c1:¬ (i:Int)<(xs.length:Int) - 1 - (i:Int):=by omega
      simp -dsimp [g1,g2,g3,g4,c1,revH]
end Ev
end Go.Proofs.YtncmainjcffanaaGreat
/- tele: twins,spines. -/
namespace Go.Proofs.YtncmainjcffanaaGreat
namespace Ev
open Go
attribute [local simp] zaf zag tk tn tks
theorem zM2 (l:List T) (hl:l.length*40≤140737488351232) (h:∀ x ∈ l,Pure Tryz.prog zdt [.agg (cT x)] [.agg (cT x)]):Pure Tryz.prog zmo [eTs l] [eTs l]:=by
  refine zGb rfl fun hs=>?_
  simp -dsimp [zmn,eTs]
  by_cases hz:l=[]
  · subst hz
    simp -dsimp
  simp -dsimp [hz]
  have r1:(l.length:Int)*40≤(zad:Int):=by simp only [zad]; omega
  have r2:l.length≤zad:=by simp only [zad]; omega
  simp -dsimp [hz,r1,r2]
  refine zah l.length (fun i st=>st.s 0 = .d (.sl 3 (l.map eT))∧st.s 3 = .rsl 10 1∧st.s 12 = .d (.int .i64 l.length)∧st.s 13 = .d (.int .i64 i) ∧
    st.h 10=⟨1,.row 3 ((l.map eT).take i ++ yaa (l.length - i) (D.agg [.int .i64 0,.int .i64 0,.sl 3 []])) false⟩) ?_ ?_
  · simp -dsimp
  · rintro i ⟨s,hp⟩ hi ⟨g1,g2,g3,g4,g5⟩
    dsimp only at g1 g2 g3 g4 g5
    rcases ybm i l.length with hlt | hge
    · have w1:IntKind.i64.wrap ((i:Int)+1)=(i:Int)+1:=zab (by omega) (by omega)
      simp -dsimp [g1,g2,g3,g4,g5,hlt,cT]
      refine zaa (h l[i] (yaf _)) ?_
      have q1:(i:Int)<((min i l.length:Nat):Int)+((l.length - i:Nat):Int):=by omega
      have q2:i<min i l.length+(l.length - i):=by omega
      have hle:(l.map eT).length=l.length:=ycn ..
      have hfn:=zvs (l:=l.map eT) (z:=D.agg [.int .i64 0,.int .i64 0,.sl 3 []]) (i:=i) (by rw [hle]; exact hlt)
      have hel:(l.map eT)[i]'(by rw [hle]; exact hlt) = .agg (cT l[i]):=by rw [yco,za4]
      rw [hel,hle] at hfn
      simp only [cT] at hfn
      simp -dsimp [g1,g2,g3,g4,g5,hlt,w1,q1,q2,cT,hfn]
    · have e:i=l.length:=by omega
      subst e
      have ht:(l.map eT).take l.length=l.map eT:=ycd (by rw [ycn]; exact Nat.le_refl _)
      rw [ht,Nat.sub_self,ycp,ybp] at g5
      simp -dsimp [g1,g2,g3,g4,g5]
theorem zrq (t:T):okT t→Pure Tryz.prog zdt [.agg (cT t)] [.agg (cT t)]:=by
  refine T.ind (p:=fun t=>okT t→Pure Tryz.prog zdt [.agg (cT t)] [.agg (cT t)]) ?_ t
  intro k n ks ih h
  obtain ⟨h1,h2⟩:=h.kids
  refine zIw rfl fun hs=>?_
  simp -dsimp [zo6,cT]
  refine zaa (zM2 ks h1 fun x hx=>ih x hx (h2 x hx)) ?_
  simp -dsimp [eTs]
def twoB (t:T) (k:Int):Bool:=decide (t.kind=k) && decide (t.kids.length=2)
theorem zY3 (t:T) (k:Int):Pure Tryz.prog zxb [.agg (cT t),.int .i64 k] [.bool (twoB t k)]:=by
  refine zKo rfl fun hs=>?_
  simp -dsimp [zvz,cT,twoB]
  (first | refine zal ?_ ?_ | refine zam ?_ ?_) <;> intro h1 <;> (try simp only [nrm] at h1) <;> simp -dsimp [h1]
  omega
theorem zJo {k n:Int} {ks:List T}:twoB (.mk k n ks) 6=true ↔ k=6 ∧ ∃ a b,ks=[a,b]:=by
  show (decide (k=6) && decide (ks.length=2))=true ↔ _
  rw [ybJ,decide_eq_true_eq,decide_eq_true_eq]
  constructor
  · rintro ⟨h1,h2⟩
    match ks,h2 with
    | [a,b],_=>exact ⟨h1,a,b,rfl⟩
  · rintro ⟨h1,a,b,rfl⟩
    exact ⟨h1,rfl⟩
def spA:T→List T
  | .mk k _ ks=>if k=6 then match ks with
    | [a,b]=>b :: spA a
    | _=>[] else []
def spH:T→T
  | .mk k n ks=>if k=6 then match ks with
    | [a,_]=>spH a
    | _=>.mk k n ks else .mk k n ks
theorem zg4 {k n:Int} {ks:List T} (hc:¬ (k=6 ∧ ∃ a b,ks=[a,b])):spA (.mk k n ks)=[]∧spH (.mk k n ks) = .mk k n ks:=by
  match ks,hc with
  | [],_=>simp [spA,spH]
  | [_],_=>simp [spA,spH]
  | [a,b],hc =>
    have h1:¬ k=6:=fun h1=>hc ⟨h1,a,b,rfl⟩
    simp [spA,spH,h1]
  | _ :: _ :: _ :: _,_=>simp [spA,spH]
theorem zjl (n:Int) (a b:T):spA (.mk 6 n [a,b])=b :: spA a∧spH (.mk 6 n [a,b])=spH a:=by simp [spA,spH]
end Ev
end Go.Proofs.YtncmainjcffanaaGreat
/- tele: spines taken apart. -/
namespace Go.Proofs.YtncmainjcffanaaGreat
namespace Ev
open Go
attribute [local simp] zaf zag tk tn tks
theorem zyp (t:T) (hb:(spA t).length≤1000000):Pure Tryz.prog zh8 [.agg (cT t)] [.agg (cT (spH t)),eTs (spA t).reverse]:=by
  refine zE4 rfl fun hs=>?_
  simp -dsimp [zqr,cT]
  refine zah (spA t).length (fun i st=>st.s 2 = .ptr 2 1 0∧st.h 2=⟨1,.box [.d (.int .i64 0),.d (.int .i64 0),.fsl 3 []] false⟩∧st.s 1 = .ptr 1 1 0 ∧ ∃ (cur:T) (L:List T),
    st.h 1=⟨1,.box [.d (.int .i64 cur.kind),.d (.int .i64 cur.num),.d (.sl 3 (cur.kids.map eT))] false⟩∧L ++ spA cur=spA t∧L.length=i∧spH cur=spH t ∧
    st.s 4 = .rsl 4 (1+i)∧st.h 4=⟨1+i,.row 3 (L.map eT) false⟩) ?_ ?_
  · simp -dsimp
    exact ⟨t,⟨rfl,rfl,rfl⟩,[],by simp⟩
  · rintro i ⟨s,hp⟩ hi ⟨g1,g2,g3,cur,L,g4,g5,g6,g7,g8,g9⟩
    dsimp only at g1 g2 g3 g4 g8 g9
    have htw:=zY3 cur 6
    obtain ⟨k,n,ks⟩:=cur
    simp only [cT,tk,tn,tks] at htw g4
    have hL:L.length≤(spA t).length:=by rw [← g5,yaF]; omega
    by_cases hc:k=6 ∧ ∃ a b,ks=[a,b]
    · have hd:=zJo (n:=n) |>.2 hc
      rw [hd] at htw
      obtain ⟨rfl,a,b,rfl⟩:=hc
      rw [(zjl n a b).1] at g5
      rw [(zjl n a b).2] at g7
      have hlt:i<(spA t).length:=by rw [← g5,yaF,List.length_cons]; omega
      simp -dsimp [g1,g2,g3,g4,g8,g9]
      refine zaa htw ?_
      have hr:(L.length+1)*40≤zad:=by simp only [zad]; omega
      simp -dsimp [g1,g2,g3,g4,g8,g9,hr,za4,cT]
      exact ⟨hlt,a,⟨rfl,rfl,rfl⟩,L ++ [b],by simp [g5],by simp [g6],g7,by omega,by simp [za4,cT]⟩
    · have hd:twoB (.mk k n ks) 6=false:=by
        cases h:twoB (.mk k n ks) 6 with
        | false=>rfl
        | true=>exact absurd (zJo.1 h) hc
      have e1:=zg4 (n:=n) hc
      rw [e1.1,ybp] at g5
      rw [e1.2] at g7
      subst g5
      rw [hd] at htw
      simp -dsimp [g1,g2,g3,g4,g8,g9]
      refine zaa htw ?_
      simp -dsimp [g1,g2,g3,g4,g8,g9]
      refine zvc (zHl 4 (1+i) (spA t) (by omega)) ?_ ?_
      · simp [revH,g9]
      simp -dsimp [zlt,znv,revH,g1,g2,g3,g4,g8,g9,← g7]
      simp [eTs,List.map_reverse]
def spT (f:T) (l:List T):T:=l.foldl (fun o a=>.mk 6 0 [o,a]) f
theorem zKz (n:Int):Pure Tryz.prog zc2 [.int .i64 n] [.agg (cT (.mk 3 n []))]:=by
  refine zzo rfl fun hs=>?_
  simp -dsimp [zl5,cT]
theorem zQt (n:Int):Pure Tryz.prog zc1 [.int .i64 n] [.agg (cT (.mk 1 n []))]:=by
  refine zAi rfl fun hs=>?_
  simp -dsimp [zmg,cT]
theorem zY2 (n:Int):Pure Tryz.prog zjf [.int .i64 n] [.agg (cT (.mk 2 n []))]:=by
  refine zy1 rfl fun hs=>?_
  simp -dsimp [zlu,cT]
theorem v_ok (n:Int):Pure Tryz.prog zij [.int .i64 n] [.agg (cT (.mk 1 n []))]:=by
  refine zQa rfl fun hs=>?_
  simp -dsimp [zDk,cT]
theorem zA2 (k:Int) (l:List T):Pure Tryz.prog zo1 [.int .i64 k,.sl 3 (l.map eT)] [.agg [.int .i64 k,.int .i64 0,.sl 3 (l.map eT)]]:=by
  refine zHx rfl fun hs=>?_
  simp -dsimp [zs3,cT]
theorem zms (f:T) (l:List T) (hl:l.length≤100000000) (hf:okT f) (ho:okTs l):Pure Tryz.prog zbz [.agg (cT f),eTs l] [.agg (cT (spT f l))]:=by
  refine zFk rfl fun hs=>?_
  simp -dsimp [zmm,cT,eTs]
  refine zaa (zrq f hf) ?_
  simp -dsimp [cT]
  refine zah l.length (fun i st=>st.s 4 = .ptr 4 1 0∧st.h 4=⟨1,.box [.d (.int .i64 0),.d (.int .i64 0),.fsl 3 []] false⟩∧st.s 10 = .d (.sl 3 (l.map eT))∧st.s 11 = .d (.int .i64 l.length)∧st.s 12 = .d (.int .i64 i) ∧
    st.s 5 = .ptr 5 1 0 ∧ ∃ cs,st.h 5=⟨1,.box [.d (.int .i64 (spT f (l.take i)).kind),.d (.int .i64 (spT f (l.take i)).num),cs] false⟩∧(cs = .d (.sl 3 ((spT f (l.take i)).kids.map eT))∨cs = .fsl 3 ((spT f (l.take i)).kids.map eT))) ?_ ?_
  · simp -dsimp [spT]
  · rintro i ⟨s,hp⟩ hi ⟨g1,g2,g3,g4,g5,g6,cs,g7,g8⟩
    dsimp only at g1 g2 g3 g4 g5 g6 g7
    rcases ybm i l.length with hlt | hge
    · have w1:IntKind.i64.wrap ((i:Int)+1)=(i:Int)+1:=zab (by omega) (by omega)
      have hnx:spT f (l.take (i+1)) = .mk 6 0 [spT f (l.take i),l[i]]:=by
        have e:l.take (i+1)=l.take i ++ [l[i]]:=by rw [ycb,yar hlt]; rfl
        rw [spT,e,ycc]
        rfl
      rw [hnx]
      generalize spT f (l.take i)=Y at g7 g8
      have hnode:=zA2 6 [Y,l[i]]
      simp only [yaV,List.map_nil,za4,cT] at hnode
      rcases g8 with rfl | rfl
      · simp -dsimp [g1,g2,g3,g4,g5,g6,g7,hlt,cT]
        refine zaa (zrq l[i] (ho.2 _ (yaf _))) ?_
        simp -dsimp [g1,g2,g3,g4,g5,g6,g7,hlt,cT]
        refine zaa hnode ?_
        simp -dsimp [g1,g2,g3,g4,g5,g6,g7,hlt,w1,za4,cT]
      · simp -dsimp [g1,g2,g3,g4,g5,g6,g7,hlt,cT]
        refine zaa (zrq l[i] (ho.2 _ (yaf _))) ?_
        simp -dsimp [g1,g2,g3,g4,g5,g6,g7,hlt,cT]
        refine zaa hnode ?_
        simp -dsimp [g1,g2,g3,g4,g5,g6,g7,hlt,w1,za4,cT]
    · have e:i=l.length:=by omega
      subst e
      rw [yce] at g7 g8
      rcases g8 with rfl | rfl
      · simp -dsimp [g1,g2,g3,g4,g5,g6,g7]
      · simp -dsimp [g1,g2,g3,g4,g5,g6,g7]
end Ev
end Go.Proofs.YtncmainjcffanaaGreat
/- tele: variables; TeleVars. -/
namespace Go.Proofs.YtncmainjcffanaaGreat
namespace Ev
open Go
attribute [local simp] zaf zag tk tn tks
def tV (n:Int):T:=.mk 1 n []
def zdy (n:Nat):List T:=(List.range n).map fun (i:Nat)=>tV ((n:Int) - 1 - (i:Int))
theorem zmb (n:Nat):(zdy n).length=n:=by simp [zdy]
theorem zG9 (n i:Nat) (h:i<(zdy n).length):(zdy n)[i]=tV ((n:Int) - 1 - i):=by simp [zdy]
def zAt (n:Int):List T:=if n<1∨65536<n then [] else zdy n.toNat
theorem zO2 (n:Int):Pure Tryz.prog zmf [.int .i64 n] [eTs (zAt n)]:=by
  refine zHs rfl fun hs=>?_
  simp -dsimp [ztm]
  (first | refine zal ?_ ?_ | refine zam ?_ ?_) <;> intro h1 <;> (try simp only [nrm] at h1) <;> simp -dsimp [h1]
  · have:zAt n=[]:=by rw [zAt,if_pos (.inl h1)]
    simp -dsimp [this,eTs]
  (first | refine zal ?_ ?_ | refine zam ?_ ?_) <;> intro h2 <;> (try simp only [nrm] at h2) <;> simp -dsimp [h2,h1]
  · have:zAt n=[]:=by rw [zAt,if_pos (.inr h2)]
    simp -dsimp [this,eTs]
  obtain ⟨m,rfl⟩:=Int.eq_ofNat_of_zero_le (show 0≤n by omega)
  have hV:zAt (m:Int)=zdy m:=by rw [zAt,if_neg (by omega)]; rfl
  rw [hV]
  have r1:(m:Int)*40≤(zad:Int):=by simp only [zad]; omega
  have r2:m≤zad:=by simp only [zad]; omega
  have hvl:=zmb m
  simp -dsimp [h1,h2,r1,r2]
  refine zah m (fun i st=>st.s 0 = .d (.int .i64 m)∧st.s 3 = .rsl 12 1∧st.s 14 = .d (.int .i64 m)∧st.s 15 = .d (.int .i64 i) ∧
    st.h 12=⟨1,.row 3 (((zdy m).map eT).take i ++ yaa (m - i) (D.agg [.int .i64 0,.int .i64 0,.sl 3 []])) false⟩) ?_ ?_
  · simp -dsimp
  · rintro i ⟨s,hp⟩ hi ⟨g1,g2,g3,g4,g5⟩
    dsimp only at g1 g2 g3 g4 g5
    rcases ybm i m with hlt | hge
    · have w0:IntKind.i64.wrap ((m:Int) - 1)=(m:Int) - 1:=zab (by omega) (by omega)
      have w1:IntKind.i64.wrap ((i:Int)+1)=(i:Int)+1:=zab (by omega) (by omega)
      have w2:IntKind.i64.wrap ((m:Int) - 1 - i)=(m:Int) - 1 - i:=zab (by omega) (by omega)
      simp -dsimp [g1,g2,g3,g4,g5,hlt,w0,w2]
      refine zaa (v_ok _) ?_
      have q1:(i:Int)<((min i m:Nat):Int)+((m - i:Nat):Int):=by omega
      have q2:i<min i m+(m - i):=by omega
      have hle:((zdy m).map eT).length=m:=by rw [ycn,hvl]
      have hfn:=zvs (l:=(zdy m).map eT) (z:=D.agg [.int .i64 0,.int .i64 0,.sl 3 []]) (i:=i) (by rw [hle]; exact hlt)
      have hel:((zdy m).map eT)[i]'(by rw [hle]; exact hlt) = .agg [.int .i64 1,.int .i64 ((m:Int) - 1 - i),.sl 3 []]:=by
        rw [yco,zG9,za4]; simp [cT,tV]
      rw [hel,hle] at hfn
      simp -dsimp [g1,g2,g3,g4,g5,hlt,w0,w1,w2,q1,q2,hvl,cT,hfn]
    · have e:i=m:=by omega
      subst e
      have ht:((zdy i).map eT).take i=(zdy i).map eT:=ycd (by rw [ycn,hvl]; exact Nat.le_refl _)
      rw [ht,Nat.sub_self,ycp,ybp] at g5
      simp -dsimp [g1,g2,g3,g4,g5,eTs]
theorem zdc {k n:Int} (hk:0≤k∧k≤100000) (hn:0≤n∧n≤100000):okT (.mk k n []):=.mk k n [] (by simp only [n64]; omega) (by simp only [n64]; omega) (by simp) (by simp)
theorem zV4 {n:Int} {a b:T} (ha:okT a) (hb:okT b) (hn:0≤n∧n≤100000):okT (.mk 6 n [a,b]) :=
  .mk 6 n [a,b] (by simp only [n64]; omega) (by simp only [n64]; omega) (by simp) (by intro x hx; simp at hx; rcases hx with rfl | rfl <;> assumption)
end Ev
end Go.Proofs.YtncmainjcffanaaGreat
