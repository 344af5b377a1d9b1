/- Texts of this claim, in one. -/
import Derived.Test.YtncmainjcffanaaGreatMa
import Derived.Test.YtncmainjcffanaaGreatRA
import Derived.Test.YtncmainjcffanaaGreatXd
import Derived.Test.YtncmainjcffanaaGreatXe
set_option maxRecDepth 100000
set_option linter.unusedSimpArgs false
set_option linter.unusedVariables false
open List renaming all_eq_not_any_not→ycj,any_eq_false→ycf,cons_append→ycv,foldl_append→ycc,foldl_cons→yck,forall_mem_cons→ycI,getElem?_eq_getElem→yar,getElem?_eq_none→ybB,getElem?_eq_none_iff→ybS,getElem?_eq_some_iff→yae,getElem_cons_succ→ycB,getElem_cons_zero→ycz,getElem_mem→yaf,length_cons→yaS,length_eq_zero_iff→ycL,length_map→ycn,length_reverse→ycU,length_take→yaE,map_append→ycN,map_cons→yaV,map_nil→ycE,map_take→ycV,mem_cons→yaZ,mem_iff_getElem→ycM,mem_map→ybb,mem_of_getElem?→yas,ne_nil_of_length_pos→ycJ,nil_append→ycu,not_mem_nil→ycD,sum_append→ycO,sum_cons→ybZ,sum_nil→ycP,take_length→yce,take_of_length_le→ycd,take_succ_cons→ycC,take_zero→ycK
open Nat renaming add_sub_cancel→ycT,le_trans→yac,lt_or_ge→ybm,zero_add→ybj
open Int renaming toNat_natCast→ycS
open Option renaming getD_none→ybI,getD_some→ybG
open Bool renaming and_eq_false_iff→ycX,and_eq_true→ybJ,eq_false_iff→ycW,eq_iff_iff→ycR,false_eq_true→yao,not_eq_true→ycQ,not_eq_true'→ybK,or_eq_false_iff→ycx
open Array renaming getD_eq_getD_getElem?→yaw,replicate→ybQ
namespace Go.Proofs.YtncmainjcffanaaGreat
namespace Ev
open Go
section
section
attribute [local simp] zaf zag tk tn tks zcl zcu
theorem zYb:Tryz.prog.cellsOf 30=7:=by kernel_rfl
theorem zS4:Tryz.prog.cellsOf 32=1:=by kernel_rfl
theorem zSv:Tryz.prog.cellsOf 46=6:=by kernel_rfl
theorem zZh:Tryz.prog.cellsOf 34=6:=by kernel_rfl
theorem zUz:Tryz.prog.cellsOf 22=1:=by kernel_rfl
theorem zYt:Tryz.prog.cellsOf 23=1:=by kernel_rfl
theorem zUo:Tryz.prog.cellsOf 25=3:=by kernel_rfl
theorem y_arg:Tryz.prog.bytesOf 30=104:=by kernel_rfl
theorem zX7:Tryz.prog.bytesOf 46=80:=by kernel_rfl
theorem y_con:Tryz.prog.bytesOf 34=96:=by kernel_rfl
theorem zW6:zbh Tryz.prog 30=true:=by simp only [zbh,Tryz.underlying30]
theorem zU7:zbh Tryz.prog 46=true:=by simp only [zbh,Tryz.underlying46]
theorem zY9:zbh Tryz.prog 34=true:=by simp only [zbh,Tryz.underlying34]
theorem zR8:zbh Tryz.prog 25=true:=by simp only [zbh,Tryz.underlying25]
structure okAr (a:Ar):Prop where
  ty:okT a.ty
  dom:okTs a.dom
  sort:n64 a.sort
  idx:okTs a.idx
def zw6 (l:List Ar):Prop:=l.length*104≤140737488351232 ∧ ∀ x ∈ l,okAr x
structure okSo (s:So):Prop where
  idx:zw6 s.idx
  level:n64 s.level
  dty:okT s.dty
structure okCo (c:Co):Prop where
  sort:n64 c.sort
  args:zw6 c.args
  idx:okTs c.idx
  dec:okT c.dec
structure okBl (b:Bl):Prop where
  sortsL:b.sorts.length*80≤140737488351232
  sorts:∀ x ∈ b.sorts,okSo x
  consL:b.cons.length*96≤140737488351232
  cons:∀ x ∈ b.cons,okCo x
  elim:n64 b.elim
theorem len6 {xs:List D} (h:xs.length=6):∃ a b c d e f,xs=[a,b,c,d,e,f]:=by
  match xs,h with
  | [a,b,c,d,e,f],_=>exact ⟨a,b,c,d,e,f,rfl⟩
theorem len7 {xs:List D} (h:xs.length=7):∃ a b c d e f g,xs=[a,b,c,d,e,f,g]:=by
  match xs,h with
  | [a,b,c,d,e,f,g],_=>exact ⟨a,b,c,d,e,f,g,rfl⟩
theorem zTr {n:Nat} {cs:List D} (h:typ Tryz.prog n 30 cs):∃ a:Ar,cs=cAr a∧okAr a:=by
  cases n with
  | zero=>exact h.elim
  | succ n =>
    simp only [typ,Tryz.underlying30,zYb,zOp,zSy,zBx,zHh,ycI] at h
    obtain ⟨hl,h1,h2,h3,h4,h5,_⟩:=h
    obtain ⟨a,b,c,d,e,f,g,rfl⟩:=len7 hl
    obtain ⟨r,hr⟩:=zI6 h1
    obtain ⟨t,ht,q1⟩:=zys _ h2
    obtain ⟨ds,hd,q2⟩:=zy3 h3
    obtain ⟨i,hi,q3⟩:=zty h4
    obtain ⟨js,hj,q4⟩:=zy3 h5
    simp at hr ht hd hi hj
    refine ⟨⟨r,t,ds,i,js⟩,?_,⟨q1,q2,q3,q4⟩⟩
    simp [cAr,← ht,hr,hd,hi,hj]
theorem zJ0 {n:Nat} {cs:List D} (h:typ Tryz.prog n 32 cs):∃ l:List Ar,cs=[eArs l]∧zw6 l:=by
  obtain ⟨m,xs,rfl,hc,hb,hx⟩:=zqg Tryz.underlying32 zYb y_arg zW6 h
  obtain ⟨ks,rfl,hks⟩:∃ l:List Ar,xs=l.map eAr ∧ ∀ a ∈ l,okAr a:=zBn fun x hxx=>by
    obtain ⟨h4,h5⟩:=hx x hxx
    obtain ⟨t,ht,hq⟩:=zTr h4
    exact ⟨t,hq,by rw [h5,ht]; rfl⟩
  exact ⟨ks,hc,by simpa using hb,hks⟩
theorem zQo {n:Nat} {cs:List D} (h:typ Tryz.prog n 46 cs):∃ a:So,cs=cSo a∧okSo a:=by
  cases n with
  | zero=>exact h.elim
  | succ n =>
    simp only [typ,Tryz.underlying46,zSv,zOp,zSy,zBx,zS4,ycI] at h
    obtain ⟨hl,h1,h2,h3,h4,_⟩:=h
    obtain ⟨a,b,c,d,e,f,rfl⟩:=len6 hl
    obtain ⟨l,hq,q1⟩:=zJ0 h1
    obtain ⟨i,hi,q2⟩:=zty h2
    obtain ⟨r,hr⟩:=zI6 h3
    obtain ⟨t,ht,q3⟩:=zys _ h4
    simp at hr ht hi hq
    refine ⟨⟨l,i,r,t⟩,?_,⟨q1,q2,q3⟩⟩
    simp [cSo,← ht,hr,hi,hq]
theorem zVj {n:Nat} {cs:List D} (h:typ Tryz.prog n 34 cs):∃ a:Co,cs=cCo a∧okCo a:=by
  cases n with
  | zero=>exact h.elim
  | succ n =>
    simp only [typ,Tryz.underlying34,zZh,zOp,zS4,zBx,zHh,ycI] at h
    obtain ⟨hl,h1,h2,h3,h4,_⟩:=h
    obtain ⟨a,b,c,d,e,f,rfl⟩:=len6 hl
    obtain ⟨i,hi,q1⟩:=zty h1
    obtain ⟨l,hq,q2⟩:=zJ0 h2
    obtain ⟨js,hj,q3⟩:=zy3 h3
    obtain ⟨t,ht,q4⟩:=zys _ h4
    simp at ht hi hq hj
    refine ⟨⟨i,l,js,t⟩,?_,⟨q1,q2,q3,q4⟩⟩
    simp [cCo,← ht,hi,hq,hj]
theorem zNs {n:Nat} {cs:List D} (h:typ Tryz.prog n 25 cs):∃ b:Bl,cs=cBl b∧okBl b:=by
  cases n with
  | zero=>exact h.elim
  | succ n =>
    simp only [typ,Tryz.underlying25,zUo,zOp,zUz,zYt,ycI] at h
    obtain ⟨hl,h1,h2,h3,_⟩:=h
    obtain ⟨a,b,c,rfl⟩:=len3 hl
    obtain ⟨m,xs,rfl,hc,hb,hx⟩:=zqg Tryz.underlying22 zSv zX7 zU7 h1
    obtain ⟨m',ys,_,hd,hb',hy⟩:=zqg Tryz.underlying23 zZh y_con zY9 h2
    obtain ⟨i,hi,q1⟩:=zty h3
    obtain ⟨ss,rfl,q2⟩:∃ l:List So,xs=l.map eSo ∧ ∀ a ∈ l,okSo a:=zBn fun x hxx=>by
      obtain ⟨h4,h5⟩:=hx x hxx
      obtain ⟨t,ht,hq⟩:=zQo h4
      exact ⟨t,hq,by rw [h5,ht]; rfl⟩
    obtain ⟨ks,rfl,q3⟩:∃ l:List Co,ys=l.map eCo ∧ ∀ a ∈ l,okCo a:=zBn fun x hxx=>by
      obtain ⟨h4,h5⟩:=hy x hxx
      obtain ⟨t,ht,hq⟩:=zVj h4
      exact ⟨t,hq,by rw [h5,ht]; rfl⟩
    simp at hc hd hi
    refine ⟨⟨ss,ks,i⟩,?_,⟨by simpa using hb,q2,by simpa using hb',q3,q1⟩⟩
    simp [cBl,hc,hd,hi,eSos,eCos]
theorem zOe {x:D} (h:TypD Tryz.prog 25 x):∃ b:Bl,x=eBl b∧okBl b:=by
  obtain ⟨⟨n,h1⟩,h2⟩:=h
  obtain ⟨b,hb,hq⟩:=zNs h1
  exact ⟨b,by rw [zS3 (h2.trans zR8),hb]; rfl,hq⟩
end
section
attribute [local simp] zaf zag tk tn tks zcl zcu
theorem zE8 (l:List Ar) (h:zw6 l):OwnC Tryz.prog zc3 [eArs l] [.one (.row 7 (l.map eAr) false)]:=by
  refine zrd rfl fun hs=>?_
  have hl:=h.1
  simp -dsimp [zf2,eArs]
  refine zah l.length (fun i st=>st.s 0 = .d (.sl 7 (l.map eAr))∧st.s 4 = .d (.int .i64 i) ∧ ∃ v,st.s 3 = .rsl 3 v∧st.h 3=⟨v,.row 7 ((l.map eAr).take i) false⟩) ?_ ?_
  · simp -dsimp
  · rintro i ⟨s,hp⟩ hi ⟨g1,g2,v,g3,g4⟩
    dsimp only at g1 g2 g3 g4
    rcases ybm i l.length with hlt | hge
    · have w1:IntKind.i64.wrap ((i:Int)+1)=(i:Int)+1:=zab (by omega) (by omega)
      have ho:=h.2 l[i] (yaf _)
      simp -dsimp [g1,g2,g3,g4,hlt,cT,eAr,cAr,eTs]
      refine zaa (zir l[i].ty ho.ty) ?_
      simp -dsimp [g1,g2,g3,g4,hlt,cT,eAr,cAr,eTs]
      refine zaa (zDr l[i].dom ho.dom) ?_
      simp -dsimp [g1,g2,g3,g4,hlt,cT,eAr,cAr,eTs]
      refine zaa (zDr l[i].idx ho.idx) ?_
      have hr:(min i l.length+1)*104≤zad:=by simp only [zad]; omega
      have hn:=zkk eAr cAr (fun _=>rfl) l i hlt
      simp only [cAr,cT,ycv,ycu,eTs] at hn
      simp -dsimp [g1,g2,g3,g4,hlt,cT,hr,hn,w1,eTs]
    · have e:i=l.length:=by omega
      subst e
      simp -dsimp [g1,g2,g3,g4]
      exact ycd (by simp)
theorem zA3 (l:List Ar) (h:zw6 l):Pure Tryz.prog zc3 [eArs l] [eArs l]:=(zE8 l h).pure
theorem zKp (c:Co) (h:okCo c):Pure Tryz.prog zg0 [.agg (cCo c)] [.agg (cCo c)]:=by
  refine zsc rfl fun hs=>?_
  simp -dsimp [zg5,cCo,cT,eArs,eTs]
  refine zaa (zA3 c.args h.args) ?_
  simp -dsimp [eArs,eTs]
  refine zaa (zDr c.idx h.idx) ?_
  simp -dsimp [eArs,eTs]
  refine zaa (zir c.dec h.dec) ?_
  simp -dsimp [eArs,eTs,cT]
def rcS (l:List So):RC:=if l=[] then .d (.sl 6 []) else .row 6 (l.map eSo) false
def rcK (l:List Co):RC:=if l=[] then .d (.sl 6 []) else .row 6 (l.map eCo) false
theorem zDi (b:Bl) (h:okBl b):OwnC Tryz.prog zd0 [eBl b] [.agg [rcS b.sorts,rcK b.cons,.d (.int .i64 b.elim)]]:=by
  refine zpq rfl fun hs=>?_
  have hl:=h.sortsL
  have hl2:=h.consL
  simp -dsimp [zfk,eBl,cBl,eSos,eCos]
  refine zah b.sorts.length (fun i st=>st.s 1 = .ptr 1 1 0∧st.h 1=⟨1,.box [.d (.sl 6 (b.sorts.map eSo)),.d (.sl 6 (b.cons.map eCo)),.d (.int .i64 b.elim)] false⟩ ∧
    st.s 2 = .ptr 2 1 0∧st.h 2=⟨1,.box [.fsl 6 [],.fsl 6 [],.d (.int .i64 0)] false⟩∧st.s 4 = .d (.int .i64 i) ∧
    st.s 3 = .ptr 3 1 0 ∧ ∃ c,st.h 3=⟨1,.box [c,.fsl 6 [],.d (.int .i64 b.elim)] false⟩∧((i=0∧c = .fsl 6 [])∨(0<i ∧ ∃ v,c = .rsl 34 v∧st.h 34=⟨v,.row 6 ((b.sorts.map eSo).take i) false⟩))) ?_ ?_
  · simp -dsimp
  · rintro i ⟨s,hp⟩ hi ⟨g1,g2,g3,g4,g5,g6,c,g7,g8⟩
    dsimp only at g1 g2 g3 g4 g5 g6 g7 g8
    rcases ybm i b.sorts.length with hlt | hge
    · have w1:IntKind.i64.wrap ((i:Int)+1)=(i:Int)+1:=zab (by omega) (by omega)
      have ho:=h.sorts b.sorts[i] (yaf _)
      simp -dsimp [g1,g2,g3,g4,g5,g6,g7,hlt,cT,eSo,cSo,eArs]
      refine zaa (zA3 b.sorts[i].idx ho.idx) ?_
      simp -dsimp [g1,g2,g3,g4,g5,g6,g7,hlt,cT,eSo,cSo,eArs]
      refine zaa (zir b.sorts[i].dty ho.dty) ?_
      have hr:(min i b.sorts.length+1)*80≤zad:=by simp only [zad]; omega
      have hn:=zkk eSo cSo (fun _=>rfl) b.sorts i hlt
      simp only [cSo,cT,ycv,ycu,eArs] at hn
      rcases g8 with ⟨rfl,rfl⟩ | ⟨hi0,v,rfl,g8⟩
      · have h80:min 1 b.sorts.length*80≤zad:=by simp only [zad]; omega
        have hne:¬ b.sorts=[]:=ycJ hlt
        simp only [ycK,ycu,ybj] at hn
        simp at hlt hn w1
        simp -dsimp [g1,g2,g3,g4,g5,g6,g7,hlt,cT,eSo,cSo,eArs,w1,h80,hn,hne]
      · simp -dsimp [g1,g2,g3,g4,g5,g6,g7,g8,hlt,cT,eSo,cSo,eArs,w1,hr,hn]
    · have e:i=b.sorts.length:=by omega
      subst e
      rw [ycd (by simp)] at g8
      simp -dsimp [g1,g2,g3,g4,g5,g6,g7]
      clear hi g5
      refine zah b.cons.length (fun i st=>st.s 1 = .ptr 1 1 0∧st.h 1=⟨1,.box [.d (.sl 6 (b.sorts.map eSo)),.d (.sl 6 (b.cons.map eCo)),.d (.int .i64 b.elim)] false⟩ ∧
        st.s 2 = .ptr 2 1 0∧st.h 2=⟨1,.box [.fsl 6 [],.fsl 6 [],.d (.int .i64 0)] false⟩∧st.s 6 = .d (.int .i64 i) ∧
        st.s 3 = .ptr 3 1 0 ∧ ∃ d,st.h 3=⟨1,.box [c,d,.d (.int .i64 b.elim)] false⟩∧((b.sorts=[]∧c = .fsl 6 [])∨(0<b.sorts.length ∧ ∃ v,c = .rsl 34 v∧st.h 34=⟨v,.row 6 (b.sorts.map eSo) false⟩)) ∧
          ((i=0∧d = .fsl 6 [])∨(0<i ∧ ∃ v,d = .rsl 52 v∧st.h 52=⟨v,.row 6 ((b.cons.map eCo).take i) false⟩))) ?_ ?_
      · simp -dsimp [g1,g2,g3,g4,g6,g7]
        simpa using g8
      · clear g1 g2 g3 g4 g6 g7 g8 s hp
        rintro i ⟨s,hp⟩ hi ⟨g1,g2,g3,g4,g5,g6,d,g7,g8,g9⟩
        dsimp only at g1 g2 g3 g4 g5 g6 g7 g8 g9
        rcases ybm i b.cons.length with hlt | hge
        · have w1:IntKind.i64.wrap ((i:Int)+1)=(i:Int)+1:=zab (by omega) (by omega)
          have ho:=h.cons b.cons[i] (yaf _)
          simp -dsimp [g1,g2,g3,g4,g5,g6,g7,hlt,cT,eCo,cCo,eArs,eTs]
          refine zaa (zKp b.cons[i] ho) ?_
          have hr:(min i b.cons.length+1)*96≤zad:=by simp only [zad]; omega
          have hn:=zkk eCo cCo (fun _=>rfl) b.cons i hlt
          simp only [cCo,cT,ycv,ycu,eArs,eTs] at hn
          rcases g9 with ⟨rfl,rfl⟩ | ⟨hi0,v,rfl,g9⟩
          · have h96:min 1 b.cons.length*96≤zad:=by simp only [zad]; omega
            have hne:¬ b.cons=[]:=ycJ hlt
            simp only [ycK,ycu,ybj] at hn
            simp at hlt hn w1
            simp -dsimp [g1,g2,g3,g4,g5,g6,g7,hlt,cT,eCo,cCo,eArs,eTs,w1,h96,hn,hne]
            exact g8
          · simp -dsimp [g1,g2,g3,g4,g5,g6,g7,g9,hlt,cT,eCo,cCo,eArs,eTs,w1,hr,hn]
            exact g8
        · have e:i=b.cons.length:=by omega
          subst e
          rw [ycd (by simp)] at g9
          have hc:b.cons.length=0→b.cons=[]:=ycL.1
          have hS0:rcS [] = .d (.sl 6 []):=rfl
          have hK0:rcK [] = .d (.sl 6 []):=rfl
          rcases g8 with ⟨hz,rfl⟩ | ⟨hp1,v,rfl,g8⟩ <;> rcases g9 with ⟨hy,rfl⟩ | ⟨hp2,u,rfl,g9⟩
          · simp -dsimp [g1,g2,g3,g4,g5,g6,g7,hz,hc hy,hS0,hK0]
          · have hK:rcK b.cons = .row 6 (b.cons.map eCo) false:=by rw [rcK,if_neg (ycJ hp2)]
            simp -dsimp [g1,g2,g3,g4,g5,g6,g7,hz,g9,hS0,hK]
          · have hS:rcS b.sorts = .row 6 (b.sorts.map eSo) false:=by rw [rcS,if_neg (ycJ hp1)]
            simp -dsimp [g1,g2,g3,g4,g5,g6,g7,g8,hc hy,hS,hK0]
          · have hK:rcK b.cons = .row 6 (b.cons.map eCo) false:=by rw [rcK,if_neg (ycJ hp2)]
            have hS:rcS b.sorts = .row 6 (b.sorts.map eSo) false:=by rw [rcS,if_neg (ycJ hp1)]
            simp -dsimp [g1,g2,g3,g4,g5,g6,g7,g8,g9,hS,hK]
theorem zRu (l:List So):(rcS l).data=eSos l:=by
  rw [rcS]; split
  · rename_i h; subst h; rfl
  · rfl
theorem zQw (l:List Co):(rcK l).data=eCos l:=by
  rw [rcK]; split
  · rename_i h; subst h; rfl
  · rfl
theorem zFd (b:Bl) (h:okBl b):Pure Tryz.prog zd0 [eBl b] [eBl b]:=by
  have:=(zDi b h).pure
  simp only [yaV,ycE,RV.data,zRu,zQw] at this
  exact this
end
section
attribute [local simp] zaf zag tk tn tks zcl zcu
theorem zH8 (l:List Ar) (h:∀ x ∈ l,Pure Tryz.prog zhe [.agg (cAr x),.agg (cAr x)] [.bool true]):Pure Tryz.prog zet [eArs l,eArs l] [.bool true]:=by
  refine zwx rfl fun hs=>?_
  have hl:=hs (eArs l) (by simp)
  simp [eArs,small] at hl
  replace hl:=hl.1
  simp -dsimp [zj1,eArs]
  refine zah l.length (fun i st=>st.s 0 = .d (.sl 7 (l.map eAr))∧st.s 1 = .d (.sl 7 (l.map eAr))∧st.s 5 = .d (.int .i64 i)) ?_ ?_
  · simp -dsimp
  · rintro i ⟨s,hp⟩ hi ⟨g1,g2,g3⟩
    dsimp only at g1 g2 g3
    rcases ybm i l.length with hlt | hge
    · have w1:IntKind.i64.wrap ((i:Int)+1)=(i:Int)+1:=zab (by omega) (by omega)
      simp -dsimp [g1,g2,g3,hlt,cT,eAr,cAr,eTs]
      refine zaa (h l[i] (yaf _)) ?_
      simp -dsimp [g1,g2,g3,hlt,w1]
    · have e:i=l.length:=by omega
      subst e
      simp -dsimp [g1,g2,g3]
theorem zKi (a:Ar):Pure Tryz.prog zhe [.agg (cAr a),.agg (cAr a)] [.bool true]:=by
  refine zya rfl fun hs=>?_
  simp -dsimp [zk5,cAr,cT,eTs]
  refine zaa (zjp a.ty) ?_
  simp -dsimp
  refine zaa (zq3 a.dom) ?_
  simp -dsimp
  refine zaa (zq3 a.idx) ?_
  simp -dsimp
theorem zAw (l:List Ar):Pure Tryz.prog zet [eArs l,eArs l] [.bool true]:=zH8 l fun x _=>zKi x
theorem zLa (c:Co):Pure Tryz.prog zkx [.agg (cCo c),.agg (cCo c)] [.bool true]:=by
  refine zx9 rfl fun hs=>?_
  simp -dsimp [zky,cCo,cT,eTs,eArs]
  refine zaa (zAw c.args) ?_
  simp -dsimp
  refine zaa (zq3 c.idx) ?_
  simp -dsimp
  refine zaa (zjp c.dec) ?_
  simp -dsimp
theorem zFz (b:Bl):Pure Tryz.prog zfv [eBl b,eBl b] [.bool true]:=by
  refine zt9 rfl fun hs=>?_
  have hl:=hs (eBl b) (by simp)
  simp -dsimp [eBl,cBl,eSos,eCos,small] at hl
  have hl1:=hl.1.1
  have hl2:=hl.2.1
  simp -dsimp [zi0,eBl,cBl,eSos,eCos]
  refine zah b.sorts.length (fun i st=>st.s 2 = .ptr 2 1 0∧st.h 2=⟨1,.box [.d (.sl 6 (b.sorts.map eSo)),.d (.sl 6 (b.cons.map eCo)),.d (.int .i64 b.elim)] false⟩ ∧
    st.s 3 = .ptr 3 1 0∧st.h 3=⟨1,.box [.d (.sl 6 (b.sorts.map eSo)),.d (.sl 6 (b.cons.map eCo)),.d (.int .i64 b.elim)] false⟩∧st.s 5 = .d (.int .i64 i)) ?_ ?_
  · simp -dsimp
  · rintro i ⟨s,hp⟩ hi ⟨g1,g2,g3,g4,g5⟩
    dsimp only at g1 g2 g3 g4 g5
    rcases ybm i b.sorts.length with hlt | hge
    · have w1:IntKind.i64.wrap ((i:Int)+1)=(i:Int)+1:=zab (by omega) (by omega)
      simp -dsimp [g1,g2,g3,g4,g5,hlt,cT,eSo,cSo,eArs]
      refine zaa (zAw b.sorts[i].idx) ?_
      simp -dsimp [g1,g2,g3,g4,g5,hlt,w1,cT]
      refine zaa (zjp b.sorts[i].dty) ?_
      simp -dsimp [g1,g2,g3,g4,g5,hlt,w1]
    · have e:i=b.sorts.length:=by omega
      subst e
      simp -dsimp [g1,g2,g3,g4,g5]
      clear hi g5
      refine zah b.cons.length (fun i st=>st.s 2 = .ptr 2 1 0∧st.h 2=⟨1,.box [.d (.sl 6 (b.sorts.map eSo)),.d (.sl 6 (b.cons.map eCo)),.d (.int .i64 b.elim)] false⟩ ∧
        st.s 3 = .ptr 3 1 0∧st.h 3=⟨1,.box [.d (.sl 6 (b.sorts.map eSo)),.d (.sl 6 (b.cons.map eCo)),.d (.int .i64 b.elim)] false⟩∧st.s 8 = .d (.int .i64 i)) ?_ ?_
      · simp -dsimp [g1,g2,g3,g4]
      · clear g1 g2 g3 g4 s hp
        rintro i ⟨s,hp⟩ hi ⟨g1,g2,g3,g4,g5⟩
        dsimp only at g1 g2 g3 g4 g5
        rcases ybm i b.cons.length with hlt | hge
        · have w1:IntKind.i64.wrap ((i:Int)+1)=(i:Int)+1:=zab (by omega) (by omega)
          simp -dsimp [g1,g2,g3,g4,g5,hlt,cT,eCo,cCo,eArs,eTs]
          refine zaa (zLa b.cons[i]) ?_
          simp -dsimp [g1,g2,g3,g4,g5,hlt,w1]
        · have e:i=b.cons.length:=by omega
          subst e
          simp -dsimp [g1,g2,g3,g4,g5]
end
section
attribute [local simp] zaf zag tk tn tks zcl zcu
theorem zL4 (t:T):∀ v c:Int,Pure Tryz.prog zdh [.agg (cT t),.int .i64 v,.int .i64 c] [.bool (zde t v c)]:=by
  refine T.ind (p:=fun t=>∀ v c:Int,Pure Tryz.prog zdh [.agg (cT t),.int .i64 v,.int .i64 c] [.bool (zde t v c)]) ?_ t
  intro k n ks ih v c
  refine zse rfl fun hs=>?_
  have hl:=zic (t:=.mk k n ks) (fun d hd=>hs d (by simp at hd; simp [hd]))
  simp [T.kids] at hl
  simp -dsimp [zgy,cT,T.kind,T.num,T.kids]
  (first | refine zal ?_ ?_ | refine zam ?_ ?_) <;> intro h1 <;> (try simp only [nrm] at h1) <;> simp -dsimp [h1,zde]
  (first | refine zal ?_ ?_ | refine zam ?_ ?_) <;> intro h2 <;> (try simp only [nrm] at h2) <;> simp -dsimp [h2,zde,h1]
  (first | refine zal ?_ ?_ | refine zam ?_ ?_) <;> intro h3 <;> (try simp only [nrm] at h3) <;> simp -dsimp [h3,zde,h1,h2]
  have hw:zde (.mk k n ks) v c=ziq k v c 0 ks:=by rw [zde,if_neg h1,if_neg h2,if_neg h3]
  rw [hw]
  refine zah ks.length (fun i st=>st.s 3 = .ptr 3 1 0∧st.h 3=⟨1,.box [.d (.int .i64 k),.d (.int .i64 n),.d (.sl 3 (ks.map eT))] false⟩∧st.s 1 = .d (.int .i64 v)∧st.s 2 = .d (.int .i64 c) ∧
    st.s 7 = .d (.int .i64 i) ∧ ∀ (j:Nat) (hj:j<ks.length),j<i→zde ks[j] (w64 (v+zak k j)) c=true) ?_ ?_
  · simp -dsimp
  · rintro i ⟨s,hp⟩ hi ⟨g1,g2,g3,g4,g5,g8⟩
    dsimp only at g1 g2 g3 g4 g5
    rcases ybm i ks.length with hlt | hge
    · have w1:IntKind.i64.wrap ((i:Int)+1)=(i:Int)+1:=zab (by omega) (by omega)
      simp -dsimp [g1,g2,g3,g4,g5,hlt,cT]
      refine zaa (zus k i) ?_
      simp -dsimp [g1,g2,g3,g4,g5,hlt]
      refine zaa (ih ks[i] (yaf _) (w64 (v+zak k i)) c) ?_
      simp -dsimp [g1,g2,g3,g4,g5,hlt]
      (first | refine zal ?_ ?_ | refine zam ?_ ?_) <;> intro h4 <;> (try simp only [nrm] at h4) <;> simp -dsimp [h4,g1,g2,g3,g4,g5,hlt,w1]
      · cases hw:ziq k v c 0 ks with
        | false=>rfl
        | true =>
          have:=(zl1 k v c ks 0).1 hw i hlt
          rw [ybj,h4] at this
          cases this
      · intro j hj hji
        rcases ybm j i with h | h
        · exact g8 j hj h
        · have:j=i:=by omega
          subst this
          exact h4
    · have e:i=ks.length:=by omega
      subst e
      have:ziq k v c 0 ks=true:=(zl1 k v c ks 0).2 fun j hj=>by simpa using g8 j hj hj
      simp -dsimp [g1,g2,g3,g4,g5,this]
def zp4 (t:T) (v c:Int):Bool:=if v<0 then false else if c<0 then false else if za0 t=0 then zde t (if 1048576<v then 1048576 else v) c else false
theorem zOn {t:T} {v c:Int} (h:v≤65536):zp4 t v c=zni t v c:=by
  rw [zp4,zni,if_neg (show ¬1048576<v by omega),if_neg (show ¬65536<v by omega)]
theorem zPw (t:T) (v c:Int):Pure Tryz.prog zhk [.agg (cT t),.int .i64 v,.int .i64 c] [.bool (zp4 t v c)]:=by
  refine ztr rfl fun hs=>?_
  simp -dsimp [zhy,cT]
  (first | refine zal ?_ ?_ | refine zam ?_ ?_) <;> intro h1 <;> (try simp only [nrm] at h1) <;> simp -dsimp [h1,zp4]
  · (first | refine zal ?_ ?_ | refine zam ?_ ?_) <;> intro h2 <;> (try simp only [nrm] at h2) <;> simp -dsimp [h2,zp4,h1]
    · refine zaa (zG6 t) ?_
      simp -dsimp [h1,h2]
      (first | refine zal ?_ ?_ | refine zam ?_ ?_) <;> intro h3 <;> (try simp only [nrm] at h3) <;> simp -dsimp [h3,zp4,h1,h2]
      · refine zaa (zL4 t _ _) ?_
        have hS:zp4 t v c=zde t (if 1048576<v then 1048576 else v) c:=by rw [zp4,if_neg (by omega),if_neg (by omega),if_pos h3]
        rw [hS]
        simp -dsimp [h3]
end
section
attribute [local simp] zaf zag tk tn tks zcl zcu
theorem zmv (n lo hi:Int):Pure Tryz.prog zax [.int .i64 n,.int .i64 lo,.int .i64 hi] [.bool (inB n lo hi)]:=by
  refine zxz rfl fun hs=>?_
  simp -dsimp [zk3,inB]
  (first | refine zal ?_ ?_ | refine zam ?_ ?_) <;> intro h1 <;> (try simp only [nrm] at h1) <;> simp -dsimp [h1]
theorem zD5 (t:T):Pure Tryz.prog zd9 [.agg (cT t)] [.bool (zzx t)]:=by
  refine zu2 rfl fun hs=>?_
  simp -dsimp [zi7,cT]
  (first | refine zal ?_ ?_ | refine zam ?_ ?_) <;> intro h1 <;> (try simp only [nrm] at h1) <;> simp -dsimp [h1,zzx]
  (first | refine zal ?_ ?_ | refine zam ?_ ?_) <;> intro h2 <;> (try simp only [nrm] at h2) <;> simp -dsimp [h2,zzx,h1]
theorem zrl (t:T) (v:Int) (hv:v≤65536):Pure Tryz.prog zby [.agg (cT t),.int .i64 v] [.bool (inM t v)]:=by
  refine zvh rfl fun hs=>?_
  simp -dsimp [zjg,cT]
  refine zaa (zPw t v 65536) ?_
  simp -dsimp [inM,zOn hv]
theorem zOh (b:Bl) (a:Ar) (i:Int) (h0:0≤i) (h1:i≤1000):Pure Tryz.prog zgr [eBl b,.agg (cAr a),.int .i64 i] [.bool (argM b a i)]:=by
  refine zwk rfl fun hs=>?_
  have hi:((a.idx.length:Int))≤9223372036854775807:=by
    have:=hs (.agg (cAr a)) (by simp)
    simp -dsimp [cAr,cT,eTs,small] at this
    omega
  simp -dsimp [zka,eBl,cBl,eSos,eCos,cAr,cT,eTs]
  cases hr:a.rc with
  | false =>
    simp -dsimp [hr]
    refine zaa (zrl a.ty i (by omega)) ?_
    simp -dsimp
    (first | refine zal ?_ ?_ | refine zam ?_ ?_) <;> intro g1 <;> (try simp only [nrm] at g1) <;> simp -dsimp [g1,argM,hr]
    (first | refine zal ?_ ?_ | refine zam ?_ ?_) <;> intro g2 <;> (try simp only [nrm] at g2) <;> simp -dsimp [g2,argM,hr,g1,w64]
  | true =>
    simp -dsimp [hr]
    refine zaa (zD5 a.ty) ?_
    simp -dsimp
    (first | refine zal ?_ ?_ | refine zam ?_ ?_) <;> intro g1 <;> (try simp only [nrm] at g1) <;> simp -dsimp [g1,argM,hr]
    (first | refine zal ?_ ?_ | refine zam ?_ ?_) <;> intro g2 <;> (try simp only [nrm] at g2) <;> simp -dsimp [g2,argM,hr,g1]
    refine zaa (zmv a.sort 0 _) ?_
    have hbl:((b.sorts.length:Int))≤9223372036854775807:=by
      have:=hs (eBl b) (by simp)
      simp -dsimp [eBl,cBl,eSos,small] at this
      omega
    have wS:IntKind.i64.wrap ((b.sorts.length:Int) - 1)=(b.sorts.length:Int) - 1:=zab (by omega) (by omega)
    simp -dsimp [hr,g1,g2,wS]
    (first | refine zal ?_ ?_ | refine zam ?_ ?_) <;> intro g3 <;> (try simp only [nrm] at g3) <;> simp -dsimp [g3,hr,g1,g2,wS]
    · have h5:=(zis _ _ _).1 g3
      by_cases h6:a.sort<0
      · simp -dsimp [argM,hr,g1,g2,h6]
      · have h7:b.sorts[a.sort.toNat]? = none:=ybB (by omega)
        simp -dsimp [argM,hr,g1,g2,h6,h7]
    have h5:=(zeu _ _ _).1 g3
    have hlt:a.sort.toNat<b.sorts.length:=by omega
    have hs0:0≤a.sort:=h5.1
    have hA:argM b a i=if (a.idx.length:Int)=(b.sorts[a.sort.toNat].idx.length:Int) then domM i a.dom && allM a.idx (w64 (i+a.dom.length)) else false:=by
      have:¬a.sort<0:=by omega
      simp [argM,hr,g1,g2,hlt,this]
    simp -dsimp [hr,g1,g2,g3,hlt,hs0,eSo,cSo,eArs,cT]
    (first | refine zal ?_ ?_ | refine zam ?_ ?_) <;> intro g4 <;> (try simp only [nrm] at g4) <;> simp -dsimp [g4,hr,g1,g2,g3,hlt,hs0,eSo,cSo,eArs,cT]
    · rw [hA,if_neg g4]
    rw [hA,if_pos g4]
    have hd:a.dom.length≤12:=by omega
    refine zah a.dom.length (fun j st=>st.s 2 = .d (.int .i64 i)∧st.s 4 = .ptr 4 1 0∧st.h 4=⟨1,.box [.d (.bool true),.d (.int .i64 a.ty.kind),.d (.int .i64 a.ty.num),.d (.sl 3 (a.ty.kids.map eT)),.d (.sl 3 (a.dom.map eT)),.d (.int .i64 a.sort),.d (.sl 3 (a.idx.map eT))] false⟩ ∧
      st.s 7 = .d (.int .i64 j) ∧ ∀ (k:Nat) (hk:k<a.dom.length),k<j→inM a.dom[k] (w64 (i+k))=true) ?_ ?_
    · simp -dsimp [hr]
    · rintro j ⟨s,hp⟩ hj ⟨f1,f2,f3,f4,f7⟩
      dsimp only at f1 f2 f3 f4
      rcases ybm j a.dom.length with hlt | hge
      · have w1:IntKind.i64.wrap ((j:Int)+1)=(j:Int)+1:=zab (by omega) (by omega)
        have w2:IntKind.i64.wrap (i+(j:Int))=i+(j:Int):=zab (by omega) (by omega)
        have w3:w64 (i+(j:Int))=i+(j:Int):=w2
        simp -dsimp [f1,f2,f3,f4,hlt,cT,w2]
        refine zaa (zrl a.dom[j] _ (by omega)) ?_
        simp -dsimp [f1,f2,f3,f4,hlt]
        (first | refine zal ?_ ?_ | refine zam ?_ ?_) <;> intro h6 <;> (try simp only [nrm] at h6) <;> simp -dsimp [h6,f1,f2,f3,f4,hlt,w1]
        · have:domM i a.dom=false:=zrv (p:=fun j t=>inM t (w64 (i+j))) hlt (by rw [w3]; exact h6)
          simp [this]
        · exact zkq (p:=fun j t=>inM t (w64 (i+j))) hlt f7 (by rw [w3]; exact h6)
      · have e:j=a.dom.length:=by omega
        subst e
        have hD:domM i a.dom=true:=zrt f7
        have w2:IntKind.i64.wrap (i+(a.dom.length:Int))=i+(a.dom.length:Int):=zab (by omega) (by omega)
        have w3:w64 (i+(a.dom.length:Int))=i+(a.dom.length:Int):=w2
        rw [hD,Bool.true_and]
        simp -dsimp [f1,f2,f3,f4]
        clear f4 f7 hj
        refine zah a.idx.length (fun j st=>st.s 2 = .d (.int .i64 i)∧st.s 4 = .ptr 4 1 0∧st.h 4=⟨1,.box [.d (.bool true),.d (.int .i64 a.ty.kind),.d (.int .i64 a.ty.num),.d (.sl 3 (a.ty.kids.map eT)),.d (.sl 3 (a.dom.map eT)),.d (.int .i64 a.sort),.d (.sl 3 (a.idx.map eT))] false⟩ ∧
          st.s 8 = .d (.int .i64 j) ∧ ∀ (k:Nat) (hk:k<a.idx.length),k<j→inM a.idx[k] (i+a.dom.length)=true) ?_ ?_
        · simp -dsimp [f1,f2,f3]
        · clear f1 f2 f3 s hp
          rintro j ⟨s,hp⟩ hj ⟨f1,f2,f3,f4,f7⟩
          dsimp only at f1 f2 f3 f4
          rcases ybm j a.idx.length with hlt | hge
          · have w1:IntKind.i64.wrap ((j:Int)+1)=(j:Int)+1:=zab (by omega) (by omega)
            simp -dsimp [f1,f2,f3,f4,hlt,cT,w2]
            refine zaa (zrl a.idx[j] _ (by omega)) ?_
            simp -dsimp [f1,f2,f3,f4,hlt]
            (first | refine zal ?_ ?_ | refine zam ?_ ?_) <;> intro h6 <;> (try simp only [nrm] at h6) <;> simp -dsimp [h6,f1,f2,f3,f4,hlt,w1]
            · rw [allM,w3]
              have:(a.idx.any fun t=>!inM t (i+a.dom.length))=true:=zAr hlt (by simp [h6])
              rw [this]; rfl
            · exact zp1 (p:=fun t=>inM t (i+a.dom.length)) hlt f7 h6
          · have e:j=a.idx.length:=by omega
            subst e
            have hI:allM a.idx (w64 (i+a.dom.length))=true:=by
              rw [allM,w3]
              have:=zym (p:=fun t=>inM t (i+a.dom.length)) f7
              rw [ycj] at this
              exact this
            simp -dsimp [f1,f2,f3,f4,hI]
theorem zTq (b:Bl) (c:Co):Pure Tryz.prog zjr [eBl b,.agg (cCo c)] [.bool (conM b c)]:=by
  refine zwd rfl fun hs=>?_
  have hi:((c.idx.length:Int))≤9223372036854775807:=by
    have:=hs (.agg (cCo c)) (by simp)
    simp -dsimp [cCo,cT,eTs,eArs,small] at this
    omega
  have hbl:((b.sorts.length:Int))≤9223372036854775807:=by
    have:=hs (eBl b) (by simp)
    simp -dsimp [eBl,cBl,eSos,small] at this
    omega
  have wS:IntKind.i64.wrap ((b.sorts.length:Int) - 1)=(b.sorts.length:Int) - 1:=zab (by omega) (by omega)
  simp -dsimp [zke,eBl,cBl,eSos,eCos,cCo,cT,eTs,eArs,wS]
  refine zaa (zmv c.sort 0 _) ?_
  simp -dsimp
  (first | refine zal ?_ ?_ | refine zam ?_ ?_) <;> intro g1 <;> (try simp only [nrm] at g1) <;> simp -dsimp [g1]
  · have h5:=(zis _ _ _).1 g1
    by_cases h6:c.sort<0
    · simp -dsimp [conM,h6]
    · have h7:b.sorts[c.sort.toNat]? = none:=ybB (by omega)
      simp -dsimp [conM,h6,h7]
  have h5:=(zeu _ _ _).1 g1
  have hlt:c.sort.toNat<b.sorts.length:=by omega
  have hs0:0≤c.sort:=h5.1
  have hA:conM b c=if rowM b c.args then if (c.idx.length:Int)=(b.sorts[c.sort.toNat].idx.length:Int) then if allM c.idx c.args.length then zgi b.sorts[c.sort.toNat].dec c.dec c.args.length else false else false else false:=by
    have:¬c.sort<0:=by omega
    simp [conM,hlt,this]
  (first | refine zal ?_ ?_ | refine zam ?_ ?_) <;> intro g2 <;> (try simp only [nrm] at g2) <;> simp -dsimp [g2,g1]
  · rw [hA,rowM,if_pos g2]; rfl
  simp -dsimp [g1,g2,hlt,hs0,eSo,cSo,eArs,cT]
  (first | refine zal ?_ ?_ | refine zam ?_ ?_) <;> intro g3 <;> (try simp only [nrm] at g3) <;> simp -dsimp [g3,g1,g2]
  · rw [hA,if_neg g3]
    split <;> rfl
  have hal:c.args.length≤12:=by omega
  rw [if_pos g3] at hA
  have hR:rowM b c.args=allI (fun i a=>argM b a i) 0 c.args:=by rw [rowM,if_neg g2]
  rw [hA]
  refine zah c.args.length (fun i st=>st.s 2 = .ptr 2 1 0∧st.h 2=⟨1,.box [.d (.sl 6 (b.sorts.map eSo)),.d (.sl 6 (b.cons.map eCo)),.d (.int .i64 b.elim)] false⟩ ∧
    st.s 3 = .ptr 3 1 0∧st.h 3=⟨1,.box [.d (.int .i64 c.sort),.d (.sl 7 (c.args.map eAr)),.d (.sl 3 (c.idx.map eT)),.d (.int .i64 c.dec.kind),.d (.int .i64 c.dec.num),.d (.sl 3 (c.dec.kids.map eT))] false⟩ ∧
    st.s 5 = .d (.int .i64 i) ∧ ∀ (j:Nat) (hj:j<c.args.length),j<i→argM b c.args[j] j=true) ?_ ?_
  · simp -dsimp
  · rintro i ⟨s,hp⟩ hi ⟨f1,f2,f3,f4,f5,f7⟩
    dsimp only at f1 f2 f3 f4 f5
    rcases ybm i c.args.length with hlt' | hge
    · have w1:IntKind.i64.wrap ((i:Int)+1)=(i:Int)+1:=zab (by omega) (by omega)
      simp -dsimp [f1,f2,f3,f4,f5,hlt',eAr,cAr,cT,eTs]
      refine zaa (zOh b c.args[i] i (by omega) (by omega)) ?_
      simp -dsimp [f1,f2,f3,f4,f5,hlt']
      (first | refine zal ?_ ?_ | refine zam ?_ ?_) <;> intro h6 <;> (try simp only [nrm] at h6) <;> simp -dsimp [h6,f1,f2,f3,f4,f5,hlt',w1]
      · intro h
        rw [hR,zrv (p:=fun i a=>argM b a i) hlt' h6] at h
        cases h
      · exact zkq (p:=fun i a=>argM b a i) hlt' f7 h6
    · have e:i=c.args.length:=by omega
      subst e
      have hD:rowM b c.args=true:=by rw [hR]; exact zrt (p:=fun i a=>argM b a i) f7
      rw [if_pos hD]
      simp -dsimp [f1,f2,f3,f4,f5]
      clear f5 f7 hi
      refine zah c.idx.length (fun i st=>st.s 2 = .ptr 2 1 0∧st.h 2=⟨1,.box [.d (.sl 6 (b.sorts.map eSo)),.d (.sl 6 (b.cons.map eCo)),.d (.int .i64 b.elim)] false⟩ ∧
        st.s 3 = .ptr 3 1 0∧st.h 3=⟨1,.box [.d (.int .i64 c.sort),.d (.sl 7 (c.args.map eAr)),.d (.sl 3 (c.idx.map eT)),.d (.int .i64 c.dec.kind),.d (.int .i64 c.dec.num),.d (.sl 3 (c.dec.kids.map eT))] false⟩ ∧
        st.s 6 = .d (.int .i64 i) ∧ ∀ (j:Nat) (hj:j<c.idx.length),j<i→inM c.idx[j] c.args.length=true) ?_ ?_
      · simp -dsimp [f1,f2,f3,f4]
      · clear f1 f2 f3 f4 s hp
        rintro i ⟨s,hp⟩ hi ⟨f1,f2,f3,f4,f5,f7⟩
        dsimp only at f1 f2 f3 f4 f5
        rcases ybm i c.idx.length with hlt' | hge
        · have w1:IntKind.i64.wrap ((i:Int)+1)=(i:Int)+1:=zab (by omega) (by omega)
          simp -dsimp [f1,f2,f3,f4,f5,hlt',cT]
          refine zaa (zrl c.idx[i] _ (by omega)) ?_
          simp -dsimp [f1,f2,f3,f4,f5,hlt']
          (first | refine zal ?_ ?_ | refine zam ?_ ?_) <;> intro h6 <;> (try simp only [nrm] at h6) <;> simp -dsimp [h6,f1,f2,f3,f4,f5,hlt',w1]
          · intro h
            have:(c.idx.any fun t=>!inM t c.args.length)=true:=zAr hlt' (by simp [h6])
            rw [allM,this] at h
            cases h
          · exact zp1 (p:=fun t=>inM t c.args.length) hlt' f7 h6
        · have e:i=c.idx.length:=by omega
          subst e
          have hI:allM c.idx c.args.length=true:=by
            rw [allM]
            have:=zym (p:=fun t=>inM t c.args.length) f7
            rw [ycj] at this
            exact this
          rw [if_pos hI]
          simp -dsimp [f1,f2,f3,f4,f5,hlt,hs0,eSo,cSo,eArs,cT]
          (first | refine zal ?_ ?_ | refine zam ?_ ?_) <;> intro g6 <;> (try simp only [nrm] at g6) <;> simp -dsimp [g6,f1,f2,f3,f4,f5,zgi]
          · refine zaa (zrl c.dec _ (by omega)) ?_
            simp -dsimp [f1,f2,f3,f4,f5,zgi,g6]
          · refine zaa (zD5 c.dec) ?_
            simp -dsimp [f1,f2,f3,f4,f5,zgi,g6]
theorem zbo (b:Bl):zgc b=0 ↔ 1≤b.sorts.length∧b.sorts.length≤4∧b.cons.length≤8∧zmp b.elim=true∧(∀ (j:Nat) (hj:j<b.sorts.length),zh2 b j b.sorts[j]=true) ∧ ∀ c ∈ b.cons,conM b c=true:=by
  have ha:allI (fun k s=>zh2 b k s) 0 b.sorts=true ↔ ∀ (j:Nat) (hj:j<b.sorts.length),zh2 b j b.sorts[j]=true:=by
    rw [zaq]
    simp
  rw [zgc]
  by_cases h1:(b.sorts.length:Int)<1
  · rw [if_pos h1]
    constructor
    · intro h; simp at h
    · rintro ⟨h,_⟩; omega
  rw [if_neg h1]
  by_cases h2:4<(b.sorts.length:Int)
  · rw [if_pos h2]
    constructor
    · intro h; simp at h
    · rintro ⟨_,h,_⟩; omega
  rw [if_neg h2]
  by_cases h3:8<(b.cons.length:Int)
  · rw [if_pos h3]
    constructor
    · intro h; simp at h
    · rintro ⟨_,_,h,_⟩; omega
  rw [if_neg h3,← ha]
  cases hl:zmp b.elim with
  | false=>simp
  | true =>
    cases hs:allI (fun k s=>zh2 b k s) 0 b.sorts with
    | false=>simp
    | true =>
      have hc:(b.cons.any fun c=>!conM b c)=false ↔ ∀ c ∈ b.cons,conM b c=true:=by
        rw [ycf]
        simp
      cases hq:b.cons.any fun c=>!conM b c with
      | false =>
        simp only [hq] at hc ⊢
        simp only [if_true]
        exact ⟨fun _=>⟨by omega,by omega,by omega,trivial,trivial,hc.1 trivial⟩,fun _=>rfl⟩
      | true =>
        simp only [hq] at hc ⊢
        simp only [if_true]
        constructor
        · intro h; simp at h
        · rintro ⟨_,_,_,_,_,h⟩
          exact absurd (hc.2 h) (by simp)
def zno (b:Bl):Bool:=decide (zgc b=0)
theorem zGn (n:Int):zmp n=inB n 0 6:=rfl
theorem zcv (b:Bl) (k:Nat) (s:So):zh2 b k s=true ↔ rowM b s.idx=true∧zmp s.level=true∧zgi s.dec s.dty s.idx.length=true ∧ ∀ a ∈ s.idx,zf1 k s a=false:=by
  rw [zh2]
  cases rowM b s.idx <;> cases zmp s.level <;> cases zgi s.dec s.dty s.idx.length <;> simp
theorem zho {b:Bl} {k:Nat} {s:So} {p:Prop} (hn:¬p) (h:zh2 b k s=true→p):zh2 b k s=false:=by
  cases hq:zh2 b k s with
  | false=>rfl
  | true=>exact absurd (h hq) hn
theorem zCc {α:Type} {p:α→Bool} {l:List α} {i:Nat} (hi:i<l.length) (h:∀ (j:Nat) (hj:j<l.length),j<i→p l[j]=false) (hx:p l[i]=false) :
    ∀ (j:Nat) (hj:j<l.length),j<i+1→p l[j]=false:=by
  intro j hj hji
  rcases ybm j i with h' | h'
  · exact h j hj h'
  · have:j=i:=by omega
    subst this
    exact hx
def bad0 (k:Int) (a:Ar):Bool:=if a.rc then if 0<(a.dom.length:Int) then true else decide (k≤a.sort) else false
theorem zRx {l:List Ar} {j:Nat} (h:j<l.length):(l.take (j+1)).any (·.rc)=((l.take j).any (·.rc) || l[j].rc):=by
  rw [zce (yar h),List.any_append]
  simp
theorem zB0 {k:Int} {s:So} {a:Ar} (h:bad0 k a=false) (hd:a.rc=true→s.dec=false):zf1 k s a=false:=by
  rw [bad0] at h
  rw [zf1]
  cases hr:a.rc with
  | false=>rfl
  | true =>
    simp only [hr,if_true] at h ⊢
    by_cases c:0<(a.dom.length:Int)
    · rw [if_pos c] at h; cases h
    · rw [if_neg c] at h ⊢
      have c2:¬k≤a.sort:=by simpa using h
      rw [if_neg c2]
      exact hd hr
theorem zM1 (b:Bl):Pure Tryz.prog zhi [eBl b] [.bool (zno b)]:=by
  refine zs8 rfl fun hs=>?_
  have hbl:((b.sorts.length:Int))≤9223372036854775807:=by
    have:=hs (eBl b) (by simp)
    simp -dsimp [eBl,cBl,eSos,small] at this
    omega
  have no:∀ {p:Prop},¬p→(zgc b=0→p)→zno b=false:=fun hn hp=>by
    rw [zno,decide_eq_false_iff_not]
    exact fun h=>hn (hp h)
  simp -dsimp [zhl,eBl,cBl,eSos,eCos]
  refine zaa (zmv _ 1 4) ?_
  simp -dsimp
  (first | refine zal ?_ ?_ | refine zam ?_ ?_) <;> intro g1 <;> (try simp only [nrm] at g1) <;> simp -dsimp [g1]
  · refine no (p:=1≤b.sorts.length∧b.sorts.length≤4) ?_ fun h=>⟨((zbo b).1 h).1,((zbo b).1 h).2.1⟩
    have:=(zis _ _ _).1 g1
    omega
  (first | refine zal ?_ ?_ | refine zam ?_ ?_) <;> intro g2 <;> (try simp only [nrm] at g2) <;> simp -dsimp [g2,g1]
  · exact no (p:=b.cons.length≤8) (by omega) fun h=>((zbo b).1 h).2.2.1
  refine zaa (zmv b.elim 0 6) ?_
  simp -dsimp [g1,g2]
  (first | refine zal ?_ ?_ | refine zam ?_ ?_) <;> intro g3 <;> (try simp only [nrm] at g3) <;> simp -dsimp [g3,g1,g2]
  · exact no (p:=zmp b.elim=true) (by rw [zGn,g3]; simp) fun h=>((zbo b).1 h).2.2.2.1
  have hS:=(zeu _ _ _).1 g1
  have hSl:b.sorts.length≤4:=by omega
  have hCl:b.cons.length≤8:=by omega
  refine zah b.sorts.length (fun i st=>st.s 1 = .ptr 1 1 0∧st.h 1=⟨1,.box [.d (.sl 6 (b.sorts.map eSo)),.d (.sl 6 (b.cons.map eCo)),.d (.int .i64 b.elim)] false⟩∧st.s 3 = .d (.int .i64 i) ∧
    ∀ (j:Nat) (hj:j<b.sorts.length),j<i→zh2 b j b.sorts[j]=true) ?_ ?_
  · simp -dsimp
  · rintro i ⟨s,hp⟩ hi ⟨f1,f2,f3,f4⟩
    dsimp only at f1 f2 f3
    rcases ybm i b.sorts.length with hlt | hge
    · have w1:IntKind.i64.wrap ((i:Int)+1)=(i:Int)+1:=zab (by omega) (by omega)
      simp -dsimp [f1,f2,f3,hlt,eSo,cSo,cT,eArs]
      have noS:zh2 b i b.sorts[i]=false→zno b=false:=fun hx =>
        no (p:=zh2 b i b.sorts[i]=true) (by rw [hx]; simp) fun h=>((zbo b).1 h).2.2.2.2.1 i hlt
      have hR:¬12<(b.sorts[i].idx.length:Int)→rowM b b.sorts[i].idx=allI (fun i a=>argM b a i) 0 b.sorts[i].idx:=fun h=>by rw [rowM,if_neg h]
      generalize hsi:b.sorts[i]=s at noS hR ⊢
      (first | refine zal ?_ ?_ | refine zam ?_ ?_) <;> intro g4 <;> (try simp only [nrm] at g4) <;> simp -dsimp [g4,f1,f2,f3,hlt]
      · exact noS (zho (p:=rowM b s.idx=true) (by rw [rowM,if_pos g4]; simp) fun h=>((zcv b i s).1 h).1)
      refine zaa (zmv s.level 0 6) ?_
      simp -dsimp [g4]
      (first | refine zal ?_ ?_ | refine zam ?_ ?_) <;> intro g5 <;> (try simp only [nrm] at g5) <;> simp -dsimp [g5,f1,f2,f3,hlt,g4]
      · exact noS (zho (p:=zmp s.level=true) (by rw [zGn,g5]; simp) fun h=>((zcv b i s).1 h).2.1)
      replace hR:=hR g4
      have hsl:s.idx.length≤12:=by omega
      generalize (hp 4).ver+1=v
      refine zah s.idx.length (fun j st=>st.s 1 = .ptr 1 1 0∧st.h 1=⟨1,.box [.d (.sl 6 (b.sorts.map eSo)),.d (.sl 6 (b.cons.map eCo)),.d (.int .i64 b.elim)] false⟩∧st.s 3 = .d (.int .i64 i) ∧
        st.s 4 = .ptr 4 v 0∧st.h 4=⟨v,.box [.d (.sl 7 (s.idx.map eAr)),.d (.int .i64 s.level),.d (.bool s.dec),.d (.int .i64 s.dty.kind),.d (.int .i64 s.dty.num),.d (.sl 3 (s.dty.kids.map eT))] false⟩ ∧
        st.s 6 = .d (.int .i64 j)∧st.s 5 = .d (.bool ((s.idx.take j).any (·.rc)))∧(∀ (k:Nat) (hk:k<s.idx.length),k<j→argM b s.idx[k] k=true) ∧ ∀ (k:Nat) (hk:k<s.idx.length),k<j→bad0 i s.idx[k]=false) ?_ ?_
      · simp -dsimp [f1,f2,f3]
      · clear f1 f2 f3 hp
        rintro j ⟨s',hp⟩ hj ⟨e1,e2,e3,e4,e5,e6,e7,e8,e9⟩
        dsimp only at e1 e2 e3 e4 e5 e6 e7
        rcases ybm j s.idx.length with hlt' | hge
        · have w2:IntKind.i64.wrap ((j:Int)+1)=(j:Int)+1:=zab (by omega) (by omega)
          simp -dsimp [e1,e2,e3,e4,e5,e6,e7,hlt',eAr,cAr,cT,eTs]
          refine zaa (zOh b s.idx[j] j (by omega) (by omega)) ?_
          simp -dsimp [e1,e2,e3,e4,e5,e6,e7,hlt',eAr,cAr,cT,eTs]
          (first | refine zal ?_ ?_ | refine zam ?_ ?_) <;> intro c1 <;> (try simp only [nrm] at c1) <;> simp -dsimp [c1,e1,e2,e3,e4,e5,e6,e7,hlt',eAr,cAr,cT,eTs]
          · refine noS (zho (p:=rowM b s.idx=true) ?_ fun h=>((zcv b i s).1 h).1)
            rw [hR,zrv (p:=fun i a=>argM b a i) hlt' c1]
            simp
          have hany:=zRx hlt'
          have hbad:bad0 i s.idx[j]=true→zno b=false:=fun hb=>by
            refine noS (zho (p:=zf1 i s s.idx[j]=false) ?_ fun h=>((zcv b i s).1 h).2.2.2 _ (yaf _))
            rw [bad0] at hb
            rw [zf1]
            cases hr:s.idx[j].rc with
            | false=>simp [hr] at hb
            | true =>
              simp only [hr,if_true] at hb ⊢
              by_cases c2:0<(s.idx[j].dom.length:Int)
              · rw [if_pos c2]; simp
              · rw [if_neg c2] at hb
                have c3:(i:Int)≤s.idx[j].sort:=by simpa using hb
                rw [if_neg c2,if_pos c3]; simp
          generalize (s.idx.take j).any (·.rc)=R at e7 hany
          cases hr:s.idx[j].rc with
          | false =>
            rw [hr] at hany
            have hb0:bad0 i s.idx[j]=false:=by simp [bad0,hr]
            cases R <;> simp -dsimp [e1,e2,e3,e4,e5,e6,e7,hlt',eAr,cAr,cT,eTs,hr,hany,w2,c1] <;> exact ⟨zkq (p:=fun i a=>argM b a i) hlt' e8 c1,zCc hlt' e9 hb0⟩
          | true =>
            rw [hr] at hany
            simp -dsimp [e1,e2,e3,e4,e5,e6,e7,hlt',eAr,cAr,cT,eTs,hr,hany,w2,c1]
            (first | refine zal ?_ ?_ | refine zam ?_ ?_) <;> intro c2 <;> (try simp only [nrm] at c2) <;> simp -dsimp [c2,e1,e2,e3,e4,e5,e6,e7,hlt',eAr,cAr,cT,eTs,hr,hany,w2,c1]
            · exact hbad (by simp only [bad0,hr,if_true]; rw [if_pos (by omega)])
            (first | refine zal ?_ ?_ | refine zam ?_ ?_) <;> intro c3 <;> (try simp only [nrm] at c3) <;> simp -dsimp [c3,e1,e2,e3,e4,e5,e6,e7,hlt',eAr,cAr,cT,eTs,hr,hany,w2,c1,c2]
            · exact hbad (by simp only [bad0,hr,if_true]; rw [if_neg (by omega)]; simpa using c3)
            have hb0:bad0 i s.idx[j]=false:=by
              simp only [bad0,hr,if_true]
              rw [if_neg (by omega)]
              simp
              omega
            cases R <;> simp -dsimp [e1,e2,e3,e4,e5,e6,e7,hlt',eAr,cAr,cT,eTs,hr,hany,w2,c1,c2,c3] <;> exact ⟨zkq (p:=fun i a=>argM b a i) hlt' e8 c1,zCc hlt' e9 hb0⟩
        · have e:j=s.idx.length:=by omega
          subst e
          rw [yce] at e7
          have hRow:rowM b s.idx=true:=by rw [hR]; exact zrt (p:=fun i a=>argM b a i) e8
          have hLev:zmp s.level=true:=g5
          have hbads:∀ a ∈ s.idx,bad0 i a=false:=fun a ha=>by
            obtain ⟨k,hk,rfl⟩:=ycM.1 ha
            exact e9 k hk hk
          have next:zh2 b i s=true → ∀ (k:Nat) (hk:k<b.sorts.length),k<i+1→zh2 b k b.sorts[k]=true:=fun h=>zkq (p:=fun k s=>zh2 b k s) hlt f4 (by rw [hsi]; exact h)
          simp -dsimp [e1,e2,e3,e4,e5,e6,e7]
          cases hd:s.dec with
          | false =>
            simp -dsimp [e1,e2,e3,e4,e5,e6,e7,hd]
            refine zaa (zD5 s.dty) ?_
            simp -dsimp [e1,e2,e3,e4,e5,e6,e7,hd]
            (first | refine zal ?_ ?_ | refine zam ?_ ?_) <;> intro c4 <;> (try simp only [nrm] at c4) <;> simp -dsimp [c4,e1,e2,e3,e4,e5,e6,e7,hd,w1]
            · exact noS (zho (p:=zgi s.dec s.dty s.idx.length=true) (by rw [zgi,hd]; simp [c4]) fun h=>((zcv b i s).1 h).2.2.1)
            · exact ⟨hlt,next ((zcv b i s).2 ⟨hRow,hLev,by rw [zgi,hd]; exact c4,fun a ha=>zB0 (hbads a ha) fun _=>hd⟩)⟩
          | true =>
            cases hrec:s.idx.any (·.rc) with
            | true =>
              rw [hrec] at e7
              simp -dsimp [e1,e2,e3,e4,e5,e6,e7,hd]
              obtain ⟨a,ha,har⟩:=List.any_eq_true.1 hrec
              refine noS (zho (p:=zf1 i s a=false) ?_ fun h=>((zcv b i s).1 h).2.2.2 a ha)
              have har:a.rc=true:=har
              simp [zf1,har,hd]
            | false =>
              rw [hrec] at e7
              simp -dsimp [e1,e2,e3,e4,e5,e6,e7,hd]
              refine zaa (zrl s.dty _ (by omega)) ?_
              simp -dsimp [e1,e2,e3,e4,e5,e6,e7,hd]
              (first | refine zal ?_ ?_ | refine zam ?_ ?_) <;> intro c4 <;> (try simp only [nrm] at c4) <;> simp -dsimp [c4,e1,e2,e3,e4,e5,e6,e7,hd,w1]
              · exact noS (zho (p:=zgi s.dec s.dty s.idx.length=true) (by rw [zgi,hd]; simp [c4]) fun h=>((zcv b i s).1 h).2.2.1)
              · exact ⟨hlt,next ((zcv b i s).2 ⟨hRow,hLev,by rw [zgi,hd]; exact c4,fun a ha=>zB0 (hbads a ha) fun har=>absurd har (by simpa using ycf.1 hrec a ha)⟩)⟩
    · have e:i=b.sorts.length:=by omega
      subst e
      simp -dsimp [f1,f2,f3]
      clear f3 hi
      refine zah b.cons.length (fun i st=>st.s 1 = .ptr 1 1 0∧st.h 1=⟨1,.box [.d (.sl 6 (b.sorts.map eSo)),.d (.sl 6 (b.cons.map eCo)),.d (.int .i64 b.elim)] false⟩∧st.s 7 = .d (.int .i64 i) ∧
        ∀ (j:Nat) (hj:j<b.cons.length),j<i→conM b b.cons[j]=true) ?_ ?_
      · simp -dsimp [f1,f2]
      · clear f1 f2 s hp
        rintro i ⟨s,hp⟩ hi ⟨f1,f2,f3,f5⟩
        dsimp only at f1 f2 f3
        rcases ybm i b.cons.length with hlt | hge
        · have w1:IntKind.i64.wrap ((i:Int)+1)=(i:Int)+1:=zab (by omega) (by omega)
          simp -dsimp [f1,f2,f3,hlt,eCo,cCo,cT,eArs,eTs]
          refine zaa (zTq b b.cons[i]) ?_
          simp -dsimp [f1,f2,f3,hlt]
          (first | refine zal ?_ ?_ | refine zam ?_ ?_) <;> intro h6 <;> (try simp only [nrm] at h6) <;> simp -dsimp [h6,f1,f2,f3,hlt,w1]
          · exact no (p:=conM b b.cons[i]=true) (by rw [h6]; simp) fun h=>((zbo b).1 h).2.2.2.2.2 _ (yaf _)
          · exact zp1 (p:=conM b) hlt f5 h6
        · have e:i=b.cons.length:=by omega
          subst e
          have hAll:zno b=true:=by
            rw [zno,decide_eq_true_eq,zbo]
            refine ⟨by omega,by omega,hCl,g3,fun j hj=>f4 j hj hj,fun c hc=>?_⟩
            obtain ⟨k,hk,rfl⟩:=ycM.1 hc
            exact f5 k hk hk
          simp -dsimp [f1,f2,f3,hAll]
end
section
attribute [local simp] zaf zag tk tn tks zcl zcu
theorem zEb (b:Bl):Pure Tryz.prog zbi [eBl b] [.int .i64 b.sorts.length]:=by
  refine zx4 rfl fun hs=>?_
  simp -dsimp [zk7,eBl,cBl,eSos,eCos]
theorem zQn {l:List So} {i:Nat} (h:l.length≤i):decs (l.take i)=decs l:=by rw [ycd h]
theorem zCq (b:Bl) (k:Int):Pure Tryz.prog zd8 [eBl b,.int .i64 k] [.int .i64 (decs (b.sorts.take k.toNat))]:=by
  refine zvq rfl fun hs=>?_
  have hbl:((b.sorts.length:Int))≤9223372036854775807:=by
    have:=hs (eBl b) (by simp)
    simp -dsimp [eBl,cBl,eSos,small] at this
    omega
  simp -dsimp [zit,eBl,cBl,eSos,eCos]
  have hl:=zQn (l:=b.sorts) (i:=k.toNat)
  refine zah (min k.toNat b.sorts.length) (fun i st=>st.s 1 = .d (.int .i64 k)∧st.s 2 = .ptr 2 1 0∧st.h 2=⟨1,.box [.d (.sl 6 (b.sorts.map eSo)),.d (.sl 6 (b.cons.map eCo)),.d (.int .i64 b.elim)] false⟩ ∧
    st.s 6 = .d (.int .i64 i)∧st.s 5 = .d (.int .i64 (decs (b.sorts.take i)))) ?_ ?_
  · simp -dsimp [decs]
  · rintro i ⟨s,hp⟩ hi ⟨g1,g2,g3,g4,g5⟩
    dsimp only at g1 g2 g3 g4 g5
    rcases ybm i (min k.toNat b.sorts.length) with hlt | hge
    · have hlt1:(i:Int)<k:=by omega
      have hlt2:i<b.sorts.length:=by omega
      have hlt3:i<k.toNat:=by omega
      have w1:IntKind.i64.wrap ((i:Int)+1)=(i:Int)+1:=zab (by omega) (by omega)
      have hd:=zj9 (b.sorts.take i)
      rw [yaE] at hd
      have w2:IntKind.i64.wrap ((decs (b.sorts.take i):Int)+1)=(decs (b.sorts.take i):Int)+1:=zab (by omega) (by omega)
      have hsn:=zAm b.sorts i b.sorts[i] (yar hlt2)
      simp -dsimp [g1,g2,g3,g4,g5,hlt1,hlt2,eSo,cSo,cT,eArs]
      cases hxd:b.sorts[i].dec <;> simp -dsimp [hlt,hxd,g1,g2,g3,g4,g5,hlt1,hlt2,hlt3,w1,w2,hsn]
    · have e:i=min k.toNat b.sorts.length:=by omega
      rcases ybm k.toNat b.sorts.length with c | c
      · have e2:i=k.toNat:=by omega
        have n1:¬(max k 0<k):=by omega
        clear e
        subst e2
        simp -dsimp [g1,g2,g3,g4,g5,n1]
      · have e2:i=b.sorts.length:=by omega
        rw [hl c]
        clear e
        subst e2
        rw [yce] at g5
        simp -dsimp [g1,g2,g3,g4,g5]
        (first | refine zal ?_ ?_ | refine zam ?_ ?_) <;> intro n1 <;> (try simp only [nrm] at n1) <;> simp -dsimp [n1,g1,g2,g3,g4,g5]
theorem zCi (b:Bl) (hf:Fit b) (base k:Int):Pure Tryz.prog zes [eBl b,.int .i64 base,.int .i64 k] [.int .i64 (zbm b base k)]:=by
  refine zsd rfl fun hs=>?_
  have hfs:=hf.s
  simp -dsimp [zgz,eBl,cBl,eSos,eCos]
  refine zaa (zmv base 0 65535) ?_
  simp -dsimp
  (first | refine zal ?_ ?_ | refine zam ?_ ?_) <;> intro g1 <;> (try simp only [nrm] at g1) <;> simp -dsimp [g1]
  · have h5:=(zis _ _ _).1 g1
    rw [zbm,zku,if_pos (by omega)]
  refine zaa (zEb b) ?_
  have wS:IntKind.i64.wrap ((b.sorts.length:Int) - 1)=(b.sorts.length:Int) - 1:=zab (by omega) (by omega)
  simp -dsimp [g1,wS]
  refine zaa (zmv k 0 _) ?_
  simp -dsimp [g1]
  have h5:=(zeu _ _ _).1 g1
  rw [zkr hf h5.1 h5.2]
  (first | refine zal ?_ ?_ | refine zam ?_ ?_) <;> intro g2 <;> (try simp only [nrm] at g2) <;> simp -dsimp [g2,g1]
  · have h6:=(zis _ _ _).1 g2
    intros
    omega
  have h6:=(zeu _ _ _).1 g2
  rw [if_pos (by omega)]
  exact zab (by omega) (by omega)
theorem znc (b:Bl) (hf:Fit b) (base k:Int):Pure Tryz.prog zc7 [eBl b,.int .i64 base,.int .i64 k] [.int .i64 (za3 b base k)]:=by
  refine znm rfl fun hs=>?_
  have hfs:=hf.s
  have hfc:=hf.c
  have hd:=zj9 b.sorts
  simp -dsimp [ze0,eBl,cBl,eSos,eCos]
  refine zaa (zmv base 0 65535) ?_
  simp -dsimp
  (first | refine zal ?_ ?_ | refine zam ?_ ?_) <;> intro g1 <;> (try simp only [nrm] at g1) <;> simp -dsimp [g1]
  · have h5:=(zis _ _ _).1 g1
    rw [za3,zku,if_pos (by omega)]
  refine zaa (zEb b) ?_
  have wS:IntKind.i64.wrap ((b.sorts.length:Int) - 1)=(b.sorts.length:Int) - 1:=zab (by omega) (by omega)
  simp -dsimp [g1,wS]
  refine zaa (zmv k 0 _) ?_
  simp -dsimp [g1]
  have h5:=(zeu _ _ _).1 g1
  rw [zoo hf h5.1 h5.2]
  (first | refine zal ?_ ?_ | refine zam ?_ ?_) <;> intro g2 <;> (try simp only [nrm] at g2) <;> simp -dsimp [g2,g1]
  · have h6:=(zis _ _ _).1 g2
    intros
    omega
  have h6:=(zeu _ _ _).1 g2
  rw [if_pos (by omega)]
  refine zaa (zEb b) ?_
  simp -dsimp
  refine zaa (zEb b) ?_
  simp -dsimp
  refine zaa (zCq b b.sorts.length) ?_
  simp -dsimp
  rw [zab (n:=base+(b.sorts.length:Int)) (by omega) (by omega),zab (n:=base+(b.sorts.length:Int)+decs b.sorts) (by omega) (by omega),zab (n:=base+(b.sorts.length:Int)+decs b.sorts+b.cons.length) (by omega) (by omega),zab (by omega) (by omega)]
  omega
theorem zq9 (b:Bl) (hf:Fit b) (base k:Int):Pure Tryz.prog zcx [eBl b,.int .i64 base,.int .i64 k] [.int .i64 (zap b base k)]:=by
  refine zmy rfl fun hs=>?_
  have hfs:=hf.s
  have hfc:=hf.c
  have hd:=zj9 b.sorts
  simp -dsimp [zep,eBl,cBl,eSos,eCos]
  refine zaa (zmv base 0 65535) ?_
  simp -dsimp
  (first | refine zal ?_ ?_ | refine zam ?_ ?_) <;> intro g1 <;> (try simp only [nrm] at g1) <;> simp -dsimp [g1]
  · have h5:=(zis _ _ _).1 g1
    rw [zap,zku,if_pos (by omega)]
  have wS:IntKind.i64.wrap ((b.cons.length:Int) - 1)=(b.cons.length:Int) - 1:=zab (by omega) (by omega)
  simp -dsimp [g1,wS]
  refine zaa (zmv k 0 _) ?_
  simp -dsimp [g1]
  have h5:=(zeu _ _ _).1 g1
  rw [zhc hf h5.1 h5.2]
  (first | refine zal ?_ ?_ | refine zam ?_ ?_) <;> intro g2 <;> (try simp only [nrm] at g2) <;> simp -dsimp [g2,g1]
  · have h6:=(zis _ _ _).1 g2
    intros
    omega
  have h6:=(zeu _ _ _).1 g2
  rw [if_pos (by omega)]
  refine zaa (zEb b) ?_
  simp -dsimp
  refine zaa (zEb b) ?_
  simp -dsimp
  refine zaa (zCq b b.sorts.length) ?_
  simp -dsimp
  rw [zab (n:=base+(b.sorts.length:Int)) (by omega) (by omega),zab (n:=base+(b.sorts.length:Int)+decs b.sorts) (by omega) (by omega),zab (by omega) (by omega)]
  omega
theorem zy2 (b:Bl) (hf:Fit b) (base k:Int):Pure Tryz.prog zgf [eBl b,.int .i64 base,.int .i64 k] [.int .i64 (zej b base k)]:=by
  refine zp7 rfl fun hs=>?_
  have hfs:=hf.s
  simp -dsimp [zf9,eBl,cBl,eSos,eCos]
  refine zaa (zmv base 0 65535) ?_
  simp -dsimp
  (first | refine zal ?_ ?_ | refine zam ?_ ?_) <;> intro g1 <;> (try simp only [nrm] at g1) <;> simp -dsimp [g1]
  · have h5:=(zis _ _ _).1 g1
    rw [zej]
    split
    · rfl
    · split
      · rfl
      · split
        · rw [zku,if_pos (by omega)]
        · rfl
  refine zaa (zEb b) ?_
  have wS:IntKind.i64.wrap ((b.sorts.length:Int) - 1)=(b.sorts.length:Int) - 1:=zab (by omega) (by omega)
  simp -dsimp [g1,wS]
  refine zaa (zmv k 0 _) ?_
  simp -dsimp [g1]
  have h5:=(zeu _ _ _).1 g1
  rw [zw0 hf h5.1 h5.2]
  (first | refine zal ?_ ?_ | refine zam ?_ ?_) <;> intro g2 <;> (try simp only [nrm] at g2) <;> simp -dsimp [g2,g1]
  · have h6:=(zis _ _ _).1 g2
    intro h
    omega
  have h6:=(zeu _ _ _).1 g2
  have hlt:k.toNat<b.sorts.length:=by omega
  rw [dif_pos (by omega)]
  simp -dsimp [g1,g2,h6.1,hlt,eSo,cSo,cT,eArs]
  (first | refine zal ?_ ?_ | refine zam ?_ ?_) <;> intro g4 <;> (try simp only [nrm] at g4) <;> simp -dsimp [g4,g1,g2,h6.1,hlt,eSo,cSo,cT,eArs]
  rw [if_pos g4]
  refine zaa (zEb b) ?_
  simp -dsimp
  refine zaa (zCq b k) ?_
  simp -dsimp
  have hd:=zj9 (b.sorts.take k.toNat)
  rw [yaE] at hd
  rw [zab (n:=base+(b.sorts.length:Int)) (by omega) (by omega),zab (by omega) (by omega)]
theorem zJ3 (b:Bl) (hf:Fit b) (base n:Int) (hn:is64 n):Pure Tryz.prog zd5 [eBl b,.int .i64 base,.int .i64 n] [.int .i64 (ofM b base n).1,.int .i64 (ofM b base n).2]:=by
  refine zx8 rfl fun hs=>?_
  have hfs:=hf.s
  have hfc:=hf.c
  simp -dsimp [zkz,eBl,cBl,eSos,eCos]
  refine zah b.sorts.length (fun i st=>st.s 3 = .ptr 3 1 0∧st.h 3=⟨1,.box [.d (.sl 6 (b.sorts.map eSo)),.d (.sl 6 (b.cons.map eCo)),.d (.int .i64 b.elim)] false⟩∧st.s 1 = .d (.int .i64 base)∧st.s 2 = .d (.int .i64 n) ∧
    st.s 8 = .d (.int .i64 i) ∧ ∀ j:Nat,j<i→0≤n→zbm b base j ≠ n∧zej b base j ≠ n∧za3 b base j ≠ n) ?_ ?_
  · simp -dsimp
  · rintro i ⟨s,hp⟩ hi ⟨g1,g2,g3,g4,g5,g6⟩
    dsimp only at g1 g2 g3 g4 g5
    simp -dsimp [g1,g2,g3,g4,g5]
    refine zaa (zEb b) ?_
    rcases ybm i b.sorts.length with hlt | hge
    · have w1:IntKind.i64.wrap ((i:Int)+1)=(i:Int)+1:=zab (by omega) (by omega)
      simp -dsimp [g1,g2,g3,g4,g5,hlt]
      refine zaa (zCi b hf base i) ?_
      simp -dsimp [g1,g2,g3,g4,g5,hlt]
      by_cases nn:0≤n
      · by_cases c1:zbm b base i=n
        · have ho:=zO4 hf nn c1
          simp -dsimp [g1,g2,g3,g4,g5,hlt,w1,c1,nn,ho]
        simp -dsimp [g1,g2,g3,g4,g5,hlt,w1,c1]
        refine zaa (zy2 b hf base i) ?_
        simp -dsimp [g1,g2,g3,g4,g5,hlt,w1,c1]
        by_cases c2:zej b base i=n
        · have ho:=zLg hf nn c2
          simp -dsimp [g1,g2,g3,g4,g5,hlt,w1,c1,c2,nn,ho]
        simp -dsimp [g1,g2,g3,g4,g5,hlt,w1,c1,c2]
        refine zaa (znc b hf base i) ?_
        simp -dsimp [g1,g2,g3,g4,g5,hlt,w1,c1,c2]
        by_cases c3:za3 b base i=n
        · have ho:=zDe hf nn c3
          simp -dsimp [g1,g2,g3,g4,g5,hlt,w1,c1,c2,c3,nn,ho]
        simp -dsimp [g1,g2,g3,g4,g5,hlt,w1,c1,c2,c3]
        intro j hj hnn
        rcases ybm j i with h | h
        · exact g6 j h hnn
        · have:j=i:=by omega
          subst this
          exact ⟨c1,c2,c3⟩
      · generalize decide (zbm b base i=n)=q1
        cases q1 <;> simp -dsimp [g1,g2,g3,g4,g5,hlt,w1,nn] <;> refine zaa (zy2 b hf base i) ?_ <;> simp -dsimp [g1,g2,g3,g4,g5,hlt,w1,nn] <;>
          generalize decide (zej b base i=n)=q2 <;> cases q2 <;> simp -dsimp [g1,g2,g3,g4,g5,hlt,w1,nn] <;> refine zaa (znc b hf base i) ?_ <;> simp -dsimp [g1,g2,g3,g4,g5,hlt,w1,nn] <;>
          generalize decide (za3 b base i=n)=q3 <;> cases q3 <;> simp -dsimp [g1,g2,g3,g4,g5,hlt,w1,nn] <;> omega
    · have e:i=b.sorts.length:=by omega
      subst e
      simp -dsimp [g1,g2,g3,g4,g5]
      clear hi g5
      refine zah b.cons.length (fun i st=>st.s 3 = .ptr 3 1 0∧st.h 3=⟨1,.box [.d (.sl 6 (b.sorts.map eSo)),.d (.sl 6 (b.cons.map eCo)),.d (.int .i64 b.elim)] false⟩∧st.s 1 = .d (.int .i64 base)∧st.s 2 = .d (.int .i64 n) ∧
        st.s 9 = .d (.int .i64 i) ∧ ∀ j:Nat,j<i→0≤n→zap b base j ≠ n) ?_ ?_
      · simp -dsimp [g1,g2,g3,g4]
      · clear g1 g2 g3 g4 s hp
        rintro i ⟨s,hp⟩ hi ⟨g1,g2,g3,g4,g5,g7⟩
        dsimp only at g1 g2 g3 g4 g5
        rcases ybm i b.cons.length with hlt | hge
        · have w1:IntKind.i64.wrap ((i:Int)+1)=(i:Int)+1:=zab (by omega) (by omega)
          simp -dsimp [g1,g2,g3,g4,g5,hlt]
          refine zaa (zq9 b hf base i) ?_
          simp -dsimp [g1,g2,g3,g4,g5,hlt,w1]
          by_cases nn:0≤n
          · by_cases c1:zap b base i=n
            · have ho:=zBd hf nn c1
              simp -dsimp [g1,g2,g3,g4,g5,hlt,w1,c1,nn,ho]
            simp -dsimp [g1,g2,g3,g4,g5,hlt,w1,c1]
            intro j hj hnn
            rcases ybm j i with h | h
            · exact g7 j h hnn
            · have:j=i:=by omega
              subst this
              exact c1
          · generalize decide (zap b base i=n)=q1
            cases q1 <;> simp -dsimp [g1,g2,g3,g4,g5,hlt,w1,nn] <;> omega
        · have e:i=b.cons.length:=by omega
          subst e
          have ho:ofM b base n=(0,0):=zV1 hf hn fun e he k hk nn=>by
            simp only [tab,yaZ,ycD,or_false] at he
            rcases he with rfl | rfl | rfl | rfl <;> simp only at hk ⊢
            · exact (g6 k hk nn).1
            · exact (g6 k hk nn).2.1
            · exact g7 k hk nn
            · exact (g6 k hk nn).2.2
          simp -dsimp [g1,g2,g3,g4,g5,ho]
end
section
attribute [local simp] zaf zag tk tn tks zcl zcu
end
section
attribute [local simp] zaf zag tk tn tks zcl zcu
theorem zK1 (b:Bl):zgc b=if zno b then 0 else 12:=by
  rw [zno]
  by_cases h:zgc b=0
  · simp [h]
  · have:zgc b=12:=by
      rw [zgc] at h ⊢
      repeat' split
      all_goals first | rfl | (exfalso; apply h; simp_all)
    simp [this]
end
end
section
attribute [local simp] zaf zag tk tn tks zcl zcu
theorem zS5 (f:Int→Int→T) (c v w:Int) (hv:∀ n b:Int,0≤n→n≤65535→0≤b→b≤4194304→n<v+b→wiT (f n b) (w+b) c=true) (t:T) :
    ∀ b:Int,zac t=true→0≤b→b+zae t≤4194304→wiT t (v+b) c=true→wiT (mapT f t b) (w+b) c=true:=by
  refine T.ind (p:=fun t=>∀ b:Int,zac t=true→0≤b→b+zae t≤4194304→wiT t (v+b) c=true→wiT (mapT f t b) (w+b) c=true) ?_ t
  intro k n ks ih b hfm h0 hb hw
  rw [wiT] at hw
  rw [mapT]
  by_cases h1:k=1
  · have hn:=zds h1 hfm
    rw [if_pos h1] at hw ⊢
    exact hv n b hn.1 hn.2 h0 (by omega) (by simpa using hw)
  · rw [if_neg h1] at hw ⊢
    rw [wiT,if_neg h1]
    split
    · rename_i h2; rw [if_pos h2] at hw; exact hw
    · rename_i h2
      rw [if_neg h2] at hw
      split
      · rename_i h3; rw [if_pos h3] at hw; exact hw
      · rename_i h3
        rw [if_neg h3] at hw
        rw [zI4] at hw ⊢
        intro j hj
        rw [zgl] at hj
        have hxn:=zcc (k:=k) (n:=n) (yaf hj)
        have hbl:=zco k j
        rw [zlg _ _ _ _ _ _ hj]
        have:=hw j hj
        rw [ybj] at this ⊢
        have e1:v+b+zak k j=v+(b+zak k j):=by omega
        have e2:w+b+zak k j=w+(b+zak k j):=by omega
        rw [e1] at this
        rw [e2]
        exact ih ks[j] (yaf _) _ (zbn hfm _ (yaf _)) (by omega) (by omega) this
theorem zWy (c:Int) (t:T):∀ v b:Int,zac t=true→0≤b→0≤v→wiT t v c=true→ze6 t b<v+zae t:=by
  refine T.ind (p:=fun t=>∀ v b:Int,zac t=true→0≤b→0≤v→wiT t v c=true→ze6 t b<v+zae t) ?_ t
  intro k n ks ih v b hfm hb hv0 hw
  rw [wiT] at hw
  rw [ze6]
  by_cases h1:k=1
  · have hks:=zln h1 hfm
    subst hks
    rw [if_pos h1] at hw
    rw [zks,zcr]
    have:n<v:=by simpa using hw
    split <;> omega
  · rw [if_neg (fun h=>h1 h.1)]
    rw [if_neg h1] at hw
    have hnn:zae (.mk k n ks)=(ks.map zae).sum+1:=by rw [zae]
    by_cases h2:k=2∨k=3
    · have hk0:zf5 k=0:=by rcases h2 with rfl | rfl <;> rfl
      have hks:ks=[]:=by
        rw [zbf,hk0] at hfm
        split at hfm
        · exact ycL.1 (by omega)
        · cases hfm
      subst hks
      rw [zks]
      omega
    · rw [if_neg (by omega),if_neg (by omega),zI4] at hw
      have go:∀ (l:List T) (i:Nat) (a:Int),(∀ (j:Nat) (hj:j<l.length),l[j] ∈ ks∧wiT l[j] (v+zak k (i+j:Nat)) c=true)→a<v+zae (.mk k n ks)→zks k b i a l<v+zae (.mk k n ks):=by
        intro l
        induction l with
        | nil=>intro i a _ h; rw [zks]; exact h
        | cons x xs ihx =>
          intro i a hm ha
          obtain ⟨hx,hwx⟩:=hm 0 (by simp)
          simp only [ycz,Nat.add_zero] at hx hwx
          have hxn:=zcc (k:=k) (n:=n) hx
          have hbl:=zco k i
          have h3:=ih x hx (v+zak k i) (b+zak k i) (zbn hfm x hx) (by omega) (by omega) hwx
          rw [zks]
          refine ihx (i+1) _ (fun j hj=>?_) ?_
          · have:=hm (j+1) (by simpa using hj)
            rw [show i+(j+1)=i+1+j by omega] at this
            simpa using this
          · rw [zAu]
            omega
      exact go ks 0 (-1) (fun j hj=>⟨yaf _,hw j hj⟩) (by omega)
theorem zFx {n w c:Int} (h:n<w):wiT (.mk 1 n []) w c=true:=by rw [wiT,if_pos rfl]; simpa using h
def shF (fr y n b:Int):T:=.mk 1 (if n<fr+b then n else n+y) []
mutual
def shB (fr y:Int):T→Int→Bool
  | .mk k n ks,b=>if k=1 then decide (n<fr+b) || decide (n+y≤65535) else shBL fr y k b 0 ks
def shBL (fr y k b:Int):Nat→List T→Bool
  | _,[]=>true
  | i,x :: xs=>shB fr y x (b+zak k i) && shBL fr y k b (i+1) xs
end
theorem zO3 (fr y k b:Int):∀ (l:List T) (i:Nat),shBL fr y k b i l=true ↔ ∀ (j:Nat) (hj:j<l.length),shB fr y l[j] (b+zak k (i+j:Nat))=true
  | [],i=>by simp [shBL]
  | x :: xs,i=>by
    rw [shBL,ybJ,zO3 fr y k b xs (i+1)]
    constructor
    · rintro ⟨h1,h2⟩ j hj
      cases j with
      | zero=>simpa using h1
      | succ j =>
        have:=h2 j (by simpa using hj)
        simp only [ycB]
        have e:(i+(j+1):Nat)=i+1+j:=by omega
        rw [e]; exact this
    · intro h
      have h0:=h 0 (by simp)
      simp only [ycz,Nat.add_zero] at h0
      refine ⟨h0,fun j hj=>?_⟩
      have:=h (j+1) (by simpa using hj)
      simp only [ycB] at this
      have e:(i+(j+1):Nat)=i+1+j:=by omega
      rw [e] at this; exact this
end
section
theorem zbq (l:List So):(AV.d (eSos l)).one=true:=rfl
theorem zbu (l:List Co):(AV.d (eCos l)).one=true:=rfl
theorem zbt (l:List Ar):(AV.d (eArs l)).one=true:=rfl
theorem zc5 (l:List T):(AV.d (eTs l)).one=true:=rfl
attribute [local simp] zaf zag tk tn tks zbq zbu zbt zc5
structure FineAr (a:Ar):Prop where
  ty:zae a.ty≤9000
  domL:a.dom.length≤60
  dom:(a.dom.map zae).sum≤9000
  idxL:a.idx.length≤60
  idx:(a.idx.map zae).sum≤9000
def zjv (l:List Ar):Prop:=l.length≤20 ∧ ∀ a ∈ l,FineAr a
structure FineSo (s:So):Prop where
  idx:zjv s.idx
  dty:zae s.dty≤9000
structure FineCo (c:Co):Prop where
  args:zjv c.args
  idxL:c.idx.length≤60
  idx:(c.idx.map zae).sum≤9000
  dec:zae c.dec≤9000
structure FineBl (b:Bl):Prop where
  s:b.sorts.length≤10
  c:b.cons.length≤20
  sorts:∀ s ∈ b.sorts,FineSo s
  cons:∀ c ∈ b.cons,FineCo c
theorem zHa {xs:List D} {x:D} (h:x ∈ xs):bulk x≤(xs.map bulk).sum:=zdn (ybb.2 ⟨x,h,rfl⟩)
theorem zAh {t:T} (hb:zae t≤1048576) (h:zga [t]=false):zae t≤9000:=by
  have:=(zyq (l:=[t]) (by simpa using hb) h).2.2
  simpa using this
theorem zVi {a:Ar} (hb:bulk (eAr a)≤1048576) (h:pArg a=false):FineAr a:=by
  have e:bulk (eAr a)=1+bulk (.agg (cT a.ty))+(bulk (eTs a.dom)+(1+bulk (eTs a.idx))):=by
    simp only [eAr,cAr,bulk,yaV,ycN,ybZ,ycO,ycE,ycP,ycv,cT,eTs,ycu]
    omega
  simp only [pArg,ycx] at h
  have h1:=zz7 a.ty
  have h2:=zC0 a.dom
  have h3:=zC0 a.idx
  obtain ⟨d1,_,d2⟩:=zyq (l:=a.dom) (by omega) h.1.2
  obtain ⟨i1,_,i2⟩:=zyq (l:=a.idx) (by omega) h.2
  exact ⟨zAh (by omega) h.1.1,d1,d2,i1,i2⟩
theorem zJ5 {l:List Ar} (hb:bulk (eArs l)≤1048576) (h:zji l=false):zjv l:=by
  simp only [zji,ycx,decide_eq_false_iff_not] at h
  refine ⟨by omega,fun a ha=>zVi ?_ ?_⟩
  · have:=zHa (ybb.2 ⟨a,ha,rfl⟩:eAr a ∈ l.map eAr)
    simp only [eArs,bulk] at hb
    omega
  · have:=ycf.1 h.2 a ha
    simpa using this
theorem zWp {b:Bl} (hb:bulk (eBl b)≤1048576) (h:zjx b=false):FineBl b:=by
  have hf:=zTb h
  have e:bulk (eBl b)=bulk (eSos b.sorts)+(bulk (eCos b.cons)+1):=by simp [eBl,cBl,bulk]
  simp only [zjx,ycx] at h
  refine ⟨hf.s,hf.c,fun s hs=>?_,fun c hc=>?_⟩
  · have h1:=zHa (ybb.2 ⟨s,hs,rfl⟩:eSo s ∈ b.sorts.map eSo)
    have h2:bulk (eSos b.sorts)=((b.sorts.map eSo).map bulk).sum+1:=by simp [eSos,bulk]
    have h3:bulk (eSo s)=bulk (eArs s.idx)+(1+(1+bulk (.agg (cT s.dty)))):=by
      simp only [eSo,cSo,bulk,yaV,ycN,ybZ,ycO,ycE,ycP,cT]
      omega
    have hp:=ycf.1 h.1.2 s hs
    simp only [pSo,ycQ,ycx] at hp
    have h4:=zz7 s.dty
    exact ⟨zJ5 (by omega) hp.1,zAh (by omega) hp.2⟩
  · have h1:=zHa (ybb.2 ⟨c,hc,rfl⟩:eCo c ∈ b.cons.map eCo)
    have h2:bulk (eCos b.cons)=((b.cons.map eCo).map bulk).sum+1:=by simp [eCos,bulk]
    have h3:bulk (eCo c)=1+(bulk (eArs c.args)+(bulk (eTs c.idx)+bulk (.agg (cT c.dec)))):=by
      simp only [eCo,cCo,bulk,yaV,ycN,ybZ,ycO,ycE,ycP,cT]
      omega
    have hp:=ycf.1 h.2 c hc
    simp only [pCo,ycQ,ycx] at hp
    have h4:=zz7 c.dec
    have h5:=zC0 c.idx
    obtain ⟨i1,_,i2⟩:=zyq (l:=c.idx) (by omega) hp.1.2
    exact ⟨zJ5 (by omega) hp.1.1,i1,i2,zAh (by omega) hp.2⟩
theorem zPb (n:Int):Pure Tryz.prog zop [.int .i64 n] [.agg (cT (.mk 3 n []))]:=by
  refine zSd rfl fun hs=>?_
  simp -dsimp [zDn,cT]
theorem tu_ok (n:Int):Pure Tryz.prog zEl [.int .i64 n] [.agg (cT (.mk 2 n []))]:=by
  refine zQs rfl fun hs=>?_
  simp -dsimp [zD4,cT]
def tC (n:Int):T:=.mk 3 n []
def fmT (b:Bl) (base k:Int):T:=tC (if 0<zbm b base k then zbm b base k else 0)
theorem zKy (b:Bl) (base k:Int):Pure Tryz.prog zq5 [eBl b,.int .i64 base,.int .i64 k] [.agg (cT (fmT b base k))]:=by
  refine zGm rfl fun hs=>?_
  have h:=zvb b base k
  simp only [eBl,cBl] at h
  simp -dsimp [zqz,eBl,cBl]
  refine zaa h ?_
  simp -dsimp
  refine zaa (zPb _) ?_
  simp -dsimp [cT,fmT,tC]
theorem zFv (a c k m:Int):n64 (zku a c k m):=by
  rw [zku]
  split
  · exact ⟨by omega,by omega⟩
  · have:=zVz (w64 (a+c)+k)
    simp only [w64,n64] at this ⊢
    omega
theorem zF8 (b:Bl) (base k:Int):okT (fmT b base k):=by
  have h:=zFv base 0 k b.sorts.length
  refine .mk _ _ _ ⟨by omega,by omega⟩ ?_ (by simp) (by simp)
  show n64 (if 0<zbm b base k then zbm b base k else 0)
  split
  · exact h
  · exact ⟨by omega,by omega⟩
def zcj (b:Bl) (base:Int) (a:Ar):T:=if a.rc=true then zcq 4 a.dom (spT (fmT b base a.sort) a.idx) else a.ty
theorem zzt (b:Bl) (base:Int) {a:Ar} (h:okAr a):okT (zcj b base a):=by
  rw [zcj]
  split
  · exact zyr (by omega) _ (zez _ _ (zF8 _ _ _) h.idx.2) _ h.dom.2
  · exact h.ty
theorem zBr (b:Bl) (base:Int) (a:Ar) (h:okAr a) (hf:FineAr a):Pure Tryz.prog zli [eBl b,.int .i64 base,.agg (cAr a)] [.agg (cT (zcj b base a))]:=by
  refine zDq rfl fun hs=>?_
  have d1:=hf.domL
  have i1:=hf.idxL
  have hF:=zKy b base a.sort
  have hS:=zms (fmT b base a.sort) a.idx (by omega) (zF8 _ _ _) h.idx
  have hP:=zTa a.dom (spT (fmT b base a.sort) a.idx) (by omega) (zez _ _ (zF8 _ _ _) h.idx.2) h.dom
  have hT:=zrq a.ty h.ty
  cases hr:a.rc with
  | false =>
    have e:zcj b base a=a.ty:=by rw [zcj,hr]; rfl
    rw [e]
    simp only [cT] at hT
    simp -dsimp [zlp,eBl,cBl,cAr,cT,hr]
    refine zaa hT ?_
    simp -dsimp
  | true =>
    have e:zcj b base a=zcq 4 a.dom (spT (fmT b base a.sort) a.idx):=by rw [zcj,hr]; rfl
    rw [e]
    generalize zcq 4 a.dom (spT (fmT b base a.sort) a.idx)=P at hP
    generalize spT (fmT b base a.sort) a.idx=Sp at hS hP
    generalize fmT b base a.sort=F at hF hS
    simp only [eBl,cBl,cT,eTs] at hF hS hP
    simp -dsimp [zlp,eBl,cBl,cAr,cT,eTs,hr]
    refine zaa hF ?_
    simp -dsimp [hr]
    refine zaa hS ?_
    simp -dsimp [hr]
    refine zaa hP ?_
    simp -dsimp [hr]
theorem zHf (b:Bl) (base:Int) (l:List Ar) (h:zw6 l) (hf:zjv l):Pure Tryz.prog zmx [eBl b,.int .i64 base,eArs l] [eTs (l.map (zcj b base))]:=by
  refine zBe rfl fun hs=>?_
  have hl:=hf.1
  simp -dsimp [zm2,eBl,cBl,eArs]
  refine zah l.length (fun i st=>st.s 6 = .rsl 6 1∧st.h 6=⟨1,.row 3 [] false⟩∧st.s 1 = .d (.int .i64 base)∧st.s 3 = .ptr 3 1 0∧st.h 3=⟨1,.box [.d (eSos b.sorts),.d (eCos b.cons),.d (.int .i64 b.elim)] false⟩ ∧
    st.s 10 = .d (.sl 7 (l.map eAr))∧st.s 11 = .d (.int .i64 l.length)∧st.s 12 = .d (.int .i64 i)∧st.s 7 = .rsl 7 (1+i)∧st.h 7=⟨1+i,.row 3 (((l.map (zcj b base)).take i).map eT) false⟩) ?_ ?_
  · simp -dsimp
  · rintro i ⟨s,hp⟩ hi ⟨g1,g2,g3,g4,g5,g6,g7,g8,g9,g10⟩
    dsimp only at g1 g2 g3 g4 g5 g6 g7 g8 g9 g10
    rcases ybm i l.length with hlt | hge
    · have w1:IntKind.i64.wrap ((i:Int)+1)=(i:Int)+1:=zab (by omega) (by omega)
      have ha:=zBr b base l[i] (h.2 _ (yaf _)) (hf.2 _ (yaf _))
      have hr:(min i l.length+1)*40≤zad:=by simp only [zad]; omega
      have htk:((l.map (zcj b base)).take (i+1)).map eT=((l.map (zcj b base)).take i).map eT ++ [.agg (cT (zcj b base l[i]))]:=by
        rw [zce (yar (by simpa using hlt):(l.map (zcj b base))[i]? = some _),ycN]
        simp [za4]
      rw [htk]
      generalize zcj b base l[i]=A at ha
      simp only [eBl,cBl,cAr,cT,eTs,ycv,ycu] at ha
      simp -dsimp [g1,g2,g3,g4,g5,g6,g7,g8,g9,g10,hlt,eAr,cAr,cT,eTs]
      refine zaa ha ?_
      simp -dsimp [g1,g2,g3,g4,g5,g6,g7,g8,g9,g10,hlt,w1,hr,cT]
      omega
    · have e:i=l.length:=by omega
      subst e
      have ht:(l.map (zcj b base)).take l.length=l.map (zcj b base):=ycd (by simp)
      rw [ht] at g10
      simp -dsimp [g1,g2,g3,g4,g5,g6,g7,g8,g9,g10,eTs]
end
section
attribute [local simp] zaf zag tk tn tks zbq zbu zbt zc5
theorem zod {t:T}:zac t=true→okT t:=by
  refine T.ind (p:=fun t=>zac t=true→okT t) ?_ t
  intro k n ks ih h
  have hk:=zbn h
  have hs:=zIx _ h
  have hl:=hs.kids.1
  have h1:=h
  rw [zbf] at h1
  have hkb:0≤k∧k≤13:=by
    split at h1
    · rename_i hl'
      have:¬ zf5 k<0:=by omega
      rw [zf5] at this
      by_cases hi:isM k=true
      · simp only [isM,ybJ,decide_eq_true_eq] at hi
        omega
      · repeat' split at this
        all_goals omega
    · cases h1
  have hnb:n64 n:=by
    split at h1
    · split at h1
      · rw [ybJ] at h1
        have:=(zeu n 0 65535).1 h1.1
        exact ⟨by omega,by omega⟩
      · split at h1
        · rename_i h0
          subst h0
          exact ⟨by omega,by omega⟩
        · cases h1
    · cases h1
  exact .mk k n ks ⟨by omega,by omega⟩ hnb (by omega) fun x hx=>ih x hx (hk x hx)
def zc4 (t:T):T:=if za0 t=0 then t else zT
theorem zFh (b:Bl) (base:Int) {l:List Ar} (h:zw6 l) (hf:zjv l):okTs (l.map (zcj b base)) :=
  zVp (by have:=hf.1; simp; omega) fun x hx=>by
    obtain ⟨a,ha,rfl⟩:=ybb.1 hx
    exact zzt b base (h.2 a ha)
theorem zWv (n:Nat) (h:n≤60):Pure Tryz.prog zmf [.int .i64 n] [eTs (zdy n)]:=by
  have h1:=zO2 n
  have hV:zAt n=zdy n:=by
    rw [zAt]
    split
    · have:n=0:=by omega
      subst this
      rfl
    · rfl
  rw [hV] at h1
  exact h1
theorem zrk (n:Nat) (h:n≤60):okTs (zdy n):=⟨by rw [zmb]; omega,fun x hx=>by
  obtain ⟨q,hq,rfl⟩:=zPc hx
  exact zdc (by omega) (by omega)⟩
end
section
section
attribute [local simp] zaf zag tk tn tks zcl zcu
theorem zYz {k n:Int} {ks:List T} (hfm:zac (.mk k n ks)=true):0≤n∧n≤65535:=by
  rw [zbf] at hfm
  split at hfm
  · split at hfm
    · rw [ybJ,zeu] at hfm
      exact hfm.1
    · split at hfm
      · omega
      · cases hfm
  · cases hfm
theorem zF9 (fr y k b:Int):∀ (l:List T) (i j:Nat) (h:j<l.length),shBL fr y k b i (l.take (j+1))=(shBL fr y k b i (l.take j) && shB fr y l[j] (b+zak k (i+j:Nat)))
  | x :: xs,i,0,h=>by simp [shBL]
  | x :: xs,i,j+1,h=>by
    have:=zF9 fr y k b xs (i+1) j (by simpa using h)
    simp only [ycC,shBL,ycB,this,Bool.and_assoc]
    rw [show i+1+j=i+(j+1) by omega]
theorem zV3 (y fr:Int) (hy:0≤y∧y≤10000000) (hfr:0≤fr∧fr≤65535) (t:T):∀ b:Int,zac t=true→0≤b→b+zae t≤4194304→Pure Tryz.prog zee [.agg (cT t),.int .i64 y,.int .i64 (fr+b)] [.agg (cT (mapT (shF fr y) t b)),.bool (!shB fr y t b)]:=by
  refine T.ind (p:=fun t=>∀ b:Int,zac t=true→0≤b→b+zae t≤4194304→Pure Tryz.prog zee [.agg (cT t),.int .i64 y,.int .i64 (fr+b)] [.agg (cT (mapT (shF fr y) t b)),.bool (!shB fr y t b)]) ?_ t
  intro k n ks ih b hfm h0 hb
  refine zua rfl fun hs=>?_
  by_cases h1:k=1
  · subst h1
    have hks:=zln rfl hfm
    subst hks
    obtain ⟨n0,n1⟩:=zds rfl hfm
    have w1:IntKind.i64.wrap (n+y)=n+y:=zab (by omega) (by omega)
    have hM:mapT (shF fr y) (.mk 1 n []) b = .mk 1 (if n<fr+b then n else n+y) []:=by rw [zIj,shF]
    have hB:shB fr y (.mk 1 n []) b=(decide (n<fr+b) || decide (n+y≤65535)):=by rw [shB,if_pos rfl]
    rw [hM,hB]
    simp -dsimp [zfs,cT]
    by_cases c:fr+b≤n
    · have c':¬ n<fr+b:=by omega
      simp -dsimp [c,c',w1]
      refine zah 0 (fun i st=>st.s 3 = .ptr 3 1 0∧st.s 8 = .ptr 8 1 0∧st.s 6 = .ptr 6 1 0∧st.s 9 = .d (.bool (decide (65535<n+y)))∧st.s 10 = .d (.int .i64 i)∧st.h 3=⟨1,.box [.d (.int .i64 1),.d (.int .i64 n),.d (.sl 3 [])] false⟩∧st.h 8=⟨1,.box [.d (.int .i64 1),.d (.int .i64 (n+y)),.fsl 3 []] false⟩∧st.h 6=⟨1,.box [.d (.int .i64 0),.d (.int .i64 0),.fsl 3 []] false⟩) ?_ ?_
      · simp -dsimp
      · rintro i ⟨s,hp⟩ hi ⟨e3,e8,e6,e9,e10,k3,k8,k6⟩
        dsimp only at e3 e8 e6 e9 e10 k3 k8 k6
        have:i=0:=by omega
        subst this
        simp -dsimp [e3,e8,e6,e9,e10,k3,k8,k6]
        exact ⟨fun h=>by omega,by rw [ycR]; simp; omega⟩
    · have c':n<fr+b:=by omega
      simp -dsimp [c,c',w1]
      refine zah 0 (fun i st=>st.s 3 = .ptr 3 1 0∧st.s 8 = .ptr 8 1 0∧st.s 6 = .ptr 6 1 0∧st.s 9 = .d (.bool (decide (65535<n)))∧st.s 10 = .d (.int .i64 i)∧st.h 3=⟨1,.box [.d (.int .i64 1),.d (.int .i64 n),.d (.sl 3 [])] false⟩∧st.h 8=⟨1,.box [.d (.int .i64 1),.d (.int .i64 n),.fsl 3 []] false⟩∧st.h 6=⟨1,.box [.d (.int .i64 0),.d (.int .i64 0),.fsl 3 []] false⟩) ?_ ?_
      · simp -dsimp
      · rintro i ⟨s,hp⟩ hi ⟨e3,e8,e6,e9,e10,k3,k8,k6⟩
        dsimp only at e3 e8 e6 e9 e10 k3 k8 k6
        have:i=0:=by omega
        subst this
        simp -dsimp [e3,e8,e6,e9,e10,k3,k8,k6]
        exact ⟨fun h=>by omega,by rw [ycR]; simp; omega⟩
  · obtain ⟨n0,n1⟩:=zYz hfm
    have hln:=(zIx _ hfm).kids.1
    have hM:mapT (shF fr y) (.mk k n ks) b = .mk k n (mapL (shF fr y) k b 0 ks):=by rw [mapT,if_neg h1]
    have hB:shB fr y (.mk k n ks) b=shBL fr y k b 0 ks:=by rw [shB,if_neg h1]
    have hl:=zgl (shF fr y) k b ks 0
    rw [hM,hB]
    have n2:¬ 65535<n:=by omega
    simp -dsimp [zfs,cT,h1,n2]
    generalize hML:mapL (shF fr y) k b 0 ks=ml at *
    refine zah ks.length (fun i st=>st.s 1 = .d (.int .i64 y)∧st.s 2 = .d (.int .i64 (fr+b))∧st.s 3 = .ptr 3 1 0∧st.s 8 = .ptr 8 1 0∧st.s 6 = .ptr 6 1 0∧st.s 9 = .d (.bool (!shBL fr y k b 0 (ks.take i)))∧st.s 10 = .d (.int .i64 i)∧st.h 3=⟨1,.box [.d (.int .i64 k),.d (.int .i64 n),.d (.sl 3 (ks.map eT))] false⟩ ∧
      st.h 6=⟨1,.box [.d (.int .i64 0),.d (.int .i64 0),.fsl 3 []] false⟩ ∧ ∃ c,st.h 8=⟨1,.box [.d (.int .i64 k),.d (.int .i64 n),c] false⟩∧((i=0∧c = .fsl 3 [])∨(0<i ∧ ∃ v,c = .rsl 62 v∧st.h 62=⟨v,.row 3 ((ml.map eT).take i) false⟩))) ?_ ?_
    · simp -dsimp [shBL]
    · rintro i ⟨s,hp⟩ hi ⟨e1,e2,e3,e8,e6,e9,e10,k3,k6,c,k8,hc⟩
      dsimp only at e1 e2 e3 e8 e6 e9 e10 k3 k6 k8 hc
      rcases ybm i ks.length with hlt | hge
      · have w1:IntKind.i64.wrap ((i:Int)+1)=(i:Int)+1:=zab (by omega) (by omega)
        have hbl:=zco k i
        have hkn:=zcc (k:=k) (n:=n) (yaf hlt)
        have w2:IntKind.i64.wrap (fr+b+zak k i)=fr+(b+zak k i):=by rw [zab (by omega) (by omega)]; omega
        have hrec:=ih ks[i] (yaf _) (b+zak k i) (zbn hfm _ (yaf _)) (by omega) (by omega)
        have hs1:=zF9 fr y k b ks 0 i hlt
        rw [ybj] at hs1
        have hg:=zlg (shF fr y) k b ks 0 i hlt
        rw [ybj] at hg
        have hn:=zkk eT cT za4 ml i (by omega)
        simp only [hML] at hg
        rw [hg] at hn
        have hr:(min i ml.length+1)*40≤zad:=by simp only [zad]; omega
        generalize mapT (shF fr y) ks[i] (b+zak k i)=Y at *
        generalize shB fr y ks[i] (b+zak k i)=Z at *
        generalize hX:ks[i]=X at *
        simp only [cT] at hrec hn
        simp -dsimp [e1,e2,e3,e8,e6,e9,e10,k3,k6,k8,hlt,hX,cT]
        refine zaa (zus k i) ?_
        simp -dsimp [e1,e2,e3,e8,e6,e9,e10,k3,k6,k8,hlt,hX,cT,w2]
        refine zaa hrec ?_
        simp -dsimp [e1,e2,e3,e8,e6,e9,e10,k3,k6,k8,hlt,hX,cT,w1,w2,hs1]
        have hb2:(!(shBL fr y k b 0 (ks.take i) && Z))=(!shBL fr y k b 0 (ks.take i) || !Z):=by cases shBL fr y k b 0 (ks.take i) <;> cases Z <;> rfl
        rcases hc with ⟨rfl,rfl⟩ | ⟨hi0,v,rfl,hc⟩
        · have hne:¬ ml=[]:=ycJ (by omega)
          simp only [ycK,ycu,ybj] at hn
          have hz:shBL fr y k b 0 (ks.take 0)=true:=by simp [shBL]
          rw [hz] at hs1
          rw [ycK] at e9
          have hz2:shBL fr y k b 0 []=true:=by simp [shBL]
          have h40:40≤zad:=by simp only [zad]; omega
          simp at hlt w1
          simp -dsimp [e1,e2,e3,e8,e6,e9,e10,k3,k6,k8,hlt,hX,cT,w1,hs1,hz2,hn,h40]
        · cases hSh:shBL fr y k b 0 (ks.take i) with
          | true =>
            rw [hSh] at hs1 e9
            simp -dsimp [e1,e2,e3,e8,e6,e9,e10,k3,k6,k8,hc,hlt,hX,cT,w1,hs1,hn,hr]
          | false =>
            rw [hSh] at hs1 e9
            simp -dsimp [e1,e2,e3,e8,e6,e9,e10,k3,k6,k8,hc,hlt,hX,cT,w1,hs1,hn,hr]
      · have e:i=ks.length:=by omega
        subst e
        rw [yce] at e9
        rcases hc with ⟨hz,rfl⟩ | ⟨hi0,v,rfl,hc⟩
        · have hm:ml=[]:=ycL.1 (by omega)
          have hkz:ks=[]:=ycL.1 hz
          simp -dsimp [e1,e2,e3,e8,e6,e9,e10,k3,k6,k8,hm,hkz]
        · rw [ycd (by simp; omega)] at hc
          simp -dsimp [e1,e2,e3,e8,e6,e9,e10,k3,k6,k8,hc]
end
end
section
section
attribute [local simp] zaf zag tk tn tks zcl zcu
theorem zJy (k b m:Int):∀ (l:List T) (i:Nat) (a:Int),zks k b i a l<m ↔ a<m ∧ ∀ (j:Nat) (hj:j<l.length),ze6 l[j] (b+zak k (i+j:Nat))<m
  | [],i,a=>by simp [zks]
  | x :: xs,i,a=>by
    rw [zks,zJy k b m xs (i+1) _]
    have hm:mx a (ze6 x (b+zak k i))<m ↔ a<m∧ze6 x (b+zak k i)<m:=by rw [mx]; split <;> omega
    rw [hm]
    constructor
    · rintro ⟨⟨h1,h2⟩,h3⟩
      refine ⟨h1,fun j hj=>?_⟩
      match j,hj with
      | 0,_=>simpa using h2
      | j+1,hj =>
        have:=h3 j (by simpa using hj)
        simp only [ycB]
        rwa [show i+(j+1)=i+1+j by omega]
    · rintro ⟨h1,h2⟩
      refine ⟨⟨h1,by have:=h2 0 (by simp); simpa using this⟩,fun j hj=>?_⟩
      have:=h2 (j+1) (by simpa using hj)
      simp only [ycB] at this
      rwa [show i+(j+1)=i+1+j by omega] at this
def upTo (y:Int):Int:=if 65536 - y<0 then 0 else 65536 - y
theorem zUj (y:Int) (t:T):∀ b:Int,zac t=true→0≤b→(shB 0 y t b=true ↔ ze6 t b<upTo y):=by
  refine T.ind (p:=fun t=>∀ b:Int,zac t=true→0≤b→(shB 0 y t b=true ↔ ze6 t b<upTo y)) ?_ t
  intro k n ks ih b hf hb
  rw [shB,ze6]
  by_cases h1:k=1
  · have hn:=zds h1 hf
    have hz:=zln h1 hf
    subst hz
    rw [if_pos h1,zks]
    simp only [h1,true_and,Bool.or_eq_true,decide_eq_true_eq,upTo]
    split <;> split <;> omega
  · rw [if_neg h1,zJy,zO3]
    simp only [h1,false_and,if_false]
    constructor
    · intro h
      refine ⟨by rw [upTo]; split <;> omega,fun j hj=>(ih _ (yaf hj) _ (zbn hf _ (yaf hj)) ?_).1 (h j hj)⟩
      have:=zco k (0+j:Nat)
      omega
    · rintro ⟨_,h⟩ j hj
      refine (ih _ (yaf hj) _ (zbn hf _ (yaf hj)) ?_).2 (h j hj)
      have:=zco k (0+j:Nat)
      omega
theorem zVv {a:T} (hf:zac a=true) {y:Int} (hy:0≤y):(!shB 0 y a 0)=zGp a y:=by
  have h:=zUj y a 0 hf (by omega)
  have h2:=zId a hf 0
  rw [zGp,ycR,ybK,← ycQ,h,upTo]
  simp only [ybJ,decide_eq_true_eq]
  split <;> omega
theorem zXb {y:Int} (hy:0≤y) (hy':y≤10000000) (t:T) (hf:zac t=true) (b:Int) (hb:0≤b) (hb':b+zae t≤4194304):mapT (shF 0 y) t b=mapT (mv y) t b :=
  zOi _ _ (fun n c a1 a2 a3 a4=>by
    rw [shF]
    by_cases h:n<0+c
    · rw [if_pos h,zVu (by omega)]
    · rw [if_neg h,zYl (by omega) a1 (by omega) hy hy']) t b hf hb hb'
theorem zKe (l:List T) (u k b:Int):∀ (xs:List T) (i j:Nat) (h:j<xs.length),scL l u k b i (xs.take (j+1))=(scL l u k b i (xs.take j) || scI l u xs[j] (b+zak k (i+j:Nat)))
  | x :: xs,i,0,h=>by simp [scL]
  | x :: xs,i,j+1,h=>by
    have:=zKe l u k b xs (i+1) j (by simpa using h)
    simp only [ycC,scL,ycB,this,Bool.or_assoc]
    rw [show i+1+j=i+(j+1) by omega]
theorem zTp (l:List T) (hl:l.length≤1000000) (hf:∀ x ∈ l,zac x=true∧zae x≤4194304) (u:Int) (hu:0≤u∧u≤65535) (t:T):∀ b:Int,VokT t→0≤b→b+zae t≤4194304 →
    Pure Tryz.prog zew [.agg (cT t),eTs l,.int .i64 (u+b)] [.agg (cT (mapT (zc6 l u) t b)),.bool (scI l u t b)]:=by
  refine T.ind (p:=fun t=>∀ b:Int,VokT t→0≤b→b+zae t≤4194304→Pure Tryz.prog zew [.agg (cT t),eTs l,.int .i64 (u+b)] [.agg (cT (mapT (zc6 l u) t b)),.bool (scI l u t b)]) ?_ t
  intro k n ks ih b hv h0 hb
  obtain ⟨hvn,hln,hsk⟩:=hv.out
  refine zwy rfl fun hs=>?_
  by_cases h1:k=1
  · subst h1
    obtain ⟨⟨n0,n1⟩,hks⟩:=hvn rfl
    subst hks
    have w1:IntKind.i64.wrap (u+b+(l.length:Int))=u+b+l.length:=zab (by omega) (by omega)
    have hI:∀ W:Int,zck l.length u n b=W→(mapT (zc6 l u) (.mk 1 n []) b=(if 0≤W then match l[W.toNat]? with | some a=>znw (w64 (u+b)) a | none=>zT else .mk 1 (if u+b≤n then w64 (n - l.length) else n) [])) ∧
        scI l u (.mk 1 n []) b=(match (if 0≤W then l[W.toNat]? else none) with | some a=>zGp a (u+b) | none=>false):=fun W hW=>by
      rw [zIj,scI,if_pos rfl,zc6,hW]
      exact ⟨rfl,rfl⟩
    by_cases c1:u+b+(l.length:Int)≤n
    · have w2:IntKind.i64.wrap (n - (l.length:Int))=n - l.length:=zab (by omega) (by omega)
      obtain ⟨hI1,hI2⟩:=hI (-1) (by rw [zck,if_pos (by omega)])
      have c2:u+b≤n:=by omega
      have w2':w64 (n - (l.length:Int))=n - l.length:=w2
      rw [if_neg (by omega)] at hI1 hI2
      rw [if_pos c2,w2'] at hI1
      rw [hI1,hI2]
      simp -dsimp [zdq,cT,eTs,w1,c1,w2]
    · by_cases c2:u+b≤n
      · obtain ⟨j,hj⟩:∃ j:Nat,(l.length:Int) - 1 - (n - (u+b))=j:=⟨((l.length:Int) - 1 - (n - (u+b))).toNat,by omega⟩
        have hjl:j<l.length:=by omega
        have hge:l[j]? = some l[j]:=yar hjl
        obtain ⟨hI1,hI2⟩:=hI j (by rw [zck,if_neg (by omega)]; exact hj)
        have w2:IntKind.i64.wrap ((l.length:Int) - 1)=l.length - 1:=zab (by omega) (by omega)
        have w3:IntKind.i64.wrap (n - (u+b))=n - (u+b):=zab (by omega) (by omega)
        have w4:IntKind.i64.wrap ((l.length:Int) - 1 - (n - (u+b)))=j:=by rw [zab (by omega) (by omega),hj]
        have w5:w64 (u+b)=u+b:=zb3 (by omega) (by omega)
        obtain ⟨fj,nj⟩:=hf _ (yaf hjl)
        have hM:=zV3 (u+b) 0 (by omega) (by omega) l[j] 0 fj (by omega) (by omega)
        rw [zXb (by omega) (by omega) _ fj 0 (by omega) (by omega),zVv fj (by omega)] at hM
        rw [if_pos (by omega),ycS,hge] at hI1 hI2
        simp only [w5,zD9] at hI1 hI2
        simp only [Int.add_zero] at hM
        rw [hI1,hI2]
        generalize mapT (mv (u+b)) l[j] 0=Y at *
        generalize zGp l[j] (u+b)=Z at *
        generalize hX:l[j]=X at *
        simp only [cT] at hM
        simp -dsimp [zdq,cT,eTs,w1,c1,c2,w2,w3,w4,hjl,hge,hX]
        refine zaa hM ?_
        simp -dsimp [cT]
      · obtain ⟨hI1,hI2⟩:=hI (-1) (by rw [zck,if_pos (by omega)])
        rw [if_neg (by omega)] at hI1 hI2
        rw [if_neg c2] at hI1
        rw [hI1,hI2]
        simp -dsimp [zdq,cT,eTs,w1,c1,c2]
        refine zah 0 (fun i st=>st.s 3 = .ptr 3 1 0∧st.s 9 = .ptr 9 1 0∧st.s 6 = .ptr 6 1 0∧st.s 10 = .d (.bool false)∧st.s 11 = .d (.int .i64 i)∧st.h 3=⟨1,.box [.d (.int .i64 1),.d (.int .i64 n),.d (.sl 3 [])] false⟩∧st.h 9=⟨1,.box [.d (.int .i64 1),.d (.int .i64 n),.fsl 3 []] false⟩∧st.h 6=⟨1,.box [.d (.int .i64 0),.d (.int .i64 0),.fsl 3 []] false⟩) ?_ ?_
        · simp -dsimp
        · rintro i ⟨s,hp⟩ hi ⟨e3,e9,e6,e10,e11,k3,k9,k6⟩
          dsimp only at e3 e9 e6 e10 e11 k3 k9 k6
          have:i=0:=by omega
          subst this
          simp -dsimp [e3,e9,e6,e10,e11,k3,k9,k6]
  · have hM:mapT (zc6 l u) (.mk k n ks) b = .mk k n (mapL (zc6 l u) k b 0 ks):=by rw [mapT,if_neg h1]
    have hB:scI l u (.mk k n ks) b=scL l u k b 0 ks:=by rw [scI,if_neg h1]
    have hml:=zgl (zc6 l u) k b ks 0
    rw [hM,hB]
    simp -dsimp [zdq,cT,eTs,h1]
    generalize hML:mapL (zc6 l u) k b 0 ks=ml at *
    refine zah ks.length (fun i st=>st.s 1 = .d (.sl 3 (l.map eT))∧st.s 2 = .d (.int .i64 (u+b))∧st.s 3 = .ptr 3 1 0∧st.s 9 = .ptr 9 1 0∧st.s 6 = .ptr 6 1 0∧st.s 10 = .d (.bool (scL l u k b 0 (ks.take i)))∧st.s 11 = .d (.int .i64 i)∧st.h 3=⟨1,.box [.d (.int .i64 k),.d (.int .i64 n),.d (.sl 3 (ks.map eT))] false⟩ ∧
      st.h 6=⟨1,.box [.d (.int .i64 0),.d (.int .i64 0),.fsl 3 []] false⟩ ∧ ∃ c,st.h 9=⟨1,.box [.d (.int .i64 k),.d (.int .i64 n),c] false⟩∧((i=0∧c = .fsl 3 [])∨(0<i ∧ ∃ v,c = .rsl 80 v∧st.h 80=⟨v,.row 3 ((ml.map eT).take i) false⟩))) ?_ ?_
    · simp -dsimp [scL]
    · rintro i ⟨s,hp⟩ hi ⟨e1,e2,e3,e9,e6,e10,e11,k3,k6,c,k9,hc⟩
      dsimp only at e1 e2 e3 e9 e6 e10 e11 k3 k6 k9 hc
      rcases ybm i ks.length with hlt | hge
      · have w1:IntKind.i64.wrap ((i:Int)+1)=(i:Int)+1:=zab (by omega) (by omega)
        have hbl:=zco k i
        have hkn:=zcc (k:=k) (n:=n) (yaf hlt)
        have w2:IntKind.i64.wrap (u+b+zak k i)=u+(b+zak k i):=by rw [zab (by omega) (by omega)]; omega
        have hrec:=ih ks[i] (yaf _) (b+zak k i) (hsk _ (yaf _)) (by omega) (by omega)
        have hs1:=zKe l u k b ks 0 i hlt
        rw [ybj] at hs1
        have hg:=zlg (zc6 l u) k b ks 0 i hlt
        rw [ybj] at hg
        have hn:=zkk eT cT za4 ml i (by omega)
        simp only [hML] at hg
        rw [hg] at hn
        have hr:(min i ml.length+1)*40≤zad:=by simp only [zad]; omega
        generalize mapT (zc6 l u) ks[i] (b+zak k i)=Y at *
        generalize scI l u ks[i] (b+zak k i)=Z at *
        generalize hX:ks[i]=X at *
        simp only [cT,eTs] at hrec hn
        simp -dsimp [e1,e2,e3,e9,e6,e10,e11,k3,k6,k9,hlt,hX,cT]
        refine zaa (zus k i) ?_
        simp -dsimp [e1,e2,e3,e9,e6,e10,e11,k3,k6,k9,hlt,hX,cT,w2]
        refine zaa hrec ?_
        simp -dsimp [e1,e2,e3,e9,e6,e10,e11,k3,k6,k9,hlt,hX,cT,w1,w2,hs1]
        rcases hc with ⟨rfl,rfl⟩ | ⟨hi0,v,rfl,hc⟩
        · have hne:¬ ml=[]:=ycJ (by omega)
          simp only [ycK,ycu,ybj] at hn
          have hz2:scL l u k b 0 []=false:=by simp [scL]
          rw [ycK,hz2] at hs1
          rw [ycK,hz2] at e10
          have h40:40≤zad:=by simp only [zad]; omega
          simp at hlt w1
          simp -dsimp [e1,e2,e3,e9,e6,e10,e11,k3,k6,k9,hlt,hX,cT,w1,hs1,hz2,hn,h40]
        · cases hSh:scL l u k b 0 (ks.take i) with
          | true =>
            rw [hSh] at hs1 e10
            simp -dsimp [e1,e2,e3,e9,e6,e10,e11,k3,k6,k9,hc,hlt,hX,cT,w1,hs1,hn,hr]
          | false =>
            rw [hSh] at hs1 e10
            simp -dsimp [e1,e2,e3,e9,e6,e10,e11,k3,k6,k9,hc,hlt,hX,cT,w1,hs1,hn,hr]
      · have e:i=ks.length:=by omega
        subst e
        rw [yce] at e10
        rcases hc with ⟨hz,rfl⟩ | ⟨hi0,v,rfl,hc⟩
        · have hm:ml=[]:=ycL.1 (by omega)
          have hkz:ks=[]:=ycL.1 hz
          simp -dsimp [e1,e2,e3,e9,e6,e10,e11,k3,k6,k9,hm,hkz]
        · rw [ycd (by simp; omega)] at hc
          simp -dsimp [e1,e2,e3,e9,e6,e10,e11,k3,k6,k9,hc]
theorem zN9 (l:List T) (hl:l.length≤1000000) (hf:∀ x ∈ l,zac x=true∧zae x≤4194304) (u:Int) (hu:0≤u∧u≤65535) (t:T) (hv:VokT t) (hb:zae t≤4194304) :
    Pure Tryz.prog zed [.agg (cT t),eTs l,.int .i64 u] [.agg (cT (mapT (zc6 l u) t 0))]:=by
  refine zuv rfl fun hs=>?_
  have h:=zTp l hl hf u hu t 0 hv (by omega) (by omega)
  rw [Int.add_zero] at h
  generalize mapT (zc6 l u) t 0=R at *
  simp only [cT,eTs] at h
  simp -dsimp [zjd,cT,eTs]
  refine zaa h ?_
  simp -dsimp [cT]
end
end
section
attribute [local simp] zaf zag tk tn tks
theorem zyy (f:T) (l:List T) (hl:l.length≤100000000) (hf:okT f) (ho:okTs l):zou Tryz.prog zbz [.agg (cT f),eTs l] [.agg (cT (spT f l))]:=by
  refine zg8 false hm Tryz.func59 zxg rfl fun hs n=>?_
  simp -dsimp [zmm,cT,eTs]
  refine zdj (zyf f hf) ?_
  simp -dsimp [cT]
  refine zah l.length (fun i st=>st.s 4 = .ptr 4 1 0∧st.h 4=⟨1,.box [.d (.int .i64 0),.d (.int .i64 0),.fsl 3 []] false⟩∧st.s 10 = .d (.sl 3 (l.map eT))∧st.s 11 = .d (.int .i64 l.length)∧st.s 12 = .d (.int .i64 i) ∧
    st.s 5 = .ptr 5 1 0 ∧ ∃ cs,st.h 5=⟨1,.box [.d (.int .i64 (spT f (l.take i)).kind),.d (.int .i64 (spT f (l.take i)).num),cs] false⟩∧cs = .n true (.sl 3 ((spT f (l.take i)).kids.map eT))) ?_ ?_
  · simp -dsimp [spT]
  · rintro i ⟨s,hp⟩ hi ⟨g1,g2,g3,g4,g5,g6,cs,g7,g8⟩
    dsimp only at g1 g2 g3 g4 g5 g6 g7
    rcases ybm i l.length with hlt | hge
    · have w1:IntKind.i64.wrap ((i:Int)+1)=(i:Int)+1:=zab (by omega) (by omega)
      have hnx:spT f (l.take (i+1)) = .mk 6 0 [spT f (l.take i),l[i]]:=by
        have e:l.take (i+1)=l.take i ++ [l[i]]:=by rw [List.take_add_one,yar hlt]; rfl
        rw [spT,e,ycc]
        rfl
      rw [hnx]
      generalize spT f (l.take i)=Y at g7 g8
      have hnode:=zA2 6 [Y,l[i]]
      simp only [yaV,ycE,za4,cT] at hnode
      subst g8
      simp -dsimp [g1,g2,g3,g4,g5,g6,g7,hlt,cT]
      refine zdj (zyf l[i] (ho.2 _ (yaf _))) ?_
      simp -dsimp [g1,g2,g3,g4,g5,g6,g7,hlt,cT]
      refine zuq (by simp -dsimp) hnode ?_
      simp -dsimp [g1,g2,g3,g4,g5,g6,g7,hlt,w1,za4,cT]
    · have e:i=l.length:=by omega
      subst e
      rw [yce] at g7 g8
      subst g8
      simp -dsimp [g1,g2,g3,g4,g5,g6,g7]
end
section
section
attribute [local simp] zaf zag tk tn tks
def PHN (k:Int) (o:T) (h:Nat→Ent):Prop:=h 3=⟨1,.box [.d (.int .i64 k)] false⟩∧h 6=⟨1,.box [.d (.int .i64 0),.d (.int .i64 0),.fsl 3 []] false⟩ ∧
  h 7=⟨1,.box [.d (.int .i64 o.kind),.d (.int .i64 o.num),.n true (.sl 3 (o.kids.map eT))] false⟩
theorem zIo (nn:Nat) (k:Int) (l:List T) (t:T) (ht:okT t):@wpX (i1 nn) Tryz.prog y0 (fun e st=>e = .normal ∧ @wpX (i1 nn) Tryz.prog y1 (fun e st=>e = .normal ∧ @wpX (i1 nn) Tryz.prog y2 (fun e st=>e = .normal∧PS l st.s∧PHN k t st.h) st) st) ⟨zle [.int .i64 k,eTs l,.agg (cT t)],za6⟩:=by
  have h1:=zyf t ht
  have h2:=zNq l
  simp only [cT] at h1
  simp only [eTs] at h2
  simp -dsimp [y0,y1,y2,cT,eTs]
  refine zdj h1 ?_
  simp -dsimp
  refine zaa h2 ?_
  simp -dsimp [PS,PHN,eTs]
theorem zIb (nn:Nat) (k:Int) (o a:T) (ha:okT a) (s:Nat→AV) (h:Nat→Ent) (l:List T) (hs:PS l s) (h15:s 15 = .d (.agg (cT a))) (hh:PHN k o h) :
    @wpX (i1 nn) Tryz.prog y3 (fun e st=>e = .normal∧PHN k o st.h ∧ @wpX (i1 nn) Tryz.prog y4 (fun e st=>e = .normal∧PHN k (.mk k 0 [a,o]) st.h) st) ⟨s,h⟩:=by
  obtain ⟨s1,s2,s3,s4⟩:=hs
  obtain ⟨e1,e2,e3⟩:=hh
  have h1:=zyf a ha
  have h2:=zA2 k [a,o]
  simp only [cT] at h1
  simp only [yaV,ycE,za4,cT] at h2
  simp -dsimp [y3,y4,cT,s1,s2,s3,s4,h15,e1,e2,e3]
  refine ⟨?_,?_⟩
  · simp [PHN,e1,e2,e3]
  refine zdj h1 ?_
  simp -dsimp [s1,s2,s3,s4,h15,e1,e2,e3]
  refine zuq (by simp -dsimp) h2 ?_
  simp -dsimp [s1,s2,s3,s4,h15,e1,e2,e3,PHN,za4,cT]
theorem zLk (nn:Nat) (k:Int) (o:T) (s:Nat→AV) (h:Nat→Ent) (l:List T) (hs:PS l s) (hh:PHN k o h):@wpX (i1 nn) Tryz.prog y5 (@zQy (i1 nn) [.cell 6 3 true] [.agg (cT o)]) ⟨s,h⟩:=by
  obtain ⟨s1,s2,s3,s4⟩:=hs
  obtain ⟨e1,e2,e3⟩:=hh
  simp -dsimp [y5,cT,s1,s2,s3,s4,e1,e2,e3]
end
section
open Go.RowKit
theorem zP6 [Nw] {k:Int} {o o':T} {G G':GS} {h h':Nat→Ent} {w:World} (i:Inv G h w) (i':Inv G' h' w) (p:PHN k o h) (p':PHN k o' h') (hd:G.hd 7=G'.hd 7):o=o':=by
  obtain ⟨_,_,e⟩:=p
  obtain ⟨_,_,e'⟩:=p'
  have a:=i.ent 7
  have a':=i'.ent 7
  rw [e] at a
  rw [e'] at a'
  obtain ⟨b,arr,el,hA,hh,hs,hr,_⟩:=a
  obtain ⟨b',arr',el',hA',hh',hs',hr',_⟩:=a'
  rw [hd,hA'] at hA
  simp only [Option.some.injEq,Addr.mk.injEq,and_true] at hA
  subst hA
  rw [hh] at hh'
  simp only [Option.some.injEq,Obj.cells.injEq,and_true] at hh'
  obtain ⟨rfl,_⟩:=hh'
  have fin:∀ {G:GS} {h:Nat→Ent} {o:T},(∀ (j:Nat) c,[AV.d (.int .i64 o.kind),.d (.int .i64 o.num),.n true (.sl 3 (o.kids.map eT))][j]? = some c→ARel G h w (arr.getD j undef) c∧(arr.getD j undef).oneCell'=true) →
      ∀ (j:Nat) c,(cT o)[j]? = some c→Rel G.St w (arr.getD j undef) c:=by
    intro G h o hr j c hj
    have hlt:=(yae.1 hj).1
    have hl3:j<3:=by simpa [cT] using hlt
    match j,hl3,hj with
    | 0,_,hj=>cases hj; exact (hr 0 _ rfl).1.d_inv
    | 1,_,hj=>cases hj; exact (hr 1 _ rfl).1.d_inv
    | 2,_,hj=>cases hj; exact (hr 2 _ rfl).1.nInv
  exact zS9 o o' _ _ _ w (fin hr) (fin hr')
theorem zRz (k:Int) (l:List T) (t:T) (hl:l.length≤1000000000) (ht:okT t) (hol:okTs l):zou Tryz.prog 122 [.int .i64 k,eTs l,.agg (cT t)] [.agg (cT (zcq k l t))]:=by
  obtain ⟨r0,r1,r2,id1,ag,bd,c3,hb,k0,k1,k2,k3,k4,k5⟩:=zB2
  refine ⟨⟨Tryz.f122,Tryz.func122,by decide,by rw [hb]; rfl⟩,fun St w vs hst0 hrel=>?_⟩
  refine (callsIn_wide (n:=5)).1 (callsIn_of_wp_marks (F:=FR none) Tryz.func122 hb trivial ?_ rfl)
  have hvl:vs.length=3:=hrel.1
  letI:Nw:=i1 w.heap.size
  have fr:Fr 23 ⟨St,fun _=>⟨none,0⟩⟩ ⟨zle [.int .i64 k,eTs l,.agg (cT t)],za6⟩ { tmps:=vs.toArray ++ ybQ (Tryz.f122.ntmps - vs.toArray.size) undef,defers:=[] } w:=by
    have hnt:Tryz.f122.ntmps=23:=Tryz.ntmps122
    refine ⟨⟨hst0,fun k=>trivial,fun k k' b h=>h.elim,Nat.le_refl _⟩,fun i=>?_,by rw [hnt]; simp; omega⟩
    simp only [zle]
    cases hd:([.int .i64 k,eTs l,.agg (cT t)]:List D)[i]? with
    | none =>
      have hge:=ybS.1 hd
      have:(vs.toArray ++ ybQ (Tryz.f122.ntmps - vs.toArray.size) undef).getD i undef=undef:=by
        rw [yaw,Array.getElem?_append_right (by simp at hge ⊢; omega),Array.getElem?_replicate]
        split <;> rfl
      rw [this]
      exact .skip
    | some d =>
      have hlt:=(yae.1 hd).1
      have:(vs.toArray ++ ybQ (Tryz.f122.ntmps - vs.toArray.size) undef).getD i undef=vs.getD i undef:=by
        rw [yaw,Array.getElem?_append_left (by simp at hlt ⊢; omega)]
        simp
      rw [this]
      exact .d _ _ (hrel.2 i d hd)
  obtain ⟨a0,ha0⟩:∃ a0:Act,a0 = { tmps:=vs.toArray ++ ybQ (Tryz.f122.ntmps - vs.toArray.size) undef,defers:=[] }:=⟨_,rfl⟩
  rw [← ha0] at fr ⊢
  have hd0:a0.defers=[]:=by rw [ha0]
  refine wpIn_seq (wpIn_mono (zfj (r:=none) hm r0 y0 k0 _ _ _ _ _ (zIo w.heap.size k l t ht) fr) ?_)
  rintro e a1 w1 ⟨ex,G1,st1,rfl,fr1,hs1,hd1,rfl,hw1⟩
  refine wpIn_seq (wpIn_mono (zfj (r:=none) hm r1 y1 k1 _ _ _ _ _ hw1 fr1) ?_)
  rintro e a2 w2 ⟨ex,G2,st2,rfl,fr2,hs2,hd2,rfl,hw2⟩
  refine wpIn_seq (wpIn_seq (wpIn_mono (zfj (r:=none) hm r2 y2 k2 _ _ _ _ _ hw2 fr2) ?_))
  rintro e a3 w3 ⟨ex,G3,st3,rfl,fr3,hs3,hd3,rfl,hps,hph⟩
  have hs03:Step ⟨St,fun _=>⟨none,0⟩⟩ za6 w G3 st3.h w3:=(hs1.trans hs2).trans hs3
  have hd3':a3.defers=[]:=by rw [hd3,hd2,hd1,hd0]
  refine wpIn_block ?_
  have hclo:=fr3.slots 13
  rw [hps.2.2.2] at hclo
  obtain ⟨Bs,o,A,cap,vs0,hv13,hst,hcell,hrow,hel⟩:=zMs hclo.d_inv
  obtain ⟨vs',hvs'⟩:∃ vs':Nat→Nat→Value,vs'=fun i j=>if i<l.length then vs0 i j else (if j<2 then .int .i64 0 else .slice none 0 0):=⟨_,rfl⟩
  have hlo:∀ i j,i<l.length→vs' i j=vs0 i j:=fun i j h=>by rw [hvs']; simp only [h,if_true]
  obtain ⟨el,hel0⟩:∃ el:Nat→T,el=fun i=>(l[i]?).getD (.mk 0 0 []):=⟨_,rfl⟩
  have hok:∀ i,okT (el i):=fun i=>by
    rw [hel0]
    cases hi:l[i]? with
    | none=>simp only [hi,ybI]; exact zdc (k:=0) (n:=0) (by omega) (by omega)
    | some x=>simp only [hi,ybG]; exact hol.2 x (yas hi)
  have hrel':∀ i,Rel G3.St w3 (.agg #[vs' i 0,vs' i 1,vs' i 2]) (.agg (cT (el i))):=fun i=>by
    rcases ybm i l.length with hlt | hge
    · have:=hel i hlt
      rw [hlo i 0 hlt,hlo i 1 hlt,hlo i 2 hlt,hel0]
      simp only [yar hlt,ybG]
      exact this
    · have hn:¬ i<l.length:=by omega
      have e0:el i = .mk 0 0 []:=by rw [hel0]; simp only [ybS.2 hge,ybI]
      rw [e0,hvs']
      simp only [hn,if_false]
      refine .agg _ _ rfl fun j c hj=>?_
      match j,hj with
      | 0,hj=>cases hj; exact .int _ _
      | 1,hj=>cases hj; exact .int _ _
      | 2,hj=>cases hj; exact .sl none 0 3 0 0 [] (by simp) (by simp) (by simp) (by simp) (fun _ _=>undef) (by simp) (by simp) (by simp)
  have hseq:=zBm (FR none) 4 trivial rfl (by omega) G3.St Bs o A l.length cap vs' (by omega) w3 fr3.inv.st hst hcell (fun hp=>by
    obtain ⟨b,off,e1,e2,e3⟩:=hrow hp
    exact ⟨b,off,e1,e2,fun i j hi hj=>by rw [hlo i j hi]; exact e3 i j hi hj⟩)
  let I:List Nat→World→Prop:=fun pre W=>∃ G h,Step G3 st3.h w3 G h W∧PHN k (zBg k l t pre) h
  let Ax:Nat→Act→World→Prop:=fun x a' W=>∃ G st o,Fr 23 G st a' W∧Step G3 st3.h w3 G st.h W∧PHN k o st.h ∧ @wpX (i1 w.heap.size) Tryz.prog y4 (fun e st=>e = .normal∧PHN k (.mk k 0 [el x,o]) st.h) st
  have hI:OwnFrom w3.heap.size I:=fun pre W W' row hi hg hr=>by
    obtain ⟨G,h,hs,hp⟩:=hi
    exact ⟨G,h,zlr hs fr3.inv.st hg hr,hp⟩
  have hAx:∀ x a',OwnFrom w3.heap.size (fun (_:Unit) W=>Ax x a' W):=fun x a' _ W W' row hi hg hr=>by
    obtain ⟨G,st,o,fr,hs,hp,hw⟩:=hi
    exact ⟨G,st,o,fr.reads (zlz hg fun r e=>(hr r e).2),zlr hs fr3.inv.st hg hr,hp,hw⟩
  have hd7:∀ {G:GS} {h:Nat→Ent} {W:World} {o:T},Step G3 st3.h w3 G h W→PHN k o h→G.hd 7=G3.hd 7:=fun {G h W o} hs hp=>by
    obtain ⟨_,_,e⟩:=hp
    obtain ⟨_,_,e3⟩:=hph
    exact (hs.ext.same 7 (by rw [e,e3])).1
  refine wpIn_rangeFunc_ownH (F:=FR none) (n:=5) (α:=Nat) rfl (by omega) (gf:=201) (lb:=#[.pointer (some ⟨Bs,o,none⟩)]) hv13 trivial (Go.Proofs.enters_of Tryz.func201 (by kernel_rfl) rfl) hseq
    (fun h k=>Kp.trans h k) ?_ (Below.refl _ _) (fun _=>rfl) I (fun _ _ _=>False) hI (fun _ _ _ _ _ hs _ _=>hs) ⟨G3,st3.h,.refl fr3.inv,by rw [zBg]; exact hph⟩ Ax hAx ?assign ?body ?done ?stop
  · intro W b ob ob' hb hbe _ _
    refine ⟨by simp [World.putObj],fun c i hi=>?_⟩
    have hlt:=fr3.inv.st c (by omega)
    exact World.cell?_of_block (World.putObj_heap_other (by show c ≠ b; omega))
  case assign =>
    rintro r pre x W K ⟨G,h,hs,hp⟩ hK
    have fra:Fr 23 G ⟨upd (upd st3.s 14 (.d (.int .i64 (x:Int)))) 15 (.d (.agg (cT (el x)))),h⟩ { tmps:=((#[14,15]:Array Tmp).zip #[Value.int .i64 (x:Int),.agg #[vs' x 0,vs' x 1,vs' x 2]]).foldl (fun t (p,v)=>t.setIfInBounds p v) a3.tmps,defers:=[] } W:=by
      have hz:((#[14,15]:Array Tmp).zip #[Value.int .i64 (x:Int),.agg #[vs' x 0,vs' x 1,vs' x 2]]) = #[(14,Value.int .i64 (x:Int)),(15,.agg #[vs' x 0,vs' x 1,vs' x 2])]:=by simp
      rw [hz]
      refine ⟨hs.inv,fun i=>?_,by simp [fr3.size]⟩
      have hsz:=fr3.size
      simp only [List.foldl_toArray',yck,List.foldl_nil,yaw,Array.getElem?_setIfInBounds,Array.size_setIfInBounds,upd]
      by_cases h15:i=15
      · subst h15
        simp only [if_true,hsz]
        exact .d _ _ ((hrel' x).keeps hs.ext.keeps)
      · by_cases h14:i=14
        · subst h14
          simp only [if_true,hsz,show ¬ (15=14) by omega,if_false,show ¬ (14=15) by omega]
          exact .d _ _ (.int _ _)
        · simp only [if_neg h15,if_neg h14,if_neg (Ne.symm h15),if_neg (Ne.symm h14)]
          have:=(fr3.slots i).ext hs.ext
          rwa [yaw] at this
    refine wpIn_mono (zfj (r:=some r) (m:=3) hm ag y3 k3 _ _ _ _ _ (zIb w.heap.size k _ (el x) (hok x) _ h l (by simpa [PS,upd] using hps) rfl hp) fra) ?_
    rintro e a' W' ⟨ex,G',st',rfl,fr',hs',_,rfl,hp',hw'⟩
    exact hK a' W' (hs'.keepsFrom hs.inv _) (hs.kp hs') ⟨G',st'.h,hs.trans hs',hp'⟩ ⟨G',st',_,fr',hs.trans hs',hp',hw'⟩
  case body =>
    rintro r pre x a' W hr _ ⟨G1,h1,hs1',hp1⟩ ⟨G,st,o',fr,hs,hp,hw⟩ _
    have ho:zBg k l t pre=o':=zP6 hs1'.inv hs.inv hp1 hp ((hd7 hs1' hp1).trans (hd7 hs hp).symm)
    subst ho
    refine wpIn_mono (zfj (r:=some r) (m:=3) hm bd y4 k4 _ _ _ _ _ hw fr) ?_
    rintro e a2 W' ⟨ex,G',st',rfl,fr',hs',_,rfl,hp'⟩
    refine ⟨hs'.keepsFrom fr.inv _,hs.kp hs',⟨G',st'.h,hs.trans hs',?_⟩⟩
    simp only [zBg,ycc,yck,List.foldl_nil]
    rw [hel0] at hp'
    exact hp'
  case done =>
    rintro D xs W hD rfl ⟨G,h,hs,hp⟩ hK
    rw [zGs] at hp
    have frd:Fr 23 G ⟨st3.s,h⟩ { a3 with defers:={ target:=.collected D,args:=#[] } :: a3.defers } W:=⟨hs.inv,fun i=>(fr3.slots i).ext hs.ext,fr3.size⟩
    refine wpIn_mono (zfj (r:=none) hm c3 y5 k5 _ _ _ _ _ (zLk w.heap.size k _ _ h l hps hp) frd) ?_
    rintro e a' W' ⟨ex,G',st',rfl,fr',hs',hd',hend,vs2,hrv,hds,hhi⟩
    have hK':W'.heap[D]? = some (.deferred (some [])):=(hs'.keepsFrom hs.inv 0).same D _ (Nat.zero_le _) hK rfl
    have hR1:zsk W' (W'.putObj D (.deferred none)):=zlz (grownBy_putObj' _ D _) (fun r e=>by cases e; exact ⟨_,hK',rfl⟩)
    have hall0:Step ⟨St,fun _=>⟨none,0⟩⟩ za6 w G' st'.h W':=hs03.trans (hs.trans hs')
    have hall1:=zlr hall0 hst0 (grownBy_putObj' W' D (.deferred none)) fun r e=>by
      cases e
      exact ⟨yac hs03.left.size hD,_,hK',rfl⟩
    obtain ⟨us,h1,h2,h3⟩:=zgo (P:=Tryz.prog) (a:=a') hall1.inv (fun i=>(fr'.slots i).reads hR1) Tryz.f122.results.toList _ _ (by kernel_rfl) hrv
    have hown:∀ k b,Owns G' k b (st'.h k).body→Nw.n≤b:=fun k b ho=>by
      rcases hall1.grow k b ho with ⟨k',ho'⟩ | hge
      · exact ho'.elim
      · exact hge
    have hfin:RelL (cutS true w.heap.size (zd3 G' st'.h (W'.putObj D (.deferred none)) (vs2.flatMap (sk st'.h deep)))) (W'.putObj D (.deferred none)) us [.agg (cT (zcq k l t))]:=by
      obtain ⟨q1,q2⟩:=zfz hds
      refine ⟨by omega,fun j d hj=>?_⟩
      have hlt:j<vs2.length:=by have:=(yae.1 hj).1; omega
      obtain ⟨d',hd',ht⟩:=q2 j _ (yar hlt)
      rw [hd'] at hj
      cases hj
      exact zM8 hall1.inv hown _ (h3 j _ (yar hlt)) (hhi _ (yaf hlt)) ht fun k hk=>List.mem_flatMap.2 ⟨_,yaf hlt,hk⟩
    have hall:=hall1.trans (zcb hall1.inv (vs2.flatMap (sk st'.h deep)))
    have hno:∀ b k,¬ Owns (⟨St,fun _=>⟨none,0⟩⟩:GS) k b ((za6:Nat→Ent) k).body:=fun b k h=>h
    have hpost:(results Tryz.f122 a'.tmps).run Tryz.prog (W'.putObj D (.deferred none)) = .ok (zbj us) (W'.putObj D (.deferred none)):=zhg h1
    have hL:LeavesInM (FR none) 5 Tryz.prog Tryz.f122 a'.tmps (fun e w'=>∃ St' us,e = .returned (zbj us)∧RelL (cutS true w.heap.size St') w' us [.agg (cT (zcq k l t))]∧Below w.heap.size w w'∧(∀ b,b<w.heap.size→St' b=St b)∧(∀ b,0<St' b→b<w'.heap.size)∧(∀ b,w.heap.size≤b→0<St' b→zie w' b)) a'.defers .returning W':=by
      rw [hd',hd3']
      refine ⟨by simp,.inl ⟨D,_,rfl,run_takeDeferred hK',zbj us,hpost,?_⟩⟩
      exact ⟨_,us,rfl,hfin,⟨hall.left.os,hall.left.tape,hall.left.output,hall.left.size,fun b hb'=>(hall.left.block b hb' (hno b)).1⟩,fun b hb'=>(hall.left.block b hb' (hno b)).2,hall.inv.st,fun b hb' h0=>hall.fresh b (Nat.eq_zero_of_not_pos fun hp=>by have:=hst0 b hp; omega) h0⟩
    rcases hend with rfl | rfl
    · exact hL
    · exact hL
  case stop =>
    rintro D c pre W _ _ h _
    exact h.elim
end
theorem zR0 (k:Int) (l:List T) (t:T) (hl:l.length≤1000000000) (ht:okT t) (hol:okTs l):zou Tryz.prog zsl [.int .i64 k,eTs l,.agg (cT t)] [.agg (cT (zcq k l t))]:=zRz k l t hl ht hol
attribute [local simp] zaf zag tk tn tks
theorem zL6 (l:List T) (t:T) (hl:l.length≤1000000000) (ht:okT t) (hol:okTs l):zou Tryz.prog zkc [eTs l,.agg (cT t)] [.agg (cT (zcq 4 l t))]:=by
  refine zg8 false hm Tryz.func54 zCd rfl fun hs n=>?_
  have h:=zR0 4 l t hl ht hol
  simp only [cT,eTs] at h
  simp -dsimp [zrs,cT,eTs]
  refine zdj h ?_
  simp -dsimp [cT]
end
section
attribute [local simp] zaf zag tk tn tks zcl zcu zbq zbu zbt zc5
theorem zy7 (b:Bl) (hf:Fit b) (base:Int) (a:Ar) (h:okAr a) (fA:FineAr a):Pure Tryz.prog zd7 [eBl b,.int .i64 base,.agg (cAr a)] [.agg (cT (zcj b base a))]:=by
  refine zqm rfl fun hs=>?_
  have d1:=fA.domL
  have i1:=fA.idxL
  have hF:=zCi b hf base a.sort
  have hC:=zKz (if zbm b base a.sort<0 then 0 else zbm b base a.sort)
  rw [show T.mk 3 (if zbm b base a.sort<0 then 0 else zbm b base a.sort) []=fmT b base a.sort from by
    rw [fmT,tC]; congr 1; split <;> split <;> omega] at hC
  have hS:=zf7 (fmT b base a.sort) a.idx (by omega) (zF8 _ _ _) h.idx
  have hP:=zAv a.dom (spT (fmT b base a.sort) a.idx) (by omega) (zez _ _ (zF8 _ _ _) h.idx.2) h.dom
  have hT:=zir a.ty h.ty
  cases hr:a.rc with
  | false =>
    have e:zcj b base a=a.ty:=by rw [zcj,hr]; rfl
    rw [e]
    simp only [cT] at hT
    simp -dsimp [zd6,eBl,cBl,cAr,cT,hr]
    refine zaa hT ?_
    simp -dsimp
  | true =>
    have e:zcj b base a=zcq 4 a.dom (spT (fmT b base a.sort) a.idx):=by rw [zcj,hr]; rfl
    rw [e]
    generalize zcq 4 a.dom (spT (fmT b base a.sort) a.idx)=P at hP
    generalize spT (fmT b base a.sort) a.idx=Sp at hS hP
    generalize fmT b base a.sort=F at hC hS
    simp only [eBl,cBl,cT,eTs] at hF hC hS hP
    simp -dsimp [zd6,eBl,cBl,cAr,cT,eTs,hr]
    refine zaa hF ?_
    simp -dsimp [hr]
    refine zaa hC ?_
    simp -dsimp [hr]
    refine zaa hS ?_
    simp -dsimp [hr]
    refine zaa hP ?_
    simp -dsimp [hr]
theorem zQ7 (b:Bl) (hfit:Fit b) (base:Int) (l:List Ar) (h:zw6 l) (hf:zjv l):Pure Tryz.prog ziy [eBl b,.int .i64 base,eArs l] [eTs (l.map (zcj b base))]:=by
  refine zve rfl fun hs=>?_
  have hl:=hf.1
  simp -dsimp [ziv,eBl,cBl,eArs]
  refine zah l.length (fun i st=>st.s 6 = .rsl 6 1∧st.h 6=⟨1,.row 3 [] false⟩∧st.s 1 = .d (.int .i64 base)∧st.s 3 = .ptr 3 1 0∧st.h 3=⟨1,.box [.d (eSos b.sorts),.d (eCos b.cons),.d (.int .i64 b.elim)] false⟩ ∧
    st.s 2 = .d (.sl 7 (l.map eAr))∧st.s 8 = .d (.int .i64 i)∧st.s 7 = .rsl 7 (1+i)∧st.h 7=⟨1+i,.row 3 (((l.map (zcj b base)).take i).map eT) false⟩) ?_ ?_
  · simp -dsimp
  · rintro i ⟨s,hp⟩ hi ⟨g1,g2,g3,g4,g5,g6,g7,g8,g9⟩
    dsimp only at g1 g2 g3 g4 g5 g6 g7 g8 g9
    rcases ybm i l.length with hlt | hge
    · have w1:IntKind.i64.wrap ((i:Int)+1)=(i:Int)+1:=zab (by omega) (by omega)
      have ha:=zy7 b hfit base l[i] (h.2 _ (yaf _)) (hf.2 _ (yaf _))
      have hr:(min i l.length+1)*40≤zad:=by simp only [zad]; omega
      have htk:((l.map (zcj b base)).take (i+1)).map eT=((l.map (zcj b base)).take i).map eT ++ [.agg (cT (zcj b base l[i]))]:=by
        rw [zce (yar (by simpa using hlt):(l.map (zcj b base))[i]? = some _),ycN]
        simp [za4]
      rw [htk]
      generalize zcj b base l[i]=A at ha
      simp only [eBl,cBl,cAr,cT,eTs,ycv,ycu] at ha
      simp -dsimp [g1,g2,g3,g4,g5,g6,g7,g8,g9,hlt,eAr,cAr,cT,eTs]
      refine zaa ha ?_
      simp -dsimp [g1,g2,g3,g4,g5,g6,g7,g8,g9,hlt,w1,hr,cT]
      omega
    · have e:i=l.length:=by omega
      subst e
      have ht:(l.map (zcj b base)).take l.length=l.map (zcj b base):=ycd (by simp)
      rw [ht] at g9
      simp -dsimp [g1,g2,g3,g4,g5,g6,g7,g8,g9,eTs]
theorem zCs (t:T):Pure Tryz.prog zdz [.agg (cT t)] [.agg (cT (zc4 t)),.int .i64 (za0 t)]:=by
  refine zso rfl fun hs=>?_
  have h:=zG6 t
  simp only [cT] at h
  simp -dsimp [zh3,cT]
  refine zaa h ?_
  simp -dsimp
  (first | refine zal ?_ ?_ | refine zam ?_ ?_) <;> intro h1 <;> (try simp only [nrm] at h1) <;> simp -dsimp [h1]
  · have:zc4 t=zT:=by rw [zc4,if_neg h1]
    simp -dsimp [this,zT,cT]
  · have:zc4 t=t:=by rw [zc4,if_pos h1]
    simp -dsimp [this,h1]
end
section
section
attribute [local simp] zaf zag tk tn tks zcl zcu zbq zbu zbt zc5
structure Pl where
  b:Bl
  base:Int
  args:List Ar
  more:Int
def cPl (p:Pl):List D:=cBl p.b ++ [.int .i64 p.base,eArs p.args,.int .i64 p.more]
def Pl.fwd (p:Pl) (n:Int):Pl:=⟨p.b,p.base,p.args,p.more+n⟩
theorem zJ6 (p:Pl) (n:Int) (h0:0≤p.more) (h1:p.more≤1000000000) (h2:0≤n) (h3:n≤1000000):Pure Tryz.prog zfh [.agg (cPl p),.int .i64 n] [.agg (cPl (p.fwd n))]:=by
  refine zx3 rfl fun hs=>?_
  have w1:IntKind.i64.wrap (p.more+n)=p.more+n:=zab (by omega) (by omega)
  simp -dsimp [zkw,cPl,cBl,Pl.fwd,w1]
def zfu (p:Pl) (t:T):Option Nat:=if t.kind=1∧p.more≤t.num∧t.num - p.more<p.args.length then some (p.args.length - 1 - (t.num - p.more).toNat) else none
def zbb (p:Pl) (t:T):Bool:=match zfu p t with
  | some j=>match p.args[j]? with
    | some a=>a.rc
    | none=>false
  | none=>false
def zeq (p:Pl) (t:T):Int:=match zfu p t with
  | some j=>j
  | none=>0
theorem znp (p:Pl) (t:T) (h0:0≤p.more) (h1:p.more≤1000000000) (hl:p.args.length≤1000000) (hn:n64 t.num):Pure Tryz.prog zbr [.agg (cPl p),.agg (cT t)] [.int .i64 (zeq p t),.bool (zbb p t)]:=by
  refine zqs rfl fun hs=>?_
  obtain ⟨n0,n1⟩:=hn
  simp -dsimp [zf4,cPl,cBl,cT,eArs]
  by_cases c1:t.kind=1
  case neg =>
    have hJ:zfu p t=none:=by rw [zfu,if_neg (fun h=>c1 h.1)]
    simp -dsimp [c1,zeq,zbb,hJ]
  by_cases c2:t.num<p.more
  · have hJ:zfu p t=none:=by rw [zfu,if_neg (fun h=>by omega)]
    simp -dsimp [c1,c2,zeq,zbb,hJ]
  have w1:IntKind.i64.wrap ((p.args.length:Int) - 1)=(p.args.length:Int) - 1:=zab (by omega) (by omega)
  have w2:IntKind.i64.wrap (t.num - p.more)=t.num - p.more:=zab (by omega) (by omega)
  have w3:IntKind.i64.wrap ((p.args.length:Int) - 1 - (t.num - p.more))=(p.args.length:Int) - 1 - (t.num - p.more):=zab (by omega) (by omega)
  by_cases c3:(p.args.length:Int) - 1 - (t.num - p.more)<0
  · have hJ:zfu p t=none:=by rw [zfu,if_neg (fun h=>by omega)]
    simp -dsimp [c1,c2,c3,w1,w2,w3,zeq,zbb,hJ]
  · have hJ:zfu p t=some (p.args.length - 1 - (t.num - p.more).toNat):=by rw [zfu,if_pos ⟨c1,by omega,by omega⟩]
    have hj:(p.args.length:Int) - 1 - (t.num - p.more)=((p.args.length - 1 - (t.num - p.more).toNat:Nat):Int):=by omega
    have hlt:p.args.length - 1 - (t.num - p.more).toNat<p.args.length:=by omega
    rw [hj] at w3 c3
    generalize p.args.length - 1 - (t.num - p.more).toNat=j at *
    have hge:p.args[j]? = some p.args[j]:=yar hlt
    generalize hA:p.args[j]=A at *
    simp -dsimp [c1,c2,c3,w1,w2,w3,hj,zeq,zbb,hJ,hlt,hge,hA,eAr,cAr,cT]
def decG (cl:T→Bool) (p:Pl) (t:T):Bool:=if (spH t).kind=3 then if (ofM p.b p.base (spH t).num).1=4 then match p.b.sorts[(ofM p.b p.base (spH t).num).2.toNat]? with
      | some s=>if ((spA t).length:Int)=s.idx.length+1 then
          (match (spA t).reverse.getLast? with
          | some z=>zbb p (spH z) && (((spA t).reverse.dropLast.all cl) && ((spA z).reverse.all cl))
          | none=>false) else false
      | none=>false else false else false
def zaj:Nat→Pl→T→Bool
  | 0,_,_=>true
  | n+1,p,t=>if t.kind=1 then !zbb p t else if t.kind=3 then decide ((ofM p.b p.base t.num).1=0) else if t.kind=6∧decG (zaj n p) p t=true then true else allI (fun i x=>zaj n (p.fwd (zak t.kind i)) x) 0 t.kids
theorem zHj (p:Pl) (l:List T) (cl:T→Bool) (hl:l.length≤1000000) (h:∀ x ∈ l,Pure Tryz.prog zav [.agg (cPl p),.agg (cT x)] [.bool (cl x)]):Pure Tryz.prog zev [.agg (cPl p),eTs l] [.bool (l.all cl)]:=by
  refine zwt rfl fun hs=>?_
  have hC:=zgx l zh0 [.rp (cPl p)] (fun t=>!cl t) (fun x hx=>by
    refine zsp rfl fun hs=>?_
    have hx':=h x hx
    simp only [cPl,cBl,cT,ycv,ycu] at hx'
    simp -dsimp [zhh,cPl,cBl,cT]
    refine zaa hx' ?_
    simp -dsimp)
  simp only [cPl,cBl,eTs,ycv,ycu] at hC
  simp -dsimp [zj3,cPl,cBl,eTs]
  refine zaa hC ?_
  simp -dsimp
  rw [ycj,Bool.not_not]
theorem zH9 {b:Bl} {base n:Int} (h:(ofM b base n).1 ≠ 0):0≤(ofM b base n).2∧((ofM b base n).1=3∧(ofM b base n).2<b.sorts.length∨(ofM b base n).1=4∧(ofM b base n).2<b.sorts.length∨(ofM b base n).1=5∧(ofM b base n).2<b.cons.length∨(ofM b base n).1=6∧(ofM b base n).2<b.sorts.length):=by
  rw [ofM] at h ⊢
  split at h
  · exact absurd rfl h
  rename_i hc
  rw [if_neg hc]
  cases hs:seek n (tab b base) with
  | none=>rw [hs] at h; exact absurd rfl h
  | some q =>
    obtain ⟨e,he,k,hk,_,rfl⟩:=zva hs
    simp only [tab,yaZ,ycD,or_false] at he
    rcases he with rfl | rfl | rfl | rfl
    all_goals
      simp only [hs,ybG]
      first
        | (have hk':k<b.sorts.length:=hk; simp; exact hk')
        | (have hk':k<b.cons.length:=hk; simp; exact hk')
theorem zuf (t:T):(spA t).length≤zae t:=by
  refine T.ind (p:=fun t=>(spA t).length≤zae t) ?_ t
  intro k n ks ih
  by_cases hc:k=6 ∧ ∃ a b,ks=[a,b]
  · obtain ⟨rfl,a,b,rfl⟩:=hc
    rw [(zjl n a b).1,yaS,zCg]
    have:=ih a (by simp)
    omega
  · rw [(zg4 hc).1]
    simp
theorem zlx (t:T):(∀ x ∈ spA t,zae x<zae t)∧(okT t→okT (spH t) ∧ ∀ x ∈ spA t,okT x):=by
  refine T.ind (p:=fun t=>(∀ x ∈ spA t,zae x<zae t)∧(okT t→okT (spH t) ∧ ∀ x ∈ spA t,okT x)) ?_ t
  intro k n ks ih
  by_cases hc:k=6 ∧ ∃ a b,ks=[a,b]
  · obtain ⟨rfl,a,b,rfl⟩:=hc
    obtain ⟨i1,i2⟩:=ih a (by simp)
    rw [(zjl n a b).1,(zjl n a b).2,zCg]
    refine ⟨fun x hx=>?_,fun ho=>?_⟩
    · rcases yaZ.1 hx with rfl | hx
      · omega
      · have:=i1 x hx; omega
    · have hk:=ho.kids.2
      obtain ⟨j1,j2⟩:=i2 (hk a (by simp))
      refine ⟨j1,fun x hx=>?_⟩
      rcases yaZ.1 hx with rfl | hx
      · exact hk _ (by simp)
      · exact j2 x hx
  · rw [(zg4 hc).1,(zg4 hc).2]
    exact ⟨by simp,fun ho=>⟨ho,by simp⟩⟩
theorem okT.num64 {t:T} (h:okT t):n64 t.num:=by
  cases h with
  | mk k n ks hk hn hl h=>exact hn
theorem zKn (p:Pl) (h0:0≤p.more) (h1:p.more≤1000000000) (hl:p.args.length≤1000000) (t:T) (ot:okT t) (hn:zae t≤1000000) (hsl':∀ s ∈ p.b.sorts,s.idx.length≤1000000) (cl:T→Bool) (h:∀ x,okT x→zae x<zae t→Pure Tryz.prog zav [.agg (cPl p),.agg (cT x)] [.bool (cl x)]) :
    Pure Tryz.prog zgh [.agg (cPl p),.agg (cT t)] [.bool (decG cl p t)]:=by
  refine zqe rfl fun hs=>?_
  have hsl:=zuf t
  have hS:=zyp t (by omega)
  have hO:=zRj p.b p.base (spH t).num
  obtain ⟨m1,m2⟩:=zlx t
  obtain ⟨_,m3⟩:=m2 ot
  have hm:∀ x ∈ (spA t).reverse,zae x<zae t∧okT x:=fun x hx=>⟨m1 x (by simpa using hx),m3 x (by simpa using hx)⟩
  have hAL:(spA t).length=(spA t).reverse.length:=by simp
  have hD:decG cl p t=if (spH t).kind=3 then if (ofM p.b p.base (spH t).num).1=4 then match p.b.sorts[(ofM p.b p.base (spH t).num).2.toNat]? with
      | some s=>if ((spA t).reverse.length:Int)=s.idx.length+1 then
          (match (spA t).reverse.getLast? with
          | some z=>zbb p (spH z) && (((spA t).reverse.dropLast.all cl) && ((spA z).reverse.all cl))
          | none=>false) else false
      | none=>false else false else false:=by rw [decG,hAL]
  rw [hAL] at hsl
  clear hAL m1 m2 m3
  rw [hD]
  clear hD
  simp only [cPl,cBl,eBl,cT,eTs,ycv,ycu] at hS hO h
  generalize (spA t).reverse=A at *
  generalize spH t=H at *
  simp -dsimp [zf6,cPl,cBl,cT]
  refine zaa hS ?_
  by_cases c1:H.kind=3
  case neg=>simp -dsimp [c1]
  simp -dsimp [c1]
  refine zaa hO ?_
  have hk:=zH9 (b:=p.b) (base:=p.base) (n:=H.num)
  generalize hof:ofM p.b p.base H.num=o at *
  by_cases c2:o.1=4
  case neg=>simp -dsimp [c1,c2]
  obtain ⟨k0,k1⟩:=hk (by omega)
  have hlt:o.2.toNat<p.b.sorts.length:=by omega
  have hget:p.b.sorts[o.2.toNat]? = some p.b.sorts[o.2.toNat]:=yar hlt
  generalize hS':p.b.sorts[o.2.toNat]=S at *
  have hsm:S.idx.length≤1000000:=hsl' S (yas hget)
  have w1:IntKind.i64.wrap ((S.idx.length:Int)+1)=(S.idx.length:Int)+1:=zab (by omega) (by omega)
  simp -dsimp [c1,c2,k0,hget,hlt,hS',eSos,eSo,cSo,eArs,cT,w1]
  by_cases c3:(A.length:Int)=S.idx.length+1
  case neg=>simp -dsimp [c3,c1,c2,hget]
  have hAl:A.length=S.idx.length+1:=by omega
  have hz:S.idx.length<A.length:=by omega
  have hgl:A.getLast? = some A[S.idx.length]:=by rw [List.getLast?_eq_getElem?,hAl,ycT,yar hz]
  have hdl:A.dropLast=A.take S.idx.length:=by rw [List.dropLast_eq_take,hAl,ycT]
  rw [hgl,hdl]
  simp only [c1,c2,hget,c3,if_true]
  obtain ⟨z1,z2⟩:=hm _ (yaf hz)
  generalize hZ:A[S.idx.length]=z at *
  obtain ⟨n1,n2⟩:=zlx z
  obtain ⟨oH,n3⟩:=n2 z2
  have hSz:=zyp z (by have:=zuf z; omega)
  have hG:=znp p (spH z) h0 h1 hl oH.num64
  have a1:=zHj p (A.take S.idx.length) cl (by rw [yaE]; omega) (fun x hx=>by have:=hm x (List.mem_of_mem_take hx); simpa only [cPl,cBl,cT,ycv,ycu] using h x this.2 this.1)
  have a2:=zHj p (spA z).reverse cl (by rw [ycU]; have:=zuf z; omega) (fun x hx=>by have:=n1 x (by simpa using hx); simpa only [cPl,cBl,cT,ycv,ycu] using h x (n3 x (by simpa using hx)) (by omega))
  have hZa:(spA z).all cl=(spA z).reverse.all cl:=by simp
  generalize (spA z).reverse=Z at *
  generalize spH z=Hz at *
  simp only [cPl,cBl,cT,eTs,ycv,ycu,ycV] at hSz hG a1 a2
  have w2:IntKind.i64.wrap (S.idx.length:Int)=S.idx.length:=zab (by omega) (by omega)
  have hle:(S.idx.length:Int)≤A.length:=by omega
  simp -dsimp [c3,w2,hz,hZ,za4,cT]
  refine zaa hSz ?_
  simp -dsimp
  refine zaa hG ?_
  cases hgB:zbb p Hz with
  | false=>simp -dsimp [c1,c2,hget]
  | true =>
    simp -dsimp [hle]
    refine zaa a1 ?_
    cases h3:(A.take S.idx.length).all cl with
    | false=>simp -dsimp [c1,c2,hget]
    | true =>
      simp -dsimp
      refine zaa a2 ?_
      simp -dsimp [c1,c2,hget,c3,hZa]
theorem zkv (t:T):1≤zae t:=by obtain ⟨k,n,ks⟩:=t; rw [zae]; omega
theorem zAs (t:T) {x:T} (h:x ∈ t.kids):zae x+1≤zae t:=by obtain ⟨k,n,ks⟩:=t; exact zcc h
theorem zNp {t x:T} (ot:okT t) (h:x ∈ t.kids):okT x:=by obtain ⟨k,n,ks⟩:=t; exact ot.kids.2 x h
theorem zJn {t:T} (ot:okT t):t.kids.length*40≤140737488351232:=by obtain ⟨k,n,ks⟩:=t; exact ot.kids.1
theorem zpf (n:Nat) (hN:n≤1000000):∀ (p:Pl) (t:T),0≤p.more→p.more+zae t≤1000000000→p.args.length≤1000000→(∀ s ∈ p.b.sorts,s.idx.length≤1000000)→okT t→zae t≤n →
    Pure Tryz.prog zav [.agg (cPl p),.agg (cT t)] [.bool (zaj n p t)]:=by
  induction n with
  | zero=>intro p t _ _ _ _ _ h; have:=zkv t; omega
  | succ n ih =>
    intro p t h0 h1 hl hsl ot hn
    have hrec:∀ x,okT x→zae x<zae t→Pure Tryz.prog zav [.agg (cPl p),.agg (cT x)] [.bool (zaj n p x)]:=fun x ox hx=>ih (by omega) p x h0 (by omega) hl hsl ox (by omega)
    have hkl:=zJn ot
    have hG:=znp p t h0 (by omega) hl ot.num64
    have hO:=zRj p.b p.base t.num
    have hDe:=zKn p h0 (by omega) hl t ot (by omega) hsl (zaj n p) hrec
    refine ztx rfl fun hs=>?_
    simp only [cPl,cBl,eBl,cT,ycv,ycu] at hG hO hDe
    simp -dsimp [zhz,cPl,cBl,cT]
    by_cases c1:t.kind=1
    · simp -dsimp [c1]
      rw [c1] at hG
      refine zaa hG ?_
      simp -dsimp [zaj,c1]
    by_cases c3:t.kind=3
    · simp -dsimp [c1,c3]
      refine zaa hO ?_
      simp -dsimp [zaj,c1,c3]
    by_cases c6:t.kind=6
    · simp -dsimp [c1,c3,c6]
      rw [c6] at hDe
      refine zaa hDe ?_
      cases hd:decG (zaj n p) p t with
      | true =>
        have hv:zaj (n+1) p t=true:=by rw [zaj,if_neg c1,if_neg c3,if_pos ⟨c6,hd⟩]
        simp -dsimp [hv]
      | false =>
        have hv:zaj (n+1) p t=allI (fun i x=>zaj n (p.fwd (zak t.kind i)) x) 0 t.kids:=by rw [zaj,if_neg c1,if_neg c3,if_neg (fun h=>by rw [hd] at h; cases h.2)]
        simp -dsimp [c1,c3,c6]
        refine zah t.kids.length (fun i st=>st.s 2 = .ptr 2 1 0∧st.s 3 = .ptr 3 1 0∧st.s 43 = .d (eTs t.kids)∧st.s 44 = .d (.int .i64 t.kids.length)∧st.s 45 = .d (.int .i64 i) ∧
          st.h 2=⟨1,.box [.d (eSos p.b.sorts),.d (eCos p.b.cons),.d (.int .i64 p.b.elim),.d (.int .i64 p.base),.d (eArs p.args),.d (.int .i64 p.more)] false⟩ ∧
          st.h 3=⟨1,.box [.d (.int .i64 t.kind),.d (.int .i64 t.num),.d (.sl 3 (t.kids.map eT))] false⟩ ∧ ∀ (j:Nat) (hj:j<t.kids.length),j<i→zaj n (p.fwd (zak t.kind j)) t.kids[j]=true) ?_ ?_
        · simp -dsimp [eTs,c1,c3,c6]
        · rintro i ⟨s,hp⟩ hi ⟨g2,g3,g43,g44,g45,k2,k3,g⟩
          dsimp only at g2 g3 g43 g44 g45 k2 k3
          simp only [eTs] at g43
          rcases ybm i t.kids.length with hlt | hge
          · have w1:IntKind.i64.wrap ((i:Int)+1)=(i:Int)+1:=zab (by omega) (by omega)
            have hbl:=zco t.kind i
            have hkn:=zAs t (yaf hlt)
            have hB:=zoe t.kind i
            have hP:=zJ6 p (zak t.kind i) h0 (by omega) (by omega) (by omega)
            have hI:=ih (by omega) (p.fwd (zak t.kind i)) t.kids[i] (by simp only [Pl.fwd]; omega) (by simp only [Pl.fwd]; omega) hl hsl (zNp ot (yaf hlt)) (by omega)
            have hgi:=g
            generalize hX:t.kids[i]=X at *
            simp only [cPl,cBl,cT,Pl.fwd,ycv,ycu] at hP hI
            simp -dsimp [g2,g3,g43,g44,g45,k2,k3,hlt,hX,cT]
            refine zaa hB ?_
            simp -dsimp [g2,g3,g43,g44,g45,k2,k3,hlt,hX,cT]
            refine zaa hP ?_
            simp -dsimp [g2,g3,g43,g44,g45,k2,k3,hlt,hX,cT]
            refine zaa hI ?_
            cases hc:zaj n (p.fwd (zak t.kind i)) X with
            | true =>
              simp only [Pl.fwd] at hc
              simp -dsimp [g2,g3,g43,g44,g45,k2,k3,hlt,hX,cT,hc,w1,eTs]
              intro j hj hji
              rcases ybm j i with h' | h'
              · exact g j hj h'
              · have:j=i:=by omega
                subst this
                rw [hX]; exact hc
            | false =>
              have hz:allI (fun i x=>zaj n (p.fwd (zak t.kind i)) x) 0 t.kids=false:=by
                rw [ycW]
                intro h
                have:=(zaq _ _ _).1 h i hlt
                rw [ybj,hX,hc] at this
                cases this
              simp only [Pl.fwd] at hc
              rw [hv,hz]
              simp -dsimp [g2,g3,g43,g44,g45,k2,k3,hlt,hX,cT,hc]
          · have e:i=t.kids.length:=by omega
            subst e
            have hz:allI (fun i x=>zaj n (p.fwd (zak t.kind i)) x) 0 t.kids=true:=(zaq _ _ _).2 fun j hj=>by rw [ybj]; exact g j hj hj
            rw [hv,hz]
            simp -dsimp [g2,g3,g43,g44,g45,k2,k3]
    · have hv:zaj (n+1) p t=allI (fun i x=>zaj n (p.fwd (zak t.kind i)) x) 0 t.kids:=by rw [zaj,if_neg c1,if_neg c3,if_neg (fun h=>c6 h.1)]
      simp -dsimp [c1,c3,c6]
      refine zah t.kids.length (fun i st=>st.s 2 = .ptr 2 1 0∧st.s 3 = .ptr 3 1 0∧st.s 43 = .d (eTs t.kids)∧st.s 44 = .d (.int .i64 t.kids.length)∧st.s 45 = .d (.int .i64 i) ∧
        st.h 2=⟨1,.box [.d (eSos p.b.sorts),.d (eCos p.b.cons),.d (.int .i64 p.b.elim),.d (.int .i64 p.base),.d (eArs p.args),.d (.int .i64 p.more)] false⟩ ∧
        st.h 3=⟨1,.box [.d (.int .i64 t.kind),.d (.int .i64 t.num),.d (.sl 3 (t.kids.map eT))] false⟩ ∧ ∀ (j:Nat) (hj:j<t.kids.length),j<i→zaj n (p.fwd (zak t.kind j)) t.kids[j]=true) ?_ ?_
      · simp -dsimp [eTs,c1,c3,c6]
      · rintro i ⟨s,hp⟩ hi ⟨g2,g3,g43,g44,g45,k2,k3,g⟩
        dsimp only at g2 g3 g43 g44 g45 k2 k3
        simp only [eTs] at g43
        rcases ybm i t.kids.length with hlt | hge
        · have w1:IntKind.i64.wrap ((i:Int)+1)=(i:Int)+1:=zab (by omega) (by omega)
          have hbl:=zco t.kind i
          have hkn:=zAs t (yaf hlt)
          have hB:=zoe t.kind i
          have hP:=zJ6 p (zak t.kind i) h0 (by omega) (by omega) (by omega)
          have hI:=ih (by omega) (p.fwd (zak t.kind i)) t.kids[i] (by simp only [Pl.fwd]; omega) (by simp only [Pl.fwd]; omega) hl hsl (zNp ot (yaf hlt)) (by omega)
          have hgi:=g
          generalize hX:t.kids[i]=X at *
          simp only [cPl,cBl,cT,Pl.fwd,ycv,ycu] at hP hI
          simp -dsimp [g2,g3,g43,g44,g45,k2,k3,hlt,hX,cT]
          refine zaa hB ?_
          simp -dsimp [g2,g3,g43,g44,g45,k2,k3,hlt,hX,cT]
          refine zaa hP ?_
          simp -dsimp [g2,g3,g43,g44,g45,k2,k3,hlt,hX,cT]
          refine zaa hI ?_
          cases hc:zaj n (p.fwd (zak t.kind i)) X with
          | true =>
            simp only [Pl.fwd] at hc
            simp -dsimp [g2,g3,g43,g44,g45,k2,k3,hlt,hX,cT,hc,w1,eTs]
            intro j hj hji
            rcases ybm j i with h' | h'
            · exact g j hj h'
            · have:j=i:=by omega
              subst this
              rw [hX]; exact hc
          | false =>
            have hz:allI (fun i x=>zaj n (p.fwd (zak t.kind i)) x) 0 t.kids=false:=by
              rw [ycW]
              intro h
              have:=(zaq _ _ _).1 h i hlt
              rw [ybj,hX,hc] at this
              cases this
            simp only [Pl.fwd] at hc
            rw [hv,hz]
            simp -dsimp [g2,g3,g43,g44,g45,k2,k3,hlt,hX,cT,hc]
        · have e:i=t.kids.length:=by omega
          subst e
          have hz:allI (fun i x=>zaj n (p.fwd (zak t.kind i)) x) 0 t.kids=true:=(zaq _ _ _).2 fun j hj=>by rw [ybj]; exact g j hj hj
          rw [hv,hz]
          simp -dsimp [g2,g3,g43,g44,g45,k2,k3]
end
end
section
section
attribute [local simp] zaf zag tk tn tks zcl zcu zbq zbu zbt zc5
def fitA (cl gd:T→Bool) (p:Pl) (a:Ar) (x:T):Bool:=if a.rc then if a.dom.length=0 then gd x else zbb p x else cl x
def zC3 (cl gd:T→Bool) (p:Pl) (t:T) (cons:Int):Bool :=
  if zbb p (spH t) then (match p.args[(zeq p (spH t)).toNat]? with
    | some a=>decide ((spA t).reverse.length=a.dom.length) && (spA t).reverse.all cl
    | none=>false)
  else if (spH t).kind=3 then if (ofM p.b p.base (spH t).num).1=5 then if (ofM p.b p.base (spH t).num).2<cons then match p.b.cons[(ofM p.b p.base (spH t).num).2.toNat]? with
      | some c=>if (spA t).reverse.length=c.args.length then allI (fun i a=>match (spA t).reverse[i]? with | some x=>fitA cl gd p a x | none=>false) 0 c.args else false
      | none=>false else false else false
  else false
def zdp:Nat→Pl→T→Int→Bool
  | 0,_,_,_=>true
  | n+1,p,t,cons=>zC3 (zaj n p) (fun x=>zdp n p x cons) p t cons
theorem zWs (n:Nat) (hN:n≤1000000):∀ (p:Pl) (t:T) (cons:Int),0≤p.more→p.more+zae t≤1000000000→p.args.length≤1000000→(∀ s ∈ p.b.sorts,s.idx.length≤1000000)→(∀ c ∈ p.b.cons,c.args.length≤1000000)→okT t→zae t≤n →
    Pure Tryz.prog zfx [.agg (cPl p),.agg (cT t),.int .i64 cons] [.bool (zdp n p t cons)]:=by
  induction n with
  | zero=>intro p t _ _ _ _ _ _ _ h; have:=zkv t; omega
  | succ n ih =>
    intro p t cons h0 h1 hl hsl hcl ot hn
    have hA:=zuf t
    have hS:=zyp t (by omega)
    obtain ⟨m1,m2⟩:=zlx t
    obtain ⟨oH,m3⟩:=m2 ot
    have hm:∀ x ∈ (spA t).reverse,zae x<zae t∧okT x:=fun x hx=>⟨m1 x (by simpa using hx),m3 x (by simpa using hx)⟩
    have hG:=znp p (spH t) h0 (by omega) hl oH.num64
    have hO:=zRj p.b p.base (spH t).num
    have hAl:=zHj p (spA t).reverse (zaj n p) (by rw [ycU]; omega) (fun x hx=>zpf n (by omega) p x h0 (by have:=(hm x hx).1; omega) hl hsl (hm x hx).2 (by have:=(hm x hx).1; omega))
    refine zvi rfl fun hs=>?_
    have hV:zdp (n+1) p t cons=zC3 (zaj n p) (fun x=>zdp n p x cons) p t cons:=rfl
    have hW:zC3 (zaj n p) (fun x=>zdp n p x cons) p t cons=if zbb p (spH t) then (match p.args[(zeq p (spH t)).toNat]? with
        | some a=>decide ((spA t).reverse.length=a.dom.length) && (spA t).reverse.all (zaj n p)
        | none=>false)
      else if (spH t).kind=3 then if (ofM p.b p.base (spH t).num).1=5 then if (ofM p.b p.base (spH t).num).2<cons then match p.b.cons[(ofM p.b p.base (spH t).num).2.toNat]? with
          | some c=>if (spA t).reverse.length=c.args.length then allI (fun i a=>match (spA t).reverse[i]? with | some x=>fitA (zaj n p) (fun x=>zdp n p x cons) p a x | none=>false) 0 c.args else false
          | none=>false else false else false
      else false:=by rw [zC3]
    rw [hV]
    rw [← ycU] at hA
    generalize zC3 (zaj n p) (fun x=>zdp n p x cons) p t cons=W at *
    generalize (spA t).reverse=A at *
    generalize spH t=H at *
    simp only [cPl,cBl,eBl,cT,eTs,ycv,ycu] at hS hG hO hAl
    simp -dsimp [zja,cPl,cBl,cT]
    refine zaa hS ?_
    simp -dsimp
    refine zaa hG ?_
    cases hg:zbb p H with
    | true =>
      obtain ⟨j,hj,hja⟩:∃ j,zfu p H=some j ∧ ∃ a,p.args[j]? = some a:=by
        rw [zbb] at hg
        cases hJ:zfu p H with
        | none=>rw [hJ] at hg; cases hg
        | some j =>
          rw [hJ] at hg
          cases ha:p.args[j]? with
          | none=>simp [ha] at hg
          | some a=>exact ⟨j,rfl,a,ha⟩
      obtain ⟨a,ha⟩:=hja
      have hN':zeq p H=j:=by rw [zeq,hj]
      have hjl:=(yae.1 ha).1
      rw [hg,if_pos rfl,hN',ycS,ha] at hW
      simp only at hW
      rw [hN']
      simp -dsimp [eArs,ha,eAr,cAr,cT,eTs]
      by_cases hc:A.length=a.dom.length
      · have hc':(A.length:Int)=a.dom.length:=by omega
        have hw:W=A.all (zaj n p):=by rw [hW]; simp [hc]
        simp -dsimp [hc',hc]
        refine zaa hAl ?_
        simp -dsimp [hc',hc,hw]
      · have hc':¬ (A.length:Int)=a.dom.length:=by omega
        have hw:W=false:=by rw [hW]; simp [hc]
        simp -dsimp [hc',hc,hw]
    | false =>
      rw [hg,if_neg (by simp)] at hW
      simp -dsimp
      by_cases c1:H.kind=3
      case neg =>
        rw [if_neg c1] at hW
        simp -dsimp [c1,hW]
      rw [if_pos c1] at hW
      simp -dsimp [c1]
      refine zaa hO ?_
      have hk:=zH9 (b:=p.b) (base:=p.base) (n:=H.num)
      generalize hof:ofM p.b p.base H.num=o at *
      by_cases c2:o.1=5
      case neg =>
        rw [if_neg c2] at hW
        simp -dsimp [c1,c2,hW]
      rw [if_pos c2] at hW
      obtain ⟨k0,k1⟩:=hk (by omega)
      have hlt:o.2.toNat<p.b.cons.length:=by omega
      have hget:p.b.cons[o.2.toNat]? = some p.b.cons[o.2.toNat]:=yar hlt
      rw [hget] at hW
      generalize hS':p.b.cons[o.2.toNat]=S at *
      have hsm:S.args.length≤1000000:=hcl S (yas hget)
      by_cases c3:o.2<cons
      case neg =>
        rw [if_neg c3] at hW
        have c3':cons≤o.2:=by omega
        simp -dsimp [c1,c2,c3,c3',hW]
      rw [if_pos c3] at hW
      simp only at hW
      have c3':¬ cons≤o.2:=by omega
      simp -dsimp [c1,c2,c3,c3',k0,hget,hlt,hS',eCos,eCo,cCo,eArs,cT]
      by_cases c4:A.length=S.args.length
      case neg =>
        rw [if_neg c4] at hW
        have c4':¬ (A.length:Int)=S.args.length:=by omega
        simp -dsimp [c1,c2,c3,c4,c4',hget,hW]
      rw [if_pos c4] at hW
      have c4':(A.length:Int)=S.args.length:=by omega
      simp -dsimp [c1,c2,c3,c3',c4',k0,hget,hlt,hS',eCos,eCo,cCo,eArs,cT]
      have hfit:∀ (i:Nat) (hi:i<S.args.length),(match A[i]? with | some x=>fitA (zaj n p) (fun x=>zdp n p x cons) p S.args[i] x | none=>false)=fitA (zaj n p) (fun x=>zdp n p x cons) p S.args[i] (A[i]'(by omega)):=fun i hi=>by rw [yar (by omega:i<A.length)]
      have hVt:(∀ (i:Nat) (hi:i<S.args.length),fitA (zaj n p) (fun x=>zdp n p x cons) p S.args[i] (A[i]'(by omega))=true)→W=true:=fun h=>by
        rw [hW]
        exact (zaq _ _ _).2 fun j hj=>by simp only [ybj]; rw [hfit j hj]; exact h j hj
      have hVf:∀ (i:Nat) (hi:i<S.args.length),fitA (zaj n p) (fun x=>zdp n p x cons) p S.args[i] (A[i]'(by omega))=false→W=false:=fun i hi h=>by
        rw [hW,ycW]
        intro h2
        have:=(zaq _ _ _).1 h2 i hi
        simp only [ybj] at this
        rw [hfit i hi,h] at this
        cases this
      refine zah S.args.length (fun i st=>st.s 2 = .d (.int .i64 cons)∧st.s 3 = .ptr 3 1 0∧st.s 8 = .d (eTs A)∧st.s 83 = .d (eArs S.args)∧st.s 84 = .d (.int .i64 S.args.length)∧st.s 85 = .d (.int .i64 i) ∧
        st.h 3=⟨1,.box [.d (eSos p.b.sorts),.d (eCos p.b.cons),.d (.int .i64 p.b.elim),.d (.int .i64 p.base),.d (eArs p.args),.d (.int .i64 p.more)] false⟩ ∧
        ∀ (j:Nat) (hj:j<S.args.length),j<i→fitA (zaj n p) (fun x=>zdp n p x cons) p S.args[j] (A[j]'(by omega))=true) ?_ ?_
      · simp -dsimp [eTs,eArs,eCos]
      · rintro i ⟨s,hp⟩ hi ⟨g2,g3,g8,g83,g84,g85,k3,g⟩
        dsimp only at g2 g3 g8 g83 g84 g85 k3
        simp only [eTs,eArs] at g8 g83
        rcases ybm i S.args.length with hlt2 | hge
        · have w1:IntKind.i64.wrap ((i:Int)+1)=(i:Int)+1:=zab (by omega) (by omega)
          have hiA:i<A.length:=by omega
          obtain ⟨x1,x2⟩:=hm _ (yaf hiA)
          have hcv:=hVf i hlt2
          have hfi:∀ h:fitA (zaj n p) (fun x=>zdp n p x cons) p S.args[i] A[i]=true,∀ (j:Nat) (hj:j<S.args.length),j<i+1→fitA (zaj n p) (fun x=>zdp n p x cons) p S.args[j] (A[j]'(by omega))=true:=fun h j hj hji=>by
            rcases ybm j i with h' | h'
            · exact g j hj h'
            · have:j=i:=by omega
              subst this
              exact h
          have hGx:=znp p A[i] h0 (by omega) hl x2.num64
          have hCx:=zpf n (by omega) p A[i] h0 (by omega) hl hsl x2 (by omega)
          have hDx:=ih (by omega) p A[i] cons h0 (by omega) hl hsl hcl x2 (by omega)
          generalize hX:A[i]=X at *
          generalize hAr:S.args[i]=R at *
          simp only [cPl,cBl,cT,ycv,ycu] at hGx hCx hDx
          simp -dsimp [g2,g3,g8,g83,g84,g85,k3,hlt2,hiA,hX,hAr,eAr,cAr,cT]
          refine zaa hGx ?_
          simp -dsimp [g2,g3,g8,g83,g84,g85,k3,hlt2,hiA,hX,hAr,eAr,cAr,cT]
          cases hr:R.rc with
          | false =>
            simp -dsimp [g2,g3,g8,g83,g84,g85,k3,hlt2,hiA,hX,hAr,eAr,cAr,cT]
            refine zaa hCx ?_
            cases hc:zaj n p X with
            | false =>
              have hw:=hcv (by simp [fitA,hr,hc])
              simp -dsimp [g2,g3,g8,g83,g84,g85,k3,hlt2,hiA,hX,hAr,eAr,cAr,cT,hr,hw]
            | true =>
              have hnx:=hfi (by simp [fitA,hr,hc])
              simp -dsimp [g2,g3,g8,g83,g84,g85,k3,hlt2,hiA,hX,hAr,eAr,cAr,cT,hr,w1,eTs,eArs]
              exact hnx
          | true =>
            by_cases hd:R.dom.length=0
            · have hd':(R.dom.length:Int)=0:=by omega
              have hdn:R.dom=[]:=ycL.1 hd
              simp -dsimp [g2,g3,g8,g83,g84,g85,k3,hlt2,hiA,hX,hAr,eAr,cAr,cT,hr,hdn,eTs]
              refine zaa hDx ?_
              cases hc:zdp n p X cons with
              | false =>
                have hw:=hcv (by simp [fitA,hr,hd,hc])
                simp -dsimp [g2,g3,g8,g83,g84,g85,k3,hlt2,hiA,hX,hAr,eAr,cAr,cT,hr,hdn,eTs,hw]
              | true =>
                have hnx:=hfi (by simp [fitA,hr,hd,hc])
                simp -dsimp [g2,g3,g8,g83,g84,g85,k3,hlt2,hiA,hX,hAr,eAr,cAr,cT,hr,hdn,w1,eTs,eArs]
                exact hnx
            · have hd':¬ (R.dom.length:Int)=0:=by omega
              have hd2:(0:Int)<R.dom.length:=by omega
              have hdn:¬ R.dom=[]:=fun h=>hd (by rw [h]; rfl)
              have hd3:0<R.dom.length:=by omega
              cases hc:zbb p X with
              | false =>
                have hw:=hcv (by simp [fitA,hr,hdn,hc])
                simp -dsimp [g2,g3,g8,g83,g84,g85,k3,hlt2,hiA,hX,hAr,eAr,cAr,cT,hr,hdn,hd',hd2,hd3,eTs,hw]
              | true =>
                have hnx:=hfi (by simp [fitA,hr,hdn,hc])
                simp -dsimp [g2,g3,g8,g83,g84,g85,k3,hlt2,hiA,hX,hAr,eAr,cAr,cT,hr,hdn,hd',hd2,hd3,w1,eTs,eArs]
                exact hnx
        · have e:i=S.args.length:=by omega
          subst e
          have hz:=hVt fun j hj=>g j hj hj
          simp -dsimp [g2,g3,g8,g83,g84,g85,k3,hz]
def indF (n:Nat) (p:Pl) (so:So) (l:List T) (cons:Int):Bool:=allI (fun i a=>match l[i]? with | some x=>if a.rc then zdp n p x cons else zaj n p x | none=>false) 0 so.idx
theorem zB4 (n:Nat) (hN:n≤1000000) (p:Pl) (k:Int) (so:So) (hk0:0≤k) (hk:p.b.sorts[k.toNat]? = some so) (l:List T) (cons:Int) (hll:l.length=so.idx.length) (h0:0≤p.more) (hm:p.more≤1000000) (hl:p.args.length≤1000000) (hsl:∀ s ∈ p.b.sorts,s.idx.length≤1000000) (hcl:∀ c ∈ p.b.cons,c.args.length≤1000000)
    (ol:∀ x ∈ l,okT x∧zae x≤n):Pure Tryz.prog zea [.agg (cPl p),.int .i64 k,eTs l,.int .i64 cons] [.bool (indF n p so l cons)]:=by
  refine zqc rfl fun hs=>?_
  have hsm:=hsl so (yas hk)
  have hklt:=(yae.1 hk).1
  simp -dsimp [zgk,cPl,cBl,eTs]
  simp -dsimp [eSos,hk0,hk,eSo,cSo,cT,eArs]
  generalize hV:indF n p so l cons=V
  have hfit:∀ (i:Nat) (hi:i<so.idx.length),(match l[i]? with | some x=>if so.idx[i].rc then zdp n p x cons else zaj n p x | none=>false)=if so.idx[i].rc then zdp n p (l[i]'(by omega)) cons else zaj n p (l[i]'(by omega)):=fun i hi=>by rw [yar (by omega:i<l.length)]
  have hVt:(∀ (i:Nat) (hi:i<so.idx.length),(if so.idx[i].rc then zdp n p (l[i]'(by omega)) cons else zaj n p (l[i]'(by omega)))=true)→V=true:=fun h=>by
    rw [← hV]
    exact (zaq _ _ _).2 fun j hj=>by simp only [ybj]; rw [hfit j hj]; exact h j hj
  have hVf:∀ (i:Nat) (hi:i<so.idx.length),(if so.idx[i].rc then zdp n p (l[i]'(by omega)) cons else zaj n p (l[i]'(by omega)))=false→V=false:=fun i hi h=>by
    rw [← hV,ycW]
    intro h2
    have:=(zaq _ _ _).1 h2 i hi
    simp only [ybj] at this
    rw [hfit i hi,h] at this
    cases this
  refine zah so.idx.length (fun i st=>st.s 2 = .d (eTs l)∧st.s 3 = .d (.int .i64 cons)∧st.s 4 = .ptr 4 1 0∧st.s 17 = .d (eArs so.idx)∧st.s 18 = .d (.int .i64 so.idx.length)∧st.s 19 = .d (.int .i64 i) ∧
    st.h 4=⟨1,.box [.d (eSos p.b.sorts),.d (eCos p.b.cons),.d (.int .i64 p.b.elim),.d (.int .i64 p.base),.d (eArs p.args),.d (.int .i64 p.more)] false⟩ ∧
    ∀ (j:Nat) (hj:j<so.idx.length),j<i→(if so.idx[j].rc then zdp n p (l[j]'(by omega)) cons else zaj n p (l[j]'(by omega)))=true) ?_ ?_
  · simp -dsimp [eTs,eArs,eSos]
  · rintro i ⟨s,hp⟩ hi ⟨g1,g2,g3,g17,g18,g19,k4,g⟩
    dsimp only at g1 g2 g3 g17 g18 g19 k4
    simp only [eTs,eArs] at g1 g17
    rcases ybm i so.idx.length with hlt | hge
    · have w1:IntKind.i64.wrap ((i:Int)+1)=(i:Int)+1:=zab (by omega) (by omega)
      have hiA:i<l.length:=by omega
      obtain ⟨x1,x2⟩:=ol _ (yaf hiA)
      have hcv:=hVf i hlt
      have hfi:∀ h:(if so.idx[i].rc then zdp n p l[i] cons else zaj n p l[i])=true,∀ (j:Nat) (hj:j<so.idx.length),j<i+1→(if so.idx[j].rc then zdp n p (l[j]'(by omega)) cons else zaj n p (l[j]'(by omega)))=true:=fun h j hj hji=>by
        rcases ybm j i with h' | h'
        · exact g j hj h'
        · have:j=i:=by omega
          subst this
          exact h
      have hCx:=zpf n hN p l[i] h0 (by omega) hl hsl x1 x2
      have hDx:=zWs n hN p l[i] cons h0 (by omega) hl hsl hcl x1 x2
      generalize hX:l[i]=X at *
      generalize hAr:so.idx[i]=R at *
      simp only [cPl,cBl,cT,ycv,ycu] at hCx hDx
      simp -dsimp [g1,g2,g3,g17,g18,g19,k4,hlt,hiA,hX,hAr,eAr,cAr,cT]
      cases hr:R.rc with
      | false =>
        rw [hr] at hcv hfi
        simp only [yao,if_false] at hcv hfi
        simp -dsimp [g1,g2,g3,g17,g18,g19,k4,hlt,hiA,hX,hAr,eAr,cAr,cT,hr]
        refine zaa hCx ?_
        cases hc:zaj n p X with
        | false=>simp -dsimp [g1,g2,g3,g17,g18,g19,k4,hlt,hiA,hX,hAr,eAr,cAr,cT,hr,hcv hc]
        | true =>
          have hnx:=hfi hc
          simp -dsimp [g1,g2,g3,g17,g18,g19,k4,hlt,hiA,hX,hAr,eAr,cAr,cT,hr,w1,eTs,eArs]
          simpa using hnx
      | true =>
        rw [hr] at hcv hfi
        simp only [if_true] at hcv hfi
        simp -dsimp [g1,g2,g3,g17,g18,g19,k4,hlt,hiA,hX,hAr,eAr,cAr,cT,hr]
        refine zaa hDx ?_
        cases hc:zdp n p X cons with
        | false=>simp -dsimp [g1,g2,g3,g17,g18,g19,k4,hlt,hiA,hX,hAr,eAr,cAr,cT,hr,hcv hc]
        | true =>
          have hnx:=hfi hc
          simp -dsimp [g1,g2,g3,g17,g18,g19,k4,hlt,hiA,hX,hAr,eAr,cAr,cT,hr,w1,eTs,eArs]
          simpa using hnx
    · have e:i=so.idx.length:=by omega
      subst e
      have hz:=hVt fun j hj=>g j hj hj
      simp -dsimp [g1,g2,g3,g17,g18,g19,k4,hz]
end
end
section
section
attribute [local simp] zaf zag tk tn tks zcl zcu zbq zbu zbt zc5
def argF (n:Nat) (b:Bl) (base:Int) (l:List Ar) (cons:Int) (i:Nat) (a:Ar):Bool :=
  if a.rc then (allI (fun j d=>zaj n ⟨b,base,l.take i,(j:Int)⟩ d) 0 a.dom) && (match b.sorts[a.sort.toNat]? with
    | some so=>indF n ⟨b,base,l.take i,(a.dom.length:Int)⟩ so a.idx cons
    | none=>false)
  else zaj n ⟨b,base,l.take i,0⟩ a.ty
def rowF (n:Nat) (b:Bl) (base:Int) (l:List Ar) (cons:Int):Bool:=allI (fun i a=>argF n b base l cons i a) 0 l
theorem zNy (n:Nat) (hN:n≤1000000) (b:Bl) (base:Int) (l:List Ar) (cons:Int) (hl:l.length≤1000000) (hsl:∀ s ∈ b.sorts,s.idx.length≤1000000) (hcl:∀ c ∈ b.cons,c.args.length≤1000000)
    (hty:∀ a ∈ l,a.rc=false→okT a.ty∧zae a.ty≤n) (hrc:∀ a ∈ l,a.rc=true→a.dom.length≤60∧(∀ x ∈ a.dom,okT x∧zae x≤n)∧(∀ x ∈ a.idx,okT x∧zae x≤n)∧0≤a.sort ∧ ∃ so,b.sorts[a.sort.toNat]? = some so∧a.idx.length=so.idx.length) :
    Pure Tryz.prog zo7 [eBl b,.int .i64 base,eArs l,.int .i64 cons] [.bool (rowF n b base l cons)]:=by
  refine zHw rfl fun hs=>?_
  generalize hV:rowF n b base l cons=V
  have hVt:(∀ (i:Nat) (hi:i<l.length),argF n b base l cons i l[i]=true)→V=true:=fun h=>by
    rw [← hV]
    exact (zaq _ _ _).2 fun j hj=>by simp only [ybj]; exact h j hj
  have hVf:∀ (i:Nat) (hi:i<l.length),argF n b base l cons i l[i]=false→V=false:=fun i hi h=>by
    rw [← hV,ycW]
    intro h2
    have:=(zaq _ _ _).1 h2 i hi
    simp only [ybj] at this
    rw [h] at this
    cases this
  simp -dsimp [zsu,eBl,cBl,eArs]
  refine zah l.length (fun i st=>st.s 1 = .d (.int .i64 base)∧st.s 2 = .d (eArs l)∧st.s 3 = .d (.int .i64 cons)∧st.s 4 = .ptr 4 1 0∧st.s 14 = .d (eArs l)∧st.s 15 = .d (.int .i64 l.length)∧st.s 16 = .d (.int .i64 i) ∧
    st.h 4=⟨1,.box [.d (eSos b.sorts),.d (eCos b.cons),.d (.int .i64 b.elim)] false⟩ ∧ ∀ (j:Nat) (hj:j<l.length),j<i→argF n b base l cons j l[j]=true) ?_ ?_
  · simp -dsimp [eArs]
  · rintro i ⟨s,hp⟩ hi ⟨g1,g2,g3,g4,g14,g15,g16,k4,g⟩
    dsimp only at g1 g2 g3 g4 g14 g15 g16 k4
    simp only [eArs] at g2 g14
    rcases ybm i l.length with hlt | hge
    · have w1:IntKind.i64.wrap ((i:Int)+1)=(i:Int)+1:=zab (by omega) (by omega)
      have hile:i≤l.length:=hi
      have hcv:=hVf i hlt
      have hmem:=yaf hlt
      have h1:=hty _ hmem
      have h2:=hrc _ hmem
      have hfi:∀ h:argF n b base l cons i l[i]=true,∀ (j:Nat) (hj:j<l.length),j<i+1→argF n b base l cons j l[j]=true:=fun h j hj hji=>by
        rcases ybm j i with h' | h'
        · exact g j hj h'
        · have:j=i:=by omega
          subst this
          exact h
      generalize hAr:l[i]=R at *
      simp -dsimp [g1,g2,g3,g4,g14,g15,g16,k4,hlt,hile,hAr,eAr,cAr,cT]
      cases hr:R.rc with
      | false =>
        obtain ⟨o1,o2⟩:=h1 hr
        have hC:=zpf n hN ⟨b,base,l.take i,0⟩ R.ty (by simp) (by simp; omega) (by simp; omega) hsl o1 o2
        have hAF:argF n b base l cons i R=zaj n ⟨b,base,l.take i,0⟩ R.ty:=by rw [argF,hr,if_neg (by simp)]
        rw [hAF] at hcv hfi
        simp only [cPl,cBl,cT,eArs,ycv,ycu,ycV] at hC
        simp -dsimp [g1,g2,g3,g4,g14,g15,g16,k4,hlt,hile,hAr,eAr,cAr,cT,hr]
        refine zaa hC ?_
        cases hc:zaj n ⟨b,base,l.take i,0⟩ R.ty with
        | false=>simp -dsimp [g1,g2,g3,g4,g14,g15,g16,k4,hlt,hile,hAr,eAr,cAr,cT,hr,hcv hc]
        | true =>
          have hnx:=hfi hc
          simp -dsimp [g1,g2,g3,g4,g14,g15,g16,k4,hlt,hile,hAr,eAr,cAr,cT,hr,w1,eArs]
          simpa using hnx
      | true =>
        obtain ⟨r1,r2,r3,r4,so,hso,r5⟩:=h2 hr
        have hAF:argF n b base l cons i R=((allI (fun j d=>zaj n ⟨b,base,l.take i,(j:Int)⟩ d) 0 R.dom) && indF n ⟨b,base,l.take i,(R.dom.length:Int)⟩ so R.idx cons):=by rw [argF,hr,if_pos rfl,hso]
        rw [hAF] at hcv hfi
        simp -dsimp [g1,g2,g3,g4,g14,g15,g16,k4,hlt,hile,hAr,eAr,cAr,cT,hr]
        simp -dsimp [eTs]
        refine zah R.dom.length (fun j st=>st.s 1 = .d (.int .i64 base)∧st.s 2 = .d (eArs l)∧st.s 3 = .d (.int .i64 cons)∧st.s 4 = .ptr 4 1 0∧st.s 10 = .ptr 10 ((hp 10).ver+1) 0∧st.s 11 = .ptr 11 ((hp 11).ver+1) 0∧st.s 14 = .d (eArs l)∧st.s 15 = .d (.int .i64 l.length)∧st.s 16 = .d (.int .i64 i) ∧
          st.s 36 = .d (eTs R.dom)∧st.s 37 = .d (.int .i64 R.dom.length)∧st.s 38 = .d (.int .i64 j) ∧
          st.h 4=⟨1,.box [.d (eSos b.sorts),.d (eCos b.cons),.d (.int .i64 b.elim)] false⟩ ∧
          st.h 10=⟨(hp 10).ver+1,.box [.d (.bool true),.d (.int .i64 R.ty.kind),.d (.int .i64 R.ty.num),.d (.sl 3 (R.ty.kids.map eT)),.d (eTs R.dom),.d (.int .i64 R.sort),.d (eTs R.idx)] false⟩ ∧
          st.h 11=⟨(hp 11).ver+1,.box [.d (eSos b.sorts),.d (eCos b.cons),.d (.int .i64 b.elim),.d (.int .i64 base),.d (eArs (l.take i)),.d (.int .i64 0)] false⟩ ∧
          ∀ (q:Nat) (hq:q<R.dom.length),q<j→zaj n ⟨b,base,l.take i,(q:Int)⟩ R.dom[q]=true) ?_ ?_
        · simp -dsimp [g1,g2,g3,g4,g14,g15,g16,k4,hlt,hile,hAr,eAr,cAr,cT,hr,eArs,eTs]
        · clear g1 g2 g3 g4 g14 g15 g16 k4
          rintro j ⟨s,hq⟩ hj ⟨g1,g2,g3,g4,g10,g11,g14,g15,g16,g36,g37,g38,k4,k10,k11,gd⟩
          dsimp only at g1 g2 g3 g4 g10 g11 g14 g15 g16 g36 g37 g38 k4 k10 k11
          simp only [eTs,eArs] at g2 g14 g36 k11
          rcases ybm j R.dom.length with hlt2 | hge2
          · have w2:IntKind.i64.wrap ((j:Int)+1)=(j:Int)+1:=zab (by omega) (by omega)
            obtain ⟨d1,d2⟩:=r2 _ (yaf hlt2)
            have hP:=zJ6 ⟨b,base,l.take i,0⟩ (j:Int) (by simp) (by simp) (by omega) (by omega)
            have hC:=zpf n hN ⟨b,base,l.take i,(j:Int)⟩ R.dom[j] (by simp) (by simp; omega) (by simp; omega) hsl d1 d2
            generalize hX:R.dom[j]=X at *
            simp only [cPl,cBl,cT,eArs,Pl.fwd,Int.zero_add,ycv,ycu,ycV] at hP hC
            simp -dsimp [g1,g2,g3,g4,g10,g11,g14,g15,g16,g36,g37,g38,k4,k10,k11,hlt2,hX,cT]
            refine zaa hP ?_
            simp -dsimp [g1,g2,g3,g4,g10,g11,g14,g15,g16,g36,g37,g38,k4,k10,k11,hlt2,hX,cT]
            refine zaa hC ?_
            cases hc:zaj n ⟨b,base,l.take i,(j:Int)⟩ X with
            | false =>
              have hz:allI (fun j d=>zaj n ⟨b,base,l.take i,(j:Int)⟩ d) 0 R.dom=false:=by
                rw [ycW]
                intro h
                have:=(zaq _ _ _).1 h j hlt2
                rw [ybj,hX,hc] at this
                cases this
              simp -dsimp [g1,g2,g3,g4,g10,g11,g14,g15,g16,g36,g37,g38,k4,k10,k11,hcv (by rw [hz]; rfl)]
            | true =>
              simp -dsimp [g1,g2,g3,g4,g10,g11,g14,g15,g16,g36,g37,g38,k4,k10,k11,hlt2,hX,cT,w2,eTs,eArs]
              intro q hq' hqj
              rcases ybm q j with h' | h'
              · exact gd q hq' h'
              · have:q=j:=by omega
                subst this
                rw [hX]; exact hc
          · have ej:j=R.dom.length:=by omega
            subst ej
            have hz:allI (fun j d=>zaj n ⟨b,base,l.take i,(j:Int)⟩ d) 0 R.dom=true:=(zaq _ _ _).2 fun q hq'=>by rw [ybj]; exact gd q hq' hq'
            rw [hz,Bool.true_and] at hcv hfi
            have hP:=zJ6 ⟨b,base,l.take i,0⟩ (R.dom.length:Int) (by simp) (by simp) (by omega) (by omega)
            have hI:=zB4 n hN ⟨b,base,l.take i,(R.dom.length:Int)⟩ R.sort so r4 hso R.idx cons r5 (by simp) (by simp; omega) (by simp; omega) hsl hcl r3
            simp only [cPl,cBl,cT,eTs,eArs,Pl.fwd,Int.zero_add,ycv,ycu,ycV] at hP hI
            simp -dsimp [g1,g2,g3,g4,g10,g11,g14,g15,g16,g36,g37,g38,k4,k10,k11,eTs]
            refine zaa hP ?_
            simp -dsimp [g1,g2,g3,g4,g10,g11,g14,g15,g16,g36,g37,g38,k4,k10,k11,eTs]
            refine zaa hI ?_
            cases hc:indF n ⟨b,base,l.take i,(R.dom.length:Int)⟩ so R.idx cons with
            | false=>simp -dsimp [g1,g2,g3,g4,g10,g11,g14,g15,g16,g36,g37,g38,k4,k10,k11,hcv hc]
            | true =>
              have hnx:=hfi hc
              simp -dsimp [g1,g2,g3,g4,g10,g11,g14,g15,g16,g36,g37,g38,k4,k10,k11,w1,eArs]
              exact ⟨hlt,hnx⟩
    · have e:i=l.length:=by omega
      subst e
      have hz:=hVt fun j hj=>g j hj hj
      simp -dsimp [g1,g2,g3,g4,g14,g15,g16,k4,hz]
end
end
section
section
attribute [local simp] zaf zag tk tn tks zcl zcu zbq zbu zbt zc5
def znf (n:Nat) (b:Bl) (base:Int) (so:So):Bool:=rowF n b base so.idx 0 && (!so.dec || zaj n ⟨b,base,so.idx,0⟩ so.dty)
def conF (n:Nat) (b:Bl) (base:Int) (c:Nat) (co:Co):Bool:=rowF n b base co.args c && match b.sorts[co.sort.toNat]? with
  | some so=>indF n ⟨b,base,co.args,0⟩ so co.idx c && (!so.dec || zaj n ⟨b,base,co.args,0⟩ co.dec)
  | none=>false
def posF (n:Nat) (b:Bl) (base:Int):Bool:=allI (fun _ s=>znf n b base s) 0 b.sorts && allI (fun c x=>conF n b base c x) 0 b.cons
def zda (n:Nat) (b:Bl) (base:Int):Int:=if zgc b=0 then if base<0∨65535<base then 1 else if posF n b base then 0 else 11 else zgc b
structure Ready (n:Nat) (b:Bl):Prop where
  s:∀ s ∈ b.sorts,s.idx.length≤1000000
  c:∀ c ∈ b.cons,c.args.length≤1000000
theorem zCm {n:Nat} (hn:9000≤n) {b:Bl} {l:List Ar} (ol:zw6 l) (fl:zjv l) (hr:rowM b l=true) :
    (∀ a ∈ l,a.rc=false→okT a.ty∧zae a.ty≤n)∧(∀ a ∈ l,a.rc=true→a.dom.length≤60∧(∀ x ∈ a.dom,okT x∧zae x≤n)∧(∀ x ∈ a.idx,okT x∧zae x≤n)∧0≤a.sort ∧ ∃ so,b.sorts[a.sort.toNat]? = some so∧a.idx.length=so.idx.length):=by
  refine ⟨fun a ha _=>⟨(ol.2 a ha).ty,by have:=(fl.2 a ha).ty; omega⟩,fun a ha hrc=>?_⟩
  have oa:=ol.2 a ha
  have fa:=fl.2 a ha
  refine ⟨fa.domL,fun x hx=>⟨oa.dom.2 x hx,?_⟩,fun x hx=>⟨oa.idx.2 x hx,?_⟩,?_⟩
  · have:=yac (zdn (ybb.2 ⟨x,hx,rfl⟩)) fa.dom; omega
  · have:=yac (zdn (ybb.2 ⟨x,hx,rfl⟩)) fa.idx; omega
  · rw [rowM] at hr
    split at hr
    · cases hr
    obtain ⟨i,hi,rfl⟩:=ycM.1 ha
    have hA:=(zaq _ _ _).1 hr i hi
    rw [ybj,argM,if_pos hrc] at hA
    split at hA
    case isFalse=>cases hA
    split at hA
    · cases hA
    split at hA
    · cases hA
    split at hA
    · cases hA
    rename_i so hso
    split at hA
    case isFalse=>cases hA
    rename_i hlen
    exact ⟨by omega,so,hso,by omega⟩
theorem zqy {b:Bl} {c:Co} (h:conM b c=true):rowM b c.args=true∧0≤c.sort ∧ ∃ so,b.sorts[c.sort.toNat]? = some so∧c.idx.length=so.idx.length:=by
  rw [conM] at h
  split at h
  · cases h
  split at h
  case isFalse=>cases h
  rename_i h1
  split at h
  · cases h
  rename_i so hso
  split at h
  case isFalse=>cases h
  exact ⟨h1,by omega,so,hso,by omega⟩
theorem zyl {b:Bl} {k:Nat} {s:So} (h:zh2 b k s=true):rowM b s.idx=true:=by
  rw [zh2] at h
  split at h
  · assumption
  · cases h
theorem zI8 (n:Nat) (hn:9000≤n) (hN:n≤1000000) (b:Bl) (ob:okBl b) (fb:FineBl b) (base:Int):Pure Tryz.prog zld [eBl b,.int .i64 base] [.int .i64 (zda n b base)]:=by
  refine zCu rfl fun hs=>?_
  have hC:=zMr b
  have hbs:=fb.s
  have hbc:=fb.c
  have hsl:∀ s ∈ b.sorts,s.idx.length≤1000000:=fun s hs=>by have:=(fb.sorts s hs).idx.1; omega
  have hcl:∀ c ∈ b.cons,c.args.length≤1000000:=fun c hc=>by have:=(fb.cons c hc).args.1; omega
  simp only [eBl,cBl] at hC
  generalize hE:zda n b base=E
  simp -dsimp [zn8,eBl,cBl]
  refine zaa hC ?_
  by_cases hz:zgc b=0
  case neg =>
    rw [zda,if_neg hz] at hE
    simp -dsimp [hz,← hE]
  rw [zda,if_pos hz] at hE
  obtain ⟨z1,z4,z8,zl,zs,zc⟩:=(zbo b).1 hz
  simp -dsimp [hz]
  by_cases b1:base<0
  · rw [if_pos (.inl b1)] at hE
    simp -dsimp [b1,← hE]
  by_cases b2:65535<base
  · rw [if_pos (.inr b2)] at hE
    simp -dsimp [b1,b2,← hE]
  rw [if_neg (by omega)] at hE
  simp -dsimp [b1,b2,eSos]
  have hbad:posF n b base=false→E=11:=fun h=>by rw [← hE,h]; rfl
  have hgood:posF n b base=true→E=0:=fun h=>by rw [← hE,h]; rfl
  have hbs1:∀ (i:Nat) (hi:i<b.sorts.length),znf n b base b.sorts[i]=false→E=11:=fun i hi h=>hbad (by
    rw [posF,ycX]
    refine .inl (ycW.2 fun h2=>?_)
    have:=(zaq _ _ _).1 h2 i hi
    rw [h] at this
    cases this)
  have hbc1:∀ (i:Nat) (hi:i<b.cons.length),conF n b base i b.cons[i]=false→E=11:=fun i hi h=>hbad (by
    rw [posF,ycX]
    refine .inr (ycW.2 fun h2=>?_)
    have:=(zaq _ _ _).1 h2 i hi
    rw [ybj,h] at this
    cases this)
  refine zah b.sorts.length (fun i st=>st.s 1 = .d (.int .i64 base)∧st.s 2 = .ptr 2 1 0∧st.s 26 = .d (eSos b.sorts)∧st.s 27 = .d (.int .i64 b.sorts.length)∧st.s 28 = .d (.int .i64 i) ∧
    st.h 2=⟨1,.box [.d (eSos b.sorts),.d (eCos b.cons),.d (.int .i64 b.elim)] false⟩ ∧ ∀ (j:Nat) (hj:j<b.sorts.length),j<i→znf n b base b.sorts[j]=true) ?_ ?_
  · simp -dsimp [eSos]
  · rintro i ⟨s,hp⟩ hi ⟨g1,g2,g26,g27,g28,k2,g⟩
    dsimp only at g1 g2 g26 g27 g28 k2
    simp only [eSos] at g26
    rcases ybm i b.sorts.length with hlt | hge
    · have w1:IntKind.i64.wrap ((i:Int)+1)=(i:Int)+1:=zab (by omega) (by omega)
      have hcv:=hbs1 i hlt
      have hmem:=yaf hlt
      have os:=ob.sorts _ hmem
      have fs:=fb.sorts _ hmem
      obtain ⟨q1,q2⟩:=zCm (b:=b) hn os.idx fs.idx (zyl (zs i hlt))
      have hfi:znf n b base b.sorts[i]=true → ∀ (j:Nat) (hj:j<b.sorts.length),j<i+1→znf n b base b.sorts[j]=true:=fun h j hj hji=>by
        rcases ybm j i with h' | h'
        · exact g j hj h'
        · have:j=i:=by omega
          subst this
          exact h
      generalize hS:b.sorts[i]=S at *
      have hR:=zNy n hN b base S.idx 0 (by have:=fs.idx.1; omega) hsl hcl q1 q2
      have hD:=zpf n hN ⟨b,base,S.idx,0⟩ S.dty (by simp) (by have:=fs.dty; simp; omega) (by have:=fs.idx.1; simp; omega) hsl os.dty (by have:=fs.dty; omega)
      simp only [cPl,cBl,eBl,cT,eArs,ycv,ycu] at hR hD
      simp -dsimp [g1,g2,g26,g27,g28,k2,hlt,hS,eSo,cSo,cT,eArs]
      refine zaa hR ?_
      cases hr:rowF n b base S.idx 0 with
      | false =>
        have hw:=hcv (by rw [znf,hr]; rfl)
        simp -dsimp [g1,g2,g26,g27,g28,k2,hlt,hS,eSo,cSo,cT,eArs,hw]
      | true =>
        cases hd:S.dec with
        | false =>
          have hnx:=hfi (by rw [znf,hr,hd]; rfl)
          simp -dsimp [g1,g2,g26,g27,g28,k2,hlt,hS,eSo,cSo,cT,eArs,hd,w1,eSos]
          exact hnx
        | true =>
          simp -dsimp [g1,g2,g26,g27,g28,k2,hlt,hS,eSo,cSo,cT,eArs,hd]
          refine zaa hD ?_
          cases hc:zaj n ⟨b,base,S.idx,0⟩ S.dty with
          | false =>
            have hw:=hcv (by rw [znf,hr,hd,hc]; rfl)
            simp -dsimp [g1,g2,g26,g27,g28,k2,hlt,hS,eSo,cSo,cT,eArs,hd,hw]
          | true =>
            have hnx:=hfi (by rw [znf,hr,hd,hc]; rfl)
            simp -dsimp [g1,g2,g26,g27,g28,k2,hlt,hS,eSo,cSo,cT,eArs,hd,w1,eSos]
            exact hnx
    · have e:i=b.sorts.length:=by omega
      subst e
      have hzs:allI (fun _ s=>znf n b base s) 0 b.sorts=true:=(zaq _ _ _).2 fun j hj=>g j hj hj
      simp -dsimp [g1,g2,g26,g27,g28,k2,eCos]
      refine zah b.cons.length (fun i st=>st.s 1 = .d (.int .i64 base)∧st.s 2 = .ptr 2 1 0∧st.s 56 = .d (eCos b.cons)∧st.s 57 = .d (.int .i64 b.cons.length)∧st.s 58 = .d (.int .i64 i) ∧
        st.h 2=⟨1,.box [.d (eSos b.sorts),.d (eCos b.cons),.d (.int .i64 b.elim)] false⟩ ∧ ∀ (j:Nat) (hj:j<b.cons.length),j<i→conF n b base j b.cons[j]=true) ?_ ?_
      · simp -dsimp [eSos,eCos,g1,g2,k2]
      · clear g1 g2 g26 g27 g28 k2
        rintro i ⟨s,hp⟩ hi ⟨g1,g2,g56,g57,g58,k2,g⟩
        dsimp only at g1 g2 g56 g57 g58 k2
        simp only [eCos] at g56
        rcases ybm i b.cons.length with hlt | hge
        · have w1:IntKind.i64.wrap ((i:Int)+1)=(i:Int)+1:=zab (by omega) (by omega)
          have hcv:=hbc1 i hlt
          have hmem:=yaf hlt
          have os:=ob.cons _ hmem
          have fs:=fb.cons _ hmem
          obtain ⟨hrow,c0,so,hso,hil⟩:=zqy (zc _ hmem)
          obtain ⟨q1,q2⟩:=zCm (b:=b) hn os.args fs.args hrow
          have hsolt:=(yae.1 hso).1
          have hso':=(yae.1 hso).2
          have hfi:conF n b base i b.cons[i]=true → ∀ (j:Nat) (hj:j<b.cons.length),j<i+1→conF n b base j b.cons[j]=true:=fun h j hj hji=>by
            rcases ybm j i with h' | h'
            · exact g j hj h'
            · have:j=i:=by omega
              subst this
              exact h
          generalize hS:b.cons[i]=S at *
          have hR:=zNy n hN b base S.args (i:Int) (by have:=fs.args.1; omega) hsl hcl q1 q2
          have hI:=zB4 n hN ⟨b,base,S.args,0⟩ S.sort so c0 hso S.idx (i:Int) hil (by simp) (by simp) (by have:=fs.args.1; simp; omega) hsl hcl (fun x hx=>⟨os.idx.2 x hx,by have:=yac (zdn (ybb.2 ⟨x,hx,rfl⟩)) fs.idx; omega⟩)
          have hD:=zpf n hN ⟨b,base,S.args,0⟩ S.dec (by simp) (by have:=fs.dec; simp; omega) (by have:=fs.args.1; simp; omega) hsl os.dec (by have:=fs.dec; omega)
          simp only [cPl,cBl,eBl,cT,eTs,eArs,ycv,ycu] at hR hI hD
          have hF:conF n b base i S=(rowF n b base S.args i && (indF n ⟨b,base,S.args,0⟩ so S.idx i && (!so.dec || zaj n ⟨b,base,S.args,0⟩ S.dec))):=by rw [conF,hso]
          simp -dsimp [g1,g2,g56,g57,g58,k2,hlt,hS,eCo,cCo,cT,eArs]
          refine zaa hR ?_
          cases hr:rowF n b base S.args i with
          | false =>
            have hw:=hcv (by rw [hF,hr]; rfl)
            simp -dsimp [g1,g2,g56,g57,g58,k2,hlt,hS,eCo,cCo,cT,eArs,hw]
          | true =>
            simp -dsimp [g1,g2,g56,g57,g58,k2,hlt,hS,eCo,cCo,cT,eArs,eTs]
            refine zaa hI ?_
            cases hii:indF n ⟨b,base,S.args,0⟩ so S.idx i with
            | false =>
              have hw:=hcv (by rw [hF,hr,hii]; rfl)
              simp -dsimp [g1,g2,g56,g57,g58,k2,hlt,hS,eCo,cCo,cT,eArs,hw]
            | true =>
              cases hd:so.dec with
              | false =>
                have hnx:=hfi (by rw [hF,hr,hii,hd]; rfl)
                simp -dsimp [g1,g2,g56,g57,g58,k2,hlt,hS,eCo,cCo,cT,eArs,eSos,eTs,c0,hso,hsolt,hso',eSo,cSo,hd,w1]
                exact ⟨rfl,hnx⟩
              | true =>
                simp -dsimp [g1,g2,g56,g57,g58,k2,hlt,hS,eCo,cCo,cT,eArs,eSos,eTs,c0,hso,hsolt,hso',eSo,cSo,hd]
                refine zaa hD ?_
                cases hc:zaj n ⟨b,base,S.args,0⟩ S.dec with
                | false =>
                  have hw:=hcv (by rw [hF,hr,hii,hd,hc]; rfl)
                  simp -dsimp [g1,g2,g56,g57,g58,k2,hlt,hS,eCo,cCo,cT,eArs,eSos,eTs,c0,hso,hsolt,hso',eSo,cSo,hd,hw]
                | true =>
                  have hnx:=hfi (by rw [hF,hr,hii,hd,hc]; rfl)
                  simp -dsimp [g1,g2,g56,g57,g58,k2,hlt,hS,eCo,cCo,cT,eArs,eSos,eTs,c0,hso,hsolt,hso',eSo,cSo,hd,w1]
                  exact ⟨rfl,hnx⟩
        · have e:i=b.cons.length:=by omega
          subst e
          have hzc:allI (fun c x=>conF n b base c x) 0 b.cons=true:=(zaq _ _ _).2 fun j hj=>by rw [ybj]; exact g j hj hj
          have hw:=hgood (by rw [posF,hzs,hzc]; rfl)
          simp -dsimp [g1,g2,g56,g57,g58,k2,hw]
end
end
section
structure Few (b b':Bl) (base:Int) (m:Int):Prop where
  s:b'.sorts=b.sorts
  h0:∀ c,n64 c→(ofM b base c).1=0→(ofM b' base c).1=0
  h4:∀ c,n64 c→(ofM b base c).1=4→ofM b' base c=ofM b base c
  h5:∀ c,n64 c→(ofM b base c).1=5→(ofM b base c).2<m→ofM b' base c=ofM b base c
  c:∀ j:Nat,(j:Int)<m→b'.cons[j]? = b.cons[j]?
theorem zWq {b:Bl} {base n:Int} (h:(ofM b base n).1=4):∃ k:Nat,k<b.sorts.length∧zej b base k=n∧ofM b base n=(4,(k:Int)):=by
  have h0:=h
  rw [ofM] at h
  split at h
  · cases h
  rename_i hc
  cases hs:seek n (tab b base) with
  | none=>rw [hs] at h; cases h
  | some q =>
    obtain ⟨e,he,k,hk,hn,rfl⟩:=zva hs
    rw [hs] at h
    simp only [ybG] at h
    have e0:ofM b base n=(e.kind,(k:Int)):=by rw [ofM,if_neg hc,hs]; rfl
    rw [h] at e0
    simp only [tab,yaZ,ycD,or_false] at he
    rcases he with rfl | rfl | rfl | rfl
    · cases h
    · exact ⟨k,hk,hn,e0⟩
    · cases h
    · cases h
theorem zI1 {b:Bl} {base n:Int} (h:(ofM b base n).1=5):∃ k:Nat,k<b.cons.length∧zap b base k=n∧ofM b base n=(5,(k:Int)):=by
  have h0:=h
  rw [ofM] at h
  split at h
  · cases h
  rename_i hc
  cases hs:seek n (tab b base) with
  | none=>rw [hs] at h; cases h
  | some q =>
    obtain ⟨e,he,k,hk,hn,rfl⟩:=zva hs
    rw [hs] at h
    simp only [ybG] at h
    have e0:ofM b base n=(e.kind,(k:Int)):=by rw [ofM,if_neg hc,hs]; rfl
    rw [h] at e0
    simp only [tab,yaZ,ycD,or_false] at he
    rcases he with rfl | rfl | rfl | rfl
    · cases h
    · cases h
    · exact ⟨k,hk,hn,e0⟩
    · cases h
end
section
attribute [local simp] zaf zag tk tn tks zbq zbu zbt zc5
theorem zBz {b:Bl} {a:Ar} {i:Int} (h:argM b a i=true) (hr:a.rc=false):inM a.ty i=true:=by
  rw [argM,hr] at h
  simp only [yao,if_false] at h
  split at h
  · assumption
  · cases h
theorem zut {b:Bl} {a:Ar} {i:Int} (h:argM b a i=true) (hr:a.rc=true) (h0:0≤i) (h1:i≤1000):zzx a.ty=true∧0≤a.sort∧a.sort<b.sorts.length∧a.dom.length≤12 ∧
    (∃ s,b.sorts[a.sort.toNat]? = some s∧a.idx.length=s.idx.length)∧(∀ (j:Nat) (hj:j<a.dom.length),inM a.dom[j] (i+j)=true) ∧ ∀ x ∈ a.idx,inM x (i+a.dom.length)=true:=by
  rw [argM,hr] at h
  simp only [if_true] at h
  split at h
  · rename_i hn
    split at h
    · cases h
    · rename_i hd
      split at h
      · cases h
      · rename_i hs
        split at h
        · cases h
        · rename_i s hs2
          split at h
          · rename_i hl
            rw [ybJ] at h
            have hlt:=(yae.1 hs2).1
            refine ⟨hn,by omega,by omega,by omega,⟨s,hs2,by omega⟩,fun j hj=>?_,fun x hx=>?_⟩
            · have:=(zaq _ _ 0).1 h.1 j hj
              rw [ybj,zb3 (by omega) (by omega)] at this
              exact this
            · have h2:=h.2
              rw [zb3 (by omega) (by omega),allM,ybK,ycf] at h2
              have:=h2 x hx
              simpa using this
          · cases h
  · cases h
theorem zer {t:T} {v:Int} (h:inM t v=true) (h0:0≤v) (h1:v≤60000) (hn:zae t≤1048576):wiT t v 65536=true∧zac t=true∧za0 t=0:=by
  obtain ⟨h2,h3⟩:=(zNf h0 (by omega) (by omega)).1 h
  exact ⟨h3,zhb h2,h2⟩
theorem tC_wi {n v c:Int} (h:n<c):wiT (tC n) v c=true:=by simp [tC,wiT,h]
theorem zJl {l:List T} {x:T} (h:x ∈ l):zae x≤(l.map zae).sum:=zdn (ybb.2 ⟨x,h,rfl⟩)
theorem zAb {b:Bl} {base:Int} {a:Ar} (fa:FineAr a):zae (zcj b base a)≤20000:=by
  have h1:=fa.ty
  have h2:=fa.dom
  have h3:=fa.domL
  have h4:=fa.idx
  have h5:=fa.idxL
  rw [zcj]
  split
  · rw [zLt,zNv,fmT,tC,zcr]
    omega
  · omega
theorem zC8 {b:Bl} {l:List Ar} (h:rowM b l=true):l.length≤12 ∧ ∀ (j:Nat) (hj:j<l.length),argM b l[j] j=true:=by
  rw [rowM] at h
  split at h
  · cases h
  · refine ⟨by omega,fun j hj=>?_⟩
    have:=(zaq _ _ 0).1 h j hj
    rwa [ybj] at this
end
section
section
attribute [local simp] zaf zag tk tn tks zcl zcu zbq zbu zbt zc5
structure Vw where
  b:Bl
  base:Int
  args:List Ar
  pos:List Int
  fin:Int
def cVw (v:Vw):List D:=cBl v.b ++ [.int .i64 v.base,eArs v.args,.sl 1 (v.pos.map (.int .i64)),.int .i64 v.fin]
def posL:Int→List Ar→List Int
  | _,[]=>[]
  | e,a :: l=>e :: posL (if a.rc then e+2 else e+1) l
def finL:Int→List Ar→Int
  | e,[]=>e
  | e,a :: l=>finL (if a.rc then e+2 else e+1) l
theorem zEk:∀ (l:List Ar) (e:Int) (i:Nat) (h:i<l.length),finL e (l.take (i+1))=if l[i].rc then finL e (l.take i)+2 else finL e (l.take i)+1
  | a :: l,e,0,h=>by simp [finL]
  | a :: l,e,i+1,h=>by
    simp only [ycC,finL,ycB]
    exact zEk l _ i (by simpa using h)
theorem zDv:∀ (l:List Ar) (e:Int) (i:Nat) (_:i<l.length),posL e (l.take (i+1))=posL e (l.take i) ++ [finL e (l.take i)]
  | a :: l,e,0,h=>by simp [posL,finL]
  | a :: l,e,i+1,h=>by
    simp only [ycC,posL,finL,ycv]
    rw [zDv l _ i (by simpa using h)]
theorem zjq:∀ (l:List Ar) (e:Int),(posL e l).length=l.length
  | [],e=>rfl
  | a :: l,e=>by rw [posL,yaS,zjq l,yaS]
theorem zxl:∀ (l:List Ar) (e:Int),e≤finL e l∧finL e l≤e+2*l.length
  | [],e=>by simp [finL]
  | a :: l,e=>by
    have h:=zxl l (if a.rc then e+2 else e+1)
    rw [finL]
    simp only [yaS]
    split <;> rename_i hr <;> simp only [hr,if_true,if_false,yao] at h <;> omega
theorem zSr:∀ (l:List Ar) (e:Int) (i:Nat) (h:i<(posL e l).length),(posL e l)[i]=finL e (l.take i)
  | a :: l,e,0,h=>by simp [posL,finL]
  | a :: l,e,i+1,h=>by
    simp only [posL,ycB,ycC,finL]
    exact zSr l _ i _
theorem zOq (b:Bl) (base from_:Int) (l:List Ar) (hl:l.length≤20) (h0:0≤from_) (h1:from_≤1000):Pure Tryz.prog zoa [eBl b,.int .i64 base,eArs l,.int .i64 from_] [.rp (cVw ⟨b,base,l,posL from_ l,finL from_ l⟩)]:=by
  refine zIp rfl fun hs=>?_
  simp -dsimp [zs0,eBl,cBl,eArs,cVw]
  refine zah l.length (fun i st=>st.s 18 = .d (eArs l)∧st.s 19 = .d (.int .i64 l.length)∧st.s 20 = .d (.int .i64 i)∧st.s 9 = .ptr 17 1 0 ∧ ∃ c,st.h 17=⟨1,.box [.d (eSos b.sorts),.d (eCos b.cons),.d (.int .i64 b.elim),.d (.int .i64 base),.d (eArs l),c,.d (.int .i64 (finL from_ (l.take i)))] false⟩ ∧
    ((i=0∧c = .fsl 1 [])∨(0<i ∧ ∃ v,c = .rsl 34 v∧st.h 34=⟨v,.row 1 ((posL from_ (l.take i)).map (.int .i64)) false⟩))) ?_ ?_
  · simp -dsimp [eArs,finL]
  · rintro i ⟨s,hp⟩ hi ⟨g18,g19,g20,g9,c,k17,k34⟩
    dsimp only at g18 g19 g20 g9 k17 k34
    simp only [eArs] at g18 k17
    rcases ybm i l.length with hlt | hge
    · have w1:IntKind.i64.wrap ((i:Int)+1)=(i:Int)+1:=zab (by omega) (by omega)
      have hfl:=zxl (l.take i) from_
      rw [yaE] at hfl
      have hfs:=zEk l from_ i hlt
      have hps:=zDv l from_ i hlt
      have hpl:=zjq (l.take i) from_
      rw [yaE] at hpl
      generalize finL from_ (l.take (i+1))=F' at *
      generalize finL from_ (l.take i)=F at *
      generalize posL from_ (l.take (i+1))=P' at *
      generalize posL from_ (l.take i)=P at *
      subst hps
      generalize hR:l[i]=R at *
      have w2:IntKind.i64.wrap (F+1)=F+1:=zab (by omega) (by omega)
      have w3:IntKind.i64.wrap (F+1+1)=F+2:=by rw [zab (by omega) (by omega)]; omega
      have hr:(P.length+1)*8≤zad:=by simp only [zad]; omega
      have hP0:i=0→P=[]:=fun h=>ycL.1 (by omega)
      rcases k34 with ⟨rfl,rfl⟩ | ⟨hi0,v,rfl,k34⟩
      · have hPn:=hP0 rfl
        subst hPn
        have w1':IntKind.i64.wrap 1=1:=by rfl
        cases hrc:R.rc with
        | true =>
          rw [hrc,if_pos rfl] at hfs
          simp -dsimp [g18,g19,g20,g9,k17,hlt,hR,hrc,eAr,cAr,cT,w1',w2,w3,(by decide:8≤zad),eArs,hfs]
        | false =>
          rw [hrc,if_neg (by simp)] at hfs
          simp -dsimp [g18,g19,g20,g9,k17,hlt,hR,hrc,eAr,cAr,cT,w1',w2,w3,(by decide:8≤zad),eArs,hfs]
      · cases hrc:R.rc with
        | true =>
          rw [hrc,if_pos rfl] at hfs
          simp -dsimp [g18,g19,g20,g9,k17,k34,hlt,hR,hrc,eAr,cAr,cT,w1,w2,w3,hr,eArs,hfs]
        | false =>
          rw [hrc,if_neg (by simp)] at hfs
          simp -dsimp [g18,g19,g20,g9,k17,k34,hlt,hR,hrc,eAr,cAr,cT,w1,w2,w3,hr,eArs,hfs]
    · have e:i=l.length:=by omega
      subst e
      rw [yce] at k17 k34
      rcases k34 with ⟨hz,rfl⟩ | ⟨hi0,v,rfl,k34⟩
      · have hl0:l=[]:=ycL.1 hz
        subst hl0
        simp -dsimp [g18,g19,g20,g9,k17,posL]
      · simp -dsimp [g18,g19,g20,g9,k17,k34]
def lv (l vars:Int):T:=.mk 1 (vars - 1 - l) []
theorem znj (l vars:Int) (h0:-1000000≤l) (h1:l≤1000000) (h2:-1000000≤vars) (h3:vars≤1000000):Pure Tryz.prog ze3 [.int .i64 l,.int .i64 vars] [.agg (cT (lv l vars))]:=by
  refine zGu rfl fun hs=>?_
  have w1:IntKind.i64.wrap (vars - 1)=vars - 1:=zab (by omega) (by omega)
  have w2:IntKind.i64.wrap (vars - 1 - l)=vars - 1 - l:=zab (by omega) (by omega)
  have hV:=v_ok (vars - 1 - l)
  simp only [cT,tk,tn,tks,ycE] at hV
  simp -dsimp [zp0,w1,w2]
  refine zaa hV ?_
  simp -dsimp [lv,cT]
def putF (pos:List Int) (first:Nat) (more vars n b:Int):T :=
  if n<more+b∨(first:Int)≤n - (more+b) then .mk 1 n [] else .mk 1 (vars - 1 - (pos[first - 1 - (n - (more+b)).toNat]?).getD 0+(more+b)) []
def putT (v:Vw) (t:T) (first:Nat) (more vars:Int):T:=mapT (putF v.pos first more vars) t 0
structure Pos (v:Vw):Prop where
  len:v.pos.length≤1000
  at_:∀ p ∈ v.pos,0≤p∧p≤10000
theorem zWk (v:Vw) (hp:Pos v) (first:Nat) (hf:first≤v.pos.length) (more vars:Int) (h0:0≤more) (h1:more≤10000) (h2:0≤vars) (h3:vars≤10000) (n b:Int) (hn0:0≤n) (hn1:n≤65535) (hb0:0≤b) (hb1:b≤1099511627776) :
    Pure Tryz.prog zgs [.int .i64 n,.int .i64 b,.rp [.int .i64 more],.rp [.int .i64 first],.rp [.rp (cVw v)],.rp [.int .i64 vars]] [.agg (cT (putF v.pos first more vars n b))]:=by
  refine zwa rfl fun hs=>?_
  have hpl:=hp.len
  have w1:IntKind.i64.wrap (more+b)=more+b:=zab (by omega) (by omega)
  have w2:IntKind.i64.wrap (n - (more+b))=n - (more+b):=zab (by omega) (by omega)
  have hV1:=v_ok n
  simp only [cT,tk,tn,tks,ycE] at hV1
  simp -dsimp [zj4,w1]
  by_cases c1:n<more+b
  · have e:putF v.pos first more vars n b = .mk 1 n []:=by rw [putF,if_pos (.inl c1)]
    rw [e]
    simp -dsimp [c1]
    refine zaa hV1 ?_
    simp -dsimp [cT]
  by_cases c2:(first:Int)≤n - (more+b)
  · have e:putF v.pos first more vars n b = .mk 1 n []:=by rw [putF,if_pos (.inr c2)]
    rw [e]
    simp -dsimp [c1,c2,w2]
    refine zaa hV1 ?_
    simp -dsimp [cT]
  obtain ⟨j,hj⟩:∃ j:Nat,(first:Int) - 1 - (n - (more+b))=j:=⟨((first:Int) - 1 - (n - (more+b))).toNat,by omega⟩
  have hjl:j<v.pos.length:=by omega
  have hje:first - 1 - (n - (more+b)).toNat=j:=by omega
  have hge:v.pos[j]? = some v.pos[j]:=yar hjl
  have e:putF v.pos first more vars n b = .mk 1 (vars - 1 - v.pos[j]+(more+b)) []:=by rw [putF,if_neg (by omega),hje,hge]; rfl
  have hpj:=hp.at_ _ (yaf hjl)
  generalize hP:v.pos[j]=p at *
  rw [e]
  have w3:IntKind.i64.wrap ((first:Int) - 1)=(first:Int) - 1:=zab (by omega) (by omega)
  have w4:IntKind.i64.wrap ((first:Int) - 1 - (n - (more+b)))=(j:Int):=by rw [zab (by omega) (by omega),hj]
  have w5:IntKind.i64.wrap (vars - 1)=vars - 1:=zab (by omega) (by omega)
  have w6:IntKind.i64.wrap (vars - 1 - p)=vars - 1 - p:=zab (by omega) (by omega)
  have w7:IntKind.i64.wrap (vars - 1 - p+(more+b))=vars - 1 - p+(more+b):=zab (by omega) (by omega)
  have hV2:=v_ok (vars - 1 - p+(more+b))
  simp only [cT,tk,tn,tks,ycE] at hV2
  simp -dsimp [c1,c2,w2,w3,w4,w5,w6,w7,cVw,cBl,hjl,hge,hP]
  refine zaa hV2 ?_
  simp -dsimp [cT]
theorem zOk (v:Vw) (hp:Pos v) (t:T) (ft:VokT t) (hn:zae t≤1000000) (first:Nat) (hf:first≤v.pos.length) (more vars:Int) (h0:0≤more) (h1:more≤10000) (h2:0≤vars) (h3:vars≤10000) :
    Pure Tryz.prog zbs [.rp (cVw v),.agg (cT t),.int .i64 first,.int .i64 more,.int .i64 vars] [.agg (cT (putT v t first more vars))]:=by
  refine zzl rfl fun hs=>?_
  have hM:=zN3 (putF v.pos first more vars) zgs [.rp [.int .i64 more],.rp [.int .i64 first],.rp [.rp (cVw v)],.rp [.int .i64 vars]] (fun n b hn0 hn1 hb0 hb1=>zWk v hp first hf more vars h0 h1 h2 h3 n b hn0 hn1 hb0 hb1) t 0 ft (by omega) (by omega)
  simp only [cVw,cBl,cT,ycv,ycu] at hM
  simp -dsimp [zma,cT,cVw,cBl]
  refine zaa hM ?_
  simp -dsimp [cT,putT]
theorem zDw (v:Vw) (hp:Pos v) (t:T) (ft:zac t=true) (hn:zae t≤1000000) (first:Nat) (hf:first≤v.pos.length) (more vars:Int) (h0:0≤more) (h1:more≤10000) (h2:0≤vars) (h3:vars≤10000) :
    Pure Tryz.prog zbs [.rp (cVw v),.agg (cT t),.int .i64 first,.int .i64 more,.int .i64 vars] [.agg (cT (putT v t first more vars))]:=zOk v hp t (zsj t ft) hn first hf more vars h0 h1 h2 h3
end
end
section
section
attribute [local simp] zaf zag tk tn tks zcl zcu zbq zbu zbt zc5
theorem zWi {f:Int→Int→T} (hf:∀ n b:Int,0≤n→n≤65535→0≤b→b≤1099511627776→okT (f n b)) (t:T):∀ b:Int,VokT t→okT t→0≤b→b+zae t≤1099511627776→okT (mapT f t b):=by
  refine T.ind (p:=fun t=>∀ b:Int,VokT t→okT t→0≤b→b+zae t≤1099511627776→okT (mapT f t b)) ?_ t
  intro k n ks ih b fm ho h0 hb
  obtain ⟨hvn,_,hsk⟩:=fm.out
  rw [mapT]
  split
  · rename_i h1
    have hn:=(hvn h1).1
    exact hf n b hn.1 hn.2 h0 (by omega)
  · cases ho with
    | mk _ _ _ hk hn hl h =>
      refine .mk k n _ hk hn (by rw [zgl]; exact hl) fun x hx=>?_
      obtain ⟨j,hj,rfl⟩:=ycM.1 hx
      rw [zgl] at hj
      rw [zlg f k b ks 0 j hj]
      have hkn:=zcc (k:=k) (n:=n) (yaf hj:ks[j] ∈ ks)
      have hbl:=zco k (0+j:Nat)
      exact ih _ (yaf hj) _ (hsk _ (yaf hj)) (h _ (yaf hj)) (by omega) (by omega)
theorem zDs {v:Vw} (hp:Pos v) {t:T} (ft:VokT t) (ot:okT t) (hn:zae t≤1000000) (first:Nat) (more vars:Int) (h0:0≤more) (h1:more≤10000) (h2:0≤vars) (h3:vars≤10000):okT (putT v t first more vars):=by
  refine zWi (fun n b a1 a2 a3 a4=>?_) t 0 ft ot (by omega) (by omega)
  rw [putF]
  split
  · exact .mk _ _ _ (by simp only [n64]; omega) (by simp only [n64]; omega) (by simp) (by simp)
  · have hpj:0≤(v.pos[first - 1 - (n - (more+b)).toNat]?).getD 0∧(v.pos[first - 1 - (n - (more+b)).toNat]?).getD 0≤10000:=by
      cases hg:v.pos[first - 1 - (n - (more+b)).toNat]? with
      | none=>simp
      | some p=>exact hp.at_ _ (yas hg)
    generalize (v.pos[first - 1 - (n - (more+b)).toNat]?).getD 0=p at hpj
    exact .mk _ _ _ (by simp only [n64]; omega) (by simp only [n64]; omega) (by simp) (by simp)
theorem znb {v:Vw} (hp:Pos v) {t:T} (ft:zac t=true) (ot:okT t) (hn:zae t≤1000000) (first:Nat) (more vars:Int) (h0:0≤more) (h1:more≤10000) (h2:0≤vars) (h3:vars≤10000):okT (putT v t first more vars) :=
  zDs hp (zsj t ft) ot hn first more vars h0 h1 h2 h3
theorem zVy (v:Vw) (hp:Pos v) (l:List T) (hl:l.length≤1000000) (hf:∀ x ∈ l,zac x=true∧zae x≤1000000) (first:Nat) (hfi:first≤v.pos.length) (more vars:Int) (h0:0≤more) (h1:more≤10000) (h2:0≤vars) (h3:vars≤10000) :
    Pure Tryz.prog zk4 [.rp (cVw v),eTs l,.int .i64 first,.int .i64 more,.int .i64 vars] [eTs (l.map fun x=>putT v x first more vars)]:=by
  refine zx0 rfl fun hs=>?_
  simp -dsimp [zk2,eTs]
  refine zah l.length (fun i st=>(st.s 0 = .d (.rp (cVw v))∧st.s 2 = .d (.int .i64 first)∧st.s 3 = .d (.int .i64 more)∧st.s 4 = .d (.int .i64 vars))∧(st.s 10 = .rsl 10 1∧st.h 10=⟨1,.row 3 [] false⟩)∧(st.s 14 = .d (eTs l)∧st.s 15 = .d (.int .i64 l.length))∧st.s 16 = .d (.int .i64 i) ∧
    ∃ u,st.s 11 = .rsl 11 u∧st.h 11=⟨u,.row 3 (((l.map fun x=>putT v x first more vars).take i).map eT) false⟩) ?_ ?_
  · simp -dsimp [eTs]
  · rintro i ⟨s,hp'⟩ hi ⟨⟨g0,g2,g3,g4⟩,⟨g10,k10⟩,⟨g14,g15⟩,g16,u,g11,k11⟩
    dsimp only at g0 g2 g3 g4 g10 k10 g14 g15 g16 g11 k11
    simp only [eTs] at g14
    rcases ybm i l.length with hlt | hge
    · have w1:IntKind.i64.wrap ((i:Int)+1)=(i:Int)+1:=zab (by omega) (by omega)
      obtain ⟨x1,x2⟩:=hf _ (yaf hlt)
      have hP:=zDw v hp l[i] x1 x2 first hfi more vars h0 h1 h2 h3
      have hn:((l.map fun x=>putT v x first more vars).take (i+1)).map eT=((l.map fun x=>putT v x first more vars).take i).map eT ++ [.agg (cT (putT v l[i] first more vars))]:=by
        rw [zce (yar (by simpa using hlt)),ycN]
        simp [za4]
      generalize hX:putT v l[i] first more vars=X at *
      generalize hM:(l.map fun x=>putT v x first more vars)=M at *
      have hMl:M.length=l.length:=by rw [← hM,ycn]
      have hr:(min i M.length+1)*40≤zad:=by simp only [zad]; omega
      rw [hn]
      simp only [cT] at hP
      simp -dsimp [g0,g2,g3,g4,g10,k10,g14,g15,g16,g11,k11,hlt,cT]
      refine zaa hP ?_
      simp -dsimp [g0,g2,g3,g4,g10,k10,g14,g15,g16,g11,k11,hlt,cT,hr,w1,eTs]
      try exact hlt
    · have e:i=l.length:=by omega
      subst e
      rw [ycd (by simp)] at k11
      simp -dsimp [g0,g2,g3,g4,g10,k10,g14,g15,g16,g11,k11]
theorem znr (t:T):zac t=true→zac (spH t)=true ∧ ∀ x ∈ spA t,zac x=true:=by
  refine T.ind (p:=fun t=>zac t=true→zac (spH t)=true ∧ ∀ x ∈ spA t,zac x=true) ?_ t
  intro k n ks ih hf
  by_cases hc:k=6 ∧ ∃ a b,ks=[a,b]
  · obtain ⟨rfl,a,b,rfl⟩:=hc
    have ha:=zbn hf a (by simp)
    have hb:=zbn hf b (by simp)
    obtain ⟨i1,i2⟩:=ih a (by simp) ha
    rw [(zjl n a b).1,(zjl n a b).2]
    refine ⟨i1,fun x hx=>?_⟩
    rcases yaZ.1 hx with rfl | hx
    · exact hb
    · exact i2 x hx
  · rw [(zg4 hc).1,(zg4 hc).2]
    exact ⟨hf,by simp⟩
theorem zrw {p:Pl} {t:T} (h:zbb p t=true):t.kind=1 ∧ ∃ j:Nat,zeq p t=j∧j<p.args.length:=by
  rw [zbb] at h
  cases hJ:zfu p t with
  | none=>rw [hJ] at h; cases h
  | some j =>
    have e:zeq p t=j:=by rw [zeq,hJ]
    rw [zfu] at hJ
    split at hJ
    · rename_i hh
      cases hJ
      exact ⟨hh.1,_,e,by omega⟩
    · cases hJ
def gdI (l:List Ar) (more:Int) (t:T):Int:=if zbb ⟨⟨[],[],0⟩,0,l,more⟩ t then zeq ⟨⟨[],[],0⟩,0,l,more⟩ t else -1
theorem gd_ok (l:List Ar) (more:Int) (t:T) (h0:0≤more) (h1:more≤1000000000) (hl:l.length≤1000000) (hn:n64 t.num):Pure Tryz.prog zl8 [eArs l,.int .i64 more,.agg (cT t)] [.int .i64 (gdI l more t)]:=by
  refine zz0 rfl fun hs=>?_
  have hG:=znp ⟨⟨[],[],0⟩,0,l,more⟩ t h0 h1 hl hn
  rw [gdI]
  simp only [cPl,cBl,cT,eSos,eCos,eArs,ycE,ycv,ycu] at hG
  simp -dsimp [zmd,cT,eArs]
  refine zaa hG ?_
  cases hb:zbb ⟨⟨[],[],0⟩,0,l,more⟩ t with
  | true=>simp -dsimp [hb]
  | false=>simp -dsimp [hb]
def shA (pt sh:T→T):List Ar→List T→List T
  | a :: ar,x :: xs=>pt x :: (if a.rc then sh x :: shA pt sh ar xs else shA pt sh ar xs)
  | _,_=>[]
theorem zvt (pt sh:T→T):∀ (ar:List Ar) (xs:List T) (i:Nat) (h:i<ar.length) (h':i<xs.length),shA pt sh (ar.take (i+1)) xs=shA pt sh (ar.take i) xs ++ (pt xs[i] :: if ar[i].rc then [sh xs[i]] else [])
  | a :: ar,x :: xs,0,h,h'=>by cases hr:a.rc <;> simp [shA,hr]
  | a :: ar,x :: xs,i+1,h,h'=>by
    have ih:=zvt pt sh ar xs i (by simpa using h) (by simpa using h')
    simp only [ycC,shA,ycB]
    rw [ih]
    cases a.rc <;> simp
theorem zoc (pt sh:T→T):∀ (ar:List Ar) (xs:List T),(shA pt sh ar xs).length≤2*ar.length
  | [],xs=>by simp [shA]
  | a :: ar,[]=>by simp [shA]
  | a :: ar,x :: xs=>by
    have:=zoc pt sh ar xs
    rw [shA]
    cases a.rc <;> simp <;> omega
theorem zzi {pt sh:T→T} {q:T→Prop}:∀ (ar:List Ar) (xs:List T),(∀ (i:Nat) (h:i<ar.length) (h':i<xs.length),q (pt xs[i])∧(ar[i].rc=true→q (sh xs[i]))) → ∀ y ∈ shA pt sh ar xs,q y
  | [],xs,_,y,hy=>by simp [shA] at hy
  | a :: ar,[],_,y,hy=>by simp [shA] at hy
  | a :: ar,x :: xs,h,y,hy=>by
    have h0:=h 0 (by simp) (by simp)
    simp only [ycz] at h0
    have ih:=zzi ar xs (q:=q) fun i hi hi'=>by
      have:=h (i+1) (by simpa using hi) (by simpa using hi')
      simpa only [ycB] using this
    rw [shA] at hy
    cases hr:a.rc with
    | true =>
      rw [hr] at hy
      simp only [if_true,yaZ] at hy
      rcases hy with rfl | rfl | hy
      · exact h0.1
      · exact h0.2 hr
      · exact ih y hy
    | false =>
      rw [hr] at hy
      simp only [yao,if_false,yaZ] at hy
      rcases hy with rfl | hy
      · exact h0.1
      · exact ih y hy
def plV (v:Vw) (first:Nat) (more:Int):Pl:=⟨v.b,v.base,v.args.take first,more⟩
def shT (v:Vw) (first:Nat) (more vars:Int):Nat→T→T
  | 0,_=>zT
  | n+1,t =>
    if zbb (plV v first more) (spH t) then spT (lv ((v.pos[(zeq (plV v first more) (spH t)).toNat]?).getD 0+1) (vars+more)) ((spA t).reverse.map fun x=>putT v x first more vars)
    else spT (lv (v.b.sorts.length+(ofM v.b v.base (spH t).num).2) (vars+more)) (match v.b.cons[(ofM v.b v.base (spH t).num).2.toNat]? with
      | some c=>shA (fun x=>putT v x first more vars) (shT v first more vars n) c.args (spA t).reverse
      | none=>[])
theorem zlc {l vars:Int} (h0:-1000000≤l) (h1:l≤1000000) (h2:-1000000≤vars) (h3:vars≤1000000):okT (lv l vars):=.mk _ _ _ (by simp only [n64]; omega) (by simp only [n64]; omega) (by simp) (by simp)
structure VwOk (v:Vw):Prop where
  pos:Pos v
  len:v.pos.length=v.args.length
  al:v.args.length≤20
  sl:v.b.sorts.length≤10
  cl:v.b.cons.length≤20
  ca:∀ c ∈ v.b.cons,c.args.length≤20
  si:∀ s ∈ v.b.sorts,s.idx.length≤20
theorem zxd {n:Nat} (h:n≤40):(n+1+1)*40≤zad:=by simp only [zad]; omega
theorem zjm {n:Nat} (h:n≤40) (_:True):(n+1)*40≤zad:=by simp only [zad]; omega
set_option maxHeartbeats 1000000 in
theorem zR4 (v:Vw) (hv:VwOk v) (first:Nat) (hfi:first≤v.args.length) (more vars:Int) (h0:0≤more) (h1:more≤1000) (h2:0≤vars) (h3:vars≤1000) (cons:Int):∀ (n:Nat) (t:T),n≤1000000→zac t=true→okT t→zae t≤n →
    (zbb (plV v first more) (spH t)=true∨zdp n (plV v first more) t cons=true) →
    Pure Tryz.prog zdr [.rp (cVw v),.agg (cT t),.int .i64 first,.int .i64 more,.int .i64 vars] [.agg (cT (shT v first more vars n t))]∧okT (shT v first more vars n t):=by
  intro n
  induction n with
  | zero=>intro t _ _ _ h; have:=zkv t; omega
  | succ n ih =>
    intro t hN ft ot hn hg
    have hp:=hv.pos
    have hpl:=hv.len
    have hal:=hv.al
    have hsl:=hv.sl
    have hcl:=hv.cl
    have hA:=zuf t
    have hS:=zyp t (by omega)
    obtain ⟨m1,m2⟩:=zlx t
    obtain ⟨oH,m3⟩:=m2 ot
    obtain ⟨fH,m4⟩:=znr t ft
    have hm:∀ x ∈ (spA t).reverse,zae x<zae t∧okT x∧zac x=true:=fun x hx=>⟨m1 x (by simpa using hx),m3 x (by simpa using hx),m4 x (by simpa using hx)⟩
    have hAl:(spA t).reverse.length≤1000000:=by rw [ycU]; omega
    have hG:=gd_ok (v.args.take first) more (spH t) h0 (by omega) (by rw [yaE]; omega) oH.num64
    have hO:=zRj v.b v.base (spH t).num
    have hgB:zbb ⟨⟨[],[],0⟩,0,v.args.take first,more⟩ (spH t)=zbb (plV v first more) (spH t):=rfl
    have hgN:zeq ⟨⟨[],[],0⟩,0,v.args.take first,more⟩ (spH t)=zeq (plV v first more) (spH t):=rfl
    rw [gdI,hgB,hgN] at hG
    have wv:IntKind.i64.wrap (vars+more)=vars+more:=zab (by omega) (by omega)
    by_cases hb:zbb (plV v first more) (spH t)=true
    · obtain ⟨_,j,hj,hjl⟩:=zrw hb
      have hjl':j<v.pos.length:=by simp only [plV,yaE] at hjl; omega
      have hge:v.pos[j]? = some v.pos[j]:=yar hjl'
      have hpj:=hp.at_ _ (yaf hjl')
      have e:shT v first more vars (n+1) t=spT (lv (v.pos[j]+1) (vars+more)) ((spA t).reverse.map fun x=>putT v x first more vars):=by
        rw [shT,if_pos hb,hj,ycS,hge]; rfl
      rw [if_pos hb,hj] at hG
      rw [e]
      have oL:okT (lv (v.pos[j]+1) (vars+more)):=zlc (by omega) (by omega) (by omega) (by omega)
      have oP:∀ x ∈ (spA t).reverse.map (fun x=>putT v x first more vars),okT x:=fun y hy=>by
        obtain ⟨x,hx,rfl⟩:=ybb.1 hy
        exact znb hp (hm x hx).2.2 (hm x hx).2.1 (by have:=(hm x hx).1; omega) first more vars h0 (by omega) h2 (by omega)
      refine ⟨?_,zez _ _ oL oP⟩
      have hL:=znj (v.pos[j]+1) (vars+more) (by omega) (by omega) (by omega) (by omega)
      have hPs:=zVy v hp (spA t).reverse hAl (fun x hx=>⟨(hm x hx).2.2,by have:=(hm x hx).1; omega⟩) first (by omega) more vars h0 (by omega) h2 (by omega)
      have hSp:=zms (lv (v.pos[j]+1) (vars+more)) ((spA t).reverse.map fun x=>putT v x first more vars) (by rw [ycn]; omega) oL ⟨by rw [ycn]; omega,oP⟩
      have w1:IntKind.i64.wrap (v.pos[j]+1)=v.pos[j]+1:=zab (by omega) (by omega)
      generalize spT (lv (v.pos[j]+1) (vars+more)) ((spA t).reverse.map fun x=>putT v x first more vars)=R at *
      generalize ((spA t).reverse.map fun x=>putT v x first more vars)=M at *
      generalize (spA t).reverse=A at *
      generalize spH t=H at *
      generalize hPj:v.pos[j]=p at *
      generalize lv (p+1) (vars+more)=L at *
      refine znt rfl fun hs=>?_
      simp only [cVw,cBl,cT,eTs,eArs,ycV,ycv,ycu] at hS hG hL hPs hSp
      simp -dsimp [zgt,cT,cVw,cBl]
      refine zaa hS ?_
      have hfl:(first:Int)≤v.args.length:=by omega
      simp -dsimp [eArs,hfl,hfi]
      refine zaa hG ?_
      simp -dsimp [hjl',hge,hPj,w1,wv]
      refine zaa hL ?_
      simp -dsimp
      refine zaa hPs ?_
      simp -dsimp
      refine zaa hSp ?_
      simp -dsimp [cT]
    · have hgood:=hg.resolve_left hb
      rw [zdp] at hgood
      simp only [zC3] at hgood
      rw [if_neg hb] at hgood
      have hb':zbb (plV v first more) (spH t)=false:=by simpa using hb
      by_cases k3:(spH t).kind=3
      case neg=>rw [if_neg k3] at hgood; cases hgood
      rw [if_pos k3] at hgood
      have eb:(plV v first more).b=v.b:=rfl
      have ebase:(plV v first more).base=v.base:=rfl
      rw [eb,ebase] at hgood
      by_cases k5:(ofM v.b v.base (spH t).num).1=5
      case neg=>rw [if_neg k5] at hgood; cases hgood
      rw [if_pos k5] at hgood
      by_cases k6:(ofM v.b v.base (spH t).num).2<cons
      case neg=>rw [if_neg k6] at hgood; cases hgood
      rw [if_pos k6] at hgood
      obtain ⟨c,c1,c2,c3⟩:=zI1 k5
      have hgc:v.b.cons[c]? = some v.b.cons[c]:=yar c1
      have e:shT v first more vars (n+1) t=spT (lv (v.b.sorts.length+c) (vars+more)) (shA (fun x=>putT v x first more vars) (shT v first more vars n) v.b.cons[c].args (spA t).reverse):=by
        rw [shT,if_neg hb,c3]
        simp only [ycS,hgc]
      rw [c3] at hgood
      simp only [ycS,hgc] at hgood
      have hcal:=hv.ca _ (yaf c1)
      by_cases k7:(spA t).reverse.length=v.b.cons[c].args.length
      case neg=>rw [if_neg k7] at hgood; cases hgood
      rw [if_pos k7] at hgood
      have hrec:∀ (i:Nat) (h:i<v.b.cons[c].args.length) (h':i<(spA t).reverse.length),v.b.cons[c].args[i].rc=true →
          Pure Tryz.prog zdr [.rp (cVw v),.agg (cT (spA t).reverse[i]),.int .i64 first,.int .i64 more,.int .i64 vars] [.agg (cT (shT v first more vars n (spA t).reverse[i]))]∧okT (shT v first more vars n (spA t).reverse[i]):=fun i h h' hr=>by
        obtain ⟨x1,x2,x3⟩:=hm _ (yaf h')
        refine ih _ (by omega) x3 x2 (by omega) ?_
        have hA:=(zaq _ _ _).1 hgood i h
        rw [ybj,yar h'] at hA
        simp only [fitA,hr,if_true] at hA
        split at hA
        · exact .inr hA
        · have hk:=(zrw hA).1
          refine .inl ?_
          have:spH (spA t).reverse[i]=(spA t).reverse[i]:=by
            generalize (spA t).reverse[i]=x at hk
            obtain ⟨k,m,ks⟩:=x
            have hk':k=1:=hk
            exact (zg4 (fun h=>by omega)).2
          rw [this]
          exact hA
      have hput:∀ (i:Nat) (h':i<(spA t).reverse.length),Pure Tryz.prog zbs [.rp (cVw v),.agg (cT (spA t).reverse[i]),.int .i64 first,.int .i64 more,.int .i64 vars] [.agg (cT (putT v (spA t).reverse[i] first more vars))]:=fun i h'=>by
        obtain ⟨x1,x2,x3⟩:=hm _ (yaf h')
        exact zDw v hp _ x3 (by omega) first (by omega) more vars h0 (by omega) h2 (by omega)
      have oAll:∀ y ∈ shA (fun x=>putT v x first more vars) (shT v first more vars n) v.b.cons[c].args (spA t).reverse,okT y:=zzi _ _ fun i h h'=>by
        obtain ⟨x1,x2,x3⟩:=hm _ (yaf h')
        exact ⟨znb hp x3 x2 (by omega) first more vars h0 (by omega) h2 (by omega),fun hr=>(hrec i h h' hr).2⟩
      have oL:okT (lv (v.b.sorts.length+c) (vars+more)):=zlc (by omega) (by omega) (by omega) (by omega)
      rw [e]
      refine ⟨?_,zez _ _ oL oAll⟩
      have hlen:=zoc (fun x=>putT v x first more vars) (shT v first more vars n) v.b.cons[c].args (spA t).reverse
      have hL:=znj (v.b.sorts.length+c) (vars+more) (by omega) (by omega) (by omega) (by omega)
      have hSp:=zms (lv (v.b.sorts.length+c) (vars+more)) _ (by omega:(shA (fun x=>putT v x first more vars) (shT v first more vars n) v.b.cons[c].args (spA t).reverse).length≤100000000) oL ⟨by omega,oAll⟩
      have w1:IntKind.i64.wrap ((v.b.sorts.length:Int)+(c:Int))=v.b.sorts.length+c:=zab (by omega) (by omega)
      rw [if_neg hb] at hG
      rw [c3] at hO
      generalize spT (lv (v.b.sorts.length+c) (vars+more)) (shA (fun x=>putT v x first more vars) (shT v first more vars n) v.b.cons[c].args (spA t).reverse)=R at *
      have hsn:=zvt (fun x=>putT v x first more vars) (shT v first more vars n) v.b.cons[c].args (spA t).reverse
      have hsl2:=fun i=>zoc (fun x=>putT v x first more vars) (shT v first more vars n) (v.b.cons[c].args.take i) (spA t).reverse
      clear hgood oAll oL hm m1 m2 m3 m4 e ih
      generalize (spA t).reverse=A at *
      generalize spH t=H at *
      generalize lv (v.b.sorts.length+c) (vars+more)=L at *
      refine znt rfl fun hs=>?_
      simp only [cVw,cBl,eBl,cT,eTs,eArs,ycV,ycv,ycu] at hS hG hO hL hSp
      simp -dsimp [zgt,cT,cVw,cBl]
      refine zaa hS ?_
      have hfl:(first:Int)≤v.args.length:=by omega
      simp -dsimp [eArs,hfl,hfi]
      refine zaa hG ?_
      simp -dsimp
      refine zaa hO ?_
      generalize hCc:v.b.cons[c]=C at *
      simp -dsimp [c1,hgc,hCc,eCos,eCo,cCo,cT,eArs]
      refine zah C.args.length (fun i st=>(st.s 0 = .d (.rp (cVw v))∧st.s 2 = .d (.int .i64 first)∧st.s 3 = .d (.int .i64 more)∧st.s 4 = .d (.int .i64 vars))∧(st.s 10 = .ptr 10 1 0∧st.h 10=⟨1,.box [.d (.int .i64 0),.d (.int .i64 0),.fsl 3 []] false⟩) ∧
        (st.s 12 = .d (eTs A)∧st.s 15 = .d (.int .i64 c))∧(st.s 76 = .d (eArs C.args)∧st.s 77 = .d (.int .i64 C.args.length))∧st.s 78 = .d (.int .i64 i) ∧
        ∃ u,st.s 16 = .rsl 16 u∧st.h 16=⟨u,.row 3 ((shA (fun x=>putT v x first more vars) (shT v first more vars n) (C.args.take i) A).map eT) false⟩) ?_ ?_
      · simp -dsimp [cVw,cBl,eTs,eArs,eCos,shA]
      · rintro i ⟨s,hp'⟩ hi ⟨⟨g0,g2,g3,g4⟩,⟨g10,k10⟩,⟨g12,g15⟩,⟨g76,g77⟩,g78,u,g16,k16⟩
        dsimp only at g0 g2 g3 g4 g10 k10 g12 g15 g76 g77 g78 g16 k16
        simp only [eTs,eArs] at g12 g76
        rcases ybm i C.args.length with hlt | hge
        · have w2:IntKind.i64.wrap ((i:Int)+1)=(i:Int)+1:=zab (by omega) (by omega)
          have hltA:i<A.length:=by omega
          have hsn1:=hsn i hlt hltA
          have hsl1:=hsl2 i
          rw [yaE] at hsl1
          have hPi:=hput i hltA
          have hRi:=hrec i hlt hltA
          generalize hAr:C.args[i]=Ar_ at *
          generalize hX:A[i]=X at *
          rw [hsn1]
          generalize shA (fun x=>putT v x first more vars) (shT v first more vars n) (C.args.take i) A=G at *
          have hgl:G.length≤40:=by omega
          have r1:(G.length+1)*40≤zad:=zjm hgl trivial
          have r2:(G.length+1+1)*40≤zad:=zxd hgl
          simp only [cT] at hPi hRi
          simp -dsimp [g0,g2,g3,g4,g10,k10,g12,g15,g76,g77,g78,g16,k16,hlt,hltA,hAr,hX,eAr,cAr,cT]
          refine zaa hPi ?_
          cases hr:Ar_.rc with
          | false=>simp -dsimp [g0,g2,g3,g4,g10,k10,g12,g15,g76,g77,g78,g16,k16,hlt,hltA,hAr,hX,eAr,cAr,cT,hr,r1,w2,za4,eTs,eArs]
          | true =>
            have hRi':=(hRi hr).1
            simp -dsimp [g0,g2,g3,g4,g10,k10,g12,g15,g76,g77,g78,g16,k16,hlt,hltA,hAr,hX,eAr,cAr,cT,hr,r1]
            refine zaa hRi' ?_
            simp -dsimp [g0,g2,g3,g4,g10,k10,g12,g15,g76,g77,g78,g16,k16,hlt,hltA,hAr,hX,eAr,cAr,cT,hr,r1,r2,w2,za4,eTs,eArs]
        · have e:i=C.args.length:=by omega
          subst e
          rw [yce] at k16
          simp -dsimp [g0,g2,g3,g4,g10,k10,g12,g15,g76,g77,g78,g16,k16,cVw,cBl,eSos,w1,wv]
          refine zaa hL ?_
          simp -dsimp [g0,g2,g3,g4,g10,k10,g12,g15,g76,g77,g78,g16,k16,cT]
          refine zaa hSp ?_
          simp -dsimp [g10,k10,cT]
end
end
end Ev
end Go.Proofs.YtncmainjcffanaaGreat
