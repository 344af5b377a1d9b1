/- Texts of this claim, in one. -/
import Derived.Test.YtncmainjcffanaaGreatMa
import Derived.Test.YtncmainjcffanaaGreatRA
import Derived.Test.YtncmainjcffanaaGreatXc
import Derived.Test.YtncmainjcffanaaGreatXd
set_option maxRecDepth 100000
set_option linter.unusedSimpArgs false
set_option linter.unusedVariables false
open List renaming all_eq_not_any_not→yck,any_eq_false→ycg,append_assoc→ycT,cons_append→ycv,drop_eq_getElem_cons→ycX,flatten_append→ycZ,foldl_append→ycd,forall_mem_cons→ycN,getD_eq_getElem?_getD→ybi,getElem?_eq_getElem→yar,getElem?_eq_none→ybB,getElem?_eq_none_iff→ybS,getElem?_eq_some_iff→yae,getElem?_map→yau,getElem?_mapIdx→ycS,getElem_append_left→yda,getElem_append_right→ydb,getElem_cons_succ→ycB,getElem_cons_zero→ycz,getElem_mem→yaf,length_append→yaF,length_cons→yaS,length_map→ycn,length_mapIdx→ydc,length_nil→ybt,length_take→yaE,map_append→ycI,map_cons→yaV,map_nil→ycG,map_take→ycW,mem_append→yaY,mem_cons→yaZ,mem_iff_getElem→ycO,mem_iff_getElem?→ybD,mem_map→ybb,mem_mapIdx→ycU,mem_of_getElem?→yas,mem_of_mem_take→ycV,mem_singleton→ybw,ne_nil_of_length_pos→ycK,nil_append→ycu,not_mem_nil→ycD,sum_append→ycP,sum_cons→yca,sum_nil→ycQ,take_add_one→ycc,take_append_drop→ycY,take_length→ycf,take_of_length_le→yce
open Nat renaming le_of_eq→ydd,le_trans→yac,lt_or_ge→ybm,zero_add→ybj
open Bool renaming and_eq_true→ybJ,false_eq_true→yao,not_eq_true→ycR,or_eq_false_iff→ycx
namespace Go.Proofs.YtncmainjcffanaaGreat
namespace Ev
open Go
section
section
attribute [local simp] zaf zai tk tn tks zde zee
theorem zLs:Tryz.prog.cellsOf 30=7:=by kernel_rfl
theorem zIc:Tryz.prog.cellsOf 32=1:=by kernel_rfl
theorem zH3:Tryz.prog.cellsOf 46=6:=by kernel_rfl
theorem zNf:Tryz.prog.cellsOf 34=6:=by kernel_rfl
theorem zIw:Tryz.prog.cellsOf 22=1:=by kernel_rfl
theorem zNa:Tryz.prog.cellsOf 23=1:=by kernel_rfl
theorem zJo:Tryz.prog.cellsOf 25=3:=by kernel_rfl
theorem y_arg:Tryz.prog.bytesOf 30=104:=by kernel_rfl
theorem zLw:Tryz.prog.bytesOf 46=80:=by kernel_rfl
theorem y_con:Tryz.prog.bytesOf 34=96:=by kernel_rfl
theorem zM7:za1 Tryz.prog 30=true:=by simp only [za1,Tryz.underlying30]
theorem zJ1:za1 Tryz.prog 46=true:=by simp only [za1,Tryz.underlying46]
theorem zLx:za1 Tryz.prog 34=true:=by simp only [za1,Tryz.underlying34]
theorem zGr:za1 Tryz.prog 25=true:=by simp only [za1,Tryz.underlying25]
structure okAr (a:Ar):Prop where
  ty:okT a.ty
  dom:okTs a.dom
  sort:n64 a.sort
  idx:okTs a.idx
def zFk (l:List Ar):Prop:=l.length*104≤140737488351232 ∧ ∀ x ∈ l,okAr x
structure okSo (s:So):Prop where
  idx:zFk s.idx
  level:n64 s.level
  dty:okT s.dty
structure okCo (c:Co):Prop where
  sort:n64 c.sort
  args:zFk c.args
  idx:okTs c.idx
  dec:okT c.dec
structure okBl (b:Bl):Prop where
  sortsL:b.sorts.length*80≤140737488351232
  sorts:∀ x ∈ b.sorts,okSo x
  consL:b.cons.length*96≤140737488351232
  cons:∀ x ∈ b.cons,okCo x
  elim:n64 b.elim
theorem len6 {xs:List D} (h:xs.length=6):∃ a b c d e f,xs=[a,b,c,d,e,f]:=by
  match xs,h with
  | [a,b,c,d,e,f],_=>exact ⟨a,b,c,d,e,f,rfl⟩
theorem len7 {xs:List D} (h:xs.length=7):∃ a b c d e f g,xs=[a,b,c,d,e,f,g]:=by
  match xs,h with
  | [a,b,c,d,e,f,g],_=>exact ⟨a,b,c,d,e,f,g,rfl⟩
theorem zKt {n:Nat} {cs:List D} (h:typ Tryz.prog n 30 cs):∃ a:Ar,cs=cAr a∧okAr a:=by
  cases n with
  | zero=>exact h.elim
  | succ n =>
    simp only [typ,Tryz.underlying30,zLs,zEr,zIe,zu5,zzl,ycN] at h
    obtain ⟨hl,h1,h2,h3,h4,h5,_⟩:=h
    obtain ⟨a,b,c,d,e,f,g,rfl⟩:=len7 hl
    obtain ⟨r,hr⟩:=zBe h1
    obtain ⟨t,ht,q1⟩:=zst _ h2
    obtain ⟨ds,hd,q2⟩:=zqk h3
    obtain ⟨i,hi,q3⟩:=zoi h4
    obtain ⟨js,hj,q4⟩:=zqk h5
    simp at hr ht hd hi hj
    refine ⟨⟨r,t,ds,i,js⟩,?_,⟨q1,q2,q3,q4⟩⟩
    simp [cAr,← ht,hr,hd,hi,hj]
theorem zAl {n:Nat} {cs:List D} (h:typ Tryz.prog n 32 cs):∃ l:List Ar,cs=[eArs l]∧zFk l:=by
  obtain ⟨m,xs,rfl,hc,hb,hx⟩:=zl7 Tryz.underlying32 zLs y_arg zM7 h
  obtain ⟨ks,rfl,hks⟩:∃ l:List Ar,xs=l.map eAr ∧ ∀ a ∈ l,okAr a:=zvh fun x hxx=>by
    obtain ⟨h4,h5⟩:=hx x hxx
    obtain ⟨t,ht,hq⟩:=zKt h4
    exact ⟨t,hq,by rw [h5,ht]; rfl⟩
  exact ⟨ks,hc,by simpa using hb,hks⟩
theorem zGl {n:Nat} {cs:List D} (h:typ Tryz.prog n 46 cs):∃ a:So,cs=cSo a∧okSo a:=by
  cases n with
  | zero=>exact h.elim
  | succ n =>
    simp only [typ,Tryz.underlying46,zH3,zEr,zIe,zu5,zIc,ycN] at h
    obtain ⟨hl,h1,h2,h3,h4,_⟩:=h
    obtain ⟨a,b,c,d,e,f,rfl⟩:=len6 hl
    obtain ⟨l,hq,q1⟩:=zAl h1
    obtain ⟨i,hi,q2⟩:=zoi h2
    obtain ⟨r,hr⟩:=zBe h3
    obtain ⟨t,ht,q3⟩:=zst _ h4
    simp at hr ht hi hq
    refine ⟨⟨l,i,r,t⟩,?_,⟨q1,q2,q3⟩⟩
    simp [cSo,← ht,hr,hi,hq]
theorem zJ8 {n:Nat} {cs:List D} (h:typ Tryz.prog n 34 cs):∃ a:Co,cs=cCo a∧okCo a:=by
  cases n with
  | zero=>exact h.elim
  | succ n =>
    simp only [typ,Tryz.underlying34,zNf,zEr,zIc,zu5,zzl,ycN] at h
    obtain ⟨hl,h1,h2,h3,h4,_⟩:=h
    obtain ⟨a,b,c,d,e,f,rfl⟩:=len6 hl
    obtain ⟨i,hi,q1⟩:=zoi h1
    obtain ⟨l,hq,q2⟩:=zAl h2
    obtain ⟨js,hj,q3⟩:=zqk h3
    obtain ⟨t,ht,q4⟩:=zst _ h4
    simp at ht hi hq hj
    refine ⟨⟨i,l,js,t⟩,?_,⟨q1,q2,q3,q4⟩⟩
    simp [cCo,← ht,hi,hq,hj]
theorem zCs {n:Nat} {cs:List D} (h:typ Tryz.prog n 25 cs):∃ b:Bl,cs=cBl b∧okBl b:=by
  cases n with
  | zero=>exact h.elim
  | succ n =>
    simp only [typ,Tryz.underlying25,zJo,zEr,zIw,zNa,ycN] at h
    obtain ⟨hl,h1,h2,h3,_⟩:=h
    obtain ⟨a,b,c,rfl⟩:=len3 hl
    obtain ⟨m,xs,rfl,hc,hb,hx⟩:=zl7 Tryz.underlying22 zH3 zLw zJ1 h1
    obtain ⟨m',ys,_,hd,hb',hy⟩:=zl7 Tryz.underlying23 zNf y_con zLx h2
    obtain ⟨i,hi,q1⟩:=zoi h3
    obtain ⟨ss,rfl,q2⟩:∃ l:List So,xs=l.map eSo ∧ ∀ a ∈ l,okSo a:=zvh fun x hxx=>by
      obtain ⟨h4,h5⟩:=hx x hxx
      obtain ⟨t,ht,hq⟩:=zGl h4
      exact ⟨t,hq,by rw [h5,ht]; rfl⟩
    obtain ⟨ks,rfl,q3⟩:∃ l:List Co,ys=l.map eCo ∧ ∀ a ∈ l,okCo a:=zvh fun x hxx=>by
      obtain ⟨h4,h5⟩:=hy x hxx
      obtain ⟨t,ht,hq⟩:=zJ8 h4
      exact ⟨t,hq,by rw [h5,ht]; rfl⟩
    simp at hc hd hi
    refine ⟨⟨ss,ks,i⟩,?_,⟨by simpa using hb,q2,by simpa using hb',q3,q1⟩⟩
    simp [cBl,hc,hd,hi,eSos,eCos]
theorem zDp {x:D} (h:TypD Tryz.prog 25 x):∃ b:Bl,x=eBl b∧okBl b:=by
  obtain ⟨⟨n,h1⟩,h2⟩:=h
  obtain ⟨b,hb,hq⟩:=zCs h1
  exact ⟨b,by rw [zH5 (h2.trans zGr),hb]; rfl,hq⟩
end
section
attribute [local simp] zaf zai tk tn tks zde zee
theorem zw6 (l:List Ar) (h:zFk l):OwnC Tryz.prog zb3 [eArs l] [.one (.row 7 (l.map eAr) false)]:=by
  refine zme rfl fun hs=>?_
  have hl:=h.1
  simp -dsimp [zea,eArs]
  refine zaj l.length (fun i st=>st.s 0 = .d (.sl 7 (l.map eAr))∧st.s 4 = .d (.int .i64 i) ∧ ∃ v,st.s 3 = .rsl 3 v∧st.h 3=⟨v,.row 7 ((l.map eAr).take i) false⟩) ?_ ?_
  · simp -dsimp
  · rintro i ⟨s,hp⟩ hi ⟨g1,g2,v,g3,g4⟩
    dsimp only at g1 g2 g3 g4
    rcases ybm i l.length with hlt | hge
    · have w1:IntKind.i64.wrap ((i:Int)+1)=(i:Int)+1:=zad (by omega) (by omega)
      have ho:=h.2 l[i] (yaf _)
      simp -dsimp [g1,g2,g3,g4,hlt,cT,eAr,cAr,eTs]
      refine zaa (zmj l[i].ty ho.ty) ?_
      simp -dsimp [g1,g2,g3,g4,hlt,cT,eAr,cAr,eTs]
      refine zaa (zm2 l[i].dom ho.dom) ?_
      simp -dsimp [g1,g2,g3,g4,hlt,cT,eAr,cAr,eTs]
      refine zaa (zm2 l[i].idx ho.idx) ?_
      have hr:(min i l.length+1)*104≤zae:=by simp only [zae]; omega
      have hn:=zix eAr cAr (fun _=>rfl) l i hlt
      simp only [cAr,cT,ycv,ycu,eTs] at hn
      simp -dsimp [g1,g2,g3,g4,hlt,cT,hr,hn,w1,eTs]
    · have e:i=l.length:=by omega
      subst e
      simp -dsimp [g1,g2,g3,g4]
      exact yce (by simp)
theorem zs4 (l:List Ar) (h:zFk l):Pure Tryz.prog zb3 [eArs l] [eArs l]:=(zw6 l h).pure
theorem zCk (c:Co) (h:okCo c):Pure Tryz.prog zew [.agg (cCo c)] [.agg (cCo c)]:=by
  refine znj rfl fun hs=>?_
  simp -dsimp [zex,cCo,cT,eArs,eTs]
  refine zaa (zs4 c.args h.args) ?_
  simp -dsimp [eArs,eTs]
  refine zaa (zm2 c.idx h.idx) ?_
  simp -dsimp [eArs,eTs]
  refine zaa (zmj c.dec h.dec) ?_
  simp -dsimp [eArs,eTs,cT]
def rcS (l:List So):RC:=if l=[] then .d (.sl 6 []) else .row 6 (l.map eSo) false
def rcK (l:List Co):RC:=if l=[] then .d (.sl 6 []) else .row 6 (l.map eCo) false
theorem zwb (b:Bl) (h:okBl b):OwnC Tryz.prog zcl [eBl b] [.agg [rcS b.sorts,rcK b.cons,.d (.int .i64 b.elim)]]:=by
  refine zle rfl fun hs=>?_
  have hl:=h.sortsL
  have hl2:=h.consL
  simp -dsimp [zdz,eBl,cBl,eSos,eCos]
  refine zaj b.sorts.length (fun i st=>st.s 1 = .ptr 1 1 0∧st.h 1=⟨1,.box [.d (.sl 6 (b.sorts.map eSo)),.d (.sl 6 (b.cons.map eCo)),.d (.int .i64 b.elim)] false⟩ ∧
    st.s 2 = .ptr 2 1 0∧st.h 2=⟨1,.box [.fsl 6 [],.fsl 6 [],.d (.int .i64 0)] false⟩∧st.s 4 = .d (.int .i64 i) ∧
    st.s 3 = .ptr 3 1 0 ∧ ∃ c,st.h 3=⟨1,.box [c,.fsl 6 [],.d (.int .i64 b.elim)] false⟩∧((i=0∧c = .fsl 6 [])∨(0<i ∧ ∃ v,c = .rsl 34 v∧st.h 34=⟨v,.row 6 ((b.sorts.map eSo).take i) false⟩))) ?_ ?_
  · simp -dsimp
  · rintro i ⟨s,hp⟩ hi ⟨g1,g2,g3,g4,g5,g6,c,g7,g8⟩
    dsimp only at g1 g2 g3 g4 g5 g6 g7 g8
    rcases ybm i b.sorts.length with hlt | hge
    · have w1:IntKind.i64.wrap ((i:Int)+1)=(i:Int)+1:=zad (by omega) (by omega)
      have ho:=h.sorts b.sorts[i] (yaf _)
      simp -dsimp [g1,g2,g3,g4,g5,g6,g7,hlt,cT,eSo,cSo,eArs]
      refine zaa (zs4 b.sorts[i].idx ho.idx) ?_
      simp -dsimp [g1,g2,g3,g4,g5,g6,g7,hlt,cT,eSo,cSo,eArs]
      refine zaa (zmj b.sorts[i].dty ho.dty) ?_
      have hr:(min i b.sorts.length+1)*80≤zae:=by simp only [zae]; omega
      have hn:=zix eSo cSo (fun _=>rfl) b.sorts i hlt
      simp only [cSo,cT,ycv,ycu,eArs] at hn
      rcases g8 with ⟨rfl,rfl⟩ | ⟨hi0,v,rfl,g8⟩
      · have h80:min 1 b.sorts.length*80≤zae:=by simp only [zae]; omega
        have hne:¬ b.sorts=[]:=ycK hlt
        simp only [List.take_zero,ycu,ybj] at hn
        simp at hlt hn w1
        simp -dsimp [g1,g2,g3,g4,g5,g6,g7,hlt,cT,eSo,cSo,eArs,w1,h80,hn,hne]
      · simp -dsimp [g1,g2,g3,g4,g5,g6,g7,g8,hlt,cT,eSo,cSo,eArs,w1,hr,hn]
    · have e:i=b.sorts.length:=by omega
      subst e
      rw [yce (by simp)] at g8
      simp -dsimp [g1,g2,g3,g4,g5,g6,g7]
      clear hi g5
      refine zaj b.cons.length (fun i st=>st.s 1 = .ptr 1 1 0∧st.h 1=⟨1,.box [.d (.sl 6 (b.sorts.map eSo)),.d (.sl 6 (b.cons.map eCo)),.d (.int .i64 b.elim)] false⟩ ∧
        st.s 2 = .ptr 2 1 0∧st.h 2=⟨1,.box [.fsl 6 [],.fsl 6 [],.d (.int .i64 0)] false⟩∧st.s 6 = .d (.int .i64 i) ∧
        st.s 3 = .ptr 3 1 0 ∧ ∃ d,st.h 3=⟨1,.box [c,d,.d (.int .i64 b.elim)] false⟩∧((b.sorts=[]∧c = .fsl 6 [])∨(0<b.sorts.length ∧ ∃ v,c = .rsl 34 v∧st.h 34=⟨v,.row 6 (b.sorts.map eSo) false⟩)) ∧
          ((i=0∧d = .fsl 6 [])∨(0<i ∧ ∃ v,d = .rsl 52 v∧st.h 52=⟨v,.row 6 ((b.cons.map eCo).take i) false⟩))) ?_ ?_
      · simp -dsimp [g1,g2,g3,g4,g6,g7]
        simpa using g8
      · clear g1 g2 g3 g4 g6 g7 g8 s hp
        rintro i ⟨s,hp⟩ hi ⟨g1,g2,g3,g4,g5,g6,d,g7,g8,g9⟩
        dsimp only at g1 g2 g3 g4 g5 g6 g7 g8 g9
        rcases ybm i b.cons.length with hlt | hge
        · have w1:IntKind.i64.wrap ((i:Int)+1)=(i:Int)+1:=zad (by omega) (by omega)
          have ho:=h.cons b.cons[i] (yaf _)
          simp -dsimp [g1,g2,g3,g4,g5,g6,g7,hlt,cT,eCo,cCo,eArs,eTs]
          refine zaa (zCk b.cons[i] ho) ?_
          have hr:(min i b.cons.length+1)*96≤zae:=by simp only [zae]; omega
          have hn:=zix eCo cCo (fun _=>rfl) b.cons i hlt
          simp only [cCo,cT,ycv,ycu,eArs,eTs] at hn
          rcases g9 with ⟨rfl,rfl⟩ | ⟨hi0,v,rfl,g9⟩
          · have h96:min 1 b.cons.length*96≤zae:=by simp only [zae]; omega
            have hne:¬ b.cons=[]:=ycK hlt
            simp only [List.take_zero,ycu,ybj] at hn
            simp at hlt hn w1
            simp -dsimp [g1,g2,g3,g4,g5,g6,g7,hlt,cT,eCo,cCo,eArs,eTs,w1,h96,hn,hne]
            exact g8
          · simp -dsimp [g1,g2,g3,g4,g5,g6,g7,g9,hlt,cT,eCo,cCo,eArs,eTs,w1,hr,hn]
            exact g8
        · have e:i=b.cons.length:=by omega
          subst e
          rw [yce (by simp)] at g9
          have hc:b.cons.length=0→b.cons=[]:=List.length_eq_zero_iff.1
          have hS0:rcS [] = .d (.sl 6 []):=rfl
          have hK0:rcK [] = .d (.sl 6 []):=rfl
          rcases g8 with ⟨hz,rfl⟩ | ⟨hp1,v,rfl,g8⟩ <;> rcases g9 with ⟨hy,rfl⟩ | ⟨hp2,u,rfl,g9⟩
          · simp -dsimp [g1,g2,g3,g4,g5,g6,g7,hz,hc hy,hS0,hK0]
          · have hK:rcK b.cons = .row 6 (b.cons.map eCo) false:=by rw [rcK,if_neg (ycK hp2)]
            simp -dsimp [g1,g2,g3,g4,g5,g6,g7,hz,g9,hS0,hK]
          · have hS:rcS b.sorts = .row 6 (b.sorts.map eSo) false:=by rw [rcS,if_neg (ycK hp1)]
            simp -dsimp [g1,g2,g3,g4,g5,g6,g7,g8,hc hy,hS,hK0]
          · have hK:rcK b.cons = .row 6 (b.cons.map eCo) false:=by rw [rcK,if_neg (ycK hp2)]
            have hS:rcS b.sorts = .row 6 (b.sorts.map eSo) false:=by rw [rcS,if_neg (ycK hp1)]
            simp -dsimp [g1,g2,g3,g4,g5,g6,g7,g8,g9,hS,hK]
theorem zHc (l:List So):(rcS l).data=eSos l:=by
  rw [rcS]; split
  · rename_i h; subst h; rfl
  · rfl
theorem zHd (l:List Co):(rcK l).data=eCos l:=by
  rw [rcK]; split
  · rename_i h; subst h; rfl
  · rfl
theorem zyk (b:Bl) (h:okBl b):Pure Tryz.prog zcl [eBl b] [eBl b]:=by
  have:=(zwb b h).pure
  simp only [yaV,ycG,RV.data,zHc,zHd] at this
  exact this
end
section
attribute [local simp] zaf zai tk tn tks zde zee
theorem zy4 (l:List Ar) (h:∀ x ∈ l,Pure Tryz.prog ze3 [.agg (cAr x),.agg (cAr x)] [.bool true]):Pure Tryz.prog zda [eArs l,eArs l] [.bool true]:=by
  refine zqz rfl fun hs=>?_
  have hl:=hs (eArs l) (by simp)
  simp [eArs,small] at hl
  replace hl:=hl.1
  simp -dsimp [zhp,eArs]
  refine zaj l.length (fun i st=>st.s 0 = .d (.sl 7 (l.map eAr))∧st.s 1 = .d (.sl 7 (l.map eAr))∧st.s 5 = .d (.int .i64 i)) ?_ ?_
  · simp -dsimp
  · rintro i ⟨s,hp⟩ hi ⟨g1,g2,g3⟩
    dsimp only at g1 g2 g3
    rcases ybm i l.length with hlt | hge
    · have w1:IntKind.i64.wrap ((i:Int)+1)=(i:Int)+1:=zad (by omega) (by omega)
      simp -dsimp [g1,g2,g3,hlt,cT,eAr,cAr,eTs]
      refine zaa (h l[i] (yaf _)) ?_
      simp -dsimp [g1,g2,g3,hlt,w1]
    · have e:i=l.length:=by omega
      subst e
      simp -dsimp [g1,g2,g3]
theorem zCb (a:Ar):Pure Tryz.prog ze3 [.agg (cAr a),.agg (cAr a)] [.bool true]:=by
  refine zr7 rfl fun hs=>?_
  simp -dsimp [zh2,cAr,cT,eTs]
  refine zaa (zfn a.ty) ?_
  simp -dsimp
  refine zaa (zfs a.dom) ?_
  simp -dsimp
  refine zaa (zfs a.idx) ?_
  simp -dsimp
theorem zt4 (l:List Ar):Pure Tryz.prog zda [eArs l,eArs l] [.bool true]:=zy4 l fun x _=>zCb x
theorem zBu (c:Co):Pure Tryz.prog zh6 [.agg (cCo c),.agg (cCo c)] [.bool true]:=by
  refine zr8 rfl fun hs=>?_
  simp -dsimp [zh3,cCo,cT,eTs,eArs]
  refine zaa (zt4 c.args) ?_
  simp -dsimp
  refine zaa (zfs c.idx) ?_
  simp -dsimp
  refine zaa (zfn c.dec) ?_
  simp -dsimp
theorem zw7 (b:Bl):Pure Tryz.prog zd4 [eBl b,eBl b] [.bool true]:=by
  refine zp8 rfl fun hs=>?_
  have hl:=hs (eBl b) (by simp)
  simp -dsimp [eBl,cBl,eSos,eCos,small] at hl
  have hl1:=hl.1.1
  have hl2:=hl.2.1
  simp -dsimp [zgj,eBl,cBl,eSos,eCos]
  refine zaj b.sorts.length (fun i st=>st.s 2 = .ptr 2 1 0∧st.h 2=⟨1,.box [.d (.sl 6 (b.sorts.map eSo)),.d (.sl 6 (b.cons.map eCo)),.d (.int .i64 b.elim)] false⟩ ∧
    st.s 3 = .ptr 3 1 0∧st.h 3=⟨1,.box [.d (.sl 6 (b.sorts.map eSo)),.d (.sl 6 (b.cons.map eCo)),.d (.int .i64 b.elim)] false⟩∧st.s 5 = .d (.int .i64 i)) ?_ ?_
  · simp -dsimp
  · rintro i ⟨s,hp⟩ hi ⟨g1,g2,g3,g4,g5⟩
    dsimp only at g1 g2 g3 g4 g5
    rcases ybm i b.sorts.length with hlt | hge
    · have w1:IntKind.i64.wrap ((i:Int)+1)=(i:Int)+1:=zad (by omega) (by omega)
      simp -dsimp [g1,g2,g3,g4,g5,hlt,cT,eSo,cSo,eArs]
      refine zaa (zt4 b.sorts[i].idx) ?_
      simp -dsimp [g1,g2,g3,g4,g5,hlt,w1,cT]
      refine zaa (zfn b.sorts[i].dty) ?_
      simp -dsimp [g1,g2,g3,g4,g5,hlt,w1]
    · have e:i=b.sorts.length:=by omega
      subst e
      simp -dsimp [g1,g2,g3,g4,g5]
      clear hi g5
      refine zaj b.cons.length (fun i st=>st.s 2 = .ptr 2 1 0∧st.h 2=⟨1,.box [.d (.sl 6 (b.sorts.map eSo)),.d (.sl 6 (b.cons.map eCo)),.d (.int .i64 b.elim)] false⟩ ∧
        st.s 3 = .ptr 3 1 0∧st.h 3=⟨1,.box [.d (.sl 6 (b.sorts.map eSo)),.d (.sl 6 (b.cons.map eCo)),.d (.int .i64 b.elim)] false⟩∧st.s 8 = .d (.int .i64 i)) ?_ ?_
      · simp -dsimp [g1,g2,g3,g4]
      · clear g1 g2 g3 g4 s hp
        rintro i ⟨s,hp⟩ hi ⟨g1,g2,g3,g4,g5⟩
        dsimp only at g1 g2 g3 g4 g5
        rcases ybm i b.cons.length with hlt | hge
        · have w1:IntKind.i64.wrap ((i:Int)+1)=(i:Int)+1:=zad (by omega) (by omega)
          simp -dsimp [g1,g2,g3,g4,g5,hlt,cT,eCo,cCo,eArs,eTs]
          refine zaa (zBu b.cons[i]) ?_
          simp -dsimp [g1,g2,g3,g4,g5,hlt,w1]
        · have e:i=b.cons.length:=by omega
          subst e
          simp -dsimp [g1,g2,g3,g4,g5]
end
section
attribute [local simp] zaf zai tk tn tks zde zee
theorem zBw (t:T):∀ v c:Int,Pure Tryz.prog zcb [.agg (cT t),.int .i64 v,.int .i64 c] [.bool (zcp t v c)]:=by
  refine T.ind (p:=fun t=>∀ v c:Int,Pure Tryz.prog zcb [.agg (cT t),.int .i64 v,.int .i64 c] [.bool (zcp t v c)]) ?_ t
  intro k n ks ih v c
  refine znb rfl fun hs=>?_
  have hl:=zfp (t:=.mk k n ks) (fun d hd=>hs d (by simp at hd; simp [hd]))
  simp [T.kids] at hl
  simp -dsimp [zet,cT,T.kind,T.num,T.kids]
  (first | refine zah ?_ ?_ | refine zag ?_ ?_) <;> intro h1 <;> (try simp only [nrm] at h1) <;> simp -dsimp [h1,zcp]
  (first | refine zah ?_ ?_ | refine zag ?_ ?_) <;> intro h2 <;> (try simp only [nrm] at h2) <;> simp -dsimp [h2,zcp,h1]
  (first | refine zah ?_ ?_ | refine zag ?_ ?_) <;> intro h3 <;> (try simp only [nrm] at h3) <;> simp -dsimp [h3,zcp,h1,h2]
  have hw:zcp (.mk k n ks) v c=zi9 k v c 0 ks:=by rw [zcp,if_neg h1,if_neg h2,if_neg h3]
  rw [hw]
  refine zaj ks.length (fun i st=>st.s 3 = .ptr 3 1 0∧st.h 3=⟨1,.box [.d (.int .i64 k),.d (.int .i64 n),.d (.sl 3 (ks.map eT))] false⟩∧st.s 1 = .d (.int .i64 v)∧st.s 2 = .d (.int .i64 c) ∧
    st.s 7 = .d (.int .i64 i) ∧ ∀ (j:Nat) (hj:j<ks.length),j<i→zcp ks[j] (w64 (v+zal k j)) c=true) ?_ ?_
  · simp -dsimp
  · rintro i ⟨s,hp⟩ hi ⟨g1,g2,g3,g4,g5,g8⟩
    dsimp only at g1 g2 g3 g4 g5
    rcases ybm i ks.length with hlt | hge
    · have w1:IntKind.i64.wrap ((i:Int)+1)=(i:Int)+1:=zad (by omega) (by omega)
      simp -dsimp [g1,g2,g3,g4,g5,hlt,cT]
      refine zaa (zj3 k i) ?_
      simp -dsimp [g1,g2,g3,g4,g5,hlt]
      refine zaa (ih ks[i] (yaf _) (w64 (v+zal k i)) c) ?_
      simp -dsimp [g1,g2,g3,g4,g5,hlt]
      (first | refine zah ?_ ?_ | refine zag ?_ ?_) <;> intro h4 <;> (try simp only [nrm] at h4) <;> simp -dsimp [h4,g1,g2,g3,g4,g5,hlt,w1]
      · cases hw:zi9 k v c 0 ks with
        | false=>rfl
        | true =>
          have:=(zi3 k v c ks 0).1 hw i hlt
          rw [ybj,h4] at this
          cases this
      · intro j hj hji
        rcases ybm j i with h | h
        · exact g8 j hj h
        · have:j=i:=by omega
          subst this
          exact h4
    · have e:i=ks.length:=by omega
      subst e
      have:zi9 k v c 0 ks=true:=(zi3 k v c ks 0).2 fun j hj=>by simpa using g8 j hj hj
      simp -dsimp [g1,g2,g3,g4,g5,this]
def zmi (t:T) (v c:Int):Bool:=if v<0 then false else if c<0 then false else if zam t=0 then zcp t (if 1048576<v then 1048576 else v) c else false
theorem zDy {t:T} {v c:Int} (h:v≤65536):zmi t v c=zp3 t v c:=by
  rw [zmi,zp3,if_neg (show ¬1048576<v by omega),if_neg (show ¬65536<v by omega)]
theorem zC8 (t:T) (v c:Int):Pure Tryz.prog ze5 [.agg (cT t),.int .i64 v,.int .i64 c] [.bool (zmi t v c)]:=by
  refine zoq rfl fun hs=>?_
  simp -dsimp [zfe,cT]
  (first | refine zah ?_ ?_ | refine zag ?_ ?_) <;> intro h1 <;> (try simp only [nrm] at h1) <;> simp -dsimp [h1,zmi]
  · (first | refine zah ?_ ?_ | refine zag ?_ ?_) <;> intro h2 <;> (try simp only [nrm] at h2) <;> simp -dsimp [h2,zmi,h1]
    · refine zaa (zfz t) ?_
      simp -dsimp [h1,h2]
      (first | refine zah ?_ ?_ | refine zag ?_ ?_) <;> intro h3 <;> (try simp only [nrm] at h3) <;> simp -dsimp [h3,zmi,h1,h2]
      · refine zaa (zBw t _ _) ?_
        have hS:zmi t v c=zcp t (if 1048576<v then 1048576 else v) c:=by rw [zmi,if_neg (by omega),if_neg (by omega),if_pos h3]
        rw [hS]
        simp -dsimp [h3]
end
section
attribute [local simp] zaf zai tk tn tks zde zee
theorem zt7 (n lo hi:Int):Pure Tryz.prog zbg [.int .i64 n,.int .i64 lo,.int .i64 hi] [.bool (inB n lo hi)]:=by
  refine zsj rfl fun hs=>?_
  simp -dsimp [zh5,inB]
  (first | refine zah ?_ ?_ | refine zag ?_ ?_) <;> intro h1 <;> (try simp only [nrm] at h1) <;> simp -dsimp [h1]
theorem zwj (t:T):Pure Tryz.prog zcu [.agg (cT t)] [.bool (zyp t)]:=by
  refine zqt rfl fun hs=>?_
  simp -dsimp [zfw,cT]
  (first | refine zah ?_ ?_ | refine zag ?_ ?_) <;> intro h1 <;> (try simp only [nrm] at h1) <;> simp -dsimp [h1,zyp]
  (first | refine zah ?_ ?_ | refine zag ?_ ?_) <;> intro h2 <;> (try simp only [nrm] at h2) <;> simp -dsimp [h2,zyp,h1]
theorem zmq (t:T) (v:Int) (hv:v≤65536):Pure Tryz.prog zbd [.agg (cT t),.int .i64 v] [.bool (inM t v)]:=by
  refine zp0 rfl fun hs=>?_
  simp -dsimp [zgw,cT]
  refine zaa (zC8 t v 65536) ?_
  simp -dsimp [inM,zDy hv]
theorem zCw (b:Bl) (a:Ar) (i:Int) (h0:0≤i) (h1:i≤1000):Pure Tryz.prog zem [eBl b,.agg (cAr a),.int .i64 i] [.bool (argM b a i)]:=by
  refine zrg rfl fun hs=>?_
  have hi:((a.idx.length:Int))≤9223372036854775807:=by
    have:=hs (.agg (cAr a)) (by simp)
    simp -dsimp [cAr,cT,eTs,small] at this
    omega
  simp -dsimp [zhg,eBl,cBl,eSos,eCos,cAr,cT,eTs]
  cases hr:a.rc with
  | false =>
    simp -dsimp [hr]
    refine zaa (zmq a.ty i (by omega)) ?_
    simp -dsimp
    (first | refine zah ?_ ?_ | refine zag ?_ ?_) <;> intro g1 <;> (try simp only [nrm] at g1) <;> simp -dsimp [g1,argM,hr]
    (first | refine zah ?_ ?_ | refine zag ?_ ?_) <;> intro g2 <;> (try simp only [nrm] at g2) <;> simp -dsimp [g2,argM,hr,g1,w64]
  | true =>
    simp -dsimp [hr]
    refine zaa (zwj a.ty) ?_
    simp -dsimp
    (first | refine zah ?_ ?_ | refine zag ?_ ?_) <;> intro g1 <;> (try simp only [nrm] at g1) <;> simp -dsimp [g1,argM,hr]
    (first | refine zah ?_ ?_ | refine zag ?_ ?_) <;> intro g2 <;> (try simp only [nrm] at g2) <;> simp -dsimp [g2,argM,hr,g1]
    refine zaa (zt7 a.sort 0 _) ?_
    have hbl:((b.sorts.length:Int))≤9223372036854775807:=by
      have:=hs (eBl b) (by simp)
      simp -dsimp [eBl,cBl,eSos,small] at this
      omega
    have wS:IntKind.i64.wrap ((b.sorts.length:Int) - 1)=(b.sorts.length:Int) - 1:=zad (by omega) (by omega)
    simp -dsimp [hr,g1,g2,wS]
    (first | refine zah ?_ ?_ | refine zag ?_ ?_) <;> intro g3 <;> (try simp only [nrm] at g3) <;> simp -dsimp [g3,hr,g1,g2,wS]
    · have h5:=(zoc _ _ _).1 g3
      by_cases h6:a.sort<0
      · simp -dsimp [argM,hr,g1,g2,h6]
      · have h7:b.sorts[a.sort.toNat]? = none:=ybB (by omega)
        simp -dsimp [argM,hr,g1,g2,h6,h7]
    have h5:=(zb1 _ _ _).1 g3
    have hlt:a.sort.toNat<b.sorts.length:=by omega
    have hs0:0≤a.sort:=h5.1
    have hA:argM b a i=if (a.idx.length:Int)=(b.sorts[a.sort.toNat].idx.length:Int) then domM i a.dom && allM a.idx (w64 (i+a.dom.length)) else false:=by
      have:¬a.sort<0:=by omega
      simp [argM,hr,g1,g2,hlt,this]
    simp -dsimp [hr,g1,g2,g3,hlt,hs0,eSo,cSo,eArs,cT]
    (first | refine zah ?_ ?_ | refine zag ?_ ?_) <;> intro g4 <;> (try simp only [nrm] at g4) <;> simp -dsimp [g4,hr,g1,g2,g3,hlt,hs0,eSo,cSo,eArs,cT]
    · rw [hA,if_neg g4]
    rw [hA,if_pos g4]
    have hd:a.dom.length≤12:=by omega
    refine zaj a.dom.length (fun j st=>st.s 2 = .d (.int .i64 i)∧st.s 4 = .ptr 4 1 0∧st.h 4=⟨1,.box [.d (.bool true),.d (.int .i64 a.ty.kind),.d (.int .i64 a.ty.num),.d (.sl 3 (a.ty.kids.map eT)),.d (.sl 3 (a.dom.map eT)),.d (.int .i64 a.sort),.d (.sl 3 (a.idx.map eT))] false⟩ ∧
      st.s 7 = .d (.int .i64 j) ∧ ∀ (k:Nat) (hk:k<a.dom.length),k<j→inM a.dom[k] (w64 (i+k))=true) ?_ ?_
    · simp -dsimp [hr]
    · rintro j ⟨s,hp⟩ hj ⟨f1,f2,f3,f4,f7⟩
      dsimp only at f1 f2 f3 f4
      rcases ybm j a.dom.length with hlt | hge
      · have w1:IntKind.i64.wrap ((j:Int)+1)=(j:Int)+1:=zad (by omega) (by omega)
        have w2:IntKind.i64.wrap (i+(j:Int))=i+(j:Int):=zad (by omega) (by omega)
        have w3:w64 (i+(j:Int))=i+(j:Int):=w2
        simp -dsimp [f1,f2,f3,f4,hlt,cT,w2]
        refine zaa (zmq a.dom[j] _ (by omega)) ?_
        simp -dsimp [f1,f2,f3,f4,hlt]
        (first | refine zah ?_ ?_ | refine zag ?_ ?_) <;> intro h6 <;> (try simp only [nrm] at h6) <;> simp -dsimp [h6,f1,f2,f3,f4,hlt,w1]
        · have:domM i a.dom=false:=zm8 (p:=fun j t=>inM t (w64 (i+j))) hlt (by rw [w3]; exact h6)
          simp [this]
        · exact zhx (p:=fun j t=>inM t (w64 (i+j))) hlt f7 (by rw [w3]; exact h6)
      · have e:j=a.dom.length:=by omega
        subst e
        have hD:domM i a.dom=true:=zmw f7
        have w2:IntKind.i64.wrap (i+(a.dom.length:Int))=i+(a.dom.length:Int):=zad (by omega) (by omega)
        have w3:w64 (i+(a.dom.length:Int))=i+(a.dom.length:Int):=w2
        rw [hD,Bool.true_and]
        simp -dsimp [f1,f2,f3,f4]
        clear f4 f7 hj
        refine zaj a.idx.length (fun j st=>st.s 2 = .d (.int .i64 i)∧st.s 4 = .ptr 4 1 0∧st.h 4=⟨1,.box [.d (.bool true),.d (.int .i64 a.ty.kind),.d (.int .i64 a.ty.num),.d (.sl 3 (a.ty.kids.map eT)),.d (.sl 3 (a.dom.map eT)),.d (.int .i64 a.sort),.d (.sl 3 (a.idx.map eT))] false⟩ ∧
          st.s 8 = .d (.int .i64 j) ∧ ∀ (k:Nat) (hk:k<a.idx.length),k<j→inM a.idx[k] (i+a.dom.length)=true) ?_ ?_
        · simp -dsimp [f1,f2,f3]
        · clear f1 f2 f3 s hp
          rintro j ⟨s,hp⟩ hj ⟨f1,f2,f3,f4,f7⟩
          dsimp only at f1 f2 f3 f4
          rcases ybm j a.idx.length with hlt | hge
          · have w1:IntKind.i64.wrap ((j:Int)+1)=(j:Int)+1:=zad (by omega) (by omega)
            simp -dsimp [f1,f2,f3,f4,hlt,cT,w2]
            refine zaa (zmq a.idx[j] _ (by omega)) ?_
            simp -dsimp [f1,f2,f3,f4,hlt]
            (first | refine zah ?_ ?_ | refine zag ?_ ?_) <;> intro h6 <;> (try simp only [nrm] at h6) <;> simp -dsimp [h6,f1,f2,f3,f4,hlt,w1]
            · rw [allM,w3]
              have:(a.idx.any fun t=>!inM t (i+a.dom.length))=true:=zt2 hlt (by simp [h6])
              rw [this]; rfl
            · exact zmh (p:=fun t=>inM t (i+a.dom.length)) hlt f7 h6
          · have e:j=a.idx.length:=by omega
            subst e
            have hI:allM a.idx (w64 (i+a.dom.length))=true:=by
              rw [allM,w3]
              have:=zsr (p:=fun t=>inM t (i+a.dom.length)) f7
              rw [yck] at this
              exact this
            simp -dsimp [f1,f2,f3,f4,hI]
theorem zI2 (b:Bl) (c:Co):Pure Tryz.prog zhe [eBl b,.agg (cCo c)] [.bool (conM b c)]:=by
  refine zq2 rfl fun hs=>?_
  have hi:((c.idx.length:Int))≤9223372036854775807:=by
    have:=hs (.agg (cCo c)) (by simp)
    simp -dsimp [cCo,cT,eTs,eArs,small] at this
    omega
  have hbl:((b.sorts.length:Int))≤9223372036854775807:=by
    have:=hs (eBl b) (by simp)
    simp -dsimp [eBl,cBl,eSos,small] at this
    omega
  have wS:IntKind.i64.wrap ((b.sorts.length:Int) - 1)=(b.sorts.length:Int) - 1:=zad (by omega) (by omega)
  simp -dsimp [zg2,eBl,cBl,eSos,eCos,cCo,cT,eTs,eArs,wS]
  refine zaa (zt7 c.sort 0 _) ?_
  simp -dsimp
  (first | refine zah ?_ ?_ | refine zag ?_ ?_) <;> intro g1 <;> (try simp only [nrm] at g1) <;> simp -dsimp [g1]
  · have h5:=(zoc _ _ _).1 g1
    by_cases h6:c.sort<0
    · simp -dsimp [conM,h6]
    · have h7:b.sorts[c.sort.toNat]? = none:=ybB (by omega)
      simp -dsimp [conM,h6,h7]
  have h5:=(zb1 _ _ _).1 g1
  have hlt:c.sort.toNat<b.sorts.length:=by omega
  have hs0:0≤c.sort:=h5.1
  have hA:conM b c=if rowM b c.args then if (c.idx.length:Int)=(b.sorts[c.sort.toNat].idx.length:Int) then if allM c.idx c.args.length then zgy b.sorts[c.sort.toNat].dec c.dec c.args.length else false else false else false:=by
    have:¬c.sort<0:=by omega
    simp [conM,hlt,this]
  (first | refine zah ?_ ?_ | refine zag ?_ ?_) <;> intro g2 <;> (try simp only [nrm] at g2) <;> simp -dsimp [g2,g1]
  · rw [hA,rowM,if_pos g2]; rfl
  simp -dsimp [g1,g2,hlt,hs0,eSo,cSo,eArs,cT]
  (first | refine zah ?_ ?_ | refine zag ?_ ?_) <;> intro g3 <;> (try simp only [nrm] at g3) <;> simp -dsimp [g3,g1,g2]
  · rw [hA,if_neg g3]
    split <;> rfl
  have hal:c.args.length≤12:=by omega
  rw [if_pos g3] at hA
  have hR:rowM b c.args=allI (fun i a=>argM b a i) 0 c.args:=by rw [rowM,if_neg g2]
  rw [hA]
  refine zaj c.args.length (fun i st=>st.s 2 = .ptr 2 1 0∧st.h 2=⟨1,.box [.d (.sl 6 (b.sorts.map eSo)),.d (.sl 6 (b.cons.map eCo)),.d (.int .i64 b.elim)] false⟩ ∧
    st.s 3 = .ptr 3 1 0∧st.h 3=⟨1,.box [.d (.int .i64 c.sort),.d (.sl 7 (c.args.map eAr)),.d (.sl 3 (c.idx.map eT)),.d (.int .i64 c.dec.kind),.d (.int .i64 c.dec.num),.d (.sl 3 (c.dec.kids.map eT))] false⟩ ∧
    st.s 5 = .d (.int .i64 i) ∧ ∀ (j:Nat) (hj:j<c.args.length),j<i→argM b c.args[j] j=true) ?_ ?_
  · simp -dsimp
  · rintro i ⟨s,hp⟩ hi ⟨f1,f2,f3,f4,f5,f7⟩
    dsimp only at f1 f2 f3 f4 f5
    rcases ybm i c.args.length with hlt' | hge
    · have w1:IntKind.i64.wrap ((i:Int)+1)=(i:Int)+1:=zad (by omega) (by omega)
      simp -dsimp [f1,f2,f3,f4,f5,hlt',eAr,cAr,cT,eTs]
      refine zaa (zCw b c.args[i] i (by omega) (by omega)) ?_
      simp -dsimp [f1,f2,f3,f4,f5,hlt']
      (first | refine zah ?_ ?_ | refine zag ?_ ?_) <;> intro h6 <;> (try simp only [nrm] at h6) <;> simp -dsimp [h6,f1,f2,f3,f4,f5,hlt',w1]
      · intro h
        rw [hR,zm8 (p:=fun i a=>argM b a i) hlt' h6] at h
        cases h
      · exact zhx (p:=fun i a=>argM b a i) hlt' f7 h6
    · have e:i=c.args.length:=by omega
      subst e
      have hD:rowM b c.args=true:=by rw [hR]; exact zmw (p:=fun i a=>argM b a i) f7
      rw [if_pos hD]
      simp -dsimp [f1,f2,f3,f4,f5]
      clear f5 f7 hi
      refine zaj c.idx.length (fun i st=>st.s 2 = .ptr 2 1 0∧st.h 2=⟨1,.box [.d (.sl 6 (b.sorts.map eSo)),.d (.sl 6 (b.cons.map eCo)),.d (.int .i64 b.elim)] false⟩ ∧
        st.s 3 = .ptr 3 1 0∧st.h 3=⟨1,.box [.d (.int .i64 c.sort),.d (.sl 7 (c.args.map eAr)),.d (.sl 3 (c.idx.map eT)),.d (.int .i64 c.dec.kind),.d (.int .i64 c.dec.num),.d (.sl 3 (c.dec.kids.map eT))] false⟩ ∧
        st.s 6 = .d (.int .i64 i) ∧ ∀ (j:Nat) (hj:j<c.idx.length),j<i→inM c.idx[j] c.args.length=true) ?_ ?_
      · simp -dsimp [f1,f2,f3,f4]
      · clear f1 f2 f3 f4 s hp
        rintro i ⟨s,hp⟩ hi ⟨f1,f2,f3,f4,f5,f7⟩
        dsimp only at f1 f2 f3 f4 f5
        rcases ybm i c.idx.length with hlt' | hge
        · have w1:IntKind.i64.wrap ((i:Int)+1)=(i:Int)+1:=zad (by omega) (by omega)
          simp -dsimp [f1,f2,f3,f4,f5,hlt',cT]
          refine zaa (zmq c.idx[i] _ (by omega)) ?_
          simp -dsimp [f1,f2,f3,f4,f5,hlt']
          (first | refine zah ?_ ?_ | refine zag ?_ ?_) <;> intro h6 <;> (try simp only [nrm] at h6) <;> simp -dsimp [h6,f1,f2,f3,f4,f5,hlt',w1]
          · intro h
            have:(c.idx.any fun t=>!inM t c.args.length)=true:=zt2 hlt' (by simp [h6])
            rw [allM,this] at h
            cases h
          · exact zmh (p:=fun t=>inM t c.args.length) hlt' f7 h6
        · have e:i=c.idx.length:=by omega
          subst e
          have hI:allM c.idx c.args.length=true:=by
            rw [allM]
            have:=zsr (p:=fun t=>inM t c.args.length) f7
            rw [yck] at this
            exact this
          rw [if_pos hI]
          simp -dsimp [f1,f2,f3,f4,f5,hlt,hs0,eSo,cSo,eArs,cT]
          (first | refine zah ?_ ?_ | refine zag ?_ ?_) <;> intro g6 <;> (try simp only [nrm] at g6) <;> simp -dsimp [g6,f1,f2,f3,f4,f5,zgy]
          · refine zaa (zmq c.dec _ (by omega)) ?_
            simp -dsimp [f1,f2,f3,f4,f5,zgy,g6]
          · refine zaa (zwj c.dec) ?_
            simp -dsimp [f1,f2,f3,f4,f5,zgy,g6]
theorem zdn (b:Bl):zct b=0 ↔ 1≤b.sorts.length∧b.sorts.length≤4∧b.cons.length≤8∧zk9 b.elim=true∧(∀ (j:Nat) (hj:j<b.sorts.length),zhc b j b.sorts[j]=true) ∧ ∀ c ∈ b.cons,conM b c=true:=by
  have ha:allI (fun k s=>zhc b k s) 0 b.sorts=true ↔ ∀ (j:Nat) (hj:j<b.sorts.length),zhc b j b.sorts[j]=true:=by
    rw [zs1]
    simp
  rw [zct]
  by_cases h1:(b.sorts.length:Int)<1
  · rw [if_pos h1]
    constructor
    · intro h; simp at h
    · rintro ⟨h,_⟩; omega
  rw [if_neg h1]
  by_cases h2:4<(b.sorts.length:Int)
  · rw [if_pos h2]
    constructor
    · intro h; simp at h
    · rintro ⟨_,h,_⟩; omega
  rw [if_neg h2]
  by_cases h3:8<(b.cons.length:Int)
  · rw [if_pos h3]
    constructor
    · intro h; simp at h
    · rintro ⟨_,_,h,_⟩; omega
  rw [if_neg h3,← ha]
  cases hl:zk9 b.elim with
  | false=>simp
  | true =>
    cases hs:allI (fun k s=>zhc b k s) 0 b.sorts with
    | false=>simp
    | true =>
      have hc:(b.cons.any fun c=>!conM b c)=false ↔ ∀ c ∈ b.cons,conM b c=true:=by
        rw [ycg]
        simp
      cases hq:b.cons.any fun c=>!conM b c with
      | false =>
        simp only [hq] at hc ⊢
        simp only [if_true]
        exact ⟨fun _=>⟨by omega,by omega,by omega,trivial,trivial,hc.1 trivial⟩,fun _=>rfl⟩
      | true =>
        simp only [hq] at hc ⊢
        simp only [if_true]
        constructor
        · intro h; simp at h
        · rintro ⟨_,_,_,_,_,h⟩
          exact absurd (hc.2 h) (by simp)
def zj6 (b:Bl):Bool:=decide (zct b=0)
theorem zxq (n:Int):zk9 n=inB n 0 6:=rfl
theorem zeo (b:Bl) (k:Nat) (s:So):zhc b k s=true ↔ rowM b s.idx=true∧zk9 s.level=true∧zgy s.dec s.dty s.idx.length=true ∧ ∀ a ∈ s.idx,zgz k s a=false:=by
  rw [zhc]
  cases rowM b s.idx <;> cases zk9 s.level <;> cases zgy s.dec s.dty s.idx.length <;> simp
theorem zfd {b:Bl} {k:Nat} {s:So} {p:Prop} (hn:¬p) (h:zhc b k s=true→p):zhc b k s=false:=by
  cases hq:zhc b k s with
  | false=>rfl
  | true=>exact absurd (h hq) hn
theorem zva {α:Type} {p:α→Bool} {l:List α} {i:Nat} (hi:i<l.length) (h:∀ (j:Nat) (hj:j<l.length),j<i→p l[j]=false) (hx:p l[i]=false) :
    ∀ (j:Nat) (hj:j<l.length),j<i+1→p l[j]=false:=by
  intro j hj hji
  rcases ybm j i with h' | h'
  · exact h j hj h'
  · have:j=i:=by omega
    subst this
    exact hx
def bad0 (k:Int) (a:Ar):Bool:=if a.rc then if 0<(a.dom.length:Int) then true else decide (k≤a.sort) else false
theorem zHw {l:List Ar} {j:Nat} (h:j<l.length):(l.take (j+1)).any (·.rc)=((l.take j).any (·.rc) || l[j].rc):=by
  rw [zcd (yar h),List.any_append]
  simp
theorem zu7 {k:Int} {s:So} {a:Ar} (h:bad0 k a=false) (hd:a.rc=true→s.dec=false):zgz k s a=false:=by
  rw [bad0] at h
  rw [zgz]
  cases hr:a.rc with
  | false=>rfl
  | true =>
    simp only [hr,if_true] at h ⊢
    by_cases c:0<(a.dom.length:Int)
    · rw [if_pos c] at h; cases h
    · rw [if_neg c] at h ⊢
      have c2:¬k≤a.sort:=by simpa using h
      rw [if_neg c2]
      exact hd hr
theorem zFa (b:Bl):Pure Tryz.prog zfa [eBl b] [.bool (zj6 b)]:=by
  refine zom rfl fun hs=>?_
  have hbl:((b.sorts.length:Int))≤9223372036854775807:=by
    have:=hs (eBl b) (by simp)
    simp -dsimp [eBl,cBl,eSos,small] at this
    omega
  have no:∀ {p:Prop},¬p→(zct b=0→p)→zj6 b=false:=fun hn hp=>by
    rw [zj6,decide_eq_false_iff_not]
    exact fun h=>hn (hp h)
  simp -dsimp [ze9,eBl,cBl,eSos,eCos]
  refine zaa (zt7 _ 1 4) ?_
  simp -dsimp
  (first | refine zah ?_ ?_ | refine zag ?_ ?_) <;> intro g1 <;> (try simp only [nrm] at g1) <;> simp -dsimp [g1]
  · refine no (p:=1≤b.sorts.length∧b.sorts.length≤4) ?_ fun h=>⟨((zdn b).1 h).1,((zdn b).1 h).2.1⟩
    have:=(zoc _ _ _).1 g1
    omega
  (first | refine zah ?_ ?_ | refine zag ?_ ?_) <;> intro g2 <;> (try simp only [nrm] at g2) <;> simp -dsimp [g2,g1]
  · exact no (p:=b.cons.length≤8) (by omega) fun h=>((zdn b).1 h).2.2.1
  refine zaa (zt7 b.elim 0 6) ?_
  simp -dsimp [g1,g2]
  (first | refine zah ?_ ?_ | refine zag ?_ ?_) <;> intro g3 <;> (try simp only [nrm] at g3) <;> simp -dsimp [g3,g1,g2]
  · exact no (p:=zk9 b.elim=true) (by rw [zxq,g3]; simp) fun h=>((zdn b).1 h).2.2.2.1
  have hS:=(zb1 _ _ _).1 g1
  have hSl:b.sorts.length≤4:=by omega
  have hCl:b.cons.length≤8:=by omega
  refine zaj b.sorts.length (fun i st=>st.s 1 = .ptr 1 1 0∧st.h 1=⟨1,.box [.d (.sl 6 (b.sorts.map eSo)),.d (.sl 6 (b.cons.map eCo)),.d (.int .i64 b.elim)] false⟩∧st.s 3 = .d (.int .i64 i) ∧
    ∀ (j:Nat) (hj:j<b.sorts.length),j<i→zhc b j b.sorts[j]=true) ?_ ?_
  · simp -dsimp
  · rintro i ⟨s,hp⟩ hi ⟨f1,f2,f3,f4⟩
    dsimp only at f1 f2 f3
    rcases ybm i b.sorts.length with hlt | hge
    · have w1:IntKind.i64.wrap ((i:Int)+1)=(i:Int)+1:=zad (by omega) (by omega)
      simp -dsimp [f1,f2,f3,hlt,eSo,cSo,cT,eArs]
      have noS:zhc b i b.sorts[i]=false→zj6 b=false:=fun hx =>
        no (p:=zhc b i b.sorts[i]=true) (by rw [hx]; simp) fun h=>((zdn b).1 h).2.2.2.2.1 i hlt
      have hR:¬12<(b.sorts[i].idx.length:Int)→rowM b b.sorts[i].idx=allI (fun i a=>argM b a i) 0 b.sorts[i].idx:=fun h=>by rw [rowM,if_neg h]
      generalize hsi:b.sorts[i]=s at noS hR ⊢
      (first | refine zah ?_ ?_ | refine zag ?_ ?_) <;> intro g4 <;> (try simp only [nrm] at g4) <;> simp -dsimp [g4,f1,f2,f3,hlt]
      · exact noS (zfd (p:=rowM b s.idx=true) (by rw [rowM,if_pos g4]; simp) fun h=>((zeo b i s).1 h).1)
      refine zaa (zt7 s.level 0 6) ?_
      simp -dsimp [g4]
      (first | refine zah ?_ ?_ | refine zag ?_ ?_) <;> intro g5 <;> (try simp only [nrm] at g5) <;> simp -dsimp [g5,f1,f2,f3,hlt,g4]
      · exact noS (zfd (p:=zk9 s.level=true) (by rw [zxq,g5]; simp) fun h=>((zeo b i s).1 h).2.1)
      replace hR:=hR g4
      have hsl:s.idx.length≤12:=by omega
      generalize (hp 4).ver+1=v
      refine zaj s.idx.length (fun j st=>st.s 1 = .ptr 1 1 0∧st.h 1=⟨1,.box [.d (.sl 6 (b.sorts.map eSo)),.d (.sl 6 (b.cons.map eCo)),.d (.int .i64 b.elim)] false⟩∧st.s 3 = .d (.int .i64 i) ∧
        st.s 4 = .ptr 4 v 0∧st.h 4=⟨v,.box [.d (.sl 7 (s.idx.map eAr)),.d (.int .i64 s.level),.d (.bool s.dec),.d (.int .i64 s.dty.kind),.d (.int .i64 s.dty.num),.d (.sl 3 (s.dty.kids.map eT))] false⟩ ∧
        st.s 6 = .d (.int .i64 j)∧st.s 5 = .d (.bool ((s.idx.take j).any (·.rc)))∧(∀ (k:Nat) (hk:k<s.idx.length),k<j→argM b s.idx[k] k=true) ∧ ∀ (k:Nat) (hk:k<s.idx.length),k<j→bad0 i s.idx[k]=false) ?_ ?_
      · simp -dsimp [f1,f2,f3]
      · clear f1 f2 f3 hp
        rintro j ⟨s',hp⟩ hj ⟨e1,e2,e3,e4,e5,e6,e7,e8,e9⟩
        dsimp only at e1 e2 e3 e4 e5 e6 e7
        rcases ybm j s.idx.length with hlt' | hge
        · have w2:IntKind.i64.wrap ((j:Int)+1)=(j:Int)+1:=zad (by omega) (by omega)
          simp -dsimp [e1,e2,e3,e4,e5,e6,e7,hlt',eAr,cAr,cT,eTs]
          refine zaa (zCw b s.idx[j] j (by omega) (by omega)) ?_
          simp -dsimp [e1,e2,e3,e4,e5,e6,e7,hlt',eAr,cAr,cT,eTs]
          (first | refine zah ?_ ?_ | refine zag ?_ ?_) <;> intro c1 <;> (try simp only [nrm] at c1) <;> simp -dsimp [c1,e1,e2,e3,e4,e5,e6,e7,hlt',eAr,cAr,cT,eTs]
          · refine noS (zfd (p:=rowM b s.idx=true) ?_ fun h=>((zeo b i s).1 h).1)
            rw [hR,zm8 (p:=fun i a=>argM b a i) hlt' c1]
            simp
          have hany:=zHw hlt'
          have hbad:bad0 i s.idx[j]=true→zj6 b=false:=fun hb=>by
            refine noS (zfd (p:=zgz i s s.idx[j]=false) ?_ fun h=>((zeo b i s).1 h).2.2.2 _ (yaf _))
            rw [bad0] at hb
            rw [zgz]
            cases hr:s.idx[j].rc with
            | false=>simp [hr] at hb
            | true =>
              simp only [hr,if_true] at hb ⊢
              by_cases c2:0<(s.idx[j].dom.length:Int)
              · rw [if_pos c2]; simp
              · rw [if_neg c2] at hb
                have c3:(i:Int)≤s.idx[j].sort:=by simpa using hb
                rw [if_neg c2,if_pos c3]; simp
          generalize (s.idx.take j).any (·.rc)=R at e7 hany
          cases hr:s.idx[j].rc with
          | false =>
            rw [hr] at hany
            have hb0:bad0 i s.idx[j]=false:=by simp [bad0,hr]
            cases R <;> simp -dsimp [e1,e2,e3,e4,e5,e6,e7,hlt',eAr,cAr,cT,eTs,hr,hany,w2,c1] <;> exact ⟨zhx (p:=fun i a=>argM b a i) hlt' e8 c1,zva hlt' e9 hb0⟩
          | true =>
            rw [hr] at hany
            simp -dsimp [e1,e2,e3,e4,e5,e6,e7,hlt',eAr,cAr,cT,eTs,hr,hany,w2,c1]
            (first | refine zah ?_ ?_ | refine zag ?_ ?_) <;> intro c2 <;> (try simp only [nrm] at c2) <;> simp -dsimp [c2,e1,e2,e3,e4,e5,e6,e7,hlt',eAr,cAr,cT,eTs,hr,hany,w2,c1]
            · exact hbad (by simp only [bad0,hr,if_true]; rw [if_pos (by omega)])
            (first | refine zah ?_ ?_ | refine zag ?_ ?_) <;> intro c3 <;> (try simp only [nrm] at c3) <;> simp -dsimp [c3,e1,e2,e3,e4,e5,e6,e7,hlt',eAr,cAr,cT,eTs,hr,hany,w2,c1,c2]
            · exact hbad (by simp only [bad0,hr,if_true]; rw [if_neg (by omega)]; simpa using c3)
            have hb0:bad0 i s.idx[j]=false:=by
              simp only [bad0,hr,if_true]
              rw [if_neg (by omega)]
              simp
              omega
            cases R <;> simp -dsimp [e1,e2,e3,e4,e5,e6,e7,hlt',eAr,cAr,cT,eTs,hr,hany,w2,c1,c2,c3] <;> exact ⟨zhx (p:=fun i a=>argM b a i) hlt' e8 c1,zva hlt' e9 hb0⟩
        · have e:j=s.idx.length:=by omega
          subst e
          rw [ycf] at e7
          have hRow:rowM b s.idx=true:=by rw [hR]; exact zmw (p:=fun i a=>argM b a i) e8
          have hLev:zk9 s.level=true:=g5
          have hbads:∀ a ∈ s.idx,bad0 i a=false:=fun a ha=>by
            obtain ⟨k,hk,rfl⟩:=ycO.1 ha
            exact e9 k hk hk
          have next:zhc b i s=true → ∀ (k:Nat) (hk:k<b.sorts.length),k<i+1→zhc b k b.sorts[k]=true:=fun h=>zhx (p:=fun k s=>zhc b k s) hlt f4 (by rw [hsi]; exact h)
          simp -dsimp [e1,e2,e3,e4,e5,e6,e7]
          cases hd:s.dec with
          | false =>
            simp -dsimp [e1,e2,e3,e4,e5,e6,e7,hd]
            refine zaa (zwj s.dty) ?_
            simp -dsimp [e1,e2,e3,e4,e5,e6,e7,hd]
            (first | refine zah ?_ ?_ | refine zag ?_ ?_) <;> intro c4 <;> (try simp only [nrm] at c4) <;> simp -dsimp [c4,e1,e2,e3,e4,e5,e6,e7,hd,w1]
            · exact noS (zfd (p:=zgy s.dec s.dty s.idx.length=true) (by rw [zgy,hd]; simp [c4]) fun h=>((zeo b i s).1 h).2.2.1)
            · exact ⟨hlt,next ((zeo b i s).2 ⟨hRow,hLev,by rw [zgy,hd]; exact c4,fun a ha=>zu7 (hbads a ha) fun _=>hd⟩)⟩
          | true =>
            cases hrec:s.idx.any (·.rc) with
            | true =>
              rw [hrec] at e7
              simp -dsimp [e1,e2,e3,e4,e5,e6,e7,hd]
              obtain ⟨a,ha,har⟩:=List.any_eq_true.1 hrec
              refine noS (zfd (p:=zgz i s a=false) ?_ fun h=>((zeo b i s).1 h).2.2.2 a ha)
              have har:a.rc=true:=har
              simp [zgz,har,hd]
            | false =>
              rw [hrec] at e7
              simp -dsimp [e1,e2,e3,e4,e5,e6,e7,hd]
              refine zaa (zmq s.dty _ (by omega)) ?_
              simp -dsimp [e1,e2,e3,e4,e5,e6,e7,hd]
              (first | refine zah ?_ ?_ | refine zag ?_ ?_) <;> intro c4 <;> (try simp only [nrm] at c4) <;> simp -dsimp [c4,e1,e2,e3,e4,e5,e6,e7,hd,w1]
              · exact noS (zfd (p:=zgy s.dec s.dty s.idx.length=true) (by rw [zgy,hd]; simp [c4]) fun h=>((zeo b i s).1 h).2.2.1)
              · exact ⟨hlt,next ((zeo b i s).2 ⟨hRow,hLev,by rw [zgy,hd]; exact c4,fun a ha=>zu7 (hbads a ha) fun har=>absurd har (by simpa using ycg.1 hrec a ha)⟩)⟩
    · have e:i=b.sorts.length:=by omega
      subst e
      simp -dsimp [f1,f2,f3]
      clear f3 hi
      refine zaj b.cons.length (fun i st=>st.s 1 = .ptr 1 1 0∧st.h 1=⟨1,.box [.d (.sl 6 (b.sorts.map eSo)),.d (.sl 6 (b.cons.map eCo)),.d (.int .i64 b.elim)] false⟩∧st.s 7 = .d (.int .i64 i) ∧
        ∀ (j:Nat) (hj:j<b.cons.length),j<i→conM b b.cons[j]=true) ?_ ?_
      · simp -dsimp [f1,f2]
      · clear f1 f2 s hp
        rintro i ⟨s,hp⟩ hi ⟨f1,f2,f3,f5⟩
        dsimp only at f1 f2 f3
        rcases ybm i b.cons.length with hlt | hge
        · have w1:IntKind.i64.wrap ((i:Int)+1)=(i:Int)+1:=zad (by omega) (by omega)
          simp -dsimp [f1,f2,f3,hlt,eCo,cCo,cT,eArs,eTs]
          refine zaa (zI2 b b.cons[i]) ?_
          simp -dsimp [f1,f2,f3,hlt]
          (first | refine zah ?_ ?_ | refine zag ?_ ?_) <;> intro h6 <;> (try simp only [nrm] at h6) <;> simp -dsimp [h6,f1,f2,f3,hlt,w1]
          · exact no (p:=conM b b.cons[i]=true) (by rw [h6]; simp) fun h=>((zdn b).1 h).2.2.2.2.2 _ (yaf _)
          · exact zmh (p:=conM b) hlt f5 h6
        · have e:i=b.cons.length:=by omega
          subst e
          have hAll:zj6 b=true:=by
            rw [zj6,decide_eq_true_eq,zdn]
            refine ⟨by omega,by omega,hCl,g3,fun j hj=>f4 j hj hj,fun c hc=>?_⟩
            obtain ⟨k,hk,rfl⟩:=ycO.1 hc
            exact f5 k hk hk
          simp -dsimp [f1,f2,f3,hAll]
end
section
attribute [local simp] zaf zai tk tn tks zde zee
theorem zJs (b:Bl):Pure Tryz.prog zdr [eBl b] [.int .i64 b.sorts.length]:=by
  refine zsh rfl fun hs=>?_
  simp -dsimp [zh7,eBl,cBl,eSos,eCos]
theorem zF4 {l:List So} {i:Nat} (h:l.length≤i):decs (l.take i)=decs l:=by rw [yce h]
theorem zFy (b:Bl) (k:Int):Pure Tryz.prog zga [eBl b,.int .i64 k] [.int .i64 (decs (b.sorts.take k.toNat))]:=by
  refine zqe rfl fun hs=>?_
  have hbl:((b.sorts.length:Int))≤9223372036854775807:=by
    have:=hs (eBl b) (by simp)
    simp -dsimp [eBl,cBl,eSos,small] at this
    omega
  simp -dsimp [zgo,eBl,cBl,eSos,eCos]
  have hl:=zF4 (l:=b.sorts) (i:=k.toNat)
  refine zaj (min k.toNat b.sorts.length) (fun i st=>st.s 1 = .d (.int .i64 k)∧st.s 2 = .ptr 2 1 0∧st.h 2=⟨1,.box [.d (.sl 6 (b.sorts.map eSo)),.d (.sl 6 (b.cons.map eCo)),.d (.int .i64 b.elim)] false⟩ ∧
    st.s 6 = .d (.int .i64 i)∧st.s 5 = .d (.int .i64 (decs (b.sorts.take i)))) ?_ ?_
  · simp -dsimp [decs]
  · rintro i ⟨s,hp⟩ hi ⟨g1,g2,g3,g4,g5⟩
    dsimp only at g1 g2 g3 g4 g5
    rcases ybm i (min k.toNat b.sorts.length) with hlt | hge
    · have hlt1:(i:Int)<k:=by omega
      have hlt2:i<b.sorts.length:=by omega
      have hlt3:i<k.toNat:=by omega
      have w1:IntKind.i64.wrap ((i:Int)+1)=(i:Int)+1:=zad (by omega) (by omega)
      have hd:=zw3 (b.sorts.take i)
      rw [yaE] at hd
      have w2:IntKind.i64.wrap ((decs (b.sorts.take i):Int)+1)=(decs (b.sorts.take i):Int)+1:=zad (by omega) (by omega)
      have hsn:=zyr b.sorts i b.sorts[i] (yar hlt2)
      simp -dsimp [g1,g2,g3,g4,g5,hlt1,hlt2,eSo,cSo,cT,eArs]
      cases hxd:b.sorts[i].dec <;> simp -dsimp [hlt,hxd,g1,g2,g3,g4,g5,hlt1,hlt2,hlt3,w1,w2,hsn]
    · have e:i=min k.toNat b.sorts.length:=by omega
      rcases ybm k.toNat b.sorts.length with c | c
      · have e2:i=k.toNat:=by omega
        have n1:¬(max k 0<k):=by omega
        clear e
        subst e2
        simp -dsimp [g1,g2,g3,g4,g5,n1]
      · have e2:i=b.sorts.length:=by omega
        rw [hl c]
        clear e
        subst e2
        rw [ycf] at g5
        simp -dsimp [g1,g2,g3,g4,g5]
        (first | refine zah ?_ ?_ | refine zag ?_ ?_) <;> intro n1 <;> (try simp only [nrm] at n1) <;> simp -dsimp [n1,g1,g2,g3,g4,g5]
theorem zus (b:Bl) (hf:Fit b) (base k:Int):Pure Tryz.prog zdd [eBl b,.int .i64 base,.int .i64 k] [.int .i64 (zbe b base k)]:=by
  refine zj7 rfl fun hs=>?_
  have hfs:=hf.s
  have hfc:=hf.c
  have hd:=zw3 b.sorts
  simp -dsimp [zdb,eBl,cBl,eSos,eCos]
  refine zaa (zt7 base 0 65535) ?_
  simp -dsimp
  (first | refine zah ?_ ?_ | refine zag ?_ ?_) <;> intro g1 <;> (try simp only [nrm] at g1) <;> simp -dsimp [g1]
  · have h5:=(zoc _ _ _).1 g1
    rw [zbe,ziw,if_pos (by omega)]
  refine zaa (zJs b) ?_
  have wS:IntKind.i64.wrap ((b.sorts.length:Int) - 1)=(b.sorts.length:Int) - 1:=zad (by omega) (by omega)
  simp -dsimp [g1,wS]
  refine zaa (zt7 k 0 _) ?_
  simp -dsimp [g1]
  have h5:=(zb1 _ _ _).1 g1
  rw [zw5 hf h5.1 h5.2]
  (first | refine zah ?_ ?_ | refine zag ?_ ?_) <;> intro g2 <;> (try simp only [nrm] at g2) <;> simp -dsimp [g2,g1]
  · have h6:=(zoc _ _ _).1 g2
    intros
    omega
  have h6:=(zb1 _ _ _).1 g2
  rw [if_pos (by omega)]
  refine zaa (zJs b) ?_
  simp -dsimp
  refine zaa (zJs b) ?_
  simp -dsimp
  refine zaa (zFy b b.sorts.length) ?_
  simp -dsimp
  rw [zad (n:=base+(b.sorts.length:Int)) (by omega) (by omega),zad (n:=base+(b.sorts.length:Int)+decs b.sorts) (by omega) (by omega),zad (n:=base+(b.sorts.length:Int)+decs b.sorts+b.cons.length) (by omega) (by omega),zad (by omega) (by omega)]
  omega
end
section
attribute [local simp] zaf zai tk tn tks zde zee
end
section
attribute [local simp] zaf zai tk tn tks zde zee
theorem zCo (b:Bl):zct b=if zj6 b then 0 else 12:=by
  rw [zj6]
  by_cases h:zct b=0
  · simp [h]
  · have:zct b=12:=by
      rw [zct] at h ⊢
      repeat' split
      all_goals first | rfl | (exfalso; apply h; simp_all)
    simp [this]
end
end
section
theorem zim (l:List So):(AV.d (eSos l)).one=true:=rfl
theorem zi4 (l:List Co):(AV.d (eCos l)).one=true:=rfl
theorem ziy (l:List Ar):(AV.d (eArs l)).one=true:=rfl
theorem zlq (l:List T):(AV.d (eTs l)).one=true:=rfl
attribute [local simp] zaf zai tk tn tks zim zi4 ziy zlq
structure FineAr (a:Ar):Prop where
  ty:zac a.ty≤9000
  domL:a.dom.length≤60
  dom:(a.dom.map zac).sum≤9000
  idxL:a.idx.length≤60
  idx:(a.idx.map zac).sum≤9000
def zzx (l:List Ar):Prop:=l.length≤20 ∧ ∀ a ∈ l,FineAr a
structure FineSo (s:So):Prop where
  idx:zzx s.idx
  dty:zac s.dty≤9000
structure FineCo (c:Co):Prop where
  args:zzx c.args
  idxL:c.idx.length≤60
  idx:(c.idx.map zac).sum≤9000
  dec:zac c.dec≤9000
structure FineBl (b:Bl):Prop where
  s:b.sorts.length≤10
  c:b.cons.length≤20
  sorts:∀ s ∈ b.sorts,FineSo s
  cons:∀ c ∈ b.cons,FineCo c
theorem zy2 {xs:List D} {x:D} (h:x ∈ xs):bulk x≤(xs.map bulk).sum:=zf4 (ybb.2 ⟨x,h,rfl⟩)
theorem ztf {t:T} (hb:zac t≤1048576) (h:zc8 [t]=false):zac t≤9000:=by
  have:=(zk1 (l:=[t]) (by simpa using hb) h).2.2
  simpa using this
theorem zJ4 {a:Ar} (hb:bulk (eAr a)≤1048576) (h:pArg a=false):FineAr a:=by
  have e:bulk (eAr a)=1+bulk (.agg (cT a.ty))+(bulk (eTs a.dom)+(1+bulk (eTs a.idx))):=by
    simp only [eAr,cAr,bulk,yaV,ycI,yca,ycP,ycG,ycQ,ycv,cT,eTs,ycu]
    omega
  simp only [pArg,ycx] at h
  have h1:=ztx a.ty
  have h2:=zm6 a.dom
  have h3:=zm6 a.idx
  obtain ⟨d1,_,d2⟩:=zk1 (l:=a.dom) (by omega) h.1.2
  obtain ⟨i1,_,i2⟩:=zk1 (l:=a.idx) (by omega) h.2
  exact ⟨ztf (by omega) h.1.1,d1,d2,i1,i2⟩
theorem zAz {l:List Ar} (hb:bulk (eArs l)≤1048576) (h:zgu l=false):zzx l:=by
  simp only [zgu,ycx,decide_eq_false_iff_not] at h
  refine ⟨by omega,fun a ha=>zJ4 ?_ ?_⟩
  · have:=zy2 (ybb.2 ⟨a,ha,rfl⟩:eAr a ∈ l.map eAr)
    simp only [eArs,bulk] at hb
    omega
  · have:=ycg.1 h.2 a ha
    simpa using this
theorem zIz {b:Bl} (hb:bulk (eBl b)≤1048576) (h:zho b=false):FineBl b:=by
  have hf:=zId h
  have e:bulk (eBl b)=bulk (eSos b.sorts)+(bulk (eCos b.cons)+1):=by simp [eBl,cBl,bulk]
  simp only [zho,ycx] at h
  refine ⟨hf.s,hf.c,fun s hs=>?_,fun c hc=>?_⟩
  · have h1:=zy2 (ybb.2 ⟨s,hs,rfl⟩:eSo s ∈ b.sorts.map eSo)
    have h2:bulk (eSos b.sorts)=((b.sorts.map eSo).map bulk).sum+1:=by simp [eSos,bulk]
    have h3:bulk (eSo s)=bulk (eArs s.idx)+(1+(1+bulk (.agg (cT s.dty)))):=by
      simp only [eSo,cSo,bulk,yaV,ycI,yca,ycP,ycG,ycQ,cT]
      omega
    have hp:=ycg.1 h.1.2 s hs
    simp only [pSo,ycR,ycx] at hp
    have h4:=ztx s.dty
    exact ⟨zAz (by omega) hp.1,ztf (by omega) hp.2⟩
  · have h1:=zy2 (ybb.2 ⟨c,hc,rfl⟩:eCo c ∈ b.cons.map eCo)
    have h2:bulk (eCos b.cons)=((b.cons.map eCo).map bulk).sum+1:=by simp [eCos,bulk]
    have h3:bulk (eCo c)=1+(bulk (eArs c.args)+(bulk (eTs c.idx)+bulk (.agg (cT c.dec)))):=by
      simp only [eCo,cCo,bulk,yaV,ycI,yca,ycP,ycG,ycQ,cT]
      omega
    have hp:=ycg.1 h.2 c hc
    simp only [pCo,ycR,ycx] at hp
    have h4:=ztx c.dec
    have h5:=zm6 c.idx
    obtain ⟨i1,_,i2⟩:=zk1 (l:=c.idx) (by omega) hp.1.2
    exact ⟨zAz (by omega) hp.1.1,i1,i2,ztf (by omega) hp.2⟩
theorem tc_ok (n:Int):Pure Tryz.prog zwu [.int .i64 n] [.agg (cT (.mk 3 n []))]:=by
  refine zG8 rfl fun hs=>?_
  simp -dsimp [zwr,cT]
def tC (n:Int):T:=.mk 3 n []
theorem zur (a c k m:Int):n64 (ziw a c k m):=by
  rw [ziw]
  split
  · exact ⟨by omega,by omega⟩
  · have:=zJ5 (w64 (a+c)+k)
    simp only [w64,n64] at this ⊢
    omega
end
section
attribute [local simp] zaf zai tk tn tks zim zi4 ziy zlq
theorem zp2 {t:T}:zab t=true→okT t:=by
  refine T.ind (p:=fun t=>zab t=true→okT t) ?_ t
  intro k n ks ih h
  have hk:=za9 h
  have hs:=zvq _ h
  have hl:=hs.kids.1
  have h1:=h
  rw [za5] at h1
  have hkb:0≤k∧k≤13:=by
    split at h1
    · rename_i hl'
      have:¬ zdw k<0:=by omega
      rw [zdw] at this
      by_cases hi:isM k=true
      · simp only [isM,ybJ,decide_eq_true_eq] at hi
        omega
      · repeat' split at this
        all_goals omega
    · cases h1
  have hnb:n64 n:=by
    split at h1
    · split at h1
      · rw [ybJ] at h1
        have:=(zb1 n 0 65535).1 h1.1
        exact ⟨by omega,by omega⟩
      · split at h1
        · rename_i h0
          subst h0
          exact ⟨by omega,by omega⟩
        · cases h1
    · cases h1
  exact .mk k n ks ⟨by omega,by omega⟩ hnb (by omega) fun x hx=>ih x hx (hk x hx)
def zty (t:T):T:=if zam t=0 then t else zT
theorem zKw (n:Nat) (h:n≤60):Pure Tryz.prog zkd [.int .i64 n] [eTs (zdp n)]:=by
  have h1:=zKr n
  have hV:zwa n=zdp n:=by
    rw [zwa]
    split
    · have:n=0:=by omega
      subst this
      rfl
    · rfl
  rw [hV] at h1
  exact h1
theorem zm7 (n:Nat) (h:n≤60):okTs (zdp n):=⟨by rw [zmg]; omega,fun x hx=>by
  obtain ⟨q,hq,rfl⟩:=zDq hx
  exact zjn (by omega) (by omega)⟩
end
section
attribute [local simp] zaf zai tk tn tks zim zi4 ziy zlq
end
section
attribute [local simp] zaf zai tk tn tks zim zi4 ziy zlq
theorem zsn:okTs []:=⟨by simp,by simp⟩
theorem zJ3:okBl natB:=by
  have hz:okT zT:=zjn (by omega) (by omega)
  have hr:okAr (recA 0 []):=⟨hz,zsn,⟨by decide,by decide⟩,zsn⟩
  refine ⟨by decide,fun s hs=>?_,by decide,fun c hc=>?_,⟨by decide,by decide⟩⟩
  · simp only [natB,ybw] at hs
    subst hs
    exact ⟨⟨by simp,by simp⟩,⟨by decide,by decide⟩,hz⟩
  · simp only [natB,yaZ,ycD,or_false] at hc
    rcases hc with rfl | rfl
    · exact ⟨⟨by decide,by decide⟩,⟨by simp,by simp⟩,zsn,hz⟩
    · exact ⟨⟨by decide,by decide⟩,⟨by simp,fun x hx=>by simp at hx; subst hx; exact hr⟩,zsn,hz⟩
theorem zCx:FineBl natB:=by
  have hz:zac zT≤9000:=by rw [zT,zcs]; omega
  have hr:FineAr (recA 0 []):=⟨hz,by simp [recA],by simp [recA],by simp [recA],by simp [recA]⟩
  refine ⟨by decide,by decide,fun s hs=>?_,fun c hc=>?_⟩
  · simp only [natB,ybw] at hs
    subst hs
    exact ⟨⟨by simp,by simp⟩,hz⟩
  · simp only [natB,yaZ,ycD,or_false] at hc
    rcases hc with rfl | rfl
    · exact ⟨⟨by simp,by simp⟩,by simp,by simp,hz⟩
    · exact ⟨⟨by simp,fun x hx=>by simp at hx; subst hx; exact hr⟩,by simp,by simp,hz⟩
theorem zCq {b:Bl}:zj6 b=true ↔ zct b=0:=by simp [zj6]
end
section
section
attribute [local simp] zaf zai tk tn tks zde zee zim zi4 ziy zlq
def fst2 (e x:Int):Int:=if e=0 then x else e
def errs (e:Int) (l:List Int):Int:=l.foldl fst2 e
theorem zvn (e:Int):errs e []=e:=rfl
theorem zi6 (e:Int) (l:List Int) (x:Int):errs e (l ++ [x])=fst2 (errs e l) x:=by simp [errs,ycd]
theorem zg0 (e:Int) (l m:List Int):errs e (l ++ m)=errs (errs e l) m:=by simp [errs,ycd]
def mH (v:Nat) (e:Int):Nat→Ent:=fun _=>⟨v,.box [.d (.int .i64 e)] false⟩
theorem zLi {f:FuncId} {fn:Func} {x:XFn} (hf:Tryz.prog.funcs[f]? = some fn) (hx:cfn Tryz.prog fn=some x) {aa:List AV} {v:Nat} {e e':Int} {rs:List D} (hl:aa.length=x.np)
    (hw:∀ (h:Nat→Ent),h 21=⟨v,.box [.d (.int .i64 e)] false⟩→(∀ d,AV.d d ∈ aa→small 8 d)→wpX Tryz.prog x.code (zee x.res rs [21] (mH v e')) ⟨zde aa,h⟩):MutC Tryz.prog f aa [21] (mH v e) rs (mH v e') :=
  zAy hm hf hx hl (fun k hk c hc=>by simp [mH] at hc; subst hc; exact .d _) fun G h w vs hk hlen hr=>hw h (hk 21 (by simp)) fun d hd=>by
    obtain ⟨j,hj⟩:=ybD.1 hd
    exact zso (hr j _ hj)
theorem zNm {f:FuncId} {fn:Func} {x:XFn} (hf:Tryz.prog.funcs[f]? = some fn) (hx:cfn Tryz.prog fn=some x) {aa:List AV} {v:Nat} {e e':Int} {rs:List RV} (hl:aa.length=x.np)
    (hw:∀ (h:Nat→Ent),h 21=⟨v,.box [.d (.int .i64 e)] false⟩→(∀ d,AV.d d ∈ aa→small 8 d)→wpX Tryz.prog x.code (zFb x.res rs [21] (mH v e')) ⟨zde aa,h⟩):MutO Tryz.prog f aa [21] (mH v e) rs (mH v e') :=
  zKp hm hf hx hl (fun k hk c hc=>by simp [mH] at hc; subst hc; exact .d _) fun G h w vs hk hlen hr=>zw2 (fun e st h=>zEx e st h) _ _ (hw h (hk 21 (by simp)) fun d hd=>by
    obtain ⟨j,hj⟩:=ybD.1 hd
    exact zso (hr j _ hj))
theorem zx4 (v:Nat) (e x:Int) (t:T):MutC Tryz.prog zdu [.ptr 21 v 0,.d (.agg (cT t)),.d (.int .i64 x)] [21] (mH v e) [.agg (cT t)] (mH v (fst2 e x)):=by
  refine zLi Tryz.func186 zr9 rfl fun h hh hs=>?_
  simp -dsimp [zk8,cT,hh]
  (first | refine zah ?_ ?_ | refine zag ?_ ?_) <;> intro h1 <;> (try simp only [nrm] at h1) <;> simp -dsimp [h1,hh,mH,fst2]
def upsT (l:List T) (y:Int):List T:=l.map (za4 · y 0)
def upsE (l:List T) (y:Int):List Int:=l.map (zbi · y 0)
theorem zFg (v:Nat) (e y:Int) (l:List T) (hl:∀ x ∈ l,zac x≤1048576) (hn:l.length≤1048576):MutO Tryz.prog zdm [.ptr 21 v 0,.d (eTs l),.d (.int .i64 y)] [21] (mH v e) [.one (.row 3 ((upsT l y).map eT) false)] (mH v (errs e (upsE l y))):=by
  refine zNm Tryz.func187 zin rfl fun h hh hs=>?_
  simp -dsimp [zfm,eTs,hh]
  refine zaj l.length (fun i st=>st.s 0 = .ptr 21 v 0∧st.s 2 = .d (.int .i64 y)∧st.s 10 = .d (.sl 3 (l.map eT))∧st.s 11 = .d (.int .i64 l.length)∧st.s 12 = .d (.int .i64 i)∧(∃ q,st.s 7 = .rsl 7 q∧st.h 7=⟨q,.row 3 (((upsT l y).map eT).take i) false⟩)∧st.h 21=⟨v,.box [.d (.int .i64 (errs e ((upsE l y).take i)))] false⟩) ?_ ?_
  · simp -dsimp [hh,zvn]
  · rintro i ⟨s,hp⟩ hi ⟨g1,g2,g3,g4,g5,⟨q,g6,g7⟩,g8⟩
    dsimp only at g1 g2 g3 g4 g5 g6 g7 g8
    rcases ybm i l.length with hlt | hge
    · have w1:IntKind.i64.wrap ((i:Int)+1)=(i:Int)+1:=zad (by omega) (by omega)
      have hS:=zwl l[i] y 0 (hl _ (yaf _))
      have hr:(min i l.length+1)*40≤zae:=by simp only [zae]; omega
      simp only [cT] at hS
      simp -dsimp [g1,g2,g3,g4,g5,g6,g7,g8,hlt,cT]
      refine zaa hS ?_
      simp -dsimp [g1,g2,g3,g4,g5,g6,g7,g8,hlt,cT]
      have hG:=zx4 v (errs e ((upsE l y).take i)) (zbi l[i] y 0) (za4 l[i] y 0)
      simp only [cT] at hG
      refine zdo hG ?_ ?_
      · simp -dsimp [mH,g8]
      · have h1:((upsT l y).map eT).take i ++ [eT (za4 l[i] y 0)]=((upsT l y).map eT).take (i+1):=by
          rw [ycc,yau,upsT,yau,yar hlt]; rfl
        have h2:fst2 (errs e ((upsE l y).take i)) (zbi l[i] y 0)=errs e ((upsE l y).take (i+1)):=by
          rw [ycc,upsE,yau,yar hlt,← zi6]; rfl
        have hu:(upsT l y).length=l.length:=by simp [upsT]
        simp only [zb4,cT] at h1
        simp -dsimp [za8,zbm,mH,g1,g2,g3,g4,g5,g6,g7,g8,hlt,cT,hr,w1,hu,h1,h2]
    · have e:i=l.length:=by omega
      subst e
      have hu:(upsE l y).length=l.length:=by simp [upsE]
      have hv:((upsT l y).map eT).length=l.length:=by simp [upsT]
      simp -dsimp [g1,g2,g3,g4,g5,g6,g7,g8,mH]
      exact ⟨yce (by omega),by rw [yce (by omega)]⟩
theorem zCd (v:Nat) (e y:Int) (l:List T) (hl:∀ x ∈ l,zac x≤1048576) (hn:l.length≤1048576):MutC Tryz.prog zdm [.ptr 21 v 0,.d (eTs l),.d (.int .i64 y)] [21] (mH v e) [eTs (upsT l y)] (mH v (errs e (upsE l y))):=by
  refine zLi Tryz.func187 zin rfl fun h hh hs=>?_
  simp -dsimp [zfm,eTs,hh]
  refine zaj l.length (fun i st=>st.s 0 = .ptr 21 v 0∧st.s 2 = .d (.int .i64 y)∧st.s 10 = .d (.sl 3 (l.map eT))∧st.s 11 = .d (.int .i64 l.length)∧st.s 12 = .d (.int .i64 i)∧(∃ q,st.s 7 = .rsl 7 q∧st.h 7=⟨q,.row 3 (((upsT l y).map eT).take i) false⟩)∧st.h 21=⟨v,.box [.d (.int .i64 (errs e ((upsE l y).take i)))] false⟩) ?_ ?_
  · simp -dsimp [hh,zvn]
  · rintro i ⟨s,hp⟩ hi ⟨g1,g2,g3,g4,g5,⟨q,g6,g7⟩,g8⟩
    dsimp only at g1 g2 g3 g4 g5 g6 g7 g8
    rcases ybm i l.length with hlt | hge
    · have w1:IntKind.i64.wrap ((i:Int)+1)=(i:Int)+1:=zad (by omega) (by omega)
      have hS:=zwl l[i] y 0 (hl _ (yaf _))
      have hr:(min i l.length+1)*40≤zae:=by simp only [zae]; omega
      simp only [cT] at hS
      simp -dsimp [g1,g2,g3,g4,g5,g6,g7,g8,hlt,cT]
      refine zaa hS ?_
      simp -dsimp [g1,g2,g3,g4,g5,g6,g7,g8,hlt,cT]
      have hG:=zx4 v (errs e ((upsE l y).take i)) (zbi l[i] y 0) (za4 l[i] y 0)
      simp only [cT] at hG
      refine zdo hG ?_ ?_
      · simp -dsimp [mH,g8]
      · have h1:((upsT l y).map eT).take i ++ [eT (za4 l[i] y 0)]=((upsT l y).map eT).take (i+1):=by
          rw [ycc,yau,upsT,yau,yar hlt]; rfl
        have h2:fst2 (errs e ((upsE l y).take i)) (zbi l[i] y 0)=errs e ((upsE l y).take (i+1)):=by
          rw [ycc,upsE,yau,yar hlt,← zi6]; rfl
        have hu:(upsT l y).length=l.length:=by simp [upsT]
        simp only [zb4,cT] at h1
        simp -dsimp [za8,zbm,mH,g1,g2,g3,g4,g5,g6,g7,g8,hlt,cT,hr,w1,hu,h1,h2]
    · have e:i=l.length:=by omega
      subst e
      have hu:(upsE l y).length=l.length:=by simp [upsE]
      have hv:((upsT l y).map eT).length=l.length:=by simp [upsT]
      simp -dsimp [g1,g2,g3,g4,g5,g6,g7,g8,mH]
      exact ⟨yce (by omega),by rw [yce (by omega)]⟩
theorem zH7:okT zT:=zjn (by omega) (by omega)
theorem zef {t:T} (y:Int) (hn:zac t≤1048576):okT (za4 t y 0):=by
  by_cases h:zbi t y 0=0
  · obtain ⟨_,hf,_⟩:=zy0 (by omega) h
    exact zp2 hf
  · rw [za4,if_neg h]
    exact zH7
theorem zmu {t:T} {l:List T} {u:Int} (hn:zac t≤1048576) (hl:∀ x ∈ l,zac x≤1048576):okT (zb0 t l u):=by
  by_cases h:zbh t l u=0
  · exact zp2 (zBq hn hl h).2.2
  · rw [zb0,if_neg h]
    exact zH7
def zhf (ahead l:List T):List T:=l.mapIdx fun j d=>zb0 d ahead j
def zml (ahead l:List T):List Int:=l.mapIdx fun j d=>zbh d ahead j
def zdt (ahead l:List T) (u:Int):List T:=l.map (zb0 · ahead u)
def zh8 (ahead l:List T) (u:Int):List Int:=l.map (zbh · ahead u)
def znp (b:Bl) (base:Int) (a:Ar) (mo me ahead:List T) (t:T):T:=zku 5 (zhf ahead a.dom) (spT (tC (zbe b base a.sort))
  (upsT mo a.dom.length ++ upsT me a.dom.length ++ zdt ahead a.idx a.dom.length ++ [spT (za4 t a.dom.length 0) (zdp a.dom.length)]))
def zpf (a:Ar) (mo me ahead:List T) (t:T):List Int:=zml ahead a.dom ++ upsE mo a.dom.length ++ upsE me a.dom.length ++ zh8 ahead a.idx a.dom.length ++ [zbi t a.dom.length 0]
theorem zA8 (b:Bl) (base:Int) (a:Ar) (oa:okAr a) (fa:FineAr a) (mo me ahead:List T) (t:T) (hmo:∀ x ∈ mo,zac x≤9000) (lmo:mo.length≤60) (hme:∀ x ∈ me,zac x≤9000) (lme:me.length≤60)
    (hah:∀ x ∈ ahead,zac x≤9000) (lah:ahead.length≤60) (ht:zac t≤9000) (v:Nat) (e:Int) :
    MutC Tryz.prog zjl [.ptr 21 v 0,.d (eBl b),.d (.int .i64 base),.d (eAr a),.d (eTs mo),.d (eTs me),.d (eTs ahead),.d (.agg (cT t))] [21] (mH v e) [.agg (cT (znp b base a mo me ahead t))] (mH v (errs e (zpf a mo me ahead t))):=by
  refine zLi Tryz.func150 zqu rfl fun h hh hs=>?_
  have hdl:=fa.domL
  have hil:=fa.idxL
  have hdn:∀ x ∈ a.dom,zac x≤9000:=fun x hx=>yac (zf4 (ybb.2 ⟨x,hx,rfl⟩)) fa.dom
  have hin:∀ x ∈ a.idx,zac x≤9000:=fun x hx=>yac (zf4 (ybb.2 ⟨x,hx,rfl⟩)) fa.idx
  have hah':∀ x ∈ ahead,zac x≤1048576:=fun x hx=>by have:=hah x hx; omega
  simp -dsimp [zje,eBl,cBl,eAr,cAr,cT,hh]
  simp -dsimp [eTs]
  refine zaj a.dom.length (fun i st=>st.s 0 = .ptr 21 v 0∧st.s 2 = .d (.int .i64 base)∧st.s 4 = .d (eTs mo)∧st.s 5 = .d (eTs me)∧st.s 6 = .d (eTs ahead)∧st.s 9 = .ptr 9 ((h 9).ver+1) 0∧st.s 11 = .ptr 11 ((h 11).ver+1) 0∧st.s 15 = .ptr 15 ((h 15).ver+1) 0∧st.s 16 = .ptr 16 ((h 16).ver+1) 0 ∧
    st.s 17 = .d (.int .i64 a.dom.length)∧st.s 28 = .d (eTs a.dom)∧st.s 29 = .d (.int .i64 a.dom.length)∧st.s 30 = .d (.int .i64 i) ∧
    st.h 9=⟨(h 9).ver+1,.box [.d (eSos b.sorts),.d (eCos b.cons),.d (.int .i64 b.elim)] false⟩ ∧
    st.h 11=⟨(h 11).ver+1,.box [.d (.bool a.rc),.d (.int .i64 a.ty.kind),.d (.int .i64 a.ty.num),.d (.sl 3 (a.ty.kids.map eT)),.d (eTs a.dom),.d (.int .i64 a.sort),.d (eTs a.idx)] false⟩ ∧
    st.h 15=⟨(h 15).ver+1,.box [.d (.int .i64 t.kind),.d (.int .i64 t.num),.d (.sl 3 (t.kids.map eT))] false⟩ ∧
    st.h 16=⟨(h 16).ver+1,.box [.d (.int .i64 0),.d (.int .i64 0),.fsl 3 []] false⟩ ∧
    (∃ q,st.s 18 = .rsl 18 q∧st.h 18=⟨q,.row 3 (((zhf ahead a.dom).map eT).take i) false⟩) ∧
    st.h 21=⟨v,.box [.d (.int .i64 (errs e ((zml ahead a.dom).take i)))] false⟩) ?_ ?_
  · simp -dsimp [hh,zvn,eTs]
  · rintro i ⟨s,hp⟩ hi ⟨g0,g2,g4,g5,g6,g9,g11,g15,g16,g17,g28,g29,g30,k9,k11,k15,k16,⟨q,g18,k18⟩,k21⟩
    dsimp only at g0 g2 g4 g5 g6 g9 g11 g15 g16 g17 g28 g29 g30 k9 k11 k15 k16 g18 k18 k21
    simp only [eTs] at g4 g5 g6 g28 k11
    rcases ybm i a.dom.length with hlt | hge
    · have w1:IntKind.i64.wrap ((i:Int)+1)=(i:Int)+1:=zad (by omega) (by omega)
      have hI:=zEd a.dom[i] ahead i (by have:=hdn _ (yaf hlt); omega) (fun x hx=>by have:=hah x hx; omega) (by omega)
      have hr:(min i a.dom.length+1)*40≤zae:=by simp only [zae]; omega
      simp only [cT,eTs] at hI
      simp -dsimp [g0,g2,g4,g5,g6,g9,g11,g15,g16,g17,g18,g28,g29,g30,k9,k11,k15,k16,k18,k21,hlt,cT]
      refine zaa hI ?_
      simp -dsimp [g0,g2,g4,g5,g6,g9,g11,g15,g16,g17,g18,g28,g29,g30,k9,k11,k15,k16,k18,k21,hlt,cT]
      have hG:=zx4 v (errs e ((zml ahead a.dom).take i)) (zbh a.dom[i] ahead i) (zb0 a.dom[i] ahead i)
      simp only [cT] at hG
      refine zdo hG ?_ ?_
      · simp -dsimp [mH,k21]
      · have hu:(zhf ahead a.dom).length=a.dom.length:=by simp [zhf]
        have h1:((zhf ahead a.dom).map eT).take i ++ [eT (zb0 a.dom[i] ahead i)]=((zhf ahead a.dom).map eT).take (i+1):=by
          rw [ycc,yau,zhf,ycS,yar hlt]; rfl
        have h2:fst2 (errs e ((zml ahead a.dom).take i)) (zbh a.dom[i] ahead i)=errs e ((zml ahead a.dom).take (i+1)):=by
          rw [ycc,zml,ycS,yar hlt,← zi6]; rfl
        simp only [zb4,cT] at h1
        simp -dsimp [za8,zbm,mH,g0,g2,g4,g5,g6,g9,g11,g15,g16,g17,g18,g28,g29,g30,k9,k11,k15,k16,k18,k21,hlt,cT,hr,w1,hu,h1,h2,eTs]
    · have e1:i=a.dom.length:=by omega
      subst e1
      have hu:(zhf ahead a.dom).length=a.dom.length:=by simp [zhf]
      have hv:(zml ahead a.dom).length=a.dom.length:=by simp [zml]
      rw [yce (by simp [hu])] at k18
      rw [yce (by omega)] at k21
      have hM:=zFg v (errs e (zml ahead a.dom)) a.dom.length mo (fun x hx=>by have:=hmo x hx; omega) (by omega)
      have hN:=zCd v (errs (errs e (zml ahead a.dom)) (upsE mo a.dom.length)) a.dom.length me (fun x hx=>by have:=hme x hx; omega) (by omega)
      rw [← zg0] at hM hN
      rw [← zg0] at hN
      simp only [eTs] at hM hN
      have lM:(upsT mo a.dom.length).length=mo.length:=by simp [upsT]
      have lN:(upsT me a.dom.length).length=me.length:=by simp [upsT]
      have hr0:(mo.length+me.length)*40≤zae:=by simp only [zae]; omega
      simp -dsimp [g0,g2,g4,g5,g6,g9,g11,g15,g16,g17,g18,g28,g29,g30,k9,k11,k15,k16,k18,k21]
      refine zDs hM (by simp [mH,k21]) (by simp [zas,zcw,RV.cells]) ?_
      simp -dsimp [za8,zbm,mH,g0,g2,g4,g5,g6,g9,g11,g15,g16,g17,g18,g28,g29,g30,k9,k11,k15,k16,k18,k21]
      refine zdo hN (by simp [mH,k21]) ?_
      simp -dsimp [za8,zbm,mH,g0,g2,g4,g5,g6,g9,g11,g15,g16,g17,g18,g28,g29,g30,k9,k11,k15,k16,k18,k21,lM,lN,hr0]
      have hpre:(upsT mo a.dom.length ++ upsT me a.dom.length).length=mo.length+me.length:=by simp [upsT]
      rw [← ycI]
      generalize hPre:upsT mo a.dom.length ++ upsT me a.dom.length=pre at *
      generalize hE0:zml ahead a.dom ++ upsE mo a.dom.length ++ upsE me a.dom.length=E0 at *
      have hoP:∀ x ∈ pre,okT x:=by
        intro x hx
        rw [← hPre,yaY] at hx
        rcases hx with hx | hx <;> (obtain ⟨y,hy,rfl⟩:=ybb.1 hx)
        · exact zef _ (by have:=hmo y hy; omega)
        · exact zef _ (by have:=hme y hy; omega)
      refine zaj a.idx.length (fun i st=>st.s 0 = .ptr 21 v 0∧st.s 2 = .d (.int .i64 base)∧st.s 6 = .d (eTs ahead)∧st.s 9 = .ptr 9 ((h 9).ver+1) 0∧st.s 11 = .ptr 11 ((h 11).ver+1) 0∧st.s 15 = .ptr 15 ((h 15).ver+1) 0∧st.s 16 = .ptr 16 ((h 16).ver+1) 0 ∧
        st.s 17 = .d (.int .i64 a.dom.length)∧st.s 57 = .d (eTs a.idx)∧st.s 58 = .d (.int .i64 a.idx.length)∧st.s 59 = .d (.int .i64 i) ∧
        st.h 9=⟨(h 9).ver+1,.box [.d (eSos b.sorts),.d (eCos b.cons),.d (.int .i64 b.elim)] false⟩ ∧
        st.h 11=⟨(h 11).ver+1,.box [.d (.bool a.rc),.d (.int .i64 a.ty.kind),.d (.int .i64 a.ty.num),.d (.sl 3 (a.ty.kids.map eT)),.d (eTs a.dom),.d (.int .i64 a.sort),.d (eTs a.idx)] false⟩ ∧
        st.h 15=⟨(h 15).ver+1,.box [.d (.int .i64 t.kind),.d (.int .i64 t.num),.d (.sl 3 (t.kids.map eT))] false⟩ ∧
        st.h 16=⟨(h 16).ver+1,.box [.d (.int .i64 0),.d (.int .i64 0),.fsl 3 []] false⟩ ∧
        st.s 18 = .rsl 18 q∧st.h 18=⟨q,.row 3 ((zhf ahead a.dom).map eT) false⟩ ∧
        (∃ q,st.s 21 = .rsl 50 q∧st.h 50=⟨q,.row 3 ((pre ++ (zdt ahead a.idx a.dom.length).take i).map eT) false⟩) ∧
        st.h 21=⟨v,.box [.d (.int .i64 (errs e (E0 ++ (zh8 ahead a.idx a.dom.length).take i)))] false⟩) ?_ ?_
      · simp -dsimp [eTs,g0,g2,g4,g5,g6,g9,g11,g15,g16,g17,g18,g28,g29,g30,k9,k11,k15,k16,k18,k21]
        rw [← hE0,ycT]
      · clear k9 k11 k15 k16 k18 k21 g0 g2 g4 g5 g6 g9 g11 g15 g16 g17 g18 g28 g29 g30 s hp
        rintro i ⟨s,hp⟩ hi ⟨g0,g2,g6,g9,g11,g15,g16,g17,g57,g58,g59,k9,k11,k15,k16,g18,k18,⟨q',g21,k50⟩,k21⟩
        dsimp only at g0 g2 g6 g9 g11 g15 g16 g17 g57 g58 g59 k9 k11 k15 k16 g18 k18 g21 k50 k21
        simp only [eTs] at g6 g57 k11
        have lI:(zdt ahead a.idx a.dom.length).length=a.idx.length:=by simp [zdt]
        have lE:(zh8 ahead a.idx a.dom.length).length=a.idx.length:=by simp [zh8]
        rcases ybm i a.idx.length with hlt | hge
        · have w1:IntKind.i64.wrap ((i:Int)+1)=(i:Int)+1:=zad (by omega) (by omega)
          have hI:=zEd a.idx[i] ahead a.dom.length (by have:=hin _ (yaf hlt); omega) (fun x hx=>by have:=hah x hx; omega) (by omega)
          have hr:(mo.length+me.length+min i a.idx.length+1)*40≤zae:=by simp only [zae]; omega
          simp only [cT,eTs] at hI
          simp -dsimp [g0,g2,g6,g9,g11,g15,g16,g17,g18,g21,g57,g58,g59,k9,k11,k15,k16,k18,k21,k50,hlt,cT]
          refine zaa hI ?_
          simp -dsimp [g0,g2,g6,g9,g11,g15,g16,g17,g18,g21,g57,g58,g59,k9,k11,k15,k16,k18,k21,k50,hlt,cT]
          have hG:=zx4 v (errs e (E0 ++ (zh8 ahead a.idx a.dom.length).take i)) (zbh a.idx[i] ahead a.dom.length) (zb0 a.idx[i] ahead a.dom.length)
          simp only [cT] at hG
          refine zdo hG ?_ ?_
          · simp -dsimp [mH,k21]
          · have h1:((zdt ahead a.idx a.dom.length).map eT).take i ++ [eT (zb0 a.idx[i] ahead a.dom.length)]=((zdt ahead a.idx a.dom.length).map eT).take (i+1):=by
              rw [ycc,yau,zdt,yau,yar hlt]; rfl
            have h2:fst2 (errs e (E0 ++ (zh8 ahead a.idx a.dom.length).take i)) (zbh a.idx[i] ahead a.dom.length)=errs e (E0 ++ (zh8 ahead a.idx a.dom.length).take (i+1)):=by
              rw [ycc,zh8,yau,yar hlt,← zi6]; simp
            simp only [zb4,cT] at h1
            simp -dsimp [za8,zbm,mH,g0,g2,g6,g9,g11,g15,g16,g17,g18,g21,g57,g58,g59,k9,k11,k15,k16,k18,k21,k50,hlt,cT,hr,w1,lI,hpre,h1,h2,eTs]
        · have e1:i=a.idx.length:=by omega
          subst e1
          rw [yce (by omega)] at k50 k21
          have hS:=zwl t a.dom.length 0 (by omega)
          have hG:=zx4 v (errs e (E0 ++ zh8 ahead a.idx a.dom.length)) (zbi t a.dom.length 0) (za4 t a.dom.length 0)
          have hV:=zKw a.dom.length (by omega)
          have oS:=zef a.dom.length (show zac t≤1048576 by omega)
          have hP:=zww (za4 t a.dom.length 0) (zdp a.dom.length) (by rw [zmg]; omega) oS (zm7 _ (by omega))
          have oP:=zr1 (zdp a.dom.length) _ oS (zm7 a.dom.length (by omega)).2
          have hEl:=zv6 b base a.sort
          have hC:=tc_ok (zbe b base a.sort)
          have oC:okT (tC (zbe b base a.sort)):=by
            have:=zur base (w64 (w64 (b.sorts.length+decs b.sorts)+b.cons.length)) a.sort b.sorts.length
            exact .mk _ _ _ ⟨by omega,by omega⟩ this (by simp) (by simp)
          have oI:∀ x ∈ zdt ahead a.idx a.dom.length,okT x:=fun x hx=>by
            obtain ⟨y,hy,rfl⟩:=ybb.1 hx
            exact zmu (by have:=hin y hy; omega) hah'
          have oD:∀ x ∈ zhf ahead a.dom,okT x:=fun x hx=>by
            obtain ⟨j,hj,rfl⟩:=ycU.1 hx
            exact zmu (by have:=hdn _ (yaf hj); omega) hah'
          have oL:∀ x ∈ pre ++ zdt ahead a.idx a.dom.length ++ [spT (za4 t a.dom.length 0) (zdp a.dom.length)],okT x:=by
            intro x hx
            simp only [yaY,ybw] at hx
            rcases hx with (hx | hx) | rfl
            · exact hoP x hx
            · exact oI x hx
            · exact oP
          have hQ:=zww (tC (zbe b base a.sort)) _ (by simp [hpre,lI]; omega) oC ⟨by simp [hpre,lI]; omega,oL⟩
          have oQ:=zr1 _ _ oC oL
          have hR:=zJx (zhf ahead a.dom) _ (by omega) oQ ⟨by rw [hu]; omega,oD⟩
          have hrm:(mo.length+me.length+a.idx.length+1)*40≤zae:=by simp only [zae]; omega
          have hT:znp b base a mo me ahead t=zku 5 (zhf ahead a.dom) (spT (tC (zbe b base a.sort)) (pre ++ zdt ahead a.idx a.dom.length ++ [spT (za4 t a.dom.length 0) (zdp a.dom.length)])):=by rw [znp,hPre]
          have hE:errs e (zpf a mo me ahead t)=fst2 (errs e (E0 ++ zh8 ahead a.idx a.dom.length)) (zbi t a.dom.length 0):=by rw [zpf,zi6,hE0]
          rw [hT,hE]
          rw [← hT] at hR ⊢
          simp only [eBl,cBl] at hEl
          simp only [cT,eTs] at hS hG hV hP hC hQ hR
          simp -dsimp [g0,g2,g6,g9,g11,g15,g16,g17,g18,g21,g57,g58,g59,k9,k11,k15,k16,k18,k21,k50]
          refine zaa hS ?_
          simp -dsimp [g0,g2,g6,g9,g11,g15,g16,g17,g18,g21,g57,g58,g59,k9,k11,k15,k16,k18,k21,k50]
          refine zdo hG (by simp -dsimp [mH,k21]) ?_
          simp -dsimp [za8,zbm,mH,g0,g2,g6,g9,g11,g15,g16,g17,g18,g21,g57,g58,g59,k9,k11,k15,k16,k18,k21,k50]
          refine zaa hV ?_
          simp -dsimp [g0,g2,g6,g9,g11,g15,g16,g17,g18,g21,g57,g58,g59,k9,k11,k15,k16,k18,k21,k50]
          refine zaa hP ?_
          simp -dsimp [g0,g2,g6,g9,g11,g15,g16,g17,g18,g21,g57,g58,g59,k9,k11,k15,k16,k18,k21,k50,hpre,lI,hrm]
          refine zaa hEl ?_
          simp -dsimp [g0,g2,g6,g9,g11,g15,g16,g17,g18,g21,g57,g58,g59,k9,k11,k15,k16,k18,k21,k50]
          refine zaa hC ?_
          simp -dsimp [g0,g2,g6,g9,g11,g15,g16,g17,g18,g21,g57,g58,g59,k9,k11,k15,k16,k18,k21,k50]
          simp only [tC,ycI,yaV,ycG,ycT,zb4,cT] at hQ hR
          refine zaa hQ ?_
          simp -dsimp [g0,g2,g6,g9,g11,g15,g16,g17,g18,g21,g57,g58,g59,k9,k11,k15,k16,k18,k21,k50]
          refine zaa hR ?_
          simp -dsimp [mH,g0,g2,g6,g9,g11,g15,g16,g17,g18,g21,g57,g58,g59,k9,k11,k15,k16,k18,k21,k50,cT]
theorem zE5 (b:Bl) (base:Int) (a:Ar) (fa:FineAr a) (mo me ahead:List T) (t:T) (hmo:∀ x ∈ mo,zac x≤9000) (hme:∀ x ∈ me,zac x≤9000) (hah:∀ x ∈ ahead,zac x≤9000) (ht:zac t≤9000):okT (znp b base a mo me ahead t):=by
  have hdl:=fa.domL
  have hdn:∀ x ∈ a.dom,zac x≤9000:=fun x hx=>yac (zf4 (ybb.2 ⟨x,hx,rfl⟩)) fa.dom
  have hin:∀ x ∈ a.idx,zac x≤9000:=fun x hx=>yac (zf4 (ybb.2 ⟨x,hx,rfl⟩)) fa.idx
  have hah':∀ x ∈ ahead,zac x≤1048576:=fun x hx=>by have:=hah x hx; omega
  refine zBb (by omega) _ (zr1 _ _ ?_ fun x hx=>?_) _ fun x hx=>?_
  · have:=zur base (w64 (w64 (b.sorts.length+decs b.sorts)+b.cons.length)) a.sort b.sorts.length
    exact .mk _ _ _ ⟨by omega,by omega⟩ this (by simp) (by simp)
  · simp only [yaY,ybw] at hx
    rcases hx with ((hx | hx) | hx) | rfl
    · obtain ⟨y,hy,rfl⟩:=ybb.1 hx
      exact zef _ (by have:=hmo y hy; omega)
    · obtain ⟨y,hy,rfl⟩:=ybb.1 hx
      exact zef _ (by have:=hme y hy; omega)
    · obtain ⟨y,hy,rfl⟩:=ybb.1 hx
      exact zmu (by have:=hin y hy; omega) hah'
    · exact zr1 _ _ (zef _ (by omega)) (zm7 a.dom.length (by omega)).2
  · obtain ⟨j,hj,rfl⟩:=ycU.1 hx
    exact zmu (by have:=hdn _ (yaf hj); omega) hah'
def mkL (b:Bl) (base:Int) (ars:List Ar) (mo me args:List T):Nat→Int × List T
  | 0=>(0,[])
  | n+1=>match ars[n]?,args[n]? with
    | some a,some t=>if a.rc=true∧(mkL b base ars mo me args n).1=0 then (errs 0 (zpf a mo me (args.take n) t),(mkL b base ars mo me args n).2 ++ [t,znp b base a mo me (args.take n) t]) else ((mkL b base ars mo me args n).1,(mkL b base ars mo me args n).2 ++ [t])
    | _,_=>(0,[])
theorem zpc {b:Bl} {base:Int} {ars:List Ar} {mo me args:List T} {n:Nat} {a:Ar} {t:T} (ha:ars[n]? = some a) (ht:args[n]? = some t):mkL b base ars mo me args (n+1) =
    if a.rc=true∧(mkL b base ars mo me args n).1=0 then (errs 0 (zpf a mo me (args.take n) t),(mkL b base ars mo me args n).2 ++ [t,znp b base a mo me (args.take n) t]) else ((mkL b base ars mo me args n).1,(mkL b base ars mo me args n).2 ++ [t]):=by
  rw [mkL,ha,ht]
theorem zAb (b:Bl) (base:Int) (ars:List Ar) (mo me args:List T) (n:Nat):(mkL b base ars mo me args n).2.length≤2*n:=by
  induction n with
  | zero=>simp [mkL]
  | succ n ih =>
    rw [mkL]
    split
    · split
      · simp; omega
      · simp; omega
    · simp
theorem zzg (b:Bl) (base:Int) (ars:List Ar) (mo me args:List T) (fas:∀ a ∈ ars,FineAr a) (hmo:∀ x ∈ mo,zac x≤9000) (hme:∀ x ∈ me,zac x≤9000) (har:∀ x ∈ args,zac x≤9000) (oar:∀ x ∈ args,okT x) (n:Nat):∀ x ∈ (mkL b base ars mo me args n).2,okT x:=by
  induction n with
  | zero=>simp [mkL]
  | succ n ih =>
    rw [mkL]
    split
    · rename_i a t ha ht
      have htm:=yas ht
      split
      · intro x hx
        simp only [yaY,yaZ,ycD,or_false] at hx
        rcases hx with hx | rfl | rfl
        · exact ih x hx
        · exact oar _ htm
        · exact zE5 b base a (fas a (yas ha)) mo me _ t hmo hme (fun x hx=>har x (ycV hx)) (har t htm)
      · intro x hx
        simp only [yaY,ybw] at hx
        rcases hx with hx | rfl
        · exact ih x hx
        · exact oar _ htm
    · simp
def zih (b:Bl) (base:Int) (co:Co) (m:T) (mo me args:List T):Int :=
  if (mkL b base co.args mo me args co.args.length).1=0 then zam (spT m (mkL b base co.args mo me args co.args.length).2) else (mkL b base co.args mo me args co.args.length).1
def zib (b:Bl) (base:Int) (co:Co) (m:T) (mo me args:List T):T:=if zih b base co m mo me args=0 then spT m (mkL b base co.args mo me args co.args.length).2 else zT
theorem zKs (b:Bl) (fb:FineBl b) (ob:okBl b) (base:Int) (c:Nat) (co:Co) (hc:b.cons[c]? = some co) (mo me args:List T) (m:T) (hm:me[c]? = some m) (hmo:∀ x ∈ mo,zac x≤9000) (lmo:mo.length≤60) (hme:∀ x ∈ me,zac x≤9000) (lme:me.length≤60)
    (har:∀ x ∈ args,zac x≤9000) (lar:args.length=co.args.length) (ome:∀ x ∈ me,okT x) (oar:∀ x ∈ args,okT x) :
    Pure Tryz.prog zkr [eBl b,.int .i64 base,.int .i64 c,eTs mo,eTs me,eTs args] [.agg (cT (zib b base co m mo me args)),.int .i64 (zih b base co m mo me args)]:=by
  refine zyz rfl fun hs=>?_
  have fco:=fb.cons co (yas hc)
  have oco:=ob.cons co (yas hc)
  have hl20:=fco.args.1
  have hcl:=fb.c
  have hclt:=(yae.1 hc).1
  obtain ⟨as1,as2⟩:co.args.length≤20∧args.length≤20:=⟨by omega,by omega⟩
  simp -dsimp [zkj,eBl,cBl]
  simp -dsimp [hc,eCos,eCo,cCo,eArs]
  refine zaj co.args.length (fun i st=>st.s 1 = .d (.int .i64 base)∧st.s 2 = .d (.int .i64 c)∧st.s 3 = .d (eTs mo)∧st.s 4 = .d (eTs me)∧st.s 5 = .d (eTs args)∧st.s 6 = .ptr 6 1 0∧st.s 12 = .ptr 12 1 0∧st.s 14 = .ptr 21 1 0 ∧
    st.s 27 = .d (eArs co.args)∧st.s 28 = .d (.int .i64 co.args.length)∧st.s 29 = .d (.int .i64 i) ∧
    st.h 6=⟨1,.box [.d (eSos b.sorts),.d (eCos b.cons),.d (.int .i64 b.elim)] false⟩ ∧
    st.h 12=⟨1,.box [.d (.int .i64 0),.d (.int .i64 0),.fsl 3 []] false⟩ ∧
    (∃ q,st.s 15 = .rsl 15 q∧st.h 15=⟨q,.row 3 ((mkL b base co.args mo me args i).2.map eT) false⟩) ∧
    st.h 21=⟨1,.box [.d (.int .i64 (mkL b base co.args mo me args i).1)] false⟩) ?_ ?_
  · simp -dsimp [mkL,eTs,eArs,eCos]
  · rintro i ⟨s,hp⟩ hi ⟨g1,g2,g3,g4,g5,g6,g12,g14,g27,g28,g29,k6,k12,⟨q,g15,k15⟩,k21⟩
    dsimp only at g1 g2 g3 g4 g5 g6 g12 g14 g27 g28 g29 k6 k12 g15 k15 k21
    simp only [eTs,eArs] at g3 g4 g5 g27
    have hln:=zAb b base co.args mo me args i
    rcases ybm i co.args.length with hlt | hge
    · have hlt2:i<args.length:=by omega
      have w1:IntKind.i64.wrap ((i:Int)+1)=(i:Int)+1:=zad (by omega) (by omega)
      have hn:=zpc (b:=b) (base:=base) (mo:=mo) (me:=me) (yar hlt) (yar hlt2)
      have hr:((mkL b base co.args mo me args i).2.length+1)*40≤zae:=by simp only [zae]; omega
      have hr2:((mkL b base co.args mo me args i).2.length+2)*40≤zae:=by simp only [zae]; omega
      generalize hL:mkL b base co.args mo me args i=L at *
      have fa:=fco.args.2 co.args[i] (yaf _)
      have oa:=oco.args.2 co.args[i] (yaf _)
      have htn:=har args[i] (yaf _)
      generalize hAe:co.args[i]=A at *
      generalize hX:args[i]=X at *
      simp -dsimp [g1,g2,g3,g4,g5,g6,g12,g14,g15,g27,g28,g29,k6,k12,k15,k21,hlt,hlt2,hX,hAe,hr,eAr,cAr,cT]
      cases hrc:A.rc with
      | false =>
        rw [hrc] at hn
        simp only [yao,false_and,if_false] at hn
        simp -dsimp [g1,g2,g3,g4,g5,g6,g12,g14,g15,g27,g28,g29,k6,k12,k15,k21,hlt,hlt2,hX,hAe,hr,hn,w1,eTs,eArs,zb4,cT]
      | true =>
        rw [hrc] at hn
        by_cases h0:L.1=0
        · simp only [h0,true_and,if_true] at hn
          have hI:=zA8 b base A oa fa mo me (args.take i) X hmo lmo hme lme (fun x hx=>har x (ycV hx)) (by rw [yaE]; omega) htn 1 0
          have hI:=zjx (pre:=[.ptr 21 1 0]) hI
          have hI:=zjx (pre:=[.ptr 21 1 0,.agg ((cBl b).map .d),.d (.int .i64 base)]) hI
          have hile:i≤args.length:=by omega
          have hEr:errs 0 []=0:=rfl
          simp only [cBl,cAr,eAr,cT,eTs,yaV,ycG,ycv,ycu,ycW,hrc] at hI
          have k21':(hp 21)=mH 1 0 21:=by rw [k21,h0]; rfl
          simp -dsimp [g1,g2,g3,g4,g5,g6,g12,g14,g15,g27,g28,g29,k6,k12,k15,k21,hlt,hlt2,hX,hAe,hr,h0,hile,eAr,cAr,cT,eTs]
          refine zdo hI (by simp -dsimp [mH,g1,g2,g3,g4,g5,g6,g12,g14,g15,g27,g28,g29,k6,k12,k15,k21,h0]) ?_
          simp -dsimp [za8,zbm,mH,g1,g2,g3,g4,g5,g6,g12,g14,g15,g27,g28,g29,k6,k12,k15,k21,hlt,hlt2,hX,hAe,hr,hr2,hn,h0,w1,eTs,eArs,zb4,cT]
        · simp only [h0,and_false,if_false] at hn
          simp -dsimp [g1,g2,g3,g4,g5,g6,g12,g14,g15,g27,g28,g29,k6,k12,k15,k21,hlt,hlt2,hX,hAe,hr,hn,h0,w1,eTs,eArs,zb4,cT]
    · have e1:i=co.args.length:=by omega
      subst e1
      generalize hL:mkL b base co.args mo me args co.args.length=L at *
      have hE:zih b base co m mo me args=if L.1=0 then zam (spT m L.2) else L.1:=by rw [zih,hL]
      have hT:zib b base co m mo me args=if zih b base co m mo me args=0 then spT m L.2 else zT:=by rw [zib,hL]
      by_cases h0:L.1=0
      · rw [if_pos h0] at hE
        have oL:∀ x ∈ L.2,okT x:=by rw [← hL]; exact zzg b base co.args mo me args fco.args.2 hmo hme har oar _
        have hS:=zww m L.2 (by omega) (ome m (yas hm)) ⟨by omega,oL⟩
        have hC:=zk2 (spT m L.2)
        generalize hZ:spT m L.2=Z at *
        simp only [cT,eTs] at hS hC
        simp -dsimp [g1,g2,g3,g4,g5,g6,g12,g14,g15,g27,g28,g29,k6,k12,k15,k21,h0]
        simp -dsimp [hm,zb4,cT,g1,g2,g3,g4,g5,g6,g12,g14,g15,g27,g28,g29,k6,k12,k15,k21]
        refine zaa hS ?_
        simp -dsimp [g1,g2,g3,g4,g5,g6,g12,g14,g15,g27,g28,g29,k6,k12,k15,k21]
        refine zaa hC ?_
        by_cases h1:zam Z=0
        · rw [h1] at hE
          rw [hE,if_pos rfl] at hT
          simp -dsimp [g1,g2,g3,g4,g5,g6,g12,g14,g15,g27,g28,g29,k6,k12,k15,k21,h1,hE,hT,cT]
        · rw [hE,if_neg h1] at hT
          simp -dsimp [g1,g2,g3,g4,g5,g6,g12,g14,g15,g27,g28,g29,k6,k12,k15,k21,h1,hE,hT,cT,zT]
      · rw [if_neg h0] at hE
        rw [hE,if_neg h0] at hT
        simp -dsimp [g1,g2,g3,g4,g5,g6,g12,g14,g15,g27,g28,g29,k6,k12,k15,k21,h0,hE,hT,zT,cT]
end
end
section
section
attribute [local simp] zaf zai tk tn tks zde zee zim zi4 ziy zlq
def zan:List T→Int
  | []=>0
  | t :: ts=>if zam t=0 then zan ts else zam t
theorem zen:∀ l m:List T,zan (l ++ m)=if zan l=0 then zan m else zan l
  | [],m=>by simp [zan]
  | t :: l,m=>by
    simp only [ycv,zan,zen l m]
    split <;> simp_all
theorem zk5:∀ {l:List T},zan l=0 ↔ ∀ t ∈ l,zam t=0
  | []=>by simp [zan]
  | t :: l=>by
    simp only [zan,yaZ,forall_eq_or_imp]
    rw [← zk5 (l:=l)]
    split <;> simp_all
theorem zul (rows:List (List T)) (hn:∀ r ∈ rows,r.length≤1000000) (hr:rows.length≤1000000):Pure Tryz.prog zjp [.sl 1 (rows.map eTs)] [.int .i64 (zan rows.flatten)]:=by
  refine zxk rfl fun hs=>?_
  simp -dsimp [zl2]
  refine zaj rows.length (fun i st=>st.s 8 = .d (.sl 1 (rows.map eTs))∧st.s 9 = .d (.int .i64 rows.length)∧st.s 10 = .d (.int .i64 i)∧zan (rows.take i).flatten=0) ?_ ?_
  · simp -dsimp [zan]
  · rintro i ⟨s,hp⟩ hi ⟨g1,g2,g3,g4⟩
    dsimp only at g1 g2 g3
    rcases ybm i rows.length with hlt | hge
    · have w1:IntKind.i64.wrap ((i:Int)+1)=(i:Int)+1:=zad (by omega) (by omega)
      have hd:rows=rows.take i ++ rows[i] :: rows.drop (i+1):=by rw [← ycX hlt,ycY]
      have ht:rows.take (i+1)=rows.take i ++ [rows[i]]:=by rw [ycc,yar hlt]; rfl
      have hl:=hn rows[i] (yaf _)
      generalize hR:rows[i]=R at *
      simp -dsimp [g1,g2,g3,hlt,hR,eTs]
      refine zaj R.length (fun j st=>st.s 8 = .d (.sl 1 (rows.map eTs))∧st.s 9 = .d (.int .i64 rows.length)∧st.s 10 = .d (.int .i64 i)∧st.s 14 = .d (eTs R)∧st.s 15 = .d (.int .i64 R.length)∧st.s 16 = .d (.int .i64 j)∧zan (R.take j)=0) ?_ ?_
      · simp -dsimp [g1,g2,g3,eTs,zan]
      · rintro j ⟨s,hp⟩ hj ⟨g1,g2,g3,g5,g6,g7,g8⟩
        dsimp only at g1 g2 g3 g5 g6 g7
        simp only [eTs] at g5
        rcases ybm j R.length with hlt2 | hge2
        · have w2:IntKind.i64.wrap ((j:Int)+1)=(j:Int)+1:=zad (by omega) (by omega)
          have hd2:R=R.take j ++ R[j] :: R.drop (j+1):=by rw [← ycX hlt2,ycY]
          have ht2:R.take (j+1)=R.take j ++ [R[j]]:=by rw [ycc,yar hlt2]; rfl
          have hC:=zk2 R[j]
          simp only [cT] at hC
          generalize hX:R[j]=X at *
          simp -dsimp [g1,g2,g3,g5,g6,g7,hlt2,hX,cT]
          refine zaa hC ?_
          by_cases h0:zam X=0
          · have hz:zan (R.take (j+1))=0:=by rw [ht2,zen,if_pos g8,zan,if_pos h0,zan]
            simp -dsimp [g1,g2,g3,g5,g6,g7,hlt2,hX,h0,w2,hz,eTs]
          · have hz:zan rows.flatten=zam X:=by
              rw [hd,ycZ,zen,if_pos g4,List.flatten_cons,zen,hd2,zen,if_pos g8,zan,if_neg h0,if_neg h0]
            simp -dsimp [g1,g2,g3,g5,g6,g7,hlt2,hX,h0,hz]
        · have e:j=R.length:=by omega
          subst e
          rw [ycf] at g8
          have hz:zan (rows.take (i+1)).flatten=0:=by rw [ht,ycZ,zen,if_pos g4]; simpa using g8
          simp -dsimp [g1,g2,g3,g5,g6,g7,w1,hz,hlt]
    · have e:i=rows.length:=by omega
      subst e
      rw [ycf] at g4
      simp -dsimp [g1,g2,g3,g4]
def zlc (b:Bl) (base c:Int) (co:Co) (mo me args:List T):Prop:=args.length=co.args.length∧mo.length=b.sorts.length∧me.length=b.cons.length∧0≤base∧base≤65535
instance (b:Bl) (base c:Int) (co:Co) (mo me args:List T):Decidable (zlc b base c co mo me args):=by unfold zlc; infer_instance
def zcc (b:Bl) (base c:Int) (mo me args:List T):Int:=if zct b=0 then
    if c<0 then 1 else match b.cons[c.toNat]? with
    | some co=>if zlc b base c co mo me args then if zan (mo ++ (me ++ args))=0 then zih b base co (me.getD c.toNat zT) mo me args else zan (mo ++ (me ++ args)) else 1
    | none=>1
  else zct b
def zdi (b:Bl) (base c:Int) (mo me args:List T):T:=if zcc b base c mo me args=0 then match b.cons[c.toNat]? with
    | some co=>zib b base co (me.getD c.toNat zT) mo me args
    | none=>zT else zT
theorem zKb (b:Bl) (fb:FineBl b) (ob:okBl b) (base c:Int) (mo me args:List T) (hmo:∀ x ∈ mo,zac x≤9000) (lmo:mo.length≤60) (hme:∀ x ∈ me,zac x≤9000) (lme:me.length≤60)
    (har:∀ x ∈ args,zac x≤9000) (lar:args.length≤60) (ome:∀ x ∈ me,okT x) (oar:∀ x ∈ args,okT x) :
    Pure Tryz.prog zi1 [eBl b,.int .i64 base,.int .i64 c,eTs mo,eTs me,eTs args] [.agg (cT (zdi b base c mo me args)),.int .i64 (zcc b base c mo me args)]:=by
  refine zzv rfl fun hs=>?_
  have hC:=zte b
  have hcl:=fb.c
  simp only [eBl,cBl] at hC
  simp -dsimp [zkx,eBl,cBl,eTs]
  refine zaa hC ?_
  by_cases hz:zct b=0
  case neg =>
    have hE:zcc b base c mo me args=zct b:=by rw [zcc,if_neg hz]
    have hT:zdi b base c mo me args=zT:=by rw [zdi,hE,if_neg hz]
    simp -dsimp [hz,hE,hT,zT,cT]
  simp -dsimp [hz]
  by_cases c0:c<0
  · have hE:zcc b base c mo me args=1:=by rw [zcc,if_pos hz,if_pos c0]
    have hT:zdi b base c mo me args=zT:=by rw [zdi,hE,if_neg (by omega)]
    simp -dsimp [hz,hE,hT,zT,cT,c0]
  cases hco:b.cons[c.toNat]? with
  | none =>
    have hge:=ybS.1 hco
    have c1:(b.cons.length:Int)≤c:=by omega
    have hE:zcc b base c mo me args=1:=by rw [zcc,if_pos hz,if_neg c0,hco]
    have hT:zdi b base c mo me args=zT:=by rw [zdi,hE,if_neg (by omega)]
    simp -dsimp [hz,hE,hT,zT,cT,c0,eCos,c1]
  | some co =>
    have hlt:=(yae.1 hco).1
    have c1:¬ (b.cons.length:Int)≤c:=by omega
    have c2:0≤c:=by omega
    have hE:zcc b base c mo me args=if zlc b base c co mo me args then if zan (mo ++ (me ++ args))=0 then zih b base co (me.getD c.toNat zT) mo me args else zan (mo ++ (me ++ args)) else 1:=by rw [zcc,if_pos hz,if_neg c0,hco]
    have hT:zdi b base c mo me args=if zcc b base c mo me args=0 then zib b base co (me.getD c.toNat zT) mo me args else zT:=by rw [zdi,hco]
    by_cases a1:(args.length:Int)=co.args.length
    case neg =>
      have hN:¬ zlc b base c co mo me args:=fun h=>by have:=h.1; omega
      rw [if_neg hN] at hE
      rw [hE,if_neg (by omega)] at hT
      simp -dsimp [c0,c1,c2,eCos,eSos,hco,eCo,cCo,eArs,a1,hE,hT,zT,cT]
    by_cases a2:(mo.length:Int)=b.sorts.length
    case neg =>
      have hN:¬ zlc b base c co mo me args:=fun h=>by have:=h.2.1; omega
      rw [if_neg hN] at hE
      rw [hE,if_neg (by omega)] at hT
      simp -dsimp [c0,c1,c2,eCos,eSos,hco,eCo,cCo,eArs,a1,a2,hE,hT,zT,cT]
    by_cases a3:(me.length:Int)=b.cons.length
    case neg =>
      have hN:¬ zlc b base c co mo me args:=fun h=>by have:=h.2.2.1; omega
      rw [if_neg hN] at hE
      rw [hE,if_neg (by omega)] at hT
      simp -dsimp [c0,c1,c2,eCos,eSos,hco,eCo,cCo,eArs,a1,a2,a3,hE,hT,zT,cT]
    by_cases a4:base<0
    · have hN:¬ zlc b base c co mo me args:=fun h=>by have:=h.2.2.2.1; omega
      rw [if_neg hN] at hE
      rw [hE,if_neg (by omega)] at hT
      simp -dsimp [c0,c1,c2,eCos,eSos,hco,eCo,cCo,eArs,a1,a2,a3,a4,hE,hT,zT,cT]
    by_cases a5:65535<base
    · have hN:¬ zlc b base c co mo me args:=fun h=>by have:=h.2.2.2.2; omega
      rw [if_neg hN] at hE
      rw [hE,if_neg (by omega)] at hT
      simp -dsimp [c0,c1,c2,eCos,eSos,hco,eCo,cCo,eArs,a1,a2,a3,a4,a5,hE,hT,zT,cT]
    have hY:zlc b base c co mo me args:=⟨by omega,by omega,by omega,by omega,by omega⟩
    rw [if_pos hY] at hE
    have hR:=zul [mo,me,args] (by simp; omega) (by simp)
    have hfl:[mo,me,args].flatten=mo ++ (me ++ args):=by simp
    rw [hfl] at hR
    simp only [yaV,ycG,eTs] at hR
    simp -dsimp [c0,c1,c2,eCos,eSos,hco,eCo,cCo,eArs,a1,a2,a3,a4,a5]
    refine zaa hR ?_
    by_cases h1:zan (mo ++ (me ++ args))=0
    · rw [if_pos h1] at hE
      rw [hE] at hT
      have hmlt:c.toNat<me.length:=by omega
      have hm:me[c.toNat]? = some (me.getD c.toNat zT):=by rw [ybi,yar hmlt]; rfl
      have hK:=zKs b fb ob base c.toNat co hco mo me args _ hm hmo lmo hme lme har (by omega) ome oar
      rw [show ((c.toNat:Nat):Int)=c by omega] at hK
      have hM0:zdi b base c mo me args=zib b base co (me.getD c.toNat zT) mo me args:=by
        rw [hT]
        split
        · rfl
        · rename_i hne; rw [zib,if_neg hne]
      rw [hE,hM0]
      simp only [eBl,cBl,eTs,cT] at hK
      simp -dsimp [c0,c1,c2,eCos,eSos,hco,eCo,cCo,eArs,a1,a2,a3,a4,a5,h1]
      simp only [eCos,eSos,ycn] at hK ⊢
      refine zaa hK ?_
      simp -dsimp [cT]
    · rw [if_neg h1] at hE
      rw [hE,if_neg h1] at hT
      simp -dsimp [c0,c1,c2,eCos,eSos,hco,eCo,cCo,eArs,a1,a2,a3,a4,a5,h1,hE,hT,zT,cT]
def zav (b:Bl) (c:Int) (args:List T):Int:=if zct b=0 then
    if c<0 then 1 else match b.cons[c.toNat]? with
    | some co=>if args.length=co.args.length then match b.sorts[co.sort.toNat]? with
      | some so=>if so.dec=true then if zan args=0 then zbh co.dec args 0 else zan args else 1
      | none=>1
      else 1
    | none=>1
  else zct b
def zba (b:Bl) (c:Int) (args:List T):T:=if zav b c args=0 then match b.cons[c.toNat]? with
    | some co=>zb0 co.dec args 0
    | none=>zT else zT
theorem zA9 {b:Bl} {c:Co} (h:conM b c=true):0≤c.sort ∧ ∃ s,b.sorts[c.sort.toNat]? = some s:=by
  rw [conM] at h
  split at h
  · cases h
  · split at h
    · split at h
      · cases h
      · rename_i s hs
        exact ⟨by omega,s,hs⟩
    · cases h
end
end
section
attribute [local simp] zaf zai tk tn tks
theorem zC1 (f:T) (l:List T) (hl:l.length≤100000000) (hf:okT f) (ho:okTs l):zi0 Tryz.prog zfq [.agg (cT f),eTs l] [.agg (cT (spT f l))]:=by
  refine zds false hm Tryz.func59 zr2 rfl fun hs n=>?_
  simp -dsimp [zji,cT,eTs]
  refine zcm (zA7 f hf) ?_
  simp -dsimp [cT]
  refine zaj l.length (fun i st=>st.s 4 = .ptr 4 1 0∧st.h 4=⟨1,.box [.d (.int .i64 0),.d (.int .i64 0),.fsl 3 []] false⟩∧st.s 10 = .d (.sl 3 (l.map eT))∧st.s 11 = .d (.int .i64 l.length)∧st.s 12 = .d (.int .i64 i) ∧
    st.s 5 = .ptr 5 1 0 ∧ ∃ cs,st.h 5=⟨1,.box [.d (.int .i64 (spT f (l.take i)).kind),.d (.int .i64 (spT f (l.take i)).num),cs] false⟩∧cs = .n true (.sl 3 ((spT f (l.take i)).kids.map eT))) ?_ ?_
  · simp -dsimp [spT]
  · rintro i ⟨s,hp⟩ hi ⟨g1,g2,g3,g4,g5,g6,cs,g7,g8⟩
    dsimp only at g1 g2 g3 g4 g5 g6 g7
    rcases ybm i l.length with hlt | hge
    · have w1:IntKind.i64.wrap ((i:Int)+1)=(i:Int)+1:=zad (by omega) (by omega)
      have hnx:spT f (l.take (i+1)) = .mk 6 0 [spT f (l.take i),l[i]]:=by
        have e:l.take (i+1)=l.take i ++ [l[i]]:=by rw [ycc,yar hlt]; rfl
        rw [spT,e,ycd]
        rfl
      rw [hnx]
      generalize spT f (l.take i)=Y at g7 g8
      have hnode:=zAd 6 [Y,l[i]]
      simp only [yaV,ycG,zb4,cT] at hnode
      subst g8
      simp -dsimp [g1,g2,g3,g4,g5,g6,g7,hlt,cT]
      refine zcm (zA7 l[i] (ho.2 _ (yaf _))) ?_
      simp -dsimp [g1,g2,g3,g4,g5,g6,g7,hlt,cT]
      refine zA1 (by simp -dsimp) hnode ?_
      simp -dsimp [g1,g2,g3,g4,g5,g6,g7,hlt,w1,zb4,cT]
    · have e:i=l.length:=by omega
      subst e
      rw [ycf] at g7 g8
      subst g8
      simp -dsimp [g1,g2,g3,g4,g5,g6,g7]
end
section
section
attribute [local simp] zaf zai tk tn tks
end
section
open Go.RowKit
end
attribute [local simp] zaf zai tk tn tks
end
section
attribute [local simp] zaf zai tk tn tks zde zee zim zi4 ziy zlq
theorem zHu (t:T):Pure Tryz.prog zfb [.agg (cT t)] [.agg (cT (zty t)),.int .i64 (zam t)]:=by
  refine zou rfl fun hs=>?_
  have h:=zfz t
  simp only [cT] at h
  simp -dsimp [zfo,cT]
  refine zaa h ?_
  simp -dsimp
  (first | refine zah ?_ ?_ | refine zag ?_ ?_) <;> intro h1 <;> (try simp only [nrm] at h1) <;> simp -dsimp [h1]
  · have:zty t=zT:=by rw [zty,if_neg h1]
    simp -dsimp [this,zT,cT]
  · have:zty t=t:=by rw [zty,if_pos h1]
    simp -dsimp [this,h1]
end
section
section
attribute [local simp] zaf zai tk tn tks zde zee zim zi4 ziy zlq
theorem zJ6:FnO Tryz.prog zeg zg7:=zIp hm Tryz.func98 zq3
theorem zta {e:Int} (h:e ≠ 0):∀ l:List Int,errs e l=e
  | []=>rfl
  | x :: l=>by
    have:errs e (x :: l)=errs (fst2 e x) l:=rfl
    rw [this,fst2,if_neg h]
    exact zta h l
theorem zv9 {l:List Int} {i:Nat} {x:Int} (h0:errs 0 (l.take i)=0) (hi:l[i]? = some x) (hx:x ≠ 0):errs 0 l=x:=by
  obtain ⟨hlt,rfl⟩:=yae.1 hi
  have e:l=l.take i ++ (l[i] :: l.drop (i+1)):=by rw [List.getElem_cons_drop,ycY]
  have h:errs 0 (l.take i ++ (l[i] :: l.drop (i+1)))=l[i]:=by
    rw [zg0,h0]
    have:errs 0 (l[i] :: l.drop (i+1))=errs (fst2 0 l[i]) (l.drop (i+1)):=rfl
    rw [this,fst2,if_pos rfl]
    exact zta hx _
  rw [← e] at h
  exact h
theorem zAf {l:List Int} {i:Nat} {x:Int} (h0:errs 0 (l.take i)=0) (hi:l[i]? = some x) (hx:x=0):errs 0 (l.take (i+1))=0:=by
  rw [zcd hi,zi6,h0,fst2,if_pos rfl,hx]
theorem zE2 (l:List T) (y:Int) (hl:∀ x ∈ l,zac x≤1048576) (hn:l.length≤1000000):OwnC Tryz.prog zeg [eTs l,.int .i64 y] [.one (.row 3 ((if errs 0 (upsE l y)=0 then upsT l y else []).map eT) false),.one (.d (.int .i64 (errs 0 (upsE l y))))]:=by
  refine zJ6 rfl fun hs=>?_
  have hEl:(upsE l y).length=l.length:=ycn ..
  have hTl:(upsT l y).length=l.length:=ycn ..
  simp -dsimp [zg7,eTs]
  refine zaj l.length (fun i st=>(st.s 0 = .d (.sl 3 (l.map eT))∧st.s 1 = .d (.int .i64 y))∧(st.s 4 = .rsl 4 1∧st.h 4=⟨1,.row 3 [] false⟩)∧st.s 7 = .d (.int .i64 i) ∧
    (∃ u,st.s 6 = .rsl 6 u∧st.h 6=⟨u,.row 3 (((upsT l y).take i).map eT) false⟩)∧errs 0 ((upsE l y).take i)=0) ?_ ?_
  · simp -dsimp [errs]
  rintro i ⟨s,hp⟩ hi ⟨⟨g0,g1⟩,⟨g4,k4⟩,g7,⟨u,g6,k6⟩,he⟩
  dsimp only at g0 g1 g4 k4 g7 g6 k6
  rcases ybm i l.length with hlt | hge
  · have w1:IntKind.i64.wrap ((i:Int)+1)=(i:Int)+1:=zad (by omega) (by omega)
    have hS:=zxl l[i] y 0 (hl _ (yaf hlt))
    have hEi:(upsE l y)[i]? = some (zbi l[i] y 0):=by rw [upsE,yau,yar hlt]; rfl
    have hnx:((upsT l y).take (i+1)).map eT=((upsT l y).take i).map eT ++ [eT (za4 l[i] y 0)]:=by
      rw [zcd (x:=za4 l[i] y 0) (by rw [upsT,yau,yar hlt]; rfl),ycI]
      rfl
    by_cases hz:zbi l[i] y 0=0
    · have hgo:=zAf he hEi hz
      rw [hz] at hS
      rw [hnx]
      generalize za4 l[i] y 0=Y at *
      generalize hX:l[i]=X at *
      have hr:(min i (upsT l y).length+1)*40≤zae:=by simp only [zae]; omega
      simp only [cT] at hS
      simp -dsimp [g0,g1,g4,k4,g7,g6,k6,hlt,hX,cT]
      refine zaa hS ?_
      simp -dsimp [g0,g1,g4,k4,g7,g6,k6,hlt,hX,cT,w1,hr,zb4]
      exact hgo
    · have hh:=zv9 he hEi hz
      rw [hh,if_neg hz]
      generalize zbi l[i] y 0=E at *
      generalize za4 l[i] y 0=Y at *
      generalize hX:l[i]=X at *
      simp only [cT] at hS
      simp -dsimp [g0,g1,g4,k4,g7,g6,k6,hlt,hX,cT]
      refine zaa hS ?_
      simp -dsimp [g0,g1,g4,k4,g7,g6,k6,hlt,hX,cT,hz]
  · have e:i=l.length:=by omega
    subst e
    rw [yce (by omega)] at he k6
    rw [he,if_pos rfl]
    simp -dsimp [g0,g1,g4,k4,g7,g6,k6]
theorem errs5 (A B C D:List Int) (z:Int):errs 0 (A ++ B ++ C ++ D ++ [z])=if errs 0 A=0 then (if errs 0 B=0 then (if errs 0 C=0 then (if errs 0 D=0 then z else errs 0 D) else errs 0 C) else errs 0 B) else errs 0 A:=by
  have step:∀ (X:List Int) (e:Int),errs e X=if e=0 then errs 0 X else e:=fun X e=>by
    by_cases h:e=0
    · rw [if_pos h,h]
    · rw [if_neg h,zta h]
  rw [zi6,zg0,zg0,zg0,step D,step C,step B,fst2]
  by_cases hA:errs 0 A=0
  · simp only [hA,if_true]
    by_cases hB:errs 0 B=0
    · simp only [hB,if_true]
      by_cases hC:errs 0 C=0
      · simp only [hC,if_true]
      · simp only [hC,if_false]
    · simp only [hB,if_false]
  · simp only [hA,if_false]
theorem zEm {b:Bl} {base:Int} {ars:List Ar} {mo me args:List T} {n:Nat} {x:Int} (h:(mkL b base ars mo me args n).1=x) (hx:x ≠ 0) (hl:args.length=ars.length):∀ m,n≤m→m≤ars.length→(mkL b base ars mo me args m).1=x:=by
  intro m
  induction m with
  | zero => intro h1 _; have:n=0:=by omega
            subst this; exact h
  | succ m ih =>
    intro h1 h2
    rcases ybm n (m+1) with hlt | hge
    · have hm:=ih (by omega) (by omega)
      rw [zpc (yar (by omega:m<ars.length)) (yar (by omega:m<args.length)),if_neg (fun h=>hx (hm ▸ h.2))]
      exact hm
    · have:n=m+1:=by omega
      subst this; exact h
theorem zud:∀ (l:List T) (i:Nat) (h:i<l.length),(∀ (j:Nat) (hj:j<l.length),j<i→zam l[j]=0)→zam l[i] ≠ 0→zan l=zam l[i]
  | x :: xs,0,h,_,hn=>by
    simp only [ycz] at hn ⊢
    rw [zan,if_neg hn]
  | x :: xs,i+1,h,hz,hn=>by
    have h0:=hz 0 (by simp) (by omega)
    simp only [ycz] at h0
    rw [zan,if_pos h0]
    simp only [ycB] at hn ⊢
    exact zud xs i (by simpa using h) (fun j hj hji=>by
      have:=hz (j+1) (by simpa using hj) (by omega)
      simpa only [ycB] using this) hn
theorem zEi (l:List T) (t:T) (hl:l.length≤100000000) (ht:okT t) (hol:okTs l):Pure Tryz.prog zgg [eTs l,.agg (cT t)] [.agg (cT (zku 5 l t))]:=by
  refine zp6 rfl fun hs=>?_
  have h:=zG2 5 l t hl ht hol
  simp only [cT,eTs] at h
  simp -dsimp [zf6,cT,eTs]
  refine zaa h ?_
  simp -dsimp [cT]
theorem zwd {n:Nat} (h:n≤300):(n+1)*40≤zae:=by simp only [zae]; omega
theorem zKg {n:Nat} (h:n≤300):(n+1+1)*40≤zae:=by simp only [zae]; omega
theorem len4 {a b c:List T} {x:T} (ha:a.length≤60) (hb:b.length≤60) (hc:c.length≤60):(a ++ b ++ c ++ [x]).length≤100000000∧(a ++ b ++ c ++ [x]).length*40≤140737488351232∧(a ++ b ++ c).length≤300:=by
  simp only [yaF,List.length_singleton]
  omega
theorem le40 {n:Nat} (h:n≤1000):n≤100000000∧n*40≤140737488351232:=by omega
def RE (b:Bl) (base:Int) (c:Nat) (co:Co) (mo me args:List T) (st:S):Prop :=
  (st.s 1 = .d (.int .i64 base)∧st.s 2 = .d (.int .i64 c)∧st.s 3 = .d (.sl 3 (mo.map eT))∧st.s 4 = .d (.sl 3 (me.map eT))∧st.s 5 = .d (.sl 3 (args.map eT))) ∧
  (st.s 6 = .ptr 6 1 0∧st.h 6=⟨1,.box [.d (.sl 6 (b.sorts.map eSo)),.d (.sl 6 (b.cons.map eCo)),.d (.int .i64 b.elim)] false⟩) ∧
  (st.s 12 = .ptr 12 1 0∧st.h 12=⟨1,.box [.d (.int .i64 0),.d (.int .i64 0),.fsl 3 []] false⟩) ∧
  (st.s 14 = .ptr 14 1 0∧st.h 14=⟨1,.box [.d (.int .i64 co.sort),.d (.sl 7 (co.args.map eAr)),.d (.sl 3 (co.idx.map eT)),.d (.int .i64 co.dec.kind),.d (.int .i64 co.dec.num),.d (.sl 3 (co.dec.kids.map eT))] false⟩)
def RI (b:Bl) (base:Int) (c:Nat) (co:Co) (mo me args:List T) (i:Nat) (GG:List D) (A:Ar) (st:S):Prop :=
  RE b base c co mo me args st∧st.s 19 = .d (.int .i64 i)∧(∃ u,st.s 18 = .rsl 18 u∧st.h 18=⟨u,.row 3 GG false⟩)∧st.s 21 = .d (.int .i64 A.dom.length) ∧
  ∃ v,st.s 20 = .ptr 20 v 0∧st.h 20=⟨v,.box [.d (.bool true),.d (.int .i64 A.ty.kind),.d (.int .i64 A.ty.num),.d (.sl 3 (A.ty.kids.map eT)),.d (.sl 3 (A.dom.map eT)),.d (.int .i64 A.sort),.d (.sl 3 (A.idx.map eT))] false⟩
set_option maxHeartbeats 4000000 in
theorem zG5 (b:Bl) (fb:FineBl b) (ob:okBl b) (hf:Fit b) (base:Int) (c:Nat) (co:Co) (hc:b.cons[c]? = some co) (mo me args:List T) (m:T) (hm:me[c]? = some m) (hmo:∀ x ∈ mo,zac x≤9000) (lmo:mo.length≤60) (hme:∀ x ∈ me,zac x≤9000) (lme:me.length≤60)
    (har:∀ x ∈ args,zac x≤9000) (lar:args.length=co.args.length) (lar2:args.length≤60) (ome:∀ x ∈ me,okT x) (oar:∀ x ∈ args,okT x) :
    Pure Tryz.prog zgf [eBl b,.int .i64 base,.int .i64 c,eTs mo,eTs me,eTs args] [.agg (cT (if zan (mo ++ (me ++ args))=0 then zib b base co m mo me args else zT)),.int .i64 (if zan (mo ++ (me ++ args))=0 then zih b base co m mo me args else zan (mo ++ (me ++ args)))]:=by
  refine zpu rfl fun hs=>?_
  have hclt:=(yae.1 hc).1
  have hceq:=(yae.1 hc).2
  have hmlt:=(yae.1 hm).1
  have hmeq:=(yae.1 hm).2
  have fco:=fb.cons co (yas hc)
  have oco:=ob.cons co (yas hc)
  have hfc:=hf.c
  have w1:IntKind.i64.wrap ((mo.length:Int)+me.length)=mo.length+me.length:=zad (by omega) (by omega)
  have w2:IntKind.i64.wrap ((mo.length:Int)+me.length+args.length)=mo.length+me.length+args.length:=zad (by omega) (by omega)
  obtain ⟨AL,hAL⟩:∃ AL,AL=mo ++ (me ++ args):=⟨_,rfl⟩
  have hALl:AL.length=mo.length+me.length+args.length:=by rw [hAL,yaF,yaF]; omega
  rw [← hAL]
  simp -dsimp [zge,eBl,cBl,eSos,eCos,eTs,hclt,hc,hceq,eCo,cCo,cT,eArs]
  refine zaj AL.length (fun i st=>RE b base c co mo me args st∧st.s 15 = .d (.int .i64 i) ∧ ∀ (j:Nat) (hj:j<AL.length),j<i→zam AL[j]=0) ?_ ?_
  · simp -dsimp [RE]
  rintro i ⟨s,hp⟩ hi ⟨⟨⟨g1,g2,g3,g4,g5⟩,⟨g6,k6⟩,⟨g12,k12⟩,g14,k14⟩,g15,hall⟩
  dsimp only at g1 g2 g3 g4 g5 g6 k6 g12 k12 g14 k14 g15
  rcases ybm i AL.length with hlt | hge
  · have w3:IntKind.i64.wrap ((i:Int)+1)=(i:Int)+1:=zad (by omega) (by omega)
    have hCi:=zfz AL[i]
    have key:∀ (X:T),AL[i]=X→(zam X=0→zam AL[i]=0):=fun X h h0=>by rw [h]; exact h0
    have hall':zam AL[i]=0 → ∀ (j:Nat) (hj:j<AL.length),j<i+1→zam AL[j]=0:=fun h3 j hj hji=>by
      rcases ybm j i with h | h
      · exact hall j hj h
      · have:j=i:=by omega
        subst this; exact h3
    have hbad:zam AL[i] ≠ 0→zan AL=zam AL[i]:=fun h=>zud AL i hlt hall h
    have hltI:(i:Int)<(mo.length:Int)+me.length+args.length:=by omega
    by_cases c1:i<mo.length
    · have hX:AL[i]=mo[i]:=by simp only [hAL]; rw [yda c1]
      rw [hX] at hCi hbad hall'
      generalize hXX:mo[i]=X at *
      simp only [cT] at hCi
      simp -dsimp [g1,g2,g3,g4,g5,g6,k6,g12,k12,g14,k14,g15,w1,w2,hltI,c1,hXX,cT]
      refine zaa hCi ?_
      by_cases h3:zam X=0
      · simp -dsimp [RE,g1,g2,g3,g4,g5,g6,k6,g12,k12,g14,k14,g15,w1,w2,hltI,c1,hXX,cT,h3,w3]
        exact ⟨by omega,hall' h3⟩
      · rw [hbad h3,if_neg h3,if_neg h3]
        simp -dsimp [g1,g2,g3,g4,g5,g6,k6,g12,k12,g14,k14,g15,w1,w2,hltI,c1,hXX,cT,h3,zT]
    by_cases c2:i<mo.length+me.length
    · have c2I:(i:Int)<(mo.length:Int)+me.length:=by omega
      obtain ⟨j,hj⟩:∃ j,i - mo.length=j:=⟨_,rfl⟩
      have hjl:j<me.length:=by omega
      have hX:AL[i]=me[j]:=by
        simp only [hAL]
        rw [ydb (by omega),yda (by omega)]
        simp only [hj]
      have w4:IntKind.i64.wrap ((i:Int) - mo.length)=j:=by rw [zad (by omega) (by omega)]; omega
      rw [hX] at hCi hbad hall'
      generalize hXX:me[j]=X at *
      simp only [cT] at hCi
      simp -dsimp [g1,g2,g3,g4,g5,g6,k6,g12,k12,g14,k14,g15,w1,w2,hltI,c1,c2I,hjl,w4,hXX,cT]
      refine zaa hCi ?_
      by_cases h3:zam X=0
      · simp -dsimp [RE,g1,g2,g3,g4,g5,g6,k6,g12,k12,g14,k14,g15,w1,w2,hltI,c1,c2I,hjl,w4,hXX,cT,h3,w3]
        exact ⟨by omega,hall' h3⟩
      · rw [hbad h3,if_neg h3,if_neg h3]
        simp -dsimp [g1,g2,g3,g4,g5,g6,k6,g12,k12,g14,k14,g15,w1,w2,hltI,c1,c2I,hjl,w4,hXX,cT,h3,zT]
    · have c2I:¬ (i:Int)<(mo.length:Int)+me.length:=by omega
      obtain ⟨j,hj⟩:∃ j,i - mo.length - me.length=j:=⟨_,rfl⟩
      have hjl:j<args.length:=by omega
      have hX:AL[i]=args[j]:=by
        simp only [hAL]
        rw [ydb (by omega),ydb (by omega)]
        simp only [hj]
      have w4:IntKind.i64.wrap ((i:Int) - mo.length)=(i:Int) - mo.length:=zad (by omega) (by omega)
      have w5:IntKind.i64.wrap ((i:Int) - mo.length - me.length)=j:=by rw [zad (by omega) (by omega)]; omega
      rw [hX] at hCi hbad hall'
      generalize hXX:args[j]=X at *
      simp only [cT] at hCi
      simp -dsimp [g1,g2,g3,g4,g5,g6,k6,g12,k12,g14,k14,g15,w1,w2,hltI,c1,c2I,hjl,w4,w5,hXX,cT]
      refine zaa hCi ?_
      by_cases h3:zam X=0
      · simp -dsimp [RE,g1,g2,g3,g4,g5,g6,k6,g12,k12,g14,k14,g15,w1,w2,hltI,c1,c2I,hjl,w4,w5,hXX,cT,h3,w3]
        exact ⟨by omega,hall' h3⟩
      · rw [hbad h3,if_neg h3,if_neg h3]
        simp -dsimp [g1,g2,g3,g4,g5,g6,k6,g12,k12,g14,k14,g15,w1,w2,hltI,c1,c2I,hjl,w4,w5,hXX,cT,h3,zT]
  have e:i=AL.length:=by omega
  subst e
  have hz:zan AL=0:=zk5.2 fun t ht=>by
    obtain ⟨j,hj,rfl⟩:=ycO.1 ht
    exact hall j hj hj
  rw [hz]
  simp only [if_true]
  have hltI:¬ (AL.length:Int)<(mo.length:Int)+me.length+args.length:=by omega
  simp -dsimp [g1,g2,g3,g4,g5,g6,k6,g12,k12,g14,k14,g15,w1,w2,hltI]
  clear hall hi hge hAL hltI hz
  have hlen:=zAb b base co.args mo me args
  have hstk:=fun (n:Nat) (x:Int) (h:(mkL b base co.args mo me args n).1=x) (hx:x ≠ 0) (hn:n≤co.args.length)=>zEm h hx lar co.args.length hn (Nat.le_refl _)
  have bad:∀ x:Int,x ≠ 0→(mkL b base co.args mo me args co.args.length).1=x→zih b base co m mo me args=x∧zib b base co m mo me args=zT:=fun x hx h=>by
    have e:zih b base co m mo me args=x:=by rw [zih,if_neg (by rw [h]; exact hx),h]
    exact ⟨e,by rw [zib,e,if_neg hx]⟩
  have fa20:=fco.args.1
  refine zaj co.args.length (fun i st=>RE b base c co mo me args st∧st.s 19 = .d (.int .i64 i)∧(∃ u,st.s 18 = .rsl 18 u∧st.h 18=⟨u,.row 3 ((mkL b base co.args mo me args i).2.map eT) false⟩)∧(mkL b base co.args mo me args i).1=0) ?_ ?_
  · simp -dsimp [RE,mkL,g1,g2,g3,g4,g5,g6,k6,g12,k12,g14,k14]
  clear g1 g2 g3 g4 g5 g6 k6 g12 k12 g14 k14 g15
  rintro i ⟨s,hp⟩ hi ⟨⟨⟨g1,g2,g3,g4,g5⟩,⟨g6,k6⟩,⟨g12,k12⟩,g14,k14⟩,g19,⟨u18,g18,k18⟩,hz⟩
  dsimp only at g1 g2 g3 g4 g5 g6 k6 g12 k12 g14 k14 g19 g18 k18
  rcases ybm i co.args.length with hlt | hge
  · have w3:IntKind.i64.wrap ((i:Int)+1)=(i:Int)+1:=zad (by omega) (by omega)
    have hltA:i<args.length:=by omega
    have hai:co.args[i]? = some co.args[i]:=yar hlt
    have hti:args[i]? = some args[i]:=yar hltA
    have hnx:=zpc (b:=b) (base:=base) (mo:=mo) (me:=me) hai hti
    rw [hz] at hnx
    have hli:=hlen i
    have hst:=hstk (i+1)
    have fa:=fco.args.2 _ (yaf hlt)
    have oa:=oco.args.2 _ (yaf hlt)
    have hti9:=har _ (yaf hltA)
    have oti:=oar _ (yaf hltA)
    generalize hA:co.args[i]=A at *
    generalize hTT:args[i]=TT at *
    generalize (mkL b base co.args mo me args i).2=G at *
    have hgl:G.length≤40:=by omega
    have r1:(G.length+1)*40≤zae:=zwd (by omega)
    have r2:(G.length+1+1)*40≤zae:=zKg (by omega)
    cases hr:A.rc with
    | false =>
      rw [if_neg (by simp [hr])] at hnx
      simp -dsimp [g1,g2,g3,g4,g5,g6,k6,g12,k12,g14,k14,g19,g18,k18,hlt,hltA,hA,hTT,eAr,cAr,cT,hr,r1]
      simp -dsimp [RE,g1,g2,g3,g4,g5,g6,k6,g12,k12,g14,k14,g19,g18,k18,hlt,hltA,hA,hTT,eAr,cAr,cT,hr,r1,w3,hnx,zb4]
      done
    | true =>
      rw [if_pos ⟨hr,rfl⟩] at hnx
      have hAll:∀ x ∈ args.take i,zac x≤1048576:=fun x hx=>by have:=har x (ycV hx); omega
      have hAln:(args.take i).length≤60:=by rw [yaE]; omega
      have d12:=fa.domL
      have x20:=fa.idxL
      clear hz
      have hE5:=fun _:Unit=>errs5 (zml (args.take i) A.dom) (upsE mo A.dom.length) (upsE me A.dom.length) (zh8 (args.take i) A.idx A.dom.length) (zbi TT A.dom.length 0)
      rw [← zpf] at hE5
      have hsti:∀ x:Int,x ≠ 0→errs 0 (zpf A mo me (args.take i) TT)=x→zih b base co m mo me args=x∧zib b base co m mo me args=zT:=fun x hx h=>bad x hx (hst x (by rw [hnx]; exact h) hx (by omega))
      have hdn:∀ x ∈ A.dom,zac x≤9000:=fun x hx=>yac (zf4 (ybb.2 ⟨_,hx,rfl⟩)) fa.dom
      have hxn:∀ x ∈ A.idx,zac x≤9000:=fun x hx=>yac (zf4 (ybb.2 ⟨_,hx,rfl⟩)) fa.idx
      have hio:i≤args.length:=by omega
      have hioI:(i:Int)≤args.length:=by omega
      clear hstk bad hst
      simp -dsimp [g1,g2,g3,g4,g5,g6,k6,g12,k12,g14,k14,g19,g18,k18,hlt,hltA,hA,hTT,eAr,cAr,cT,hr,r1,eTs]
      refine zaj A.dom.length (fun j st=>RI b base c co mo me args i (G.map eT ++ [.agg [.int .i64 TT.kind,.int .i64 TT.num,.sl 3 (TT.kids.map eT)]]) A st∧st.s 23 = .d (.int .i64 j)∧(∃ u,st.s 22 = .rsl 22 u∧st.h 22=⟨u,.row 3 (((zhf (args.take i) A.dom).take j).map eT) false⟩)∧errs 0 ((zml (args.take i) A.dom).take j)=0) ?_ ?_
      · simp -dsimp [RI,RE,g1,g2,g3,g4,g5,g6,k6,g12,k12,g14,k14,g19,g18,k18,hr,errs]
        done
      clear g1 g2 g3 g4 g5 g6 k6 g12 k12 g14 k14 g19 g18 k18
      rintro j ⟨s,hp⟩ hj ⟨⟨⟨⟨g1,g2,g3,g4,g5⟩,⟨g6,k6⟩,⟨g12,k12⟩,g14,k14⟩,g19,⟨u18,g18,k18⟩,g21,v20,g20,k20⟩,g23,⟨u22,g22,k22⟩,he⟩
      dsimp only at g1 g2 g3 g4 g5 g6 k6 g12 k12 g14 k14 g19 g18 k18 g21 g20 k20 g23 g22 k22
      rcases ybm j A.dom.length with hltj | hgej
      · have w4:IntKind.i64.wrap ((j:Int)+1)=(j:Int)+1:=zad (by omega) (by omega)
        have hI:=zwi A.dom[j] (args.take i) j (by have:=hdn _ (yaf hltj); omega) hAll (by omega)
        have hEj:(zml (args.take i) A.dom)[j]? = some (zbh A.dom[j] (args.take i) j):=by simp [zml,ycS,yar hltj]
        have hTj:(zhf (args.take i) A.dom)[j]? = some (zb0 A.dom[j] (args.take i) j):=by simp [zhf,ycS,yar hltj]
        have hTl:(zhf (args.take i) A.dom).length=A.dom.length:=ydc ..
        have hnj:((zhf (args.take i) A.dom).take (j+1)).map eT=((zhf (args.take i) A.dom).take j).map eT ++ [eT (zb0 A.dom[j] (args.take i) j)]:=by
          rw [zcd hTj,ycI]; rfl
        by_cases hq:zbh A.dom[j] (args.take i) j=0
        · have hgo:=zAf he hEj hq
          rw [hq] at hI
          rw [hnj]
          generalize zb0 A.dom[j] (args.take i) j=Y at *
          generalize hX:A.dom[j]=X at *
          have hr:(min j (zhf (args.take i) A.dom).length+1)*40≤zae:=zwd (by omega)
          simp only [cT,eTs,ycW] at hI
          simp -dsimp [g1,g2,g3,g4,g5,g6,k6,g12,k12,g14,k14,g19,g18,k18,g21,g20,k20,g23,g22,k22,hltj,hX,cT,hio,hioI]
          refine zaa hI ?_
          simp -dsimp [RI,RE,g1,g2,g3,g4,g5,g6,k6,g12,k12,g14,k14,g19,g18,k18,g21,g20,k20,g23,g22,k22,hltj,hX,cT,w4,hr,zb4]
          exact hgo
        · have hh:=zv9 he hEj hq
          rw [if_neg (by rw [hh]; exact hq),hh] at hE5
          obtain ⟨b1,b2⟩:=hsti _ hq (hE5 ())
          rw [b1,b2]
          generalize zbh A.dom[j] (args.take i) j=E at *
          generalize zb0 A.dom[j] (args.take i) j=Y at *
          generalize hX:A.dom[j]=X at *
          simp only [cT,eTs,ycW] at hI
          simp -dsimp [g1,g2,g3,g4,g5,g6,k6,g12,k12,g14,k14,g19,g18,k18,g21,g20,k20,g23,g22,k22,hltj,hX,cT,hio,hioI]
          refine zaa hI ?_
          simp -dsimp [g1,g2,g3,g4,g5,g6,k6,g12,k12,g14,k14,g19,g18,k18,g21,g20,k20,g23,g22,k22,hltj,hX,cT,hq,zT]
          done
      have e:j=A.dom.length:=by omega
      subst e
      have hDl:(zhf (args.take i) A.dom).length=A.dom.length:=ydc ..
      have hDl2:(zml (args.take i) A.dom).length=A.dom.length:=ydc ..
      rw [yce (by omega)] at he k22
      rw [if_pos he] at hE5
      clear he
      have hUm:=zE2 mo A.dom.length (fun x hx=>by have:=hmo x hx; omega) (by omega)
      have hUe:=(zE2 me A.dom.length (fun x hx=>by have:=hme x hx; omega) (by omega)).pure
      simp only [eTs] at hUm
      simp only [eTs,RV.data,RC.data,yaV,ycG] at hUe
      simp -dsimp [g1,g2,g3,g4,g5,g6,k6,g12,k12,g14,k14,g19,g18,k18,g21,g20,k20,g23,g22,k22]
      refine zG3 hUm (by simp [zas,zcw,RV.cells]) ?_
      by_cases hB:errs 0 (upsE mo A.dom.length)=0
      case neg =>
        rw [if_neg hB] at hE5
        obtain ⟨b1,b2⟩:=hsti _ hB (hE5 ())
        rw [b1,b2]
        generalize errs 0 (upsE mo A.dom.length)=E at *
        simp -dsimp [g1,g2,g3,g4,g5,g6,k6,g12,k12,g14,k14,g19,g18,k18,g21,g20,k20,g23,g22,k22,hB,zT,cT]
        done
      rw [if_pos hB] at hE5
      simp -dsimp [g1,g2,g3,g4,g5,g6,k6,g12,k12,g14,k14,g19,g18,k18,g21,g20,k20,g23,g22,k22,hB]
      refine zaa hUe ?_
      by_cases hC:errs 0 (upsE me A.dom.length)=0
      case neg =>
        rw [if_neg hC] at hE5
        obtain ⟨b1,b2⟩:=hsti _ hC (hE5 ())
        rw [b1,b2]
        generalize errs 0 (upsE me A.dom.length)=E at *
        simp -dsimp [g1,g2,g3,g4,g5,g6,k6,g12,k12,g14,k14,g19,g18,k18,g21,g20,k20,g23,g22,k22,hB,hC,zT,cT]
        done
      rw [if_pos hC] at hE5
      have lUm:(upsT mo A.dom.length).length=mo.length:=ycn ..
      have lUe:(upsT me A.dom.length).length=me.length:=ycn ..
      have oUm:∀ x ∈ upsT mo A.dom.length,okT x:=fun x hx=>by
        obtain ⟨y,hy,rfl⟩:=ybb.1 hx
        exact zef _ (by have:=hmo y hy; omega)
      have oUe:∀ x ∈ upsT me A.dom.length,okT x:=fun x hx=>by
        obtain ⟨y,hy,rfl⟩:=ybb.1 hx
        exact zef _ (by have:=hme y hy; omega)
      have r3:((upsT mo A.dom.length).length+(upsT me A.dom.length).length)*40≤zae:=by simp only [zae]; omega
      simp -dsimp [g1,g2,g3,g4,g5,g6,k6,g12,k12,g14,k14,g19,g18,k18,g21,g20,k20,g23,g22,k22,hB,hC,r3]
      clear hB hC
      refine zaj A.idx.length (fun q st=>RI b base c co mo me args i (G.map eT ++ [.agg [.int .i64 TT.kind,.int .i64 TT.num,.sl 3 (TT.kids.map eT)]]) A st∧st.s 29 = .d (.int .i64 q)∧(∃ u,st.s 22 = .rsl 22 u∧st.h 22=⟨u,.row 3 ((zhf (args.take i) A.dom).map eT) false⟩) ∧
        (∃ u,st.s 26 = .rsl 145 u∧st.h 145=⟨u,.row 3 ((upsT mo A.dom.length ++ upsT me A.dom.length ++ (zdt (args.take i) A.idx A.dom.length).take q).map eT) false⟩)∧errs 0 ((zh8 (args.take i) A.idx A.dom.length).take q)=0) ?_ ?_
      · simp -dsimp [RI,RE,g1,g2,g3,g4,g5,g6,k6,g12,k12,g14,k14,g19,g18,k18,g21,g20,k20,g23,g22,k22,errs]
        done
      clear g1 g2 g3 g4 g5 g6 k6 g12 k12 g14 k14 g19 g18 k18 g21 g20 k20 g23 g22 k22
      rintro q ⟨s,hp⟩ hq ⟨⟨⟨⟨g1,g2,g3,g4,g5⟩,⟨g6,k6⟩,⟨g12,k12⟩,g14,k14⟩,g19,⟨u18,g18,k18⟩,g21,v20,g20,k20⟩,g29,⟨u22,g22,k22⟩,⟨u26,g26,k26⟩,hd⟩
      dsimp only at g1 g2 g3 g4 g5 g6 k6 g12 k12 g14 k14 g19 g18 k18 g21 g20 k20 g29 g22 k22 g26 k26
      have lIx:(zdt (args.take i) A.idx A.dom.length).length=A.idx.length:=ycn ..
      have lIe:(zh8 (args.take i) A.idx A.dom.length).length=A.idx.length:=ycn ..
      rcases ybm q A.idx.length with hltq | hgeq
      · have w4:IntKind.i64.wrap ((q:Int)+1)=(q:Int)+1:=zad (by omega) (by omega)
        have hI:=zwi A.idx[q] (args.take i) A.dom.length (by have:=hxn _ (yaf hltq); omega) hAll (by omega)
        have hEq:(zh8 (args.take i) A.idx A.dom.length)[q]? = some (zbh A.idx[q] (args.take i) A.dom.length):=by rw [zh8,yau,yar hltq]; rfl
        have hTq:(zdt (args.take i) A.idx A.dom.length)[q]? = some (zb0 A.idx[q] (args.take i) A.dom.length):=by rw [zdt,yau,yar hltq]; rfl
        have hnq:(upsT mo A.dom.length ++ upsT me A.dom.length ++ (zdt (args.take i) A.idx A.dom.length).take (q+1)).map eT=(upsT mo A.dom.length ++ upsT me A.dom.length ++ (zdt (args.take i) A.idx A.dom.length).take q).map eT ++ [eT (zb0 A.idx[q] (args.take i) A.dom.length)]:=by
          rw [zcd hTq,← ycT,ycI]; rfl
        by_cases hq0:zbh A.idx[q] (args.take i) A.dom.length=0
        · have hgo:=zAf hd hEq hq0
          rw [hq0] at hI
          rw [hnq]
          have hll:(upsT mo A.dom.length ++ upsT me A.dom.length ++ (zdt (args.take i) A.idx A.dom.length).take q).length≤300:=by simp only [yaF,yaE]; omega
          generalize upsT mo A.dom.length ++ upsT me A.dom.length ++ (zdt (args.take i) A.idx A.dom.length).take q=L at *
          generalize zb0 A.idx[q] (args.take i) A.dom.length=Y at *
          generalize hX:A.idx[q]=X at *
          have hr:(L.length+1)*40≤zae:=zwd hll
          simp only [cT,eTs,ycW] at hI
          simp -dsimp [g1,g2,g3,g4,g5,g6,k6,g12,k12,g14,k14,g19,g18,k18,g21,g20,k20,g29,g22,k22,g26,k26,hltq,hX,cT,hio,hioI]
          refine zaa hI ?_
          simp -dsimp [RI,RE,g1,g2,g3,g4,g5,g6,k6,g12,k12,g14,k14,g19,g18,k18,g21,g20,k20,g29,g22,k22,g26,k26,hltq,hX,cT,w4,hr,zb4]
          exact hgo
        · have hh:=zv9 hd hEq hq0
          rw [if_neg (by rw [hh]; exact hq0),hh] at hE5
          obtain ⟨b1,b2⟩:=hsti _ hq0 (hE5 ())
          rw [b1,b2]
          generalize upsT mo A.dom.length ++ upsT me A.dom.length ++ (zdt (args.take i) A.idx A.dom.length).take q=L at *
          generalize zbh A.idx[q] (args.take i) A.dom.length=E at *
          generalize zb0 A.idx[q] (args.take i) A.dom.length=Y at *
          generalize hX:A.idx[q]=X at *
          simp only [cT,eTs,ycW] at hI
          simp -dsimp [g1,g2,g3,g4,g5,g6,k6,g12,k12,g14,k14,g19,g18,k18,g21,g20,k20,g29,g22,k22,g26,k26,hltq,hX,cT,hio,hioI]
          refine zaa hI ?_
          simp -dsimp [g1,g2,g3,g4,g5,g6,k6,g12,k12,g14,k14,g19,g18,k18,g21,g20,k20,g29,g22,k22,g26,k26,hltq,hX,cT,hq0,zT]
          done
      have e:q=A.idx.length:=by omega
      subst e
      rw [yce (by omega)] at hd k26
      rw [if_pos hd] at hE5
      clear hd
      have hSh:=zxl TT A.dom.length 0 (by omega)
      have oSh:=zef (t:=TT) A.dom.length (by omega)
      have hV:=zHn A.dom.length (by omega)
      have oV:=zm7 A.dom.length (by omega)
      have hVl:=zmg A.dom.length
      have hSp1:=zls (za4 TT A.dom.length 0) (zdp A.dom.length) (by omega) oSh oV
      have oSp1:=zr1 (zdp A.dom.length) _ oSh oV.2
      have hEl:=zus b hf base A.sort
      have hCe:=zMa (zbe b base A.sort)
      have oEl:okT (tC (zbe b base A.sort)):=by
        have:=zur base (w64 (w64 (b.sorts.length+decs b.sorts)+b.cons.length)) A.sort b.sorts.length
        exact .mk _ _ _ ⟨by omega,by omega⟩ this (by simp) (by simp)
      have oIx:∀ x ∈ zdt (args.take i) A.idx A.dom.length,okT x:=fun x hx=>by
        obtain ⟨y,hy,rfl⟩:=ybb.1 hx
        exact zmu (by have:=hxn y hy; omega) hAll
      have oDo:∀ x ∈ zhf (args.take i) A.dom,okT x:=fun x hx=>by
        obtain ⟨j,hj,rfl⟩:=ycU.1 hx
        exact zmu (by have:=hdn _ (yaf hj); omega) hAll
      have h4:=len4 (x:=spT (za4 TT A.dom.length 0) (zdp A.dom.length)) (yac (ydd lUm) lmo) (yac (ydd lUe) lme) (yac (ydd lIx) (yac x20 (by decide)))
      have hSp2:=zls (tC (zbe b base A.sort)) (upsT mo A.dom.length ++ upsT me A.dom.length ++ zdt (args.take i) A.idx A.dom.length ++ [spT (za4 TT A.dom.length 0) (zdp A.dom.length)]) h4.1 oEl ⟨h4.2.1,fun x hx=>by
        simp only [yaY,ybw] at hx
        rcases hx with ((hx | hx) | hx) | rfl
        · exact oUm x hx
        · exact oUe x hx
        · exact oIx x hx
        · exact oSp1⟩
      have oSp2:=zr1 (upsT mo A.dom.length ++ upsT me A.dom.length ++ zdt (args.take i) A.idx A.dom.length ++ [spT (za4 TT A.dom.length 0) (zdp A.dom.length)]) _ oEl (fun x hx=>by
        simp only [yaY,ybw] at hx
        rcases hx with ((hx | hx) | hx) | rfl
        · exact oUm x hx
        · exact oUe x hx
        · exact oIx x hx
        · exact oSp1)
      have hll:=h4.2.2
      have hDl3:(zhf (args.take i) A.dom).length≤1000:=yac (ydd hDl) (yac d12 (by decide))
      have hLa:=zEi (zhf (args.take i) A.dom) _ (le40 hDl3).1 oSp2 ⟨(le40 hDl3).2,oDo⟩
      simp only [cT] at hSh
      simp -dsimp [g1,g2,g3,g4,g5,g6,k6,g12,k12,g14,k14,g19,g18,k18,g21,g20,k20,g29,g22,k22,g26,k26,hltA,hTT,cT]
      refine zaa hSh ?_
      by_cases hS:zbi TT A.dom.length 0=0
      case neg =>
        obtain ⟨b1,b2⟩:=hsti _ hS (hE5 ())
        rw [b1,b2]
        generalize zbi TT A.dom.length 0=E at *
        simp -dsimp [g1,g2,g3,g4,g5,g6,k6,g12,k12,g14,k14,g19,g18,k18,g21,g20,k20,g29,g22,k22,g26,k26,hS,zT,cT]
        done
      rw [hS] at hE5
      rw [← znp] at hLa
      rw [hE5 ()] at hnx
      generalize znp b base A mo me (args.take i) TT=IT at *
      generalize spT (tC (zbe b base A.sort)) (upsT mo A.dom.length ++ upsT me A.dom.length ++ zdt (args.take i) A.idx A.dom.length ++ [spT (za4 TT A.dom.length 0) (zdp A.dom.length)])=SP2 at *
      generalize upsT mo A.dom.length ++ upsT me A.dom.length ++ zdt (args.take i) A.idx A.dom.length=L at *
      generalize spT (za4 TT A.dom.length 0) (zdp A.dom.length)=SP1 at *
      generalize za4 TT A.dom.length 0=SH at *
      generalize zhf (args.take i) A.dom=DT at *
      generalize zdp A.dom.length=VN at *
      have r4:(L.length+1)*40≤zae:=zwd hll
      simp only [eBl,cBl,eSos,eCos,cT,tC,eTs,tk,tn,tks,ycG,ycI,yaV,zb4] at hV hSp1 hEl hCe hSp2 hLa
      simp -dsimp [g1,g2,g3,g4,g5,g6,k6,g12,k12,g14,k14,g19,g18,k18,g21,g20,k20,g29,g22,k22,g26,k26,hS]
      refine zaa hV ?_
      simp -dsimp [g1,g2,g3,g4,g5,g6,k6,g12,k12,g14,k14,g19,g18,k18,g21,g20,k20,g29,g22,k22,g26,k26,hS]
      refine zaa hSp1 ?_
      simp -dsimp [g1,g2,g3,g4,g5,g6,k6,g12,k12,g14,k14,g19,g18,k18,g21,g20,k20,g29,g22,k22,g26,k26,hS,r4]
      refine zaa hEl ?_
      simp -dsimp [g1,g2,g3,g4,g5,g6,k6,g12,k12,g14,k14,g19,g18,k18,g21,g20,k20,g29,g22,k22,g26,k26,hS,r4]
      refine zaa hCe ?_
      simp -dsimp [g1,g2,g3,g4,g5,g6,k6,g12,k12,g14,k14,g19,g18,k18,g21,g20,k20,g29,g22,k22,g26,k26,hS,r4]
      refine zaa hSp2 ?_
      simp -dsimp [g1,g2,g3,g4,g5,g6,k6,g12,k12,g14,k14,g19,g18,k18,g21,g20,k20,g29,g22,k22,g26,k26,hS,r4]
      refine zaa hLa ?_
      rw [hnx]
      simp -dsimp [RE,g1,g2,g3,g4,g5,g6,k6,g12,k12,g14,k14,g19,g18,k18,g21,g20,k20,g29,g22,k22,g26,k26,hS,r2,w3,hlt,zb4,cT]
      done
  · have e:i=co.args.length:=by omega
    subst e
    have hW:=zHu (spT m (mkL b base co.args mo me args co.args.length).2)
    have om:=ome _ (yas hm)
    have oL:=zzg b base co.args mo me args fco.args.2 hmo hme har oar co.args.length
    have hSp:=zls m (mkL b base co.args mo me args co.args.length).2 (by have:=hlen co.args.length; omega) om ⟨by have:=hlen co.args.length; omega,oL⟩
    have hE:zih b base co m mo me args=zam (spT m (mkL b base co.args mo me args co.args.length).2):=by rw [zih,if_pos hz]
    have hT:zib b base co m mo me args=zty (spT m (mkL b base co.args mo me args co.args.length).2):=by rw [zib,zty,hE]
    rw [hE,hT]
    generalize (mkL b base co.args mo me args co.args.length).2=G at *
    generalize spT m G=SP at *
    simp only [cT,eTs] at hSp hW
    simp -dsimp [g1,g2,g3,g4,g5,g6,k6,g12,k12,g14,k14,g19,g18,k18,hmlt,hmeq,hm,cT]
    refine zaa hSp ?_
    simp -dsimp [g1,g2,g3,g4,g5,g6,k6,g12,k12,g14,k14,g19,g18,k18]
    refine zaa hW ?_
    simp -dsimp [g1,g2,g3,g4,g5,g6,k6,g12,k12,g14,k14,g19,g18,k18,cT]
end
end
section
attribute [local simp] zaf zai tk tn tks zde zee
theorem zA0 (f:Int→Int→T) (g:FuncId) (caps:List D) (hf:∀ n b:Int,0≤n→n≤65535→0≤b→b≤1099511627776→zi0 Tryz.prog g (.int .i64 n :: .int .i64 b :: caps) [.agg (cT (f n b))]) (t:T):∀ b:Int,VokT t→0≤b→b+zac t≤1099511627776 →
    zi0 Tryz.prog zcj [.agg (cT t),.int .i64 b,.clo g caps] [.agg (cT (mapT f t b))]:=by
  refine T.ind (p:=fun t=>∀ b:Int,VokT t→0≤b→b+zac t≤1099511627776→zi0 Tryz.prog zcj [.agg (cT t),.int .i64 b,.clo g caps] [.agg (cT (mapT f t b))]) ?_ t
  intro k n ks ih b hvk h0 hb
  obtain ⟨hvn,hl,hsk⟩:=hvk.out
  refine zds true hm Tryz.func124 zqw rfl fun hs nn=>?_
  simp -dsimp [zg9,cT]
  (first | refine zah ?_ ?_ | refine zag ?_ ?_) <;> intro h1 <;> (try simp only [nrm] at h1) <;> simp -dsimp [h1]
  · have hn:=(hvn h1).1
    refine zcm (hf n b hn.1 hn.2 h0 (by omega)) ?_
    rw [mapT,if_pos h1]
    simp -dsimp [h1,cT]
  have hM:mapT f (.mk k n ks) b = .mk k n (mapL f k b 0 ks):=by rw [mapT,if_neg h1]
  rw [hM]
  by_cases hz:ks=[]
  · subst hz
    simp -dsimp [h1,mapL]
  simp -dsimp [h1,hz]
  have r1:(ks.length:Int)*40≤(zae:Int):=by simp only [zae]; omega
  have r2:ks.length≤zae:=by simp only [zae]; omega
  have hll:(mapL f k b 0 ks).length=ks.length:=zhu f k b ks 0
  simp -dsimp [h1,hz,r1,r2]
  refine zaj ks.length (fun i st=>st.s 3 = .ptr 3 1 0∧st.h 3=⟨1,.box [.d (.int .i64 k),.d (.int .i64 n),.d (.sl 3 (ks.map eT))] false⟩∧st.s 1 = .d (.int .i64 b)∧st.s 2 = .d (.clo g caps) ∧
    st.s 6 = .ptr 6 1 0∧st.h 6=⟨1,.box [.d (.int .i64 0),.d (.int .i64 0),.fsl 3 []] false⟩∧st.s 7 = .rsl 27 1∧st.s 29 = .d (.sl 3 (ks.map eT))∧st.s 30 = .d (.int .i64 ks.length)∧st.s 31 = .d (.int .i64 i) ∧
    st.h 27=⟨1,.row 3 (((mapL f k b 0 ks).map eT).take i ++ List.replicate (ks.length - i) (D.agg [.int .i64 0,.int .i64 0,.sl 3 []])) false⟩) ?_ ?_
  · simp -dsimp
  · rintro i ⟨s,hp⟩ hi ⟨g1,g2,g3,g4,g5,g6,g7,g8,g9,g10,g11⟩
    dsimp only at g1 g2 g3 g4 g5 g6 g7 g8 g9 g10 g11
    rcases ybm i ks.length with hlt | hge
    · have w1:IntKind.i64.wrap ((i:Int)+1)=(i:Int)+1:=zad (by omega) (by omega)
      have hbl:=zcv k i
      have hnk:=zb7 (k:=k) (n:=n) (yaf hlt:ks[i] ∈ ks)
      have w2:IntKind.i64.wrap (b+zal k i)=b+zal k i:=zad (by omega) (by omega)
      simp -dsimp [g1,g2,g3,g4,g5,g6,g7,g8,g9,g10,g11,hlt,cT]
      refine zaa (zk3 k i) ?_
      simp -dsimp [g1,g2,g3,g4,g5,g6,g7,g8,g9,g10,g11,hlt,w2]
      refine zcm (ih ks[i] (yaf _) (b+zal k i) (hsk _ (yaf _)) (by omega) (by omega)) ?_
      have q1:(i:Int)<((min i ks.length:Nat):Int)+((ks.length - i:Nat):Int):=by omega
      have q2:i<min i ks.length+(ks.length - i):=by omega
      have hle:((mapL f k b 0 ks).map eT).length=ks.length:=by rw [ycn,hll]
      have hfn:=zj4 (l:=(mapL f k b 0 ks).map eT) (z:=D.agg [.int .i64 0,.int .i64 0,.sl 3 []]) (i:=i) (by rw [hle]; exact hlt)
      have hel:((mapL f k b 0 ks).map eT)[i]'(by rw [hle]; exact hlt) = .agg (cT (mapT f ks[i] (b+zal k i))):=by
        rw [List.getElem_map,zjh f k b ks 0 i hlt,zb4,ybj]
      rw [hel,hle] at hfn
      simp only [cT] at hfn
      simp -dsimp [g1,g2,g3,g4,g5,g6,g7,g8,g9,g10,g11,hlt,w1,w2,hll,q1,q2,cT,hfn]
    · have e:i=ks.length:=by omega
      subst e
      have ht:((mapL f k b 0 ks).map eT).take ks.length=(mapL f k b 0 ks).map eT:=yce (by rw [ycn,hll]; exact Nat.le_refl _)
      rw [ht,Nat.sub_self,List.replicate_zero,List.append_nil] at g11
      simp -dsimp [g1,g2,g3,g4,g5,g6,g7,g8,g9,g10,g11]
theorem zGi (n:Int):zi0 Tryz.prog zjm [.int .i64 n] [.agg (cT (.mk 1 n []))]:=by
  refine zds false hm Tryz.func126 zAr rfl fun hs nn=>?_
  simp -dsimp [zsw,cT]
theorem zB4 (n b y:Int):zi0 Tryz.prog zc9 [.int .i64 n,.int .i64 b,.rp [.int .i64 y]] [.agg (cT (.mk 1 (if b≤n then w64 (n+y) else n) []))]:=by
  refine zds false hm Tryz.func191 zl8 rfl fun hs nn=>?_
  simp -dsimp [zgl]
  (first | refine zah ?_ ?_ | refine zag ?_ ?_) <;> intro h1 <;> (try simp only [nrm] at h1) <;> simp -dsimp [h1,w64]
  · refine zcm (zGi _) ?_
    simp -dsimp [h1,w64,cT]
  · refine zcm (zGi _) ?_
    simp -dsimp [h1,cT]
theorem zE1 (t:T) (y:Int) (hs:zab t=true) (hn:zac t≤1099511627776):zi0 Tryz.prog zig [.agg (cT t),.int .i64 y] [.agg (cT (zit y t))]:=by
  refine zds false hm Tryz.func154 zpz rfl fun hs' nn=>?_
  simp -dsimp [zie,cT]
  refine zcm (zA0 (fun n b=>.mk 1 (if b≤n then w64 (n+y) else n) []) zc9 [.rp [.int .i64 y]] (fun n b _ _ _ _=>zB4 n b y) t 0 (zve _ hs) (by omega) (by omega)) ?_
  simp -dsimp [zit,cT]
theorem zEl (l:List T) (u:Int) (sc:Bool) (sz dp:Int) (hu:0≤u∧u≤65535) (hl:∀ x ∈ l,zab x=true∧zac x≤549755813888) (n b:Int) (hn:0≤n) (hn':n≤65535) (hb:0≤b) (hb':b≤1099511627776) :
    zi0 Tryz.prog zdv [.int .i64 n,.int .i64 b,.rp [jobD (l.map agOf) u sc sz dp],.rp [.int .i64 u],.rp [eTs l]] [.agg (cT (zbb l u n b))]:=by
  refine zds false hm Tryz.func152 znq rfl fun hs nn=>?_
  have w1:IntKind.i64.wrap (u+b)=u+b:=zad (by omega) (by omega)
  have w1':w64 (u+b)=u+b:=w1
  simp -dsimp [zhs,eTs]
  have hw:=zsx (l.map agOf) u sc sz dp n b hu ⟨hb,hb'⟩ ⟨hn,hn'⟩
  rw [ycn] at hw
  refine zaa hw ?_
  generalize hW:zbt l.length u n b=W
  have hI:zbb l u n b=if 0≤W then match l[W.toNat]? with
    | some a=>zit (w64 (u+b)) a
    | none=>zT
    else .mk 1 (if u+b≤n then w64 (n - l.length) else n) []:=by rw [zbb,hW] <;> rfl
  simp -dsimp
  (first | refine zah ?_ ?_ | refine zag ?_ ?_) <;> intro g1 <;> (try simp only [nrm] at g1) <;> simp -dsimp [g1]
  · have hlt:W.toNat<l.length:=by
      rw [zbt] at hW
      split at hW <;> omega
    have hget:l[W.toNat]? = some l[W.toNat]:=yar hlt
    have hI2:zbb l u n b=zit (w64 (u+b)) l[W.toNat]:=by rw [hI,if_pos g1,hget]
    rw [hI2,w1']
    simp -dsimp [jobD,g1,hlt,w1,agOf,cAg,eAg,cT]
    obtain ⟨hf,hnn⟩:=hl l[W.toNat] (yaf _)
    refine zcm (zE1 l[W.toNat] (u+b) hf (by omega)) ?_
    simp -dsimp [cT]
  · have hI2:zbb l u n b = .mk 1 (if u+b≤n then w64 (n - l.length) else n) []:=by rw [hI,if_neg g1]
    rw [hI2]
    simp -dsimp [g1,w1]
    (first | refine zah ?_ ?_ | refine zag ?_ ?_) <;> intro g2 <;> (try simp only [nrm] at g2) <;> simp -dsimp [g2,g1,w1]
    · refine zcm (zGi _) ?_
      simp -dsimp [g2,cT,w64]
    · refine zcm (zGi _) ?_
      simp -dsimp [g2,cT,w64]
theorem zHj (t:T) (l:List T) (u:Int) (ht:zac t≤549755813888) (hl:∀ x ∈ l,zac x≤549755813888) (hn:l.length≤2097152) :
    zi0 Tryz.prog zft [.agg (cT t),eTs l,.int .i64 u] [.agg (cT (zb0 t l u)),.int .i64 (zbh t l u)]:=by
  refine zds false hm Tryz.func95 zr0 rfl fun hs nn=>?_
  simp -dsimp [zjj,cT,eTs]
  refine zaa (zDh t l u ht hl hn) ?_
  by_cases h1:zes t l u=0
  · have hR:zne t l u=jobD (l.map agOf) u (zc6 t l u).sc (zc6 t l u).sz (zc6 t l u).dp:=by rw [zne,if_pos h1]
    obtain ⟨f1,f2,f3⟩:=zhh h1
    have hE:zbh t l u=if (zc6 t l u).sc then 6 else if 6000<(zc6 t l u).sz then 4 else if 200<(zc6 t l u).dp then 5 else 0:=by rw [zbh,if_pos h1]
    generalize zc6 t l u=st at hR hE
    obtain ⟨sc,sz,dp⟩:=st
    have bad:zbh t l u ≠ 0→zb0 t l u=zT:=fun h=>by rw [zb0,if_neg h]
    rw [hR,h1]
    cases sc with
    | true =>
      have hE1:zbh t l u=6:=by rw [hE]; rfl
      have hT:=bad (by omega)
      simp -dsimp [jobD,hE1,hT,zT,cT]
    | false =>
      simp -dsimp [jobD]
      (first | refine zah ?_ ?_ | refine zag ?_ ?_) <;> intro h2 <;> (try simp only [nrm] at h2) <;> simp -dsimp [h2]
      · have hE1:zbh t l u=4:=by rw [hE]; simp [h2]
        have hT:=bad (by omega)
        simp -dsimp [hE1,hT,zT,cT]
      (first | refine zah ?_ ?_ | refine zag ?_ ?_) <;> intro h3 <;> (try simp only [nrm] at h3) <;> simp -dsimp [h3,h2]
      · have hE1:zbh t l u=5:=by rw [hE]; simp [h2,h3]
        have hT:=bad (by omega)
        simp -dsimp [hE1,hT,zT,cT]
      have hE1:zbh t l u=0:=by rw [hE]; simp [h2,h3]
      have hT:zb0 t l u=mapT (zbb l u) t 0:=by rw [zb0,if_pos hE1]
      rw [hE1,hT]
      have hmap:=zA0 (zbb l u) zdv [.rp [jobD (l.map agOf) u false sz dp],.rp [.int .i64 u],.rp [eTs l]] (fun n b a1 a2 a3 a4=>zEl l u false sz dp f3 (fun x hx=>⟨f2 x hx,hl x hx⟩) n b a1 a2 a3 a4) t 0 (zve _ f1) (by omega) (show (0:Int)+zac t≤1099511627776 by omega)
      have hj:jobD (l.map agOf) u false sz dp = .rp [.sl 6 (l.map (eAg ∘ agOf)),.int .i64 u,.bool false,.int .i64 sz,.int .i64 dp]:=by simp [jobD]
      rw [hj] at hmap
      refine zcm hmap ?_
      simp -dsimp [h2,h3,cT]
  · have hR:zne t l u = .nilp:=by rw [zne,if_neg h1]
    have hE:zbh t l u=zes t l u:=by rw [zbh,if_neg h1]
    have hT:zb0 t l u=zT:=by rw [zb0,hE,if_neg h1]
    rw [hR,hE,hT]
    simp -dsimp [h1,zT,cT]
end
section
section
def pl:AV→Prop
  | .d _=>True
  | .ptr _ _ _=>True
  | .rsl _ _=>True
  | .fsl _ _=>True
  | .agg cs=>∀ c ∈ cs,(match c with | .d _=>True | _=>False)
  | _=>False
def plB:Body→Prop
  | .box cs _=>∀ c ∈ cs,pl c
  | _=>True
theorem zNe {n1 n2:Nw} {G:GS} {h:Nat→Ent} {w:World} {v:Value} {x:D} (r:@ARel n1 G h w v (.d x)):@ARel n2 G h w v (.d x):=by
  cases r with | d _ _ hr=>exact @ARel.d n2 G h w _ _ hr
theorem zDr {n1 n2:Nw} {G:GS} {h:Nat→Ent} {w:World} {v:Value} {av:AV} (hp:pl av) (r:@ARel n1 G h w v av):@ARel n2 G h w v av:=by
  cases r with
  | d _ _ hr=>exact @ARel.d n2 G h w _ _ hr
  | ptr _ _ _ _ h1 hle hv=>exact @ARel.ptr n2 G h w _ _ _ _ h1 hle hv
  | rsl _ _ _ h1 hle hv=>exact @ARel.rsl n2 G h w _ _ _ h1 hle hv
  | fsl A n sz xs hr=>exact @ARel.fsl n2 G h w A n sz xs hr
  | agg vs cs hn hr =>
    refine @ARel.agg n2 G h w vs cs hn fun j c hj=>?_
    have hc:=hp c (yas hj)
    cases c with
    | d x=>exact zNe (hr j _ hj)
    | _=>exact hc.elim
  | _=>exact hp.elim
theorem zL5 {n1:Nw} (h:n1.hm=false) {St:Nat→Nat}:@rwS n1 St=St:=by
  show (if n1.hm=true then cutS true n1.n St else St)=St
  rw [h]; rfl
theorem zH1 {n1 n2:Nw} (h1:n1.hm=false) (h2:n2.hm=false) {G:GS} {h:Nat→Ent} {w:World} {k:Nat} {b:Body} (hp:plB b) (e:@zjc n1 G h w k b):@zjc n2 G h w k b:=by
  cases b with
  | dead=>trivial
  | box cs fz =>
    obtain ⟨b,arr,el,e1,e2,e3,e4,e5⟩:=e
    exact ⟨b,arr,el,e1,e2,e3,fun j c hj=>⟨zDr (hp c (yas hj)) (e4 j c hj).1,(e4 j c hj).2⟩,e5⟩
  | row sz xs fz =>
    cases fz with
    | true=>exact e
    | false =>
      have q1:=fun St=>zL5 h1 (St:=St)
      have q2:=fun St=>zL5 h2 (St:=St)
      simp only [zjc,q1] at e
      simp only [zjc,q2]
      exact e
theorem zIm {P:Program} {g:FuncId} {aa:List AV} {K:List Nat} {h0 h1:Nat→Ent} {rs:List D} (m:Nat) (p0:∀ k ∈ K,plB (h0 k).body) (p1:∀ k ∈ K,plB (h1 k).body) (pa:∀ a ∈ aa,pl a) (hc:@MutC i0 P g aa K h0 rs h1):@MutC (i1 m) P g aa K h0 rs h1:=by
  refine ⟨hc.1,hc.2.1,fun G h w vs hk hd inv hl ha=>?_⟩
  obtain ⟨ist,ient,iap,ilow⟩:=inv
  have inv0:@Inv i0 G h w:=by
    refine @Inv.mk i0 _ _ _ ist (fun k=>?_) iap (Nat.zero_le _)
    by_cases hm:k ∈ K
    · exact zH1 (n1:=i1 m) rfl rfl (by rw [hk k hm]; exact p0 k hm) (ient k)
    · rw [hd k hm]; trivial
  refine (hc.2.2 G h w vs hk hd inv0 hl (fun j a hj=>zDr (n1:=i1 m) (pa a (yas hj)) (ha j a hj))).mono ?_
  rintro e w' ⟨G',h',us,rfl,hr,hk',hd',hinv,hext,hleft,hgrow,hfresh⟩
  obtain ⟨jst,jent,jap,jlow⟩:=hinv
  refine ⟨G',h',us,rfl,hr,hk',hd',@Step.mk (i1 m) _ _ _ _ _ _ (@Inv.mk (i1 m) _ _ _ jst (fun k=>?_) jap (yac ilow hleft.size)) hext hleft hgrow hfresh⟩
  by_cases hm:k ∈ K
  · exact @zH1 i0 (i1 m) rfl rfl _ _ _ _ _ (by rw [hk' k hm]; exact p1 k hm) (jent k)
  · rw [hd' k hm]; trivial
theorem zs2 {c:Prop} [Decidable c] {a b:Option (AV × (Nat→Ent))} {s:Nat→AV} {d:Option Nat} {K:S→Prop} {t1:Tg s} {t2:Tg K} (h1:c→runB a s d K t1 t2) (h2:¬ c→runB b s d K t1 t2):runB (if c then a else b) s d K t1 t2:=by
  by_cases h:c
  · rw [if_pos h]; exact h1 h
  · rw [if_neg h]; exact h2 h
attribute [local simp] zaf zai tk tn tks zde zee zim zi4 ziy zlq
set_option maxHeartbeats 4000000 in
theorem zGx (b:Bl) (fb:FineBl b) (ob:okBl b) (base:Int) (c:Nat) (co:Co) (hc:b.cons[c]? = some co) (mo me args:List T) (m:T) (hm:me[c]? = some m) (hmo:∀ x ∈ mo,zac x≤9000) (lmo:mo.length≤60) (hme:∀ x ∈ me,zac x≤9000) (lme:me.length≤60)
    (har:∀ x ∈ args,zac x≤9000) (lar:args.length=co.args.length) (ome:∀ x ∈ me,okT x) (oar:∀ x ∈ args,okT x) :
    zi0 Tryz.prog zkr [eBl b,.int .i64 base,.int .i64 c,eTs mo,eTs me,eTs args] [.agg (cT (zib b base co m mo me args)),.int .i64 (zih b base co m mo me args)]:=by
  refine zds false Ev.hm Tryz.func94 ztn rfl fun hs nn=>?_
  have fco:=fb.cons co (yas hc)
  have oco:=ob.cons co (yas hc)
  have hl20:=fco.args.1
  have hcl:=fb.c
  have hclt:=(yae.1 hc).1
  obtain ⟨as1,as2⟩:co.args.length≤20∧args.length≤20:=⟨by omega,by omega⟩
  simp -dsimp [zkj,eBl,cBl]
  simp -dsimp [hc,eCos,eCo,cCo,eArs]
  refine zaj co.args.length (fun i st=>st.s 1 = .d (.int .i64 base)∧st.s 2 = .d (.int .i64 c)∧st.s 3 = .d (eTs mo)∧st.s 4 = .d (eTs me)∧st.s 5 = .d (eTs args)∧st.s 6 = .ptr 6 1 0∧st.s 12 = .ptr 12 1 0∧st.s 14 = .ptr 21 1 0 ∧
    st.s 27 = .d (eArs co.args)∧st.s 28 = .d (.int .i64 co.args.length)∧st.s 29 = .d (.int .i64 i) ∧
    st.h 6=⟨1,.box [.d (eSos b.sorts),.d (eCos b.cons),.d (.int .i64 b.elim)] false⟩ ∧
    st.h 12=⟨1,.box [.d (.int .i64 0),.d (.int .i64 0),.fsl 3 []] false⟩ ∧
    (∃ q,st.s 15 = .rsl 15 q∧st.h 15=⟨q,.row 3 ((mkL b base co.args mo me args i).2.map eT) false⟩) ∧
    st.h 21=⟨1,.box [.d (.int .i64 (mkL b base co.args mo me args i).1)] false⟩) ?_ ?_
  · simp -dsimp [mkL,eTs,eArs,eCos]
  · rintro i ⟨s,hp⟩ hi ⟨g1,g2,g3,g4,g5,g6,g12,g14,g27,g28,g29,k6,k12,⟨q,g15,k15⟩,k21⟩
    dsimp only at g1 g2 g3 g4 g5 g6 g12 g14 g27 g28 g29 k6 k12 g15 k15 k21
    simp only [eTs,eArs] at g3 g4 g5 g27
    have hln:=zAb b base co.args mo me args i
    rcases ybm i co.args.length with hlt | hge
    · have hlt2:i<args.length:=by omega
      have w1:IntKind.i64.wrap ((i:Int)+1)=(i:Int)+1:=zad (by omega) (by omega)
      have hn:=zpc (b:=b) (base:=base) (mo:=mo) (me:=me) (yar hlt) (yar hlt2)
      have hr:((mkL b base co.args mo me args i).2.length+1)*40≤zae:=by simp only [zae]; omega
      have hr2:((mkL b base co.args mo me args i).2.length+2)*40≤zae:=by simp only [zae]; omega
      generalize hL:mkL b base co.args mo me args i=L at *
      have fa:=fco.args.2 co.args[i] (yaf _)
      have oa:=oco.args.2 co.args[i] (yaf _)
      have htn:=har args[i] (yaf _)
      generalize hAe:co.args[i]=A at *
      generalize hX:args[i]=X at *
      simp -dsimp [g1,g2,g3,g4,g5,g6,g12,g14,g15,g27,g28,g29,k6,k12,k15,k21,hlt,hlt2,hX,hAe,hr,eAr,cAr,cT]
      refine zs2 (fun _=>?_) (fun _=>?_)
      all_goals
        simp -dsimp [g1,g2,g3,g4,g5,g6,g12,g14,g15,g27,g28,g29,k6,k12,k15,k21,hlt,hlt2,hX,hAe,hr,eAr,cAr,cT]
        cases hrc:A.rc with
        | false =>
          rw [hrc] at hn
          simp only [yao,false_and,if_false] at hn
          simp -dsimp [g1,g2,g3,g4,g5,g6,g12,g14,g15,g27,g28,g29,k6,k12,k15,k21,hlt,hlt2,hX,hAe,hr,hn,w1,eTs,eArs,zb4,cT]
        | true =>
          rw [hrc] at hn
          by_cases h0:L.1=0
          · simp only [h0,true_and,if_true] at hn
            have hI:=zA8 b base A oa fa mo me (args.take i) X hmo lmo hme lme (fun x hx=>har x (ycV hx)) (by rw [yaE]; omega) htn 1 0
            have hI:=zjx (pre:=[.ptr 21 1 0]) hI
            have hI:=zjx (pre:=[.ptr 21 1 0,.agg ((cBl b).map .d),.d (.int .i64 base)]) hI
            have hile:i≤args.length:=by omega
            have hEr:errs 0 []=0:=rfl
            simp only [cBl,cAr,eAr,cT,eTs,yaV,ycG,ycv,ycu,ycW,hrc] at hI
            have k21':(hp 21)=mH 1 0 21:=by rw [k21,h0]; rfl
            simp -dsimp [g1,g2,g3,g4,g5,g6,g12,g14,g15,g27,g28,g29,k6,k12,k15,k21,hlt,hlt2,hX,hAe,hr,h0,hile,eAr,cAr,cT,eTs]
            refine zdo (zIm _ (by simp [plB,mH,pl]) (by simp [plB,mH,pl]) (by simp [pl]) hI) (by simp -dsimp [mH,g1,g2,g3,g4,g5,g6,g12,g14,g15,g27,g28,g29,k6,k12,k15,k21,h0]) ?_
            simp -dsimp [za8,zbm,mH,g1,g2,g3,g4,g5,g6,g12,g14,g15,g27,g28,g29,k6,k12,k15,k21,hlt,hlt2,hX,hAe,hr,hr2,hn,h0,w1,eTs,eArs,zb4,cT]
            refine zs2 (fun _=>?_) (fun _=>?_) <;> simp -dsimp [za8,zbm,mH,g1,g2,g3,g4,g5,g6,g12,g14,g15,g27,g28,g29,k6,k12,k15,k21,hlt,hlt2,hX,hAe,hr,hr2,hn,h0,w1,eTs,eArs,zb4,cT]
          · simp only [h0,and_false,if_false] at hn
            simp -dsimp [g1,g2,g3,g4,g5,g6,g12,g14,g15,g27,g28,g29,k6,k12,k15,k21,hlt,hlt2,hX,hAe,hr,hn,h0,w1,eTs,eArs,zb4,cT]
    · have e1:i=co.args.length:=by omega
      subst e1
      generalize hL:mkL b base co.args mo me args co.args.length=L at *
      have hE:zih b base co m mo me args=if L.1=0 then zam (spT m L.2) else L.1:=by rw [zih,hL]
      have hT:zib b base co m mo me args=if zih b base co m mo me args=0 then spT m L.2 else zT:=by rw [zib,hL]
      by_cases h0:L.1=0
      · rw [if_pos h0] at hE
        have oL:∀ x ∈ L.2,okT x:=by rw [← hL]; exact zzg b base co.args mo me args fco.args.2 hmo hme har oar _
        have hS:=zC1 m L.2 (by omega) (ome m (yas hm)) ⟨by omega,oL⟩
        have hC:=zk2 (spT m L.2)
        generalize hZ:spT m L.2=Z at *
        simp only [cT,eTs] at hS hC
        simp -dsimp [g1,g2,g3,g4,g5,g6,g12,g14,g15,g27,g28,g29,k6,k12,k15,k21,h0]
        simp -dsimp [hm,zb4,cT,g1,g2,g3,g4,g5,g6,g12,g14,g15,g27,g28,g29,k6,k12,k15,k21]
        refine zcm hS ?_
        simp -dsimp [g1,g2,g3,g4,g5,g6,g12,g14,g15,g27,g28,g29,k6,k12,k15,k21]
        refine zA1 (by simp -dsimp) hC ?_
        by_cases h1:zam Z=0
        · rw [h1] at hE
          rw [hE,if_pos rfl] at hT
          simp -dsimp [g1,g2,g3,g4,g5,g6,g12,g14,g15,g27,g28,g29,k6,k12,k15,k21,h1,hE,hT,cT]
        · rw [hE,if_neg h1] at hT
          simp -dsimp [g1,g2,g3,g4,g5,g6,g12,g14,g15,g27,g28,g29,k6,k12,k15,k21,h1,hE,hT,cT,zT]
      · rw [if_neg h0] at hE
        rw [hE,if_neg h0] at hT
        simp -dsimp [g1,g2,g3,g4,g5,g6,g12,g14,g15,g27,g28,g29,k6,k12,k15,k21,h0,hE,hT,zT,cT]
set_option maxHeartbeats 4000000 in
theorem zG1 (b:Bl) (fb:FineBl b) (ob:okBl b) (base c:Int) (mo me args:List T) (hmo:∀ x ∈ mo,zac x≤9000) (lmo:mo.length≤60) (hme:∀ x ∈ me,zac x≤9000) (lme:me.length≤60)
    (har:∀ x ∈ args,zac x≤9000) (lar:args.length≤60) (ome:∀ x ∈ me,okT x) (oar:∀ x ∈ args,okT x) :
    zi0 Tryz.prog zi1 [eBl b,.int .i64 base,.int .i64 c,eTs mo,eTs me,eTs args] [.agg (cT (zdi b base c mo me args)),.int .i64 (zcc b base c mo me args)]:=by
  refine zds false Ev.hm Tryz.func34 ztj rfl fun hs nn=>?_
  have hC:=zte b
  have hcl:=fb.c
  simp only [eBl,cBl] at hC
  simp -dsimp [zkx,eBl,cBl,eTs]
  refine zaa hC ?_
  by_cases hz:zct b=0
  case neg =>
    have hE:zcc b base c mo me args=zct b:=by rw [zcc,if_neg hz]
    have hT:zdi b base c mo me args=zT:=by rw [zdi,hE,if_neg hz]
    simp -dsimp [hz,hE,hT,zT,cT]
  simp -dsimp [hz]
  by_cases c0:c<0
  · have hE:zcc b base c mo me args=1:=by rw [zcc,if_pos hz,if_pos c0]
    have hT:zdi b base c mo me args=zT:=by rw [zdi,hE,if_neg (by omega)]
    simp -dsimp [hz,hE,hT,zT,cT,c0]
  cases hco:b.cons[c.toNat]? with
  | none =>
    have hge:=ybS.1 hco
    have c1:(b.cons.length:Int)≤c:=by omega
    have hE:zcc b base c mo me args=1:=by rw [zcc,if_pos hz,if_neg c0,hco]
    have hT:zdi b base c mo me args=zT:=by rw [zdi,hE,if_neg (by omega)]
    simp -dsimp [hz,hE,hT,zT,cT,c0,eCos,c1]
  | some co =>
    have hlt:=(yae.1 hco).1
    have c1:¬ (b.cons.length:Int)≤c:=by omega
    have c2:0≤c:=by omega
    have hE:zcc b base c mo me args=if zlc b base c co mo me args then if zan (mo ++ (me ++ args))=0 then zih b base co (me.getD c.toNat zT) mo me args else zan (mo ++ (me ++ args)) else 1:=by rw [zcc,if_pos hz,if_neg c0,hco]
    have hT:zdi b base c mo me args=if zcc b base c mo me args=0 then zib b base co (me.getD c.toNat zT) mo me args else zT:=by rw [zdi,hco]
    by_cases a1:(args.length:Int)=co.args.length
    case neg =>
      have hN:¬ zlc b base c co mo me args:=fun h=>by have:=h.1; omega
      rw [if_neg hN] at hE
      rw [hE,if_neg (by omega)] at hT
      simp -dsimp [c0,c1,c2,eCos,eSos,hco,eCo,cCo,eArs,a1,hE,hT,zT,cT]
    by_cases a2:(mo.length:Int)=b.sorts.length
    case neg =>
      have hN:¬ zlc b base c co mo me args:=fun h=>by have:=h.2.1; omega
      rw [if_neg hN] at hE
      rw [hE,if_neg (by omega)] at hT
      simp -dsimp [c0,c1,c2,eCos,eSos,hco,eCo,cCo,eArs,a1,a2,hE,hT,zT,cT]
    by_cases a3:(me.length:Int)=b.cons.length
    case neg =>
      have hN:¬ zlc b base c co mo me args:=fun h=>by have:=h.2.2.1; omega
      rw [if_neg hN] at hE
      rw [hE,if_neg (by omega)] at hT
      simp -dsimp [c0,c1,c2,eCos,eSos,hco,eCo,cCo,eArs,a1,a2,a3,hE,hT,zT,cT]
    by_cases a4:base<0
    · have hN:¬ zlc b base c co mo me args:=fun h=>by have:=h.2.2.2.1; omega
      rw [if_neg hN] at hE
      rw [hE,if_neg (by omega)] at hT
      simp -dsimp [c0,c1,c2,eCos,eSos,hco,eCo,cCo,eArs,a1,a2,a3,a4,hE,hT,zT,cT]
    by_cases a5:65535<base
    · have hN:¬ zlc b base c co mo me args:=fun h=>by have:=h.2.2.2.2; omega
      rw [if_neg hN] at hE
      rw [hE,if_neg (by omega)] at hT
      simp -dsimp [c0,c1,c2,eCos,eSos,hco,eCo,cCo,eArs,a1,a2,a3,a4,a5,hE,hT,zT,cT]
    have hY:zlc b base c co mo me args:=⟨by omega,by omega,by omega,by omega,by omega⟩
    rw [if_pos hY] at hE
    have hR:=zul [mo,me,args] (by simp; omega) (by simp)
    have hfl:[mo,me,args].flatten=mo ++ (me ++ args):=by simp
    rw [hfl] at hR
    simp only [yaV,ycG,eTs] at hR
    simp -dsimp [c0,c1,c2,eCos,eSos,hco,eCo,cCo,eArs,a1,a2,a3,a4,a5]
    refine zs2 (fun _=>?_) (fun _=>?_)
    all_goals
      simp -dsimp
      refine zaa hR ?_
      by_cases h1:zan (mo ++ (me ++ args))=0
      · rw [if_pos h1] at hE
        rw [hE] at hT
        have hmlt:c.toNat<me.length:=by omega
        have hm:me[c.toNat]? = some (me.getD c.toNat zT):=by rw [ybi,yar hmlt]; rfl
        have hK:=zGx b fb ob base c.toNat co hco mo me args _ hm hmo lmo hme lme har (by omega) ome oar
        rw [show ((c.toNat:Nat):Int)=c by omega] at hK
        have hM0:zdi b base c mo me args=zib b base co (me.getD c.toNat zT) mo me args:=by
          rw [hT]
          split
          · rfl
          · rename_i hne; rw [zib,if_neg hne]
        rw [hE,hM0]
        simp only [eBl,cBl,eTs,cT] at hK
        simp -dsimp [c0,c1,c2,eCos,eSos,hco,eCo,cCo,eArs,a1,a2,a3,a4,a5,h1]
        simp only [eCos,eSos,ycn] at hK ⊢
        refine zcm hK ?_
        simp -dsimp [cT]
      · rw [if_neg h1] at hE
        rw [hE,if_neg h1] at hT
        simp -dsimp [c0,c1,c2,eCos,eSos,hco,eCo,cCo,eArs,a1,a2,a3,a4,a5,h1,hE,hT,zT,cT]
set_option maxHeartbeats 4000000 in
theorem zBm (b:Bl) (fb:FineBl b) (ob:okBl b) (c:Int) (args:List T) (har:∀ x ∈ args,zac x≤9000) (lar:args.length≤60) (oar:∀ x ∈ args,okT x) :
    zi0 Tryz.prog zpv [eBl b,.int .i64 c,eTs args] [.agg (cT (zba b c args)),.int .i64 (zav b c args)]:=by
  refine zds false Ev.hm Tryz.func35 zvy rfl fun hs nn=>?_
  have hC:=zte b
  have hcl:=fb.c
  simp only [eBl,cBl] at hC
  simp -dsimp [zpj,eBl,cBl,eTs]
  refine zaa hC ?_
  by_cases hz:zct b=0
  case neg =>
    have hE:zav b c args=zct b:=by rw [zav,if_neg hz]
    have hT:zba b c args=zT:=by rw [zba,hE,if_neg hz]
    simp -dsimp [hz,hE,hT,zT,cT]
  simp -dsimp [hz]
  by_cases c0:c<0
  · have hE:zav b c args=1:=by rw [zav,if_pos hz,if_pos c0]
    have hT:zba b c args=zT:=by rw [zba,hE,if_neg (by omega)]
    simp -dsimp [hz,hE,hT,zT,cT,c0]
  cases hco:b.cons[c.toNat]? with
  | none =>
    have hge:=ybS.1 hco
    have c1:(b.cons.length:Int)≤c:=by omega
    have hE:zav b c args=1:=by rw [zav,if_pos hz,if_neg c0,hco]
    have hT:zba b c args=zT:=by rw [zba,hE,if_neg (by omega)]
    simp -dsimp [hz,hE,hT,zT,cT,c0,eCos,c1]
  | some co =>
    have hlt:=(yae.1 hco).1
    have c1:¬ (b.cons.length:Int)≤c:=by omega
    have c2:0≤c:=by omega
    have hcm:=yas hco
    obtain ⟨k0,so,hso⟩:=zA9 (((zdn b).1 hz).2.2.2.2.2 co hcm)
    have hE:zav b c args=if args.length=co.args.length then if so.dec=true then if zan args=0 then zbh co.dec args 0 else zan args else 1 else 1:=by
      rw [zav,if_pos hz,if_neg c0,hco]
      simp only [hso]
    have hT:zba b c args=if zav b c args=0 then zb0 co.dec args 0 else zT:=by rw [zba,hco]
    by_cases a1:(args.length:Int)=co.args.length
    case neg =>
      rw [if_neg (by omega)] at hE
      rw [hE,if_neg (by omega)] at hT
      simp -dsimp [c0,c1,c2,eCos,eSos,hco,eCo,cCo,eArs,a1,hE,hT,zT,cT]
    rw [if_pos (by omega)] at hE
    cases hd:so.dec with
    | false =>
      rw [hd,if_neg (by simp)] at hE
      rw [hE,if_neg (by omega)] at hT
      simp -dsimp [c0,c1,c2,eCos,eSos,hco,eCo,cCo,eArs,a1,k0,hso,eSo,cSo,hd,hE,hT,zT,cT]
    | true =>
      rw [hd,if_pos rfl] at hE
      have hR:=zul [args] (by simp; omega) (by simp)
      have hfl:[args].flatten=args:=by simp
      rw [hfl] at hR
      simp only [yaV,ycG,eTs] at hR
      simp -dsimp [c0,c1,c2,eCos,eSos,hco,eCo,cCo,eArs,a1,k0,hso,eSo,cSo,hd,cT]
      refine zs2 (fun _=>?_) (fun _=>?_)
      all_goals
        simp -dsimp
        refine zaa hR ?_
        by_cases h1:zan args=0
        · rw [if_pos h1] at hE
          have hI:=zHj co.dec args 0 (by have:=(fb.cons co hcm).dec; omega) (fun x hx=>by have:=har x hx; omega) (by omega)
          have hM:zba b c args=zb0 co.dec args 0:=by
            rw [hT,hE]
            split
            · rfl
            · rename_i hne; rw [zb0,if_neg hne]
          rw [hE,hM]
          simp only [cT,eTs] at hI
          simp -dsimp [c0,c1,c2,eCos,eSos,hco,eCo,cCo,eArs,a1,k0,hso,eSo,cSo,hd,cT,h1]
          refine zcm hI ?_
          simp -dsimp [cT]
        · rw [if_neg h1] at hE
          rw [hE,if_neg h1] at hT
          simp -dsimp [c0,c1,c2,eCos,eSos,hco,eCo,cCo,eArs,a1,k0,hso,eSo,cSo,hd,cT,h1,hE,hT,zT]
  end
end
section
section
attribute [local simp] zaf zai tk tn tks zde zee zim zi4 ziy zlq
theorem zkl {k n:Int} (hk:k=1∨k=2∨k=3) (h:zab (.mk k n [])=true):zam (.mk k n [])=0:=(zu2 (by rw [zcs]; omega)).2 ⟨by rw [zcs]; omega,by rw [zhj]; omega,h⟩
theorem lf (k n:Int) (hk:zdw k=0) (h:0≤n∧n≤65535):zab (.mk k n [])=true:=by
  rw [za5,hk]
  simp [inB,h.1,h.2]
theorem zv2 (n:Int) (h:0≤n∧n≤65535):zbi (tV n) 0 0=0∧za4 (tV n) 0 0=tV n:=by
  have hE:zbi (tV n) 0 0=0:=zth.2 ⟨zkl (.inl rfl) (lf 1 n rfl h),by omega,by omega,by simp [tV,shB]; omega⟩
  exact ⟨hE,by rw [za4,if_pos hE]; simp [tV,mapT,shF]⟩
theorem zAm:zbi (.mk 2 0 []) 0 0=0∧za4 (.mk 2 0 []) 0 0 = .mk 2 0 []:=by
  have hE:zbi (.mk 2 0 []) 0 0=0:=zth.2 ⟨zkl (.inr (.inl rfl)) (lf 2 0 rfl (by omega)),by omega,by omega,by rfl⟩
  exact ⟨hE,by rw [za4,if_pos hE]; simp [mapT,mapL]⟩
def zno:T:=spT (tV 2) [tV 3,spT (tC 3) [.mk 2 0 [],tV 1,tV 2,tV 3]]
theorem zyy:zam zno=0:=by
  have hn:zac zno=13:=by simp [zno,spT,zNk,tV,tC,zcs]
  refine (zu2 (by omega)).2 ⟨by omega,?_,?_⟩
  · have:=zps zno
    omega
  · have hk6:zdw 6=2:=rfl
    have hk1:zdw 1=0:=rfl
    have hk2:zdw 2=0:=rfl
    have hk3:zdw 3=0:=rfl
    simp [zno,spT,za5,hk6,hk1,hk2,hk3,tV,tC,inB]
theorem m13:mkL natB 0 [recA 0 []] [.mk 2 0 []] [tV 1,tV 2] [tV 3] 1=(0,[tV 3,spT (tC 3) [.mk 2 0 [],tV 1,tV 2,tV 3]]):=by
  have h1:=zv2 1 (by omega)
  have h2:=zv2 2 (by omega)
  have h3:=zv2 3 (by omega)
  rw [zpc (a:=recA 0 []) (t:=tV 3) rfl rfl,if_pos ⟨rfl,rfl⟩]
  have hI:zpf (recA 0 []) [.mk 2 0 []] [tV 1,tV 2] (List.take 0 [tV 3]) (tV 3)=[0,0,0,0]:=by
    simp [zpf,recA,zml,upsE,zh8,h1.1,h2.1,h3.1,zAm.1]
  have hT:znp natB 0 (recA 0 []) [.mk 2 0 []] [tV 1,tV 2] (List.take 0 [tV 3]) (tV 3)=spT (tC 3) [.mk 2 0 [],tV 1,tV 2,tV 3]:=by
    have hv:zdp 0=[]:=rfl
    have he:zbe natB 0 0=3:=by rfl
    simp [znp,recA,zhf,upsT,zdt,h1.2,h2.2,h3.2,zAm.2,zku,hv,he]
    rfl
  rw [hI,hT]
  rfl
theorem e13:zcc natB 0 1 [.mk 2 0 []] [tV 1,tV 2] [tV 3]=0∧zdi natB 0 1 [.mk 2 0 []] [tV 1,tV 2] [tV 3]=zno:=by
  have hb:zct natB=0:=by rfl
  have hco:natB.cons[(1:Int).toNat]? = some ⟨0,[recA 0 []],[],zT⟩:=rfl
  have hF:zan ([.mk 2 0 []] ++ ([tV 1,tV 2] ++ [tV 3]))=0:=by
    rw [zk5]
    intro t ht
    simp only [ycv,ycu,yaZ,ycD,or_false] at ht
    rcases ht with rfl | rfl | rfl | rfl
    · exact zkl (.inr (.inl rfl)) (lf 2 0 rfl (by omega))
    all_goals exact zkl (.inl rfl) (lf 1 _ rfl (by omega))
  have hM:zih natB 0 ⟨0,[recA 0 []],[],zT⟩ (tV 2) [.mk 2 0 []] [tV 1,tV 2] [tV 3]=0:=by
    rw [zih]
    simp only [yaS,ybt,ybj,m13]
    exact zyy
  have hE:zcc natB 0 1 [.mk 2 0 []] [tV 1,tV 2] [tV 3]=0:=by
    rw [zcc,if_pos hb,if_neg (by omega),hco]
    simp only
    rw [if_pos ⟨rfl,rfl,rfl,by omega,by omega⟩,if_pos hF]
    exact hM
  refine ⟨hE,?_⟩
  rw [zdi,if_pos hE,hco]
  show zib natB 0 ⟨0,[recA 0 []],[],zT⟩ (tV 2) [.mk 2 0 []] [tV 1,tV 2] [tV 3]=zno
  rw [zib,if_pos hM]
  simp only [yaS,ybt,ybj,m13]
  rfl
theorem zBr:Pure Tryz.prog zfj [] [.bool true]:=by
  refine zn0 rfl fun hs=>?_
  have hleaf:∀ k n:Int,0≤k∧k≤100000→0≤n∧n≤100000→okT (.mk k n []):=fun k n h1 h2=>zjn h1 h2
  have oV:∀ n:Int,0≤n∧n≤100000→okT (tV n):=fun n h=>zjn (by omega) h
  have oU:okT (.mk 2 0 []):=zjn (by omega) (by omega)
  have nV:∀ n:Int,zac (tV n)≤9000:=fun n=>by rw [tV,zcs]; omega
  have nU:zac (.mk 2 0 [])≤9000:=by rw [zcs]; omega
  have hE:=zKb natB zCx zJ3 0 1 [.mk 2 0 []] [tV 1,tV 2] [tV 3] (by simpa using nU) (by simp) (by simp [nV]) (by simp) (by simp [nV]) (by simp)
    (by intro x hx; simp at hx; rcases hx with rfl | rfl <;> exact oV _ (by omega)) (by intro x hx; simp at hx; subst hx; exact oV _ (by omega))
  rw [e13.1,e13.2] at hE
  have hv:=zM2
  have hu:=ru_ok 0
  have hc:=zMa 3
  have hN:=zMy
  have o4:okTs [.mk 2 0 [],tV 1,tV 2,tV 3]:=⟨by simp,by intro x hx; simp at hx; rcases hx with rfl | rfl | rfl | rfl <;> first | exact oU | exact oV _ (by omega)⟩
  have oC:okT (tC 3):=zjn (by omega) (by omega)
  have hS:=zls (tC 3) [.mk 2 0 [],tV 1,tV 2,tV 3] (by simp) oC o4
  have hR:=zls (tV 2) [tV 3,spT (tC 3) [.mk 2 0 [],tV 1,tV 2,tV 3]] (by simp) (oV 2 (by omega)) ⟨by simp,by intro x hx; simp at hx; rcases hx with rfl | rfl; exact oV _ (by omega); exact zr1 _ _ oC o4.2⟩
  have hk:=zfn zno
  have hw:spT (tV 2) [tV 3,spT (tC 3) [.mk 2 0 [],tV 1,tV 2,tV 3]]=zno:=rfl
  rw [hw] at hR
  generalize zno=W at *
  generalize spT (tC 3) [.mk 2 0 [],tV 1,tV 2,tV 3]=X at *
  simp only [zC0,cBl,eBl,cT,tC,tV,eTs,yaV,ycG,zb4,tk,tn,tks,ycv,ycu] at hE hv hu hc hN hS hR hk
  simp -dsimp [ze8]
  refine zaa hN ?_
  simp -dsimp
  refine zaa hu ?_
  simp -dsimp
  refine zaa (hv 1) ?_
  simp -dsimp
  refine zaa (hv 2) ?_
  simp -dsimp
  refine zaa (hv 3) ?_
  simp -dsimp
  refine zaa hE ?_
  simp -dsimp
  refine zaa (hv 2) ?_
  simp -dsimp
  refine zaa (hv 3) ?_
  simp -dsimp
  refine zaa hc ?_
  simp -dsimp
  refine zaa (hv 1) ?_
  simp -dsimp
  refine zaa (hv 2) ?_
  simp -dsimp
  refine zaa (hv 3) ?_
  simp -dsimp
  refine zaa hS ?_
  simp -dsimp
  refine zaa hR ?_
  simp -dsimp
  refine zaa hk ?_
  simp -dsimp
end
end
section
attribute [local simp] zaf zai tk tn tks zim zi4 ziy zlq
theorem zj0 (t:T) (l:List T) (ht:zac t≤1048576) (hl:∀ x ∈ l,zac x≤1048576) (hn:l.length≤1000000) :
    Pure Tryz.prog zeq [.agg (cT t),eTs l] [.agg (cT (if zan l=0 then zb0 t l 0 else zT)),.int .i64 (if zan l=0 then zbh t l 0 else zan l)]:=by
  refine zna rfl fun hs=>?_
  simp -dsimp [zer,cT,eTs]
  refine zaj l.length (fun i st=>st.s 1 = .d (.sl 3 (l.map eT))∧(st.s 2 = .ptr 2 1 0∧st.h 2=⟨1,.box [.d (.int .i64 t.kind),.d (.int .i64 t.num),.d (.sl 3 (t.kids.map eT))] false⟩)∧(st.s 4 = .ptr 4 1 0∧st.h 4=⟨1,.box [.d (.int .i64 0),.d (.int .i64 0),.fsl 3 []] false⟩)∧st.s 6 = .d (.int .i64 i) ∧
    ∀ (j:Nat) (hj:j<l.length),j<i→zam l[j]=0) ?_ ?_
  · simp -dsimp
  rintro i ⟨s,hp⟩ hi ⟨g1,⟨g2,k2⟩,⟨g4,k4⟩,g6,hall⟩
  dsimp only at g1 g2 k2 g4 k4 g6
  rcases ybm i l.length with hlt | hge
  · have w1:IntKind.i64.wrap ((i:Int)+1)=(i:Int)+1:=zad (by omega) (by omega)
    have hCi:=zfz l[i]
    by_cases h3:zam l[i]=0
    case neg =>
      have ea:=zud l i hlt hall h3
      rw [ea,if_neg h3,if_neg h3]
      generalize hX:l[i]=X at *
      simp only [cT] at hCi
      simp -dsimp [g1,g2,k2,g4,k4,g6,hlt,hX,cT]
      refine zaa hCi ?_
      simp -dsimp [g1,g2,k2,g4,k4,g6,hlt,hX,cT,h3,zT]
    have hall':∀ (j:Nat) (hj:j<l.length),j<i+1→zam l[j]=0:=fun j hj hji=>by
      rcases ybm j i with h | h
      · exact hall j hj h
      · have:j=i:=by omega
        subst this; exact h3
    generalize hX:l[i]=X at *
    simp only [cT] at hCi
    simp -dsimp [g1,g2,k2,g4,k4,g6,hlt,hX,cT]
    refine zaa hCi ?_
    simp -dsimp [g1,g2,k2,g4,k4,g6,hlt,hX,cT,h3,w1]
    exact hall'
  have e:i=l.length:=by omega
  subst e
  have hz:zan l=0:=zk5.2 fun t ht=>by
    obtain ⟨j,hj,rfl⟩:=ycO.1 ht
    exact hall j hj hj
  have hI:=zwi t l 0 ht hl hn
  rw [hz]
  simp only [if_true]
  simp only [cT,eTs] at hI
  simp -dsimp [g1,g2,k2,g4,k4,g6]
  refine zaa hI ?_
  simp -dsimp [g1,g2,k2,g4,k4,g6,cT]
def SL (a1 a2 a3:Nat) (q:D→AV) (mo me args:List T) (st:S):Prop:=st.s a1=q (.sl 3 (mo.map eT))∧st.s a2=q (.sl 3 (me.map eT))∧st.s a3=q (.sl 3 (args.map eT))
theorem SL.old {a1 a2 a3:Nat} {mo me args:List T} {st:S} (h:SL a1 a2 a3 .d mo me args st):SL a1 a2 a3 (.n false) mo me args (oldS st):=by
  obtain ⟨g1,g2,g3⟩:=h
  simp [SL,oldS,oldE,oldA,Ev.D.flat,g1,g2,g3]
theorem SL.aft {lim a1 a2 a3:Nat} {mo me args:List T} {st:S} (h1:a1<lim) (h2:a2<lim) (h3:a3<lim) (h:SL a1 a2 a3 (.n false) mo me args st):SL a1 a2 a3 .d mo me args (aftS lim st):=by
  obtain ⟨g1,g2,g3⟩:=h
  simp [SL,aftS,aftE,zzo,Ev.D.flat,g1,g2,g3,h1,h2,h3]
set_option maxHeartbeats 4000000 in
theorem zwf (b:Bl) (ob:okBl b) (hb:bulk (eBl b)≤1048576) (base c:Int) (mo me args:List T) (smo:(mo.map zac).sum≤1048576) (sme:(me.map zac).sum≤1048576) (sar:(args.map zac).sum≤1048576) (omo:okTs mo) (ome:okTs me) (oar:okTs args) :
    Pure Tryz.prog zkv [eBl b,.int .i64 base,.int .i64 c,eTs mo,eTs me,eTs args] [.bool true]:=by
  refine zL6 hm Tryz.func5 zki rfl fun w0=>?_
  have hres:zgq.res=[XRes.tmp 12]:=rfl
  rw [hres]
  have hh:=zCe b
  have hh1:=zhq mo
  have hh2:=zhq me
  have hh3:=zhq args
  simp only [eBl,cBl] at hh
  simp only [eTs] at hh1 hh2 hh3
  refine Snd.seqF (fun st=>SK base c st∧SI 6 .d b st∧SL 3 4 5 .d mo me args st∧VZ [13,17,19,21,23] st) (fun K hK=>?_) ?_
  · simp -dsimp [eBl,cBl]
    refine hK _ ?_
    simp -dsimp [SK,SI,SL,VZ,eBl,cBl,eTs]
  rintro ⟨s,hp⟩ ⟨⟨g1,g2⟩,⟨g3,g4⟩,⟨l1,l2,l3⟩,hv⟩
  dsimp only at g1 g2 g3 g4 l1 l2 l3
  refine Snd.seqF (fun st=>SK base c st∧SI 6 .d b st∧SL 3 4 5 .d mo me args st∧VZ [13,17,19,21,23] st∧zho b=false∧zc8 mo=false∧zc8 me=false∧zc8 args=false) (fun K hK=>?_) ?_
  · simp -dsimp [g1,g2,g3,g4,l1,l2,l3]
    refine zaa hh ?_
    simp -dsimp [g1,g2,g3,g4,l1,l2,l3]
    (first | refine zah ?_ ?_ | refine zag ?_ ?_) <;> intro h1 <;> (try simp only [nrm] at h1) <;> simp -dsimp [h1,g1,g2,g3,g4,l1,l2,l3]
    refine zaa hh1 ?_
    simp -dsimp [h1,g1,g2,g3,g4,l1,l2,l3]
    (first | refine zah ?_ ?_ | refine zag ?_ ?_) <;> intro h2 <;> (try simp only [nrm] at h2) <;> simp -dsimp [h2,h1,g1,g2,g3,g4,l1,l2,l3]
    refine zaa hh2 ?_
    simp -dsimp [h1,h2,g1,g2,g3,g4,l1,l2,l3]
    (first | refine zah ?_ ?_ | refine zag ?_ ?_) <;> intro h3 <;> (try simp only [nrm] at h3) <;> simp -dsimp [h3,h1,h2,g1,g2,g3,g4,l1,l2,l3]
    refine zaa hh3 ?_
    simp -dsimp [h1,h2,h3,g1,g2,g3,g4,l1,l2,l3]
    (first | refine zah ?_ ?_ | refine zag ?_ ?_) <;> intro h4 <;> (try simp only [nrm] at h4) <;> simp -dsimp [h4,h1,h2,h3,g1,g2,g3,g4,l1,l2,l3]
    refine hK _ ?_
    have hv':=hv
    simp only [VZ,yaZ,ycD,or_false,forall_eq_or_imp,forall_eq] at hv'
    obtain ⟨v1,v2,v3,v4,v5⟩:=hv'
    simp -dsimp [SK,SI,SL,VZ,h1,h2,h3,h4,g1,g2,g3,g4,l1,l2,l3,v1,v2,v3,v4,v5]
  clear g1 g2 g3 g4 l1 l2 l3 hv
  rintro ⟨s,hp⟩ ⟨⟨g1,g2⟩,⟨g3,g4⟩,⟨l1,l2,l3⟩,hv,h1,h2,h3,h4⟩
  dsimp only at g1 g2 g3 g4 l1 l2 l3
  have hf:=zId h1
  have fb:=zIz hb h1
  obtain ⟨nmo,_,tmo⟩:=zk1 smo h2
  obtain ⟨nme,_,tme⟩:=zk1 sme h3
  obtain ⟨nar,_,tar⟩:=zk1 sar h4
  have xmo:∀ x ∈ mo,zac x≤9000:=fun x hx=>yac (zf4 (ybb.2 ⟨_,hx,rfl⟩)) (by omega)
  have xme:∀ x ∈ me,zac x≤9000:=fun x hx=>yac (zf4 (ybb.2 ⟨_,hx,rfl⟩)) (by omega)
  have xar:∀ x ∈ args,zac x≤9000:=fun x hx=>yac (zf4 (ybb.2 ⟨_,hx,rfl⟩)) (by omega)
  have tw:=zyk b ob
  have tw1:=zm2 mo omo
  have tw2:=zm2 me ome
  have tw3:=zm2 args oar
  simp only [eBl,cBl] at tw
  simp only [eTs] at tw1 tw2 tw3
  refine Snd.seqF (fun st=>SK base c st∧SI 6 .d b st∧SL 3 4 5 .d mo me args st∧SI 13 .d b st∧SL 14 15 16 .d mo me args st∧VZ [17,19,21,23] st) (fun K hK=>?_) ?_
  · have hv':=hv
    simp only [VZ,yaZ,ycD,or_false,forall_eq_or_imp,forall_eq] at hv'
    obtain ⟨v1,v2,v3,v4,v5⟩:=hv'
    simp -dsimp [g1,g2,g3,g4,l1,l2,l3]
    refine zaa tw ?_
    simp -dsimp [g1,g2,g3,g4,l1,l2,l3]
    refine zaa tw1 ?_
    simp -dsimp [g1,g2,g3,g4,l1,l2,l3]
    refine zaa tw2 ?_
    simp -dsimp [g1,g2,g3,g4,l1,l2,l3]
    refine zaa tw3 ?_
    simp -dsimp [g1,g2,g3,g4,l1,l2,l3,v1]
    refine hK _ ?_
    simp -dsimp [SK,SI,SL,VZ,g1,g2,g3,g4,l1,l2,l3,v1,v2,v3,v4,v5]
  clear g1 g2 g3 g4 l1 l2 l3 hv
  rintro st ⟨hk,hi3,hl3,hi7,hl7,hv⟩
  refine Snd.cut fun m=>?_
  have hF:SK base c (oldS st)∧SI 6 (.n false) b (oldS st)∧SL 3 4 5 (.n false) mo me args (oldS st)∧SI 13 (.n false) b (oldS st)∧SL 14 15 16 (.n false) mo me args (oldS st)∧VZ [17,19,21,23] (oldS st):=⟨hk.old,hi3.old,hl3.old,hi7.old,hl7.old,fun j hj=>hv j hj⟩
  revert hF
  generalize oldS st=st
  clear hk hi3 hi7 hv hl3 hl7
  obtain ⟨s,hp⟩:=st
  rintro ⟨⟨g1,g2⟩,⟨g3,g4⟩,⟨l1,l2,l3⟩,⟨g7,g8⟩,⟨l4,l5,l6⟩,hv⟩
  dsimp only at g1 g2 g3 g4 g7 g8 l1 l2 l3 l4 l5 l6
  have hv':=hv
  simp only [VZ,yaZ,ycD,or_false,forall_eq_or_imp,forall_eq] at hv'
  obtain ⟨v2,v3,v4,v5⟩:=hv'
  have nM:=zG1 b fb ob base c mo me args xmo (by omega) xme (by omega) xar (by omega) ome.2 oar.2
  simp only [cT,eBl,cBl,eSos,eCos,eTs] at nM
  refine Snd.seqF (fun st=>SK base c st∧SI 6 (.n false) b st∧SL 3 4 5 (.n false) mo me args st∧SI 13 (.n false) b st∧SL 14 15 16 (.n false) mo me args st∧SO 17 18 (.n true) (zdi b base c mo me args) (zcc b base c mo me args) st∧VZ [19,21,23] st) (fun K hK=>?_) ?_
  · simp -dsimp [g1,g2,g3,g4,g7,g8,l1,l2,l3,l4,l5,l6,eSos,eCos]
    refine zcm nM ?_
    simp -dsimp [g1,g2,g3,g4,g7,g8,l1,l2,l3,l4,l5,l6,v2]
    refine hK _ ?_
    simp -dsimp [SK,SI,SO,SL,VZ,g1,g2,g3,g4,g7,g8,l1,l2,l3,l4,l5,l6,v2,v3,v4,v5]
  clear g1 g2 g3 g4 g7 g8 l1 l2 l3 l4 l5 l6 hv v2 v3 v4 v5 nM
  rintro ⟨s,hp⟩ ⟨⟨g1,g2⟩,⟨g3,g4⟩,⟨l1,l2,l3⟩,⟨g7,g8⟩,⟨l4,l5,l6⟩,⟨a1,a2,a3⟩,hv⟩
  dsimp only at g1 g2 g3 g4 g7 g8 l1 l2 l3 l4 l5 l6 a1 a2 a3
  have hv':=hv
  simp only [VZ,yaZ,ycD,or_false,forall_eq_or_imp,forall_eq] at hv'
  obtain ⟨v3,v4,v5⟩:=hv'
  have nM:=zBm b fb ob c args xar (by omega) oar.2
  simp only [cT,eBl,cBl,eSos,eCos,eTs] at nM
  refine Snd.seqF (fun st=>SK base c st∧SI 6 (.n false) b st∧SL 3 4 5 (.n false) mo me args st∧SI 13 (.n false) b st∧SL 14 15 16 (.n false) mo me args st∧SO 17 18 (.n true) (zdi b base c mo me args) (zcc b base c mo me args) st∧SO 19 20 (.n true) (zba b c args) (zav b c args) st∧VZ [21,23] st) (fun K hK=>?_) ?_
  · simp -dsimp [g1,g2,g3,g4,g7,g8,l1,l2,l3,l4,l5,l6,a1,a2,a3,eSos,eCos]
    refine zcm nM ?_
    simp -dsimp [g1,g2,g3,g4,g7,g8,l1,l2,l3,l4,l5,l6,a1,a2,a3,v3]
    refine hK _ ?_
    simp -dsimp [SK,SI,SO,SL,VZ,g1,g2,g3,g4,g7,g8,l1,l2,l3,l4,l5,l6,a1,a2,a3,v3,v4,v5]
  clear g1 g2 g3 g4 g7 g8 l1 l2 l3 l4 l5 l6 a1 a2 a3 hv v3 v4 v5 nM
  rintro ⟨s,hp⟩ ⟨⟨g1,g2⟩,⟨g3,g4⟩,⟨l1,l2,l3⟩,⟨g7,g8⟩,⟨l4,l5,l6⟩,⟨a1,a2,a3⟩,⟨b1,b2,b3⟩,hv⟩
  dsimp only at g1 g2 g3 g4 g7 g8 l1 l2 l3 l4 l5 l6 a1 a2 a3 b1 b2 b3
  have hv':=hv
  simp only [VZ,yaZ,ycD,or_false,forall_eq_or_imp,forall_eq] at hv'
  obtain ⟨v4,v5⟩:=hv'
  have kB:=zw7 b
  have k1:=zfs mo
  have k2:=zfs me
  have k3:=zfs args
  simp only [eBl,cBl,eSos,eCos] at kB
  simp only [eTs] at k1 k2 k3
  refine Snd.seqF (fun st=>SK base c st∧SI 6 (.n false) b st∧SL 3 4 5 (.n false) mo me args st∧SI 13 (.n false) b st∧SL 14 15 16 (.n false) mo me args st∧SO 17 18 (.n true) (zdi b base c mo me args) (zcc b base c mo me args) st∧SO 19 20 (.n true) (zba b c args) (zav b c args) st∧VZ [21,23] st) (fun K hK=>?_) ?_
  · simp -dsimp [g1,g2,g3,g4,g7,g8,l1,l2,l3,l4,l5,l6,a1,a2,a3,b1,b2,b3,eSos,eCos]
    refine zaa kB ?_
    simp -dsimp [g1,g2,g3,g4,g7,g8,l1,l2,l3,l4,l5,l6,a1,a2,a3,b1,b2,b3]
    refine zaa k1 ?_
    simp -dsimp [g1,g2,g3,g4,g7,g8,l1,l2,l3,l4,l5,l6,a1,a2,a3,b1,b2,b3]
    refine zaa k2 ?_
    simp -dsimp [g1,g2,g3,g4,g7,g8,l1,l2,l3,l4,l5,l6,a1,a2,a3,b1,b2,b3]
    refine zaa k3 ?_
    simp -dsimp [g1,g2,g3,g4,g7,g8,l1,l2,l3,l4,l5,l6,a1,a2,a3,b1,b2,b3]
    refine hK _ ?_
    simp -dsimp [SK,SI,SO,SL,VZ,g1,g2,g3,g4,g7,g8,l1,l2,l3,l4,l5,l6,a1,a2,a3,b1,b2,b3,v4,v5,eSos,eCos]
  clear g1 g2 g3 g4 g7 g8 l1 l2 l3 l4 l5 l6 a1 a2 a3 b1 b2 b3 hv v4 v5
  rintro ⟨s,hp⟩ ⟨⟨g1,g2⟩,⟨g3,g4⟩,⟨l1,l2,l3⟩,⟨g7,g8⟩,⟨l4,l5,l6⟩,⟨a1,a2,a3⟩,⟨b1,b2,b3⟩,hv⟩
  dsimp only at g1 g2 g3 g4 g7 g8 l1 l2 l3 l4 l5 l6 a1 a2 a3 b1 b2 b3
  have hv':=hv
  simp only [VZ,yaZ,ycD,or_false,forall_eq_or_imp,forall_eq] at hv'
  obtain ⟨v4,v5⟩:=hv'
  refine Snd.seqF (fun st=>SK base c st∧SI 6 (.n false) b st∧SL 3 4 5 (.n false) mo me args st∧SI 13 (.n false) b st∧SL 14 15 16 (.n false) mo me args st∧SO 17 18 (.n true) (zdi b base c mo me args) (zcc b base c mo me args) st∧SO 19 20 (.n true) (zba b c args) (zav b c args) st∧SP 21 22 zT 12 st∧SP 23 24 zT 12 st) (fun K hK=>?_) ?_
  · simp -dsimp [g1,g2,g3,g4,g7,g8,l1,l2,l3,l4,l5,l6,a1,a2,a3,b1,b2,b3,v4,v5]
    refine hK _ ?_
    simp -dsimp [SK,SI,SO,SP,SL,zT,g1,g2,g3,g4,g7,g8,l1,l2,l3,l4,l5,l6,a1,a2,a3,b1,b2,b3,v4,v5,eSos,eCos]
  clear g1 g2 g3 g4 g7 g8 l1 l2 l3 l4 l5 l6 a1 a2 a3 b1 b2 b3 hv v4 v5
  rintro ⟨s,hp⟩ ⟨⟨g1,g2⟩,⟨g3,g4⟩,⟨l1,l2,l3⟩,⟨g7,g8⟩,⟨l4,l5,l6⟩,⟨a1,a2,a3⟩,⟨b1,b2,b3⟩,⟨c1,⟨x1,c2,hc1⟩,c3⟩,d1,⟨x2,d2,hd1⟩,d3⟩
  dsimp only at g1 g2 g3 g4 g7 g8 l1 l2 l3 l4 l5 l6 a1 a2 a3 b1 b2 b3 c1 c2 c3 d1 d2 d3
  simp only [zT,tk,tn,tks,ycG,and_true] at c2 d2 hc1 hd1
  have hSh:=zFa b
  simp only [eBl,cBl,eSos,eCos] at hSh
  refine Snd.seqF (fun st=>SK base c st∧SI 6 (.n false) b st∧SL 3 4 5 (.n false) mo me args st∧SI 13 (.n false) b st∧SL 14 15 16 (.n false) mo me args st∧SO 17 18 (.n true) (zdi b base c mo me args) (zcc b base c mo me args) st∧SO 19 20 (.n true) (zba b c args) (zav b c args) st∧SP 21 22 (zdi b base c mo me args) (zcc b base c mo me args) st∧SP 23 24 (zba b c args) (zav b c args) st) (fun K hK=>?_) ?_
  · -- no: both are told so
    have fin:∀ (e1 e2:Int),zcc b base c mo me args=e1→zav b c args=e2→e1 ≠ 0→e2 ≠ 0→zdi b base c mo me args=zT∧zba b c args=zT:=fun e1 e2 h1 h2 n1 n2=>⟨by rw [zdi,h1,if_neg n1],by rw [zba,h2,if_neg n2]⟩
    simp -dsimp [g1,g2,g3,g4,g7,g8,l1,l2,l3,l4,l5,l6,a1,a2,a3,b1,b2,b3,c1,c2,c3,d1,d2,d3,eSos,eCos]
    refine zaa hSh ?_
    by_cases hs:zj6 b=true
    case neg =>
      have hs':zj6 b=false:=by simpa using hs
      have hz:zct b=12:=by rw [zCo,hs']; rfl
      have hE:zcc b base c mo me args=12:=by rw [zcc,if_neg (by omega),hz]
      have hD:zav b c args=12:=by rw [zav,if_neg (by omega),hz]
      obtain ⟨t1,t2⟩:=fin 12 12 hE hD (by decide) (by decide)
      rw [hE] at hK a3
      rw [hD] at hK b3
      simp -dsimp [g1,g2,g3,g4,g7,g8,l1,l2,l3,l4,l5,l6,a1,a2,a3,b1,b2,b3,c1,c2,c3,d1,d2,d3,hs',eSos,eCos]
      refine hK _ ?_
      simp -dsimp [SK,SI,SO,SP,SL,g1,g2,g3,g4,g7,g8,l1,l2,l3,l4,l5,l6,a1,a2,a3,b1,b2,b3,c1,c2,c3,d1,d2,d3,t1,t2,zT,eSos,eCos]
      rw [t1] at a2
      rw [t2] at b2
      simp only [zT,tk,tn,tks,ycG] at a2 b2
      simp [a2,b2,hc1,hd1]
    have hz:zct b=0:=zCq.1 hs
    have both:∀ (k:Int),k ≠ 0→zcc b base c mo me args=k→zdi b base c mo me args=zT:=fun k n h=>by rw [zdi,h,if_neg n]
    have both2:∀ (k:Int),k ≠ 0→zav b c args=k→zba b c args=zT:=fun k n h=>by rw [zba,h,if_neg n]
    by_cases k0:0≤c
    case neg =>
      have hE:zcc b base c mo me args=1:=by rw [zcc,if_pos hz,if_pos (by omega)]
      have hDE:zav b c args=1:=by rw [zav,if_pos hz,if_pos (by omega)]
      have hT:=both 1 (by decide) hE
      have hDT:=both2 1 (by decide) hDE
      simp only [hE,hT,zT,tk,tn,tks,ycG] at hK a2 a3
      simp only [hDE,hDT,zT,tk,tn,tks,ycG] at hK b2 b3
      simp -dsimp [g1,g2,g3,g4,g7,g8,l1,l2,l3,l4,l5,l6,a1,a2,a3,b1,b2,b3,c1,c2,c3,d1,d2,d3,eSos,eCos,hs,k0]
      refine hK _ ?_
      simp -dsimp [SK,SI,SO,SP,SL,g1,g2,g3,g4,g7,g8,l1,l2,l3,l4,l5,l6,a1,a2,a3,b1,b2,b3,c1,c2,c3,d1,d2,d3,eSos,eCos,hc1,hd1,hs,k0]
    cases hco:b.cons[c.toNat]? with
    | none =>
      have k1:¬ c<(b.cons.length:Int):=by have:=ybS.1 hco; omega
      have hE:zcc b base c mo me args=1:=by rw [zcc,if_pos hz,if_neg (by omega),hco]
      have hDE:zav b c args=1:=by rw [zav,if_pos hz,if_neg (by omega),hco]
      have hT:=both 1 (by decide) hE
      have hDT:=both2 1 (by decide) hDE
      simp only [hE,hT,zT,tk,tn,tks,ycG] at hK a2 a3
      simp only [hDE,hDT,zT,tk,tn,tks,ycG] at hK b2 b3
      simp -dsimp [g1,g2,g3,g4,g7,g8,l1,l2,l3,l4,l5,l6,a1,a2,a3,b1,b2,b3,c1,c2,c3,d1,d2,d3,eSos,eCos,hs,k0,k1]
      refine hK _ ?_
      simp -dsimp [SK,SI,SO,SP,SL,g1,g2,g3,g4,g7,g8,l1,l2,l3,l4,l5,l6,a1,a2,a3,b1,b2,b3,c1,c2,c3,d1,d2,d3,eSos,eCos,hc1,hd1,hs,k0,k1]
    | some co =>
      obtain ⟨hclt,hceq⟩:=yae.1 hco
      have k1:c<(b.cons.length:Int):=by omega
      have hcm:=yas hco
      obtain ⟨s0,so,hso⟩:=zA9 (((zdn b).1 hz).2.2.2.2.2 co hcm)
      obtain ⟨hslt,hseq⟩:=yae.1 hso
      have dE:zcc b base c mo me args=if zlc b base c co mo me args then if zan (mo ++ (me ++ args))=0 then zih b base co (me.getD c.toNat zT) mo me args else zan (mo ++ (me ++ args)) else 1:=by rw [zcc,if_pos hz,if_neg (by omega),hco]
      have dT:zdi b base c mo me args=if zcc b base c mo me args=0 then zib b base co (me.getD c.toNat zT) mo me args else zT:=by rw [zdi,hco]
      have dD:zav b c args=if args.length=co.args.length then if so.dec=true then if zan args=0 then zbh co.dec args 0 else zan args else 1 else 1:=by
        rw [zav,if_pos hz,if_neg (by omega),hco]
        simp only [hso]
      have dDT:zba b c args=if zav b c args=0 then zb0 co.dec args 0 else zT:=by rw [zba,hco]
      by_cases e1:(args.length:Int)=co.args.length
      case neg =>
        have hE:zcc b base c mo me args=1:=by rw [dE,if_neg (fun h=>e1 (by have:=h.1; omega))]
        have hDE:zav b c args=1:=by rw [dD,if_neg (fun h=>e1 (by omega))]
        have hT:=both 1 (by decide) hE
        have hDT:=both2 1 (by decide) hDE
        simp only [hE,hT,zT,tk,tn,tks,ycG] at hK a2 a3
        simp only [hDE,hDT,zT,tk,tn,tks,ycG] at hK b2 b3
        simp -dsimp [g1,g2,g3,g4,g7,g8,l1,l2,l3,l4,l5,l6,a1,a2,a3,b1,b2,b3,c1,c2,c3,d1,d2,d3,eSos,eCos,hs,k0,k1,hclt,hco,hceq,eCo,cCo,eArs,e1]
        refine hK _ ?_
        simp -dsimp [SK,SI,SO,SP,SL,g1,g2,g3,g4,g7,g8,l1,l2,l3,l4,l5,l6,a1,a2,a3,b1,b2,b3,c1,c2,c3,d1,d2,d3,eSos,eCos,hc1,hd1,hs,k0,k1]
      by_cases a2q:(mo.length:Int)=b.sorts.length
      case neg =>
        have hE:zcc b base c mo me args=1:=by rw [dE,if_neg (fun h=>a2q (by have:=h.2.1; omega))]
        have hT:=both 1 (by decide) hE
        simp only [hE,hT,zT,tk,tn,tks,ycG] at hK a2 a3
        simp -dsimp [g1,g2,g3,g4,g7,g8,l1,l2,l3,l4,l5,l6,a1,a2,a3,b1,b2,b3,c1,c2,c3,d1,d2,d3,eSos,eCos,hs,k0,k1,hclt,hco,hceq,eCo,cCo,eArs,e1,s0,hslt,hso,hseq,eSo,cSo,cT,a2q]
        cases hd:so.dec with
        | false =>
          have hDE:zav b c args=1:=by rw [dD,if_pos (by omega),hd,if_neg (by simp)]
          have hDT:=both2 1 (by decide) hDE
          simp only [hDE,hDT,zT,tk,tn,tks,ycG] at hK b2 b3
          simp -dsimp [g1,g2,g3,g4,g7,g8,l1,l2,l3,l4,l5,l6,a1,a2,a3,b1,b2,b3,c1,c2,c3,d1,d2,d3,eSos,eCos,hs,k0,k1,hclt,hco,hceq,eCo,cCo,eArs,e1,s0,hslt,hso,hseq,eSo,cSo,cT,a2q,hd]
          refine hK _ ?_
          simp -dsimp [SK,SI,SO,SP,SL,g1,g2,g3,g4,g7,g8,l1,l2,l3,l4,l5,l6,a1,a2,a3,b1,b2,b3,c1,c2,c3,d1,d2,d3,eSos,eCos,hc1,hd1,hs,k0,k1,hclt,hco,hceq,eCo,cCo,eArs,e1,s0,hslt,hso,hseq,eSo,cSo,cT,a2q]
        | true =>
          have rD:=zj0 co.dec args (by have:=(fb.cons co hcm).dec; omega) (fun x hx=>by have:=xar x hx; omega) (by omega)
          have hDE:zav b c args=(if zan args=0 then zbh co.dec args 0 else zan args):=by rw [dD,if_pos (by omega),hd,if_pos rfl]
          have hDT:zba b c args=(if zan args=0 then zb0 co.dec args 0 else zT):=by
            rw [dDT,hDE]
            by_cases q:zan args=0
            · rw [if_pos q,if_pos q]
              by_cases q2:zbh co.dec args 0=0
              · rw [if_pos q2]
              · rw [if_neg q2,zb0,if_neg q2]
            · simp [q]
          rw [← hDE,← hDT] at rD
          generalize zba b c args=DT at *
          generalize zav b c args=DE at *
          simp only [cT,eTs] at rD
          simp -dsimp [g1,g2,g3,g4,g7,g8,l1,l2,l3,l4,l5,l6,a1,a2,a3,b1,b2,b3,c1,c2,c3,d1,d2,d3,eSos,eCos,hs,k0,k1,hclt,hco,hceq,eCo,cCo,eArs,e1,s0,hslt,hso,hseq,eSo,cSo,cT,a2q,hd]
          refine zaa rD ?_
          simp -dsimp [g1,g2,g3,g4,g7,g8,l1,l2,l3,l4,l5,l6,a1,a2,a3,b1,b2,b3,c1,c2,c3,d1,d2,d3,eSos,eCos,hs,k0,k1,hclt,hco,hceq,eCo,cCo,eArs,e1,s0,hslt,hso,hseq,eSo,cSo,cT,a2q,hd]
          refine hK _ ?_
          simp -dsimp [SK,SI,SO,SP,SL,g1,g2,g3,g4,g7,g8,l1,l2,l3,l4,l5,l6,a1,a2,a3,b1,b2,b3,c1,c2,c3,d1,d2,d3,eSos,eCos,hc1,hd1,hs,k0,k1,hclt,hco,hceq,eCo,cCo,eArs,e1,s0,hslt,hso,hseq,eSo,cSo,cT,a2q]
      by_cases a3q:(me.length:Int)=b.cons.length
      case neg =>
        have hE:zcc b base c mo me args=1:=by rw [dE,if_neg (fun h=>a3q (by have:=h.2.2.1; omega))]
        have hT:=both 1 (by decide) hE
        simp only [hE,hT,zT,tk,tn,tks,ycG] at hK a2 a3
        simp -dsimp [g1,g2,g3,g4,g7,g8,l1,l2,l3,l4,l5,l6,a1,a2,a3,b1,b2,b3,c1,c2,c3,d1,d2,d3,eSos,eCos,hs,k0,k1,hclt,hco,hceq,eCo,cCo,eArs,e1,s0,hslt,hso,hseq,eSo,cSo,cT,a2q,a3q]
        cases hd:so.dec with
        | false =>
          have hDE:zav b c args=1:=by rw [dD,if_pos (by omega),hd,if_neg (by simp)]
          have hDT:=both2 1 (by decide) hDE
          simp only [hDE,hDT,zT,tk,tn,tks,ycG] at hK b2 b3
          simp -dsimp [g1,g2,g3,g4,g7,g8,l1,l2,l3,l4,l5,l6,a1,a2,a3,b1,b2,b3,c1,c2,c3,d1,d2,d3,eSos,eCos,hs,k0,k1,hclt,hco,hceq,eCo,cCo,eArs,e1,s0,hslt,hso,hseq,eSo,cSo,cT,a2q,a3q,hd]
          refine hK _ ?_
          simp -dsimp [SK,SI,SO,SP,SL,g1,g2,g3,g4,g7,g8,l1,l2,l3,l4,l5,l6,a1,a2,a3,b1,b2,b3,c1,c2,c3,d1,d2,d3,eSos,eCos,hc1,hd1,hs,k0,k1,hclt,hco,hceq,eCo,cCo,eArs,e1,s0,hslt,hso,hseq,eSo,cSo,cT,a2q,a3q]
        | true =>
          have rD:=zj0 co.dec args (by have:=(fb.cons co hcm).dec; omega) (fun x hx=>by have:=xar x hx; omega) (by omega)
          have hDE:zav b c args=(if zan args=0 then zbh co.dec args 0 else zan args):=by rw [dD,if_pos (by omega),hd,if_pos rfl]
          have hDT:zba b c args=(if zan args=0 then zb0 co.dec args 0 else zT):=by
            rw [dDT,hDE]
            by_cases q:zan args=0
            · rw [if_pos q,if_pos q]
              by_cases q2:zbh co.dec args 0=0
              · rw [if_pos q2]
              · rw [if_neg q2,zb0,if_neg q2]
            · simp [q]
          rw [← hDE,← hDT] at rD
          generalize zba b c args=DT at *
          generalize zav b c args=DE at *
          simp only [cT,eTs] at rD
          simp -dsimp [g1,g2,g3,g4,g7,g8,l1,l2,l3,l4,l5,l6,a1,a2,a3,b1,b2,b3,c1,c2,c3,d1,d2,d3,eSos,eCos,hs,k0,k1,hclt,hco,hceq,eCo,cCo,eArs,e1,s0,hslt,hso,hseq,eSo,cSo,cT,a2q,a3q,hd]
          refine zaa rD ?_
          simp -dsimp [g1,g2,g3,g4,g7,g8,l1,l2,l3,l4,l5,l6,a1,a2,a3,b1,b2,b3,c1,c2,c3,d1,d2,d3,eSos,eCos,hs,k0,k1,hclt,hco,hceq,eCo,cCo,eArs,e1,s0,hslt,hso,hseq,eSo,cSo,cT,a2q,a3q,hd]
          refine hK _ ?_
          simp -dsimp [SK,SI,SO,SP,SL,g1,g2,g3,g4,g7,g8,l1,l2,l3,l4,l5,l6,a1,a2,a3,b1,b2,b3,c1,c2,c3,d1,d2,d3,eSos,eCos,hc1,hd1,hs,k0,k1,hclt,hco,hceq,eCo,cCo,eArs,e1,s0,hslt,hso,hseq,eSo,cSo,cT,a2q,a3q]
      by_cases a4q:0≤base
      case neg =>
        have hE:zcc b base c mo me args=1:=by rw [dE,if_neg (fun h=>a4q (by have:=h.2.2.2.1; omega))]
        have hT:=both 1 (by decide) hE
        simp only [hE,hT,zT,tk,tn,tks,ycG] at hK a2 a3
        simp -dsimp [g1,g2,g3,g4,g7,g8,l1,l2,l3,l4,l5,l6,a1,a2,a3,b1,b2,b3,c1,c2,c3,d1,d2,d3,eSos,eCos,hs,k0,k1,hclt,hco,hceq,eCo,cCo,eArs,e1,s0,hslt,hso,hseq,eSo,cSo,cT,a2q,a3q,a4q]
        cases hd:so.dec with
        | false =>
          have hDE:zav b c args=1:=by rw [dD,if_pos (by omega),hd,if_neg (by simp)]
          have hDT:=both2 1 (by decide) hDE
          simp only [hDE,hDT,zT,tk,tn,tks,ycG] at hK b2 b3
          simp -dsimp [g1,g2,g3,g4,g7,g8,l1,l2,l3,l4,l5,l6,a1,a2,a3,b1,b2,b3,c1,c2,c3,d1,d2,d3,eSos,eCos,hs,k0,k1,hclt,hco,hceq,eCo,cCo,eArs,e1,s0,hslt,hso,hseq,eSo,cSo,cT,a2q,a3q,a4q,hd]
          refine hK _ ?_
          simp -dsimp [SK,SI,SO,SP,SL,g1,g2,g3,g4,g7,g8,l1,l2,l3,l4,l5,l6,a1,a2,a3,b1,b2,b3,c1,c2,c3,d1,d2,d3,eSos,eCos,hc1,hd1,hs,k0,k1,hclt,hco,hceq,eCo,cCo,eArs,e1,s0,hslt,hso,hseq,eSo,cSo,cT,a2q,a3q,a4q]
        | true =>
          have rD:=zj0 co.dec args (by have:=(fb.cons co hcm).dec; omega) (fun x hx=>by have:=xar x hx; omega) (by omega)
          have hDE:zav b c args=(if zan args=0 then zbh co.dec args 0 else zan args):=by rw [dD,if_pos (by omega),hd,if_pos rfl]
          have hDT:zba b c args=(if zan args=0 then zb0 co.dec args 0 else zT):=by
            rw [dDT,hDE]
            by_cases q:zan args=0
            · rw [if_pos q,if_pos q]
              by_cases q2:zbh co.dec args 0=0
              · rw [if_pos q2]
              · rw [if_neg q2,zb0,if_neg q2]
            · simp [q]
          rw [← hDE,← hDT] at rD
          generalize zba b c args=DT at *
          generalize zav b c args=DE at *
          simp only [cT,eTs] at rD
          simp -dsimp [g1,g2,g3,g4,g7,g8,l1,l2,l3,l4,l5,l6,a1,a2,a3,b1,b2,b3,c1,c2,c3,d1,d2,d3,eSos,eCos,hs,k0,k1,hclt,hco,hceq,eCo,cCo,eArs,e1,s0,hslt,hso,hseq,eSo,cSo,cT,a2q,a3q,a4q,hd]
          refine zaa rD ?_
          simp -dsimp [g1,g2,g3,g4,g7,g8,l1,l2,l3,l4,l5,l6,a1,a2,a3,b1,b2,b3,c1,c2,c3,d1,d2,d3,eSos,eCos,hs,k0,k1,hclt,hco,hceq,eCo,cCo,eArs,e1,s0,hslt,hso,hseq,eSo,cSo,cT,a2q,a3q,a4q,hd]
          refine hK _ ?_
          simp -dsimp [SK,SI,SO,SP,SL,g1,g2,g3,g4,g7,g8,l1,l2,l3,l4,l5,l6,a1,a2,a3,b1,b2,b3,c1,c2,c3,d1,d2,d3,eSos,eCos,hc1,hd1,hs,k0,k1,hclt,hco,hceq,eCo,cCo,eArs,e1,s0,hslt,hso,hseq,eSo,cSo,cT,a2q,a3q,a4q]
      by_cases a5q:base≤65535
      case neg =>
        have hE:zcc b base c mo me args=1:=by rw [dE,if_neg (fun h=>a5q (by have:=h.2.2.2.2; omega))]
        have hT:=both 1 (by decide) hE
        simp only [hE,hT,zT,tk,tn,tks,ycG] at hK a2 a3
        simp -dsimp [g1,g2,g3,g4,g7,g8,l1,l2,l3,l4,l5,l6,a1,a2,a3,b1,b2,b3,c1,c2,c3,d1,d2,d3,eSos,eCos,hs,k0,k1,hclt,hco,hceq,eCo,cCo,eArs,e1,s0,hslt,hso,hseq,eSo,cSo,cT,a2q,a3q,a4q,a5q]
        cases hd:so.dec with
        | false =>
          have hDE:zav b c args=1:=by rw [dD,if_pos (by omega),hd,if_neg (by simp)]
          have hDT:=both2 1 (by decide) hDE
          simp only [hDE,hDT,zT,tk,tn,tks,ycG] at hK b2 b3
          simp -dsimp [g1,g2,g3,g4,g7,g8,l1,l2,l3,l4,l5,l6,a1,a2,a3,b1,b2,b3,c1,c2,c3,d1,d2,d3,eSos,eCos,hs,k0,k1,hclt,hco,hceq,eCo,cCo,eArs,e1,s0,hslt,hso,hseq,eSo,cSo,cT,a2q,a3q,a4q,a5q,hd]
          refine hK _ ?_
          simp -dsimp [SK,SI,SO,SP,SL,g1,g2,g3,g4,g7,g8,l1,l2,l3,l4,l5,l6,a1,a2,a3,b1,b2,b3,c1,c2,c3,d1,d2,d3,eSos,eCos,hc1,hd1,hs,k0,k1,hclt,hco,hceq,eCo,cCo,eArs,e1,s0,hslt,hso,hseq,eSo,cSo,cT,a2q,a3q,a4q,a5q]
        | true =>
          have rD:=zj0 co.dec args (by have:=(fb.cons co hcm).dec; omega) (fun x hx=>by have:=xar x hx; omega) (by omega)
          have hDE:zav b c args=(if zan args=0 then zbh co.dec args 0 else zan args):=by rw [dD,if_pos (by omega),hd,if_pos rfl]
          have hDT:zba b c args=(if zan args=0 then zb0 co.dec args 0 else zT):=by
            rw [dDT,hDE]
            by_cases q:zan args=0
            · rw [if_pos q,if_pos q]
              by_cases q2:zbh co.dec args 0=0
              · rw [if_pos q2]
              · rw [if_neg q2,zb0,if_neg q2]
            · simp [q]
          rw [← hDE,← hDT] at rD
          generalize zba b c args=DT at *
          generalize zav b c args=DE at *
          simp only [cT,eTs] at rD
          simp -dsimp [g1,g2,g3,g4,g7,g8,l1,l2,l3,l4,l5,l6,a1,a2,a3,b1,b2,b3,c1,c2,c3,d1,d2,d3,eSos,eCos,hs,k0,k1,hclt,hco,hceq,eCo,cCo,eArs,e1,s0,hslt,hso,hseq,eSo,cSo,cT,a2q,a3q,a4q,a5q,hd]
          refine zaa rD ?_
          simp -dsimp [g1,g2,g3,g4,g7,g8,l1,l2,l3,l4,l5,l6,a1,a2,a3,b1,b2,b3,c1,c2,c3,d1,d2,d3,eSos,eCos,hs,k0,k1,hclt,hco,hceq,eCo,cCo,eArs,e1,s0,hslt,hso,hseq,eSo,cSo,cT,a2q,a3q,a4q,a5q,hd]
          refine hK _ ?_
          simp -dsimp [SK,SI,SO,SP,SL,g1,g2,g3,g4,g7,g8,l1,l2,l3,l4,l5,l6,a1,a2,a3,b1,b2,b3,c1,c2,c3,d1,d2,d3,eSos,eCos,hc1,hd1,hs,k0,k1,hclt,hco,hceq,eCo,cCo,eArs,e1,s0,hslt,hso,hseq,eSo,cSo,cT,a2q,a3q,a4q,a5q]
      have hmlt:c.toNat<me.length:=by omega
      have hmm:me[c.toNat]? = some (me.getD c.toNat zT):=by rw [ybi,yar hmlt]; rfl
      have rE:=zG5 b fb ob hf base c.toNat co hco mo me args _ hmm xmo (by omega) xme (by omega) xar (by omega) (by omega) ome.2 oar.2
      rw [show ((c.toNat:Nat):Int)=c by omega] at rE
      have hE:zcc b base c mo me args=(if zan (mo ++ (me ++ args))=0 then zih b base co (me.getD c.toNat zT) mo me args else zan (mo ++ (me ++ args))):=by rw [dE,if_pos ⟨by omega,by omega,by omega,a4q,a5q⟩]
      have hT:zdi b base c mo me args=(if zan (mo ++ (me ++ args))=0 then zib b base co (me.getD c.toNat zT) mo me args else zT):=by
        rw [dT,hE]
        by_cases q:zan (mo ++ (me ++ args))=0
        · rw [if_pos q,if_pos q]
          by_cases q2:zih b base co (me.getD c.toNat zT) mo me args=0
          · rw [if_pos q2]
          · rw [if_neg q2,zib,if_neg q2]
        · simp [q]
      rw [← hE,← hT] at rE
      clear dE dT hE hT both
      generalize zdi b base c mo me args=ET at *
      generalize zcc b base c mo me args=EE at *
      simp only [cT,eTs,eBl,cBl,eSos,eCos] at rE
      simp -dsimp [g1,g2,g3,g4,g7,g8,l1,l2,l3,l4,l5,l6,a1,a2,a3,b1,b2,b3,c1,c2,c3,d1,d2,d3,eSos,eCos,hs,k0,k1,hclt,hco,hceq,eCo,cCo,eArs,e1,s0,hslt,hso,hseq,eSo,cSo,cT,a2q,a3q,a4q,a5q]
      refine zaa rE ?_
      simp -dsimp [g1,g2,g3,g4,g7,g8,l1,l2,l3,l4,l5,l6,a1,a2,a3,b1,b2,b3,c1,c2,c3,d1,d2,d3,eSos,eCos,hs,k0,k1,hclt,hco,hceq,eCo,cCo,eArs,e1,s0,hslt,hso,hseq,eSo,cSo,cT,a2q,a3q,a4q,a5q]
      cases hd:so.dec with
      | false =>
        have hDE:zav b c args=1:=by rw [dD,if_pos (by omega),hd,if_neg (by simp)]
        have hDT:=both2 1 (by decide) hDE
        simp only [hDE,hDT,zT,tk,tn,tks,ycG] at hK b2 b3
        simp -dsimp [g1,g2,g3,g4,g7,g8,l1,l2,l3,l4,l5,l6,a1,a2,a3,b1,b2,b3,c1,c2,c3,d1,d2,d3,eSos,eCos,hs,k0,k1,hclt,hco,hceq,eCo,cCo,eArs,e1,s0,hslt,hso,hseq,eSo,cSo,cT,a2q,a3q,a4q,a5q,hd]
        refine hK _ ?_
        simp -dsimp [SK,SI,SO,SP,SL,g1,g2,g3,g4,g7,g8,l1,l2,l3,l4,l5,l6,a1,a2,a3,b1,b2,b3,c1,c2,c3,d1,d2,d3,eSos,eCos,hc1,hd1,hs,k0,k1,hclt,hco,hceq,eCo,cCo,eArs,e1,s0,hslt,hso,hseq,eSo,cSo,cT,a2q,a3q,a4q,a5q]
      | true =>
        have rD:=zj0 co.dec args (by have:=(fb.cons co hcm).dec; omega) (fun x hx=>by have:=xar x hx; omega) (by omega)
        have hDE:zav b c args=(if zan args=0 then zbh co.dec args 0 else zan args):=by rw [dD,if_pos (by omega),hd,if_pos rfl]
        have hDT:zba b c args=(if zan args=0 then zb0 co.dec args 0 else zT):=by
          rw [dDT,hDE]
          by_cases q:zan args=0
          · rw [if_pos q,if_pos q]
            by_cases q2:zbh co.dec args 0=0
            · rw [if_pos q2]
            · rw [if_neg q2,zb0,if_neg q2]
          · simp [q]
        rw [← hDE,← hDT] at rD
        generalize zba b c args=DT at *
        generalize zav b c args=DE at *
        simp only [cT,eTs] at rD
        simp -dsimp [g1,g2,g3,g4,g7,g8,l1,l2,l3,l4,l5,l6,a1,a2,a3,b1,b2,b3,c1,c2,c3,d1,d2,d3,eSos,eCos,hs,k0,k1,hclt,hco,hceq,eCo,cCo,eArs,e1,s0,hslt,hso,hseq,eSo,cSo,cT,a2q,a3q,a4q,a5q,hd]
        refine zaa rD ?_
        simp -dsimp [g1,g2,g3,g4,g7,g8,l1,l2,l3,l4,l5,l6,a1,a2,a3,b1,b2,b3,c1,c2,c3,d1,d2,d3,eSos,eCos,hs,k0,k1,hclt,hco,hceq,eCo,cCo,eArs,e1,s0,hslt,hso,hseq,eSo,cSo,cT,a2q,a3q,a4q,a5q,hd]
        refine hK _ ?_
        simp -dsimp [SK,SI,SO,SP,SL,g1,g2,g3,g4,g7,g8,l1,l2,l3,l4,l5,l6,a1,a2,a3,b1,b2,b3,c1,c2,c3,d1,d2,d3,eSos,eCos,hc1,hd1,hs,k0,k1,hclt,hco,hceq,eCo,cCo,eArs,e1,s0,hslt,hso,hseq,eSo,cSo,cT,a2q,a3q,a4q,a5q]
  clear g1 g2 g3 g4 g7 g8 l1 l2 l3 l4 l5 l6 a1 a2 a3 b1 b2 b3 c1 c2 c3 d1 d2 d3 hc1 hd1
  rintro ⟨s,hp⟩ ⟨⟨g1,g2⟩,⟨g3,g4⟩,⟨l1,l2,l3⟩,⟨g7,g8⟩,⟨l4,l5,l6⟩,⟨a1,a2,a3⟩,⟨b1,b2,b3⟩,⟨c1,⟨x1,c2,hc1⟩,c3⟩,d1,⟨x2,d2,hd1⟩,d3⟩
  dsimp only at g1 g2 g3 g4 g7 g8 l1 l2 l3 l4 l5 l6 a1 a2 a3 b1 b2 b3 c1 c2 c3 d1 d2 d3
  have kE:=zfn (zdi b base c mo me args)
  have kD:=zfn (zba b c args)
  refine Snd.seqF (fun st=>SK base c st∧SI 6 (.n false) b st∧SL 3 4 5 (.n false) mo me args st∧SI 13 (.n false) b st∧SL 14 15 16 (.n false) mo me args st∧SO 17 18 (.n true) (zdi b base c mo me args) (zcc b base c mo me args) st∧SO 19 20 (.n true) (zba b c args) (zav b c args) st) (fun K hK=>?_) ?_
  · generalize zdi b base c mo me args=ET at *
    generalize zcc b base c mo me args=EE at *
    generalize zba b c args=DT at *
    generalize zav b c args=DE at *
    simp only [cT] at kE kD
    rcases hc1 with rfl | ⟨rfl,hc1⟩ <;> rcases hd1 with rfl | ⟨rfl,hd1⟩
    · simp -dsimp [g1,g2,g3,g4,g7,g8,l1,l2,l3,l4,l5,l6,a1,a2,a3,b1,b2,b3,c1,c2,c3,d1,d2,d3]
      refine zaa kE ?_
      simp -dsimp [g1,g2,g3,g4,g7,g8,l1,l2,l3,l4,l5,l6,a1,a2,a3,b1,b2,b3,c1,c2,c3,d1,d2,d3]
      refine zaa kD ?_
      simp -dsimp [g1,g2,g3,g4,g7,g8,l1,l2,l3,l4,l5,l6,a1,a2,a3,b1,b2,b3,c1,c2,c3,d1,d2,d3]
      refine hK _ ?_
      simp -dsimp [SK,SI,SO,SL,g1,g2,g3,g4,g7,g8,l1,l2,l3,l4,l5,l6,a1,a2,a3,b1,b2,b3,eSos,eCos]
    · rw [hd1,ycG] at kD b2
      simp -dsimp [g1,g2,g3,g4,g7,g8,l1,l2,l3,l4,l5,l6,a1,a2,a3,b1,b2,b3,c1,c2,c3,d1,d2,d3]
      refine zaa kE ?_
      simp -dsimp [g1,g2,g3,g4,g7,g8,l1,l2,l3,l4,l5,l6,a1,a2,a3,b1,b2,b3,c1,c2,c3,d1,d2,d3]
      refine zaa kD ?_
      simp -dsimp [g1,g2,g3,g4,g7,g8,l1,l2,l3,l4,l5,l6,a1,a2,a3,b1,b2,b3,c1,c2,c3,d1,d2,d3]
      refine hK _ ?_
      simp -dsimp [SK,SI,SO,SL,g1,g2,g3,g4,g7,g8,l1,l2,l3,l4,l5,l6,a1,a2,a3,b1,b2,b3,eSos,eCos,hd1]
    · rw [hc1,ycG] at kE a2
      simp -dsimp [g1,g2,g3,g4,g7,g8,l1,l2,l3,l4,l5,l6,a1,a2,a3,b1,b2,b3,c1,c2,c3,d1,d2,d3]
      refine zaa kE ?_
      simp -dsimp [g1,g2,g3,g4,g7,g8,l1,l2,l3,l4,l5,l6,a1,a2,a3,b1,b2,b3,c1,c2,c3,d1,d2,d3]
      refine zaa kD ?_
      simp -dsimp [g1,g2,g3,g4,g7,g8,l1,l2,l3,l4,l5,l6,a1,a2,a3,b1,b2,b3,c1,c2,c3,d1,d2,d3]
      refine hK _ ?_
      simp -dsimp [SK,SI,SO,SL,g1,g2,g3,g4,g7,g8,l1,l2,l3,l4,l5,l6,a1,a2,a3,b1,b2,b3,eSos,eCos,hc1]
    · rw [hc1,ycG] at kE a2
      rw [hd1,ycG] at kD b2
      simp -dsimp [g1,g2,g3,g4,g7,g8,l1,l2,l3,l4,l5,l6,a1,a2,a3,b1,b2,b3,c1,c2,c3,d1,d2,d3]
      refine zaa kE ?_
      simp -dsimp [g1,g2,g3,g4,g7,g8,l1,l2,l3,l4,l5,l6,a1,a2,a3,b1,b2,b3,c1,c2,c3,d1,d2,d3]
      refine zaa kD ?_
      simp -dsimp [g1,g2,g3,g4,g7,g8,l1,l2,l3,l4,l5,l6,a1,a2,a3,b1,b2,b3,c1,c2,c3,d1,d2,d3]
      refine hK _ ?_
      simp -dsimp [SK,SI,SO,SL,g1,g2,g3,g4,g7,g8,l1,l2,l3,l4,l5,l6,a1,a2,a3,b1,b2,b3,eSos,eCos,hc1,hd1]
  clear g1 g2 g3 g4 g7 g8 l1 l2 l3 l4 l5 l6 a1 a2 a3 b1 b2 b3 c1 c2 c3 d1 d2 d3 hc1 hd1 kE kD
  rintro st ⟨-,hi3,hl3,hi7,hl7,⟨a1,a2,-⟩,b1,b2,-⟩
  refine Spd.enter 185 ?_
  refine Spd.term (by omega) (by omega) (by omega) a1 a2 ?_
  refine Spd.term (by omega) (by omega) (by omega) b1 b2 ?_
  refine Spd.leave ?_
  have hF:SI 6 .d b (aftS 185 st)∧SL 3 4 5 .d mo me args (aftS 185 st)∧SI 13 .d b (aftS 185 st)∧SL 14 15 16 .d mo me args (aftS 185 st):=⟨hi3.aft (by omega),hl3.aft (by omega) (by omega) (by omega),hi7.aft (by omega),hl7.aft (by omega) (by omega) (by omega)⟩
  revert hF
  generalize aftS 185 st=st
  clear a1 a2 b1 b2 hi3 hi7 hl3 hl7
  obtain ⟨s,hp⟩:=st
  rintro ⟨⟨g3,g4⟩,⟨l1,l2,l3⟩,⟨g7,g8⟩,l4,l5,l6⟩
  dsimp only at g3 g4 g7 g8 l1 l2 l3 l4 l5 l6
  refine Snd.last ?_
  simp -dsimp [g3,g4,g7,g8,l1,l2,l3,l4,l5,l6,eSos,eCos]
  refine zaa kB ?_
  simp -dsimp [g3,g4,g7,g8,l1,l2,l3,l4,l5,l6]
  refine zaa k1 ?_
  simp -dsimp [g3,g4,g7,g8,l1,l2,l3,l4,l5,l6]
  refine zaa k2 ?_
  simp -dsimp [g3,g4,g7,g8,l1,l2,l3,l4,l5,l6]
  refine zaa k3 ?_
  simp -dsimp [g3,g4,g7,g8,l1,l2,l3,l4,l5,l6]
  refine zaa zBr ?_
  simp -dsimp [g3,g4,g7,g8,l1,l2,l3,l4,l5,l6]
end
end Ev
end Go.Proofs.YtncmainjcffanaaGreat
