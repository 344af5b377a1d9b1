/- Texts of this claim, in one. -/
import Derived.Test.YtncmainjcffanaaGreatSA
import Derived.WalkKit
import Derived.Deep.Heap
import Derived.Test.YtncmainjcffanaaGreatXs
import Derived.Test.YtncmainjcffanaaGreatRA
set_option maxRecDepth 100000
set_option linter.unusedSimpArgs false
set_option linter.unusedVariables false
open List renaming all_eq_true→yaC,append_nil→ybp,ext_getElem→ycw,find?_eq_none→ycH,findIdx?_eq_none_iff→yci,findIdx?_eq_some_iff_getElem→ycg,findSome?_append→ycG,foldr_cons→ycl,getElem?_append_right→ybW,getElem?_eq_getElem→yar,getElem?_eq_none→ybB,getElem?_eq_some_iff→yae,getElem?_map→yau,getElem_cons_succ→ycB,getElem_cons_zero→ycz,getElem_map→yco,getElem_mem→yaf,length_append→yaF,length_cons→yaS,length_map→ycn,length_take→yaE,map_cons→yaV,map_nil→ycE,mem_append→yaY,mem_cons→yaZ,mem_of_getElem?→yas,mem_take_iff_getElem→ych,not_mem_nil→ycD,range→yai,replicate_zero→ycp,take_add_one→ycb,take_length→yce,take_of_length_le→ycd,take_succ_cons→ycC
open Nat renaming decEq→ycA,eq_zero_of_not_pos→ybV,eq_zero_or_pos→yaj,le_refl→yab,le_trans→yac,lt_of_lt_of_le→yad,lt_or_ge→ybm,sub_self→ycy,zero_add→ybj,zero_le→yaR
open Option renaming getD_some→ybG,map_eq_some_iff→yaG,map_some→yak
open Bool renaming and_eq_true→ybJ,false_eq_true→yao,or_eq_false_iff→ycx,or_true→ycF
open Array renaming getD_eq_getD_getElem?→yaw,getElem?_eq_some_iff→yay,getElem?_toList→yav,replicate→ybQ
namespace Go.Proofs.YtncmainjcffanaaGreat
namespace Ev
open Go
section
attribute [local simp] zaf zag tk tn tks
theorem zPm (l:List T) (hl:l.length*40≤140737488351232) (h:∀ x ∈ l,zou Tryz.prog zdt [.agg (cT x)] [.agg (cT x)]):zou Tryz.prog zmo [eTs l] [eTs l]:=by
  refine zg8 true hm Tryz.func127 zxk rfl fun hs n=>?_
  simp -dsimp [zmn,eTs]
  by_cases hz:l=[]
  · subst hz
    simp -dsimp
  simp -dsimp [hz]
  have r1:(l.length:Int)*40≤(zad:Int):=by simp only [zad]; omega
  have r2:l.length≤zad:=by simp only [zad]; omega
  simp -dsimp [hz,r1,r2]
  refine zah l.length (fun i st=>st.s 0 = .d (.sl 3 (l.map eT))∧st.s 3 = .rsl 10 1∧st.s 12 = .d (.int .i64 l.length)∧st.s 13 = .d (.int .i64 i) ∧
    st.h 10=⟨1,.row 3 ((l.map eT).take i ++ List.replicate (l.length - i) (D.agg [.int .i64 0,.int .i64 0,.sl 3 []])) false⟩) ?_ ?_
  · simp -dsimp
  · rintro i ⟨s,hp⟩ hi ⟨g1,g2,g3,g4,g5⟩
    dsimp only at g1 g2 g3 g4 g5
    rcases ybm i l.length with hlt | hge
    · have w1:IntKind.i64.wrap ((i:Int)+1)=(i:Int)+1:=zab (by omega) (by omega)
      simp -dsimp [g1,g2,g3,g4,g5,hlt,cT]
      refine zdj (h l[i] (yaf _)) ?_
      have q1:(i:Int)<((min i l.length:Nat):Int)+((l.length - i:Nat):Int):=by omega
      have q2:i<min i l.length+(l.length - i):=by omega
      have hle:(l.map eT).length=l.length:=ycn ..
      have hfn:=zvs (l:=l.map eT) (z:=D.agg [.int .i64 0,.int .i64 0,.sl 3 []]) (i:=i) (by rw [hle]; exact hlt)
      have hel:(l.map eT)[i]'(by rw [hle]; exact hlt) = .agg (cT l[i]):=by rw [yco,za4]
      rw [hel,hle] at hfn
      simp only [cT] at hfn
      simp -dsimp [g1,g2,g3,g4,g5,hlt,w1,q1,q2,cT,hfn]
    · have e:i=l.length:=by omega
      subst e
      have ht:(l.map eT).take l.length=l.map eT:=ycd (by rw [ycn]; exact yab _)
      rw [ht,ycy,ycp,ybp] at g5
      simp -dsimp [g1,g2,g3,g4,g5]
theorem zyf (t:T):okT t→zou Tryz.prog zdt [.agg (cT t)] [.agg (cT t)]:=by
  refine T.ind (p:=fun t=>okT t→zou Tryz.prog zdt [.agg (cT t)] [.agg (cT t)]) ?_ t
  intro k n ks ih h
  obtain ⟨h1,h2⟩:=h.kids
  refine zg8 false hm Tryz.func62 zAq rfl fun hs n=>?_
  simp -dsimp [zo6,cT]
  refine zdj (zPm ks h1 fun x hx=>ih x hx (h2 x hx)) ?_
  simp -dsimp [eTs]
end
section
structure Chg (St:Nat→Nat) (w w':World):Prop where
  os:w'.os=w.os
  tape:w'.tape=w.tape
  output:w'.output=w.output
  size:w.heap.size≤w'.heap.size
  block:∀ b,b<w.heap.size→St b=0→w'.heap[b]? = w.heap[b]?
  free:∀ b,zie w b→zie w' b
  cell:∀ b i v,b<w.heap.size→w.cell? ⟨b,i,none⟩=some v → ∃ v',w'.cell? ⟨b,i,none⟩=some v'∧(v'=v ∨ ∃ k n n',v = .int k n∧v' = .int k n')
theorem Chg.refl (St:Nat→Nat) (w:World):Chg St w w:=⟨rfl,rfl,rfl,yab _,fun _ _ _=>rfl,fun _ h=>h,fun b i v _ h=>⟨v,h,.inl rfl⟩⟩
theorem Chg.trans {St:Nat→Nat} {w w' w'':World} (h:Chg St w w') (k:Chg St w' w''):Chg St w w'' :=
  ⟨k.os.trans h.os,k.tape.trans h.tape,k.output.trans h.output,yac h.size k.size,fun b hb h0=>(k.block b (yad hb h.size) h0).trans (h.block b hb h0),fun b hb=>k.free b (h.free b hb),fun b i v hb hv=>by
    obtain ⟨v1,h1,h2⟩:=h.cell b i v hb hv
    obtain ⟨v2,k1,k2⟩:=k.cell b i v1 (yad hb h.size) h1
    refine ⟨v2,k1,?_⟩
    rcases h2 with rfl | ⟨q,n,n',rfl,rfl⟩
    · exact k2
    · rcases k2 with rfl | ⟨q',m,m',e,rfl⟩
      · exact .inr ⟨q,n,n',rfl,rfl⟩
      · cases e
        exact .inr ⟨q,n,m',rfl,rfl⟩⟩
theorem Chg.of_below {St:Nat→Nat} {w w':World} (h:RowKit.Below w.heap.size w w'):Chg St w w' :=
  ⟨h.os,h.tape,h.output,h.size,fun b hb _=>h.block b hb,fun b hf=>hf.eq (h.block b (by obtain ⟨_,_,hh⟩:=hf; exact (yay.1 hh).1)),fun b i v hb hv=>⟨v,(World.cell?_of_block (w:=w) (a:=⟨b,i,none⟩) (h.block b hb)).trans hv,.inl rfl⟩⟩
theorem zAj {α:Type} {Q:Nat→α→Prop}:∀ n,(∀ i,i<n → ∃ x,Q i x) → ∃ l:List α,l.length=n ∧ ∀ i (h:i<l.length),Q i l[i]
  | 0,_=>⟨[],rfl,fun i h=>by simp at h⟩
  | n+1,h=>by
    obtain ⟨l,hl,hq⟩:=zAj n fun i hi=>h i (by omega)
    obtain ⟨x,hx⟩:=h n (by omega)
    refine ⟨l ++ [x],by simp [hl],fun i hi=>?_⟩
    simp only [yaF,List.length_singleton] at hi
    rcases ybm i l.length with hlt | hge
    · rw [List.getElem_append_left hlt]; exact hq i hlt
    · have e:i=l.length:=by omega
      subst e
      rw [List.getElem_append_right (yab _)]
      simp only [ycy,ycz]
      rw [hl]; exact hx
def zPg (l:List T):Prop:=∀ (St S0:Nat→Nat) (w w':World) (v:Value),(∀ b,0<St b→b<w.heap.size)→Rel St w v (.sl 3 (l.map eT))→Chg S0 w w' → ∃ l':List T,l'.map zae=l.map zae∧Rel St w' v (.sl 3 (l'.map eT))
theorem zJs (l:List T) (ih:∀ x ∈ l,zPg x.kids):zPg l:=by
  intro St S0 w w' v hst hr hc
  generalize hm:l.map eT=ml at hr
  have hll:ml.length=l.length:=by rw [← hm]; exact ycn ..
  cases hr with
  | sl A cap _ b off _ hcp hmx hs ha val hv h1 hr =>
    have hget:∀ i,(hi:i<l.length)→ml[i]? = some (.agg (cT l[i])):=fun i hi=>by rw [← hm,yau,yar hi,yak,za4]
    have hblk:0<l.length→b<w.heap.size:=fun hp=>hst b (by have:=(ha (by omega)).2; omega)
    have hone:∀ i,i<l.length → ∃ t':T,zae t'=zae (l[i]?.getD (.mk 0 0 [])) ∧ ∀ j c,(cT t')[j]? = some c → ∃ u,w'.cell? ⟨b,off+i*3+j,none⟩=some u∧u.oneCell'=true∧Rel St w' u c:=by
      intro i hi
      have hx:=hget i hi
      obtain ⟨x,hxe⟩:∃ x,l[i]=x:=⟨_,rfl⟩
      have hxm:x ∈ l:=by rw [← hxe]; exact yaf _
      rw [hxe] at hx
      rw [yar hi,hxe,ybG]
      have ihx:=ih x hxm
      obtain ⟨k,n,ks⟩:=x
      simp only [T.kids] at ihx
      have c0:=hv i _ hx 0 (.int .i64 k) rfl
      have c1:=hv i _ hx 1 (.int .i64 n) rfl
      have c2:=hv i _ hx 2 (.sl 3 (ks.map eT)) rfl
      have r0:=hr i _ hx 0 (.int .i64 k) rfl
      have r1:=hr i _ hx 1 (.int .i64 n) rfl
      have r2:=hr i _ hx 2 (.sl 3 (ks.map eT)) rfl
      have hb:=hblk (by omega)
      generalize val i 0=v0 at c0 r0
      generalize val i 1=v1 at c1 r1
      generalize val i 2=v2 at c2 r2
      cases r0
      cases r1
      obtain ⟨u0,d0,e0⟩:=hc.cell b _ _ hb c0
      obtain ⟨u1,d1,e1⟩:=hc.cell b _ _ hb c1
      obtain ⟨u2,d2,e2⟩:=hc.cell b _ _ hb c2
      obtain ⟨k',rfl⟩:∃ k',u0 = .int .i64 k':=by
        rcases e0 with rfl | ⟨_,_,n',h,rfl⟩
        · exact ⟨_,rfl⟩
        · cases h; exact ⟨n',rfl⟩
      obtain ⟨n',rfl⟩:∃ n',u1 = .int .i64 n':=by
        rcases e1 with rfl | ⟨_,_,n',h,rfl⟩
        · exact ⟨_,rfl⟩
        · cases h; exact ⟨n',rfl⟩
      have hu2:u2=v2:=by
        rcases e2 with rfl | ⟨_,_,_,h,_⟩
        · rfl
        · rw [h] at r2; cases r2
      subst hu2
      obtain ⟨ks',hk',rk⟩:=ihx St S0 w w' u2 hst r2 hc
      refine ⟨.mk k' n' ks',?_,fun j c hj=>?_⟩
      · rw [zae,zae,hk']
      · match j,hj with
        | 0,hj=>cases hj; exact ⟨_,d0,rfl,.int _ _⟩
        | 1,hj=>cases hj; exact ⟨_,d1,rfl,.int _ _⟩
        | 2,hj=>cases hj; exact ⟨_,d2,by cases rk; rfl,rk⟩
    obtain ⟨l',hl',hq⟩:=zAj l.length hone
    refine ⟨l',?_,?_⟩
    · refine ycw (by simp [hl']) fun i h1 h2=>?_
      simp only [ycn] at h1 h2
      have:=(hq i h1).1
      rw [yar (by omega),ybG] at this
      simpa using this
    · have hl2:(l'.map eT).length=ml.length:=by rw [ycn,hl',hll]
      have hgl:∀ i,(hi:i<l'.length)→(l'.map eT)[i]? = some (.agg (cT l'[i])):=fun i hi=>by rw [yau,yar hi,yak,za4]
      have hcell:∀ i x,(l'.map eT)[i]? = some x → ∀ j c,x.cells[j]? = some c → ∃ u,w'.cell? ⟨b,off+i*3+j,none⟩=some u∧u.oneCell'=true∧Rel St w' u c:=by
        intro i x hx j c hj
        have hi:i<l'.length:=by have:=(yae.1 hx).1; simpa using this
        rw [hgl i hi] at hx
        cases hx
        exact (hq i hi).2 j c hj
      rw [← hl2]
      refine .sl A cap 3 b off _ (by omega) (by omega) (fun x hx=>?_) (fun hp=>by rw [hl2] at hp ⊢; exact ha hp) (fun i j=>(w'.cell? ⟨b,off+i*3+j,none⟩).getD undef) (fun i x hx j c hj=>?_) (fun i x hx j c hj=>?_) (fun i x hx j c hj=>?_)
      · obtain ⟨y,_,rfl⟩:=List.mem_map.1 hx
        rw [zr1]; rfl
      · obtain ⟨u,h1,_⟩:=hcell i x hx j c hj
        rw [h1]; rfl
      · obtain ⟨u,h1,h2,_⟩:=hcell i x hx j c hj
        rw [h1]; exact h2
      · obtain ⟨u,h1,_,h3⟩:=hcell i x hx j c hj
        rw [h1]; exact h3
theorem zJ2 (l:List T):zPg l:=zJs l fun x _=>by
  have key:∀ t:T,zPg t.kids:=fun t=>by
    refine T.ind (p:=fun t=>zPg t.kids) ?_ t
    intro k n ks ih
    exact zJs ks ih
  exact key x
end
section
open Go.RowKit (Hid)
def zEf (t:T):Prop:=∀ (St:Nat→Nat) (w:World) (v:Value),(∀ b,0<St b→b<w.heap.size∧zie w b)→Rel St w v (.agg (cT t))→Calls Tryz.prog zfw #[v] w fun e w'=>e = .returned (.tuple #[])∧Chg St w w'
theorem zXa {St:Nat→Nat} {w:World} {b off len cap q:Nat} {l:List T} (h:Rel St w (.slice (some ⟨b,off,none⟩) len cap) (.sl 3 (l.map eT))) (hl:l.length=len) (hq:q<len) :
    ∃ k1 n1 v1 t1,l[q]? = some t1∧w.cell? ⟨b,off+q*3,none⟩=some (.int .i64 k1)∧w.cell? ⟨b,off+q*3+1,none⟩=some (.int .i64 n1)∧w.cell? ⟨b,off+q*3+2,none⟩=some v1∧Rel St w (.agg #[.int .i64 k1,.int .i64 n1,v1]) (.agg (cT t1)):=by
  generalize hm:l.map eT=ml at h
  have hll:ml.length=l.length:=by rw [← hm]; exact ycn ..
  cases h with
  | sl _ _ _ b' off' _ hc hm' hs ha val hv h1 hr =>
    obtain ⟨hA,_⟩:=ha (by omega)
    simp only [Option.some.injEq,Addr.mk.injEq,and_true] at hA
    obtain ⟨rfl,rfl⟩:=hA
    have hql:q<l.length:=by rw [hl]; exact hq
    have hx:ml[q]? = some (.agg (cT (l[q]'hql))):=by rw [← hm,yau,yar hql,yak,za4]
    have c0:=hv q _ hx 0 _ rfl
    have c1:=hv q _ hx 1 _ rfl
    have c2:=hv q _ hx 2 _ rfl
    have r0:=hr q _ hx 0 _ rfl
    have r1:=hr q _ hx 1 _ rfl
    have r2:=hr q _ hx 2 _ rfl
    generalize val q 0=u0 at c0 r0
    generalize val q 1=u1 at c1 r1
    cases r0
    cases r1
    refine ⟨_,_,_,l[q]'hql,yar hql,by simpa using c0,c1,c2,.agg _ _ rfl fun j c hj=>?_⟩
    match j,hj with
    | 0,hj=>cases hj; exact .int _ _
    | 1,hj=>cases hj; exact .int _ _
    | 2,hj=>cases hj; exact r2
theorem Chg.set {St:Nat→Nat} {w:World} {b i:Nat} {k:IntKind} {n n':Int} (h0:0<St b) (hf:zie w b) (hv:w.cell? ⟨b,i,none⟩=some (.int k n)):Chg St w (w.setCell ⟨b,i,none⟩ (.int k n')).drew:=by
  have ho:∀ c,c ≠ b→(w.setCell ⟨b,i,none⟩ (.int k n')).heap[c]? = w.heap[c]?:=fun c hc=>Go.Deep.blk_setCell_other _ _ _ _ hc
  refine ⟨rfl,rfl,rfl,Nat.le_of_eq (Go.Deep.nblk_setCell _ _ _).symm,fun c _ h=>ho c (fun e=>by subst e; omega),fun c hc=>?_,fun c j v _ hj=>?_⟩
  · rcases ycA c b with hne | rfl
    · exact hc.eq (ho c hne)
    · obtain ⟨arr,el,hh⟩:=hf
      refine ⟨arr.setIfInBounds i (.int k n'),el,?_⟩
      show (w.heap.modify c _)[c]? = _
      rw [Array.getElem?_modify,if_pos rfl,hh]
      rfl
  · show ∃ v',(w.setCell ⟨b,i,none⟩ (.int k n')).cell? ⟨c,j,none⟩=some v'∧_
    rcases ycA c b with hne | rfl
    · exact ⟨v,(World.cell?_of_block (w:=w) (a:=⟨c,j,none⟩) (ho c hne)).trans hj,.inl rfl⟩
    · rcases ycA j i with hne | rfl
      · exact ⟨v,(World.cell?_setCell_other w _ _ _ (by simp only [ne_eq,Addr.mk.injEq,true_and,and_true]; omega)).trans hj,.inl rfl⟩
      · rw [hv] at hj; cases hj
        exact ⟨_,World.cell?_setCell_same w _ _ hv,.inr ⟨_,_,_,rfl,rfl⟩⟩
theorem zBo:∀ {l:List Nat} {x:Nat},x ∈ l→x≤l.sum
  | a :: l,x,h=>by
    rcases yaZ.1 h with rfl | h
    · simp
    · have:=zBo h
      simp; omega
theorem zRo {k n:Int} {ks ks':List T} {q:Nat} {t1:T} (h:ks'[q]? = some t1) (hk:ks'.map zae=ks.map zae):zae t1<zae (.mk k n ks):=by
  rw [zae,← hk]
  have:=zBo (List.mem_map_of_mem (f:=zae) (yas h))
  omega
theorem zNa (t:T) (ih:∀ t',zae t'<zae t→zEf t'):zEf t:=by
  intro St w v hst hr
  obtain ⟨k,n,ks⟩:=t
  obtain ⟨v2,rfl,r2⟩:∃ v2,v = .agg #[.int .i64 k,.int .i64 n,v2]∧Rel St w v2 (.sl 3 (ks.map eT)):=by
    cases hr with
    | agg vs _ hn hr =>
      refine ⟨vs.getD 2 undef,?_,hr 2 _ rfl⟩
      have h0:=hr 0 _ rfl
      have h1:=hr 1 _ rfl
      have hs:vs = #[vs.getD 0 undef,vs.getD 1 undef,vs.getD 2 undef]:=by
        have hn3:vs.size=3:=by simpa [cT] using hn
        apply Array.ext
        · simp [hn3]
        · intro i h1 h2
          have:i=0∨i=1∨i=2:=by omega
          rcases this with rfl | rfl | rfl <;> simp [Array.getD,hn3]
      generalize vs.getD 0 undef=u0 at hs h0
      generalize vs.getD 1 undef=u1 at hs h1
      cases h0
      cases h1
      exact congrArg Value.agg hs
  obtain ⟨len,hlen⟩:∃ len,len=ks.length:=⟨_,rfl⟩
  obtain ⟨A,cap,rfl⟩:∃ A cap,v2 = .slice A len cap:=by
    generalize hm:ks.map eT=ml at r2
    have hll:ml.length=ks.length:=by rw [← hm]; exact ycn ..
    cases r2
    exact ⟨_,_,by rw [hll,hlen]⟩
  have hmx:len≤9223372036854775807:=by
    generalize hm:ks.map eT=ml at r2
    have hll:ml.length=ks.length:=by rw [← hm]; exact ycn ..
    cases r2 with
    | sl _ _ _ b off _ hc hm'=>omega
  rcases yaj len with h0 | hpos
  · subst h0
    clear hlen
    go_enter Tryz.func21,Tryz.ntmps21
    go_wp2
    refine wp_loop_rounds 1 ?_
    rw [rounds_succ]
    go_wp2
    go_end0
    exact ⟨rfl,.of_below ((RowKit.Below.refl _ _).alloc (yab _) _)⟩
  obtain ⟨b,off,rfl,hroom⟩:∃ b off,A=some ⟨b,off,none⟩∧off+len*3≤St b:=by
    generalize hm:ks.map eT=ml at r2
    have hll:ml.length=ks.length:=by rw [← hm]; exact ycn ..
    cases r2 with
    | sl _ _ _ b off _ hc hm' hs ha =>
      obtain ⟨h1,h2⟩:=ha (by omega)
      exact ⟨b,off,h1,by rw [hlen,← hll]; exact h2⟩
  have hks:Hid (len=ks.length):=hlen
  clear hlen
  go_enter Tryz.func21,Tryz.ntmps21
  go_wp2
  go_loopw [2] (fun iv wr=>∃ (q:Nat),q≤len∧iv = .int .i64 q∧Hid (Chg St w wr)∧wr.heap[w.heap.size]? = some (.cells #[.int .i64 k,.int .i64 n,.slice (some ⟨b,off,none⟩) len cap] 28 (0,0))) (fun iv _=>len - (RowKit.intOf iv).toNat)
  case atStart=>exact ⟨0,yaR _,rfl,Chg.of_below ((RowKit.Below.refl _ _).alloc (yab _) _),heap_alloc_new w _⟩
  case round =>
    obtain ⟨q,hq,rfl,hc,hbox⟩:=hrel
    have g2:wr.cell? ⟨w.heap.size,2,none⟩=some (.slice (some ⟨b,off,none⟩) len cap):=by simp [World.cell?,hbox]
    have hst0:St w.heap.size=0:=ybV fun hp=>by have:=(hst _ hp).1; omega
    rcases ybm q len with hlt | hge
    · obtain ⟨ks',hk',rk⟩:=zJ2 ks St St w wr _ (fun b hb=>(hst b hb).1) r2 hc.out
      have hkl:ks'.length=len:=by
        have:=congrArg List.length hk'
        simp only [ycn] at this
        rw [this,hks.out]
      obtain ⟨k1,n1,v1,t1,hn1,c0,c1,c2,rt⟩:=zXa rk hkl hlt
      have hbw:b<wr.heap.size:=yad (hst b (by omega)).1 hc.out.size
      have hnt:zae t1<zae (T.mk k n ks):=zRo hn1 hk'
      have hcall:=ih t1 hnt St wr _ (fun b hb=>⟨yad (hst b hb).1 hc.out.size,hc.out.free b (hst b hb).2⟩) rt
      go_wp2_with (go_at_call 21; refine hcall.mono ?_; rintro e w1 ⟨rfl,hc1⟩)
      have hc2:=hc.out.trans hc1
      obtain ⟨n2,hn2⟩:∃ n2,w1.cell? ⟨b,off+q*3+1,none⟩=some (.int .i64 n2):=by
        obtain ⟨u,h1,h2⟩:=hc1.cell b _ _ hbw c1
        rcases h2 with rfl | ⟨_,_,n',he,rfl⟩
        · exact ⟨_,h1⟩
        · cases he; exact ⟨n',h1⟩
      have hbox1:w1.heap[w.heap.size]? = some (.cells #[.int .i64 k,.int .i64 n,.slice (some ⟨b,off,none⟩) len cap] 28 (0,0)):=(hc1.block _ (yay.1 hbox).1 hst0).trans hbox
      have g3:w1.cell? ⟨w.heap.size,2,none⟩=some (.slice (some ⟨b,off,none⟩) len cap):=by simp [World.cell?,hbox1]
      have hfz:w1.frozen? ⟨b,off+q*3+1,none⟩=false:=by
        obtain ⟨arr,el,hh⟩:=hc2.free b (hst b (by omega)).2
        simp [World.frozen?,hh]
      clear c0 c1 c2 rt hcall hbox g2 rk hr r2
      have hcH:Hid (Chg St w w1):=hc2
      have hbH:Hid (w1.heap[w.heap.size]? = some (.cells #[.int .i64 k,.int .i64 n,.slice (some ⟨b,off,none⟩) len cap] 28 (0,0))):=hbox1
      clear hc1 hc2 hbox1
      go_region
      all_goals (try go_wp2)
      have hneb:w.heap.size ≠ b:=fun e=>by rw [← e] at hroom; omega
      refine ⟨⟨q+1,hlt,by simp,hcH.out.trans (Chg.set (by omega) (hcH.out.free b (hst b (by omega)).2) hn2),?_⟩,by simp [RowKit.intOf]; omega⟩
      exact (Go.Deep.blk_setCell_other _ _ _ _ hneb).trans hbH.out
    · go_wp2
      go_end0
      exact ⟨rfl,hc.out⟩
theorem zRk (t:T):zEf t:=by
  have key:∀ n,∀ t,zae t<n→zEf t:=fun n=>by
    induction n with
    | zero=>intro t h; omega
    | succ n ih=>exact fun t h=>zNa t fun t' h'=>ih t' (by omega)
  exact key _ t (Nat.lt_succ_self _)
end
section
open Go.RowKit (Hid)
end
section
section
variable {P:Program}
theorem zRv {o:Oper} {f:Opd} {args:List Opd} (hcop:cop P o=some (.call f args)) :
    ∃ (c:Call) (f':Operand) (al:List Operand) (ts:List TypeId),o.op = .call c∧c.callee = .value f'∧c.args.toList=al∧al.length=ts.length∧f=copd P 0 f'∧args=(al.zip ts).map fun p=>copd P p.2 p.1:=by
  unfold cop at hcop
  split at hcop
  case h_21 c ho =>
    obtain ⟨cal,as_,ts⟩:=c
    simp only at hcop
    split at hcop
    · obtain ⟨e,he,hh⟩:=map_some hcop; cases hh
    · split at hcop
      · obtain ⟨e,he,hcop⟩:=bind_some hcop
        obtain ⟨sz,hn,hcop⟩:=bind_some hcop
        obtain ⟨b,hb,hcop⟩:=bind_some hcop
        split at hcop
        · cases hcop
        · cases hcop
      · cases hcop
    · cases hcop
    · cases hcop
    · rename_i f'
      split at hcop
      · rename_i hl
        cases hcop
        exact ⟨_,f',as_.toList,ts.toList,ho,rfl,rfl,hl,rfl,rfl⟩
      · cases hcop
    · cases hcop
  all_goals first
    | (cases hcop; done)
    | (obtain ⟨_,_,hcop⟩:=bind_some hcop; obtain ⟨_,_,hcop⟩:=bind_some hcop; obtain ⟨_,_,hcop⟩:=bind_some hcop; split at hcop <;> cases hcop; done)
    | (obtain ⟨_,_,hcop⟩:=bind_some hcop; obtain ⟨_,_,hcop⟩:=map_some hcop; cases hcop; done)
    | (obtain ⟨_,_,hcop⟩:=map_some hcop; cases hcop; done)
    | (split at hcop <;> first
        | (cases hcop; done)
        | (obtain ⟨_,_,hcop⟩:=map_some hcop; cases hcop; done)
        | (split at hcop <;> first
            | (cases hcop; done)
            | (obtain ⟨_,_,hcop⟩:=bind_some hcop; obtain ⟨_,_,hcop⟩:=map_some hcop; cases hcop; done)
            | (obtain ⟨_,_,hcop⟩:=bind_some hcop; obtain ⟨_,_,hcop⟩:=bind_some hcop; obtain ⟨_,_,hcop⟩:=bind_some hcop; obtain ⟨_,_,hcop⟩:=bind_some hcop; split at hcop <;> cases hcop; done))
        | (obtain ⟨_,_,hcop⟩:=bind_some hcop; obtain ⟨_,_,hcop⟩:=bind_some hcop; split at hcop <;> cases hcop; done)
        | (obtain ⟨_,_,hcop⟩:=bind_some hcop; obtain ⟨_,_,hcop⟩:=bind_some hcop; obtain ⟨_,_,hcop⟩:=map_some hcop; cases hcop; done))
theorem zRw {o:Oper} {n:Nat} {g:Bool} {j:Nat} (hcop:cop P o=some (.load n g (.t j))):∃ t,o.op = .load t (.tmp j)∧sz? P t=some n∧ag? P t=some g:=by
  unfold cop at hcop
  split at hcop
  case h_6 t x ho =>
    obtain ⟨n',hn,hcop⟩:=bind_some hcop
    obtain ⟨g',hg,hcop⟩:=map_some hcop
    cases x <;> cases hcop
    exact ⟨t,ho,hn,hg⟩
  all_goals first
    | (cases hcop; done)
    | (obtain ⟨_,_,hcop⟩:=bind_some hcop; obtain ⟨_,_,hcop⟩:=bind_some hcop; obtain ⟨_,_,hcop⟩:=bind_some hcop; split at hcop <;> cases hcop; done)
    | (obtain ⟨_,_,hcop⟩:=bind_some hcop; obtain ⟨_,_,hcop⟩:=map_some hcop; cases hcop; done)
    | (obtain ⟨_,_,hcop⟩:=map_some hcop; cases hcop; done)
    | (split at hcop <;> first
        | (cases hcop; done)
        | (obtain ⟨_,_,hcop⟩:=map_some hcop; cases hcop; done)
        | (obtain ⟨_,_,hcop⟩:=bind_some hcop; obtain ⟨_,_,hcop⟩:=map_some hcop; cases hcop; done)
        | (split at hcop <;> first
            | (cases hcop; done)
            | (obtain ⟨_,_,hcop⟩:=map_some hcop; cases hcop; done)
            | (obtain ⟨_,_,hcop⟩:=bind_some hcop; obtain ⟨_,_,hcop⟩:=map_some hcop; cases hcop; done)
            | (obtain ⟨_,_,hcop⟩:=bind_some hcop; obtain ⟨_,_,hcop⟩:=bind_some hcop; obtain ⟨_,_,hcop⟩:=bind_some hcop; obtain ⟨_,_,hcop⟩:=bind_some hcop; split at hcop <;> cases hcop; done)
            | (obtain ⟨_,_,hcop⟩:=bind_some hcop; obtain ⟨_,_,hcop⟩:=bind_some hcop; obtain ⟨_,_,hcop⟩:=bind_some hcop; split at hcop <;> cases hcop; done)
            | (split at hcop <;> cases hcop; done))
        | (obtain ⟨_,_,hcop⟩:=bind_some hcop; obtain ⟨_,_,hcop⟩:=bind_some hcop; split at hcop <;> cases hcop; done)
        | (obtain ⟨_,_,hcop⟩:=bind_some hcop; obtain ⟨_,_,hcop⟩:=bind_some hcop; obtain ⟨_,_,hcop⟩:=map_some hcop; cases hcop; done))
theorem zPk {o:Oper} {g e1:Nat} (hcop:cop P o=some (.call (.c (.d (.clo g []))) [.t e1])) (hent:zpj P g) (a:Act) (w:World):(execOp a.eval o).run P w = .ok (.enter g #[a.tmps.getD e1 undef]) w:=by
  obtain ⟨c,f',al,ts,ho,hcc,hal,hl,hf,hargs⟩:=zRv hcop
  have sl:@zeh i0 ⟨fun _=>0,fun _=>⟨none,0⟩⟩ za6 w a (fun _=>AV.junk):=fun i=>.junk _
  have hfr:=@zbc i0 P _ _ _ _ _ sl 0 f'
  rw [← hf] at hfr
  obtain ⟨vs,hfe,hvs⟩:∃ vs:Array Value,a.eval f' = .func (.func g) #[] vs∧vs.size=0:=by
    generalize a.eval f'=v at hfr
    have:=hfr.d_inv
    cases this with
    | clo _ vs _ hn hr=>exact ⟨vs,rfl,by simpa using hn⟩
  obtain ⟨x,t,rfl,rfl,hx⟩:∃ x t,al=[x]∧ts=[t]∧copd P t x = .t e1:=by
    match al,ts,hl,hargs with
    | [x],[t],_,h=>exact ⟨x,t,rfl,rfl,by simpa using h.symm⟩
    | [],[],_,h=>simp at h
    | _ :: _ :: _,_ :: _ :: _,_,h=>simp at h
  have hxe:x = .tmp e1:=by
    cases x <;> simp [copd] at hx
    rw [hx]
  subst hxe
  have hargs':c.args.map a.eval ++ vs = #[a.tmps.getD e1 undef]:=by
    apply Array.ext'
    have:vs.toList=[]:=by simpa using hvs
    simp [hal,this,Act.eval]
  simp only [execOp,ho,resolve,hcc,Deferred.ofValue,hfe,Sem.run_bind,Sem.run_pure,Result.andThen_ok,invoke,Array.empty_append]
  rw [hargs']
  exact zpz hent _
theorem zMx {o:Oper} {t:TypeId} {j:Nat} (ho:o.op = .load t (.tmp j)) {a:Act} {w:World} {ad:Addr} {v:Value} (hu:a.tmps.getD j undef = .pointer (some ad)) (hrun:(loadVar t ad).run P w = .ok v w):(execOp a.eval o).run P w = .ok (.value v) w:=by
  have hu':a.eval (.tmp j) = .pointer (some ad):=hu
  simp [execOp,ho,Instr.loadAt,hu',Instr.sureAddr,Sem.run_bind,Sem.run_pure,hrun]
theorem zG2 {a:Act} {d i:Nat} {v:Value} (h:i ≠ d):(a.put (some d) v).tmps.getD i undef=a.tmps.getD i undef:=by
  simp only [Act.put,yaw,Array.getElem?_setIfInBounds]
  rw [if_neg (Ne.symm h)]
theorem zTm {ops:Array Oper} {n:Nat} {l:List Oper} {x y:XOper} (h:zl4 P ops n l=some [x,y]):∃ o1 o2,l=[o1,o2]∧zBf P ops n o1=some x∧zBf P ops n o2=some y:=by
  obtain ⟨hlen,hget⟩:=zr4 h
  obtain ⟨o1,o2,rfl⟩:∃ o1 o2,l=[o1,o2]:=by
    cases l with
    | nil=>simp at hlen
    | cons o1 l=>cases l with
      | nil=>simp at hlen
      | cons o2 l=>cases l with
        | nil=>exact ⟨o1,o2,rfl⟩
        | cons=>simp at hlen
  obtain ⟨x',hx,hx'⟩:=hget 0 o1 rfl
  obtain ⟨y',hy,hy'⟩:=hget 1 o2 rfl
  simp only [List.getElem?_cons_zero,List.getElem?_cons_succ,Option.some.injEq] at hx hy
  subst hx
  subst hy
  exact ⟨o1,o2,rfl,hx',hy'⟩
theorem zGk {n:Nat} {c:Code} {xs:List XOper} (hc:zdf P n c=some (.region xs none)):∃ id ops,c = .region id ops false∧zl4 P ops n ops.toList=some xs:=by
  unfold zdf at hc
  split at hc
  case h_2 id ops dr =>
    split at hc
    · rename_i ys hys
      cases dr with
      | true =>
        simp only [if_true] at hc
        obtain ⟨ds,_,hh⟩:=map_some hc
        cases hh
      | false =>
        simp only [yao,if_false,Option.some.injEq,XCode.region.injEq,and_true] at hc
        subst hc
        exact ⟨id,ops,rfl,hys⟩
    · cases hc
  all_goals first
    | (cases hc; done)
    | (split at hc <;> cases hc; done)
    | (obtain ⟨_,_,hc⟩:=map_some hc; cases hc; done)
theorem zFs {n:Nat} {c:Code} {x y:XCode} (hc:zdf P n c=some (.seq x y)):∃ a b,c = .seq a b∧zdf P n a=some x∧zdf P n b=some y:=by
  unfold zdf at hc
  split at hc
  case h_3 a b =>
    split at hc
    · rename_i xa xb ha hb
      simp only [Option.some.injEq,XCode.seq.injEq] at hc
      obtain ⟨rfl,rfl⟩:=hc
      exact ⟨a,b,rfl,ha,hb⟩
    · cases hc
  all_goals first
    | (cases hc; done)
    | (split at hc <;> cases hc; done)
    | (split at hc <;> first | (cases hc; done) | (split at hc <;> first | (cases hc; done) | (obtain ⟨_,_,hc⟩:=map_some hc; cases hc; done)))
    | (obtain ⟨_,_,hc⟩:=map_some hc; cases hc; done)
theorem reg2 {n:Nat} {c:Code} {e1 e2 f:Nat} {x1:XOp} (hc:zdf P n c=some (.region [⟨some e1,x1,none⟩,⟨some e2,.call (.c (.d (.clo f []))) [.t e1],none⟩] none)) (hent:zpj P f) {a:Act} {w:World} (hsz:a.tmps.size=n) {R:World→Prop}
    (hv:∀ o,cop P o=some x1 → ∃ v,(execOp a.eval o).run P w = .ok (.value v) w∧Calls P f #[v] w fun e w'=>e = .returned (.tuple #[])∧R w') :
    c.wp P (fun e a' w'=>e = .normal∧a'.defers=a.defers∧a'.tmps.size=n∧(∀ i,i ≠ e1→i ≠ e2→a'.tmps.getD i undef=a.tmps.getD i undef)∧R w') a w:=by
  obtain ⟨id,ops,rfl,hxs⟩:=zGk hc
  have sl:∀ (a:Act) (w:World),@zeh i0 ⟨fun _=>0,fun _=>⟨none,0⟩⟩ za6 w a (fun _=>AV.junk):=fun a w i=>.junk _
  refine wp_region ?_
  rw [List.range_eq_range',← Array.length_toList]
  generalize hl:ops.toList=l at hxs
  obtain ⟨o1,o2,rfl,h1,h2⟩:=zTm hxs
  have g0:ops[0]? = some o1:=by rw [← yav,hl]; rfl
  have g1:ops[1]? = some o2:=by rw [← yav,hl]; rfl
  obtain ⟨p1,p2,p3,_⟩:=zem h1
  obtain ⟨q1,q2,q3,_⟩:=zem h2
  simp only at p1 p2 q1 q2
  simp only [yaS,List.length_nil,List.range'_succ,List.range'_zero,wpOps,g0,g1,ybj]
  rw [@zrn i0 P _ _ _ _ _ _ _ _ _ h1 (sl a w) true rfl]
  simp only [if_true]
  refine .inl ?_
  unfold Oper.wp
  obtain ⟨v,hv,hcalls⟩:=hv o1 p2
  rw [hv,Oper.upon_value]
  rw [@zrn i0 P _ _ _ _ _ _ _ _ _ h2 (sl _ w) true rfl]
  simp only [if_true]
  refine .inl ?_
  have he:e1<a.tmps.size:=by
    rw [← p1] at p3
    simpa [hsz] using p3
  have hev:(a.put o1.dst v).tmps.getD e1 undef=v:=by
    rw [← p1,zKb he,if_pos rfl]
  rw [zPk q2 hent,hev,Oper.upon_enter]
  refine hcalls.mono ?_
  rintro e w' ⟨rfl,hR⟩
  refine ⟨trivial,?_,?_,fun i h1 h2=>?_,hR⟩
  · rw [za8,za8]
  · rw [zb7,zb7]; exact hsz
  · rw [← q1,zG2 h2,← p1,zG2 h1]
end
end
section
def oldA:AV→AV
  | .d (.sl sz xs)=>.n false (.sl sz xs)
  | .d x=>if x.flat=true then .d x else .junk
  | .ptr k v o=>.ptr k v o
  | .rsl k v=>.rsl k v
  | .skip=>.skip
  | _=>.junk
def oldE (e:Ent):Ent:=⟨e.ver,match e.body with | .box cs fz=>.box (cs.map oldA) fz | b=>b⟩
def oldS (st:S):S:=⟨fun i=>oldA (st.s i),fun k=>oldE (st.h k)⟩
def zLd:AV→AV
  | .n false x=>.d x
  | .d x=>if x.flat=true then .d x else .junk
  | .ptr k v o=>.ptr k v o
  | .skip=>.skip
  | _=>.junk
def aftE (e:Ent):Ent:=⟨e.ver,match e.body with | .box cs false=>.box (cs.map zLd) false | _=>.dead⟩
def aftS (lim:Nat) (st:S):S:=⟨fun i=>if i<lim then zLd (st.s i) else .junk,fun k=>aftE (st.h k)⟩
theorem zA8 {m:Nat} {St:Nat→Nat} (h:∀ b,0<St b→b<m):cutS false m St=St:=by
  funext b
  unfold cutS
  by_cases hb:m≤b
  · simp only [hb,decide_true,Bool.true_eq_false,if_false]
    rcases yaj (St b) with h0 | h0
    · exact h0.symm
    · have:=h b h0; omega
  · simp [hb]
theorem zMj {G:GS} {h:Nat→Ent} {w:World} {v:Value} {av:AV} {m:Nat} (hst:∀ b,0<G.St b→b<m) (r:@ARel i0 G h w v av):@ARel (i1 m) G (fun k=>oldE (h k)) w v (oldA av):=by
  cases av with
  | d x =>
    have hr:=@ARel.d_inv i0 _ _ _ _ _ r
    cases x with
    | sl sz xs =>
      refine @ARel.n (i1 m) G _ w v false _ (by cases hr; rfl) ?_
      show Rel (cutS false m G.St) w v _
      rw [zA8 hst]
      exact hr
    | _ =>
      simp only [oldA]
      split
      · exact @ARel.d (i1 m) _ _ _ _ _ hr
      · exact @ARel.junk (i1 m) _ _ _ _
  | ptr k ver off =>
    cases r with
    | ptr _ _ _ _ h1 hle hv =>
      refine @ARel.ptr (i1 m) _ _ _ _ _ _ _ h1 hle fun hq cs fz hb=>?_
      simp only [oldE] at hb hq
      cases hbk:(h k).body with
      | box cs0 f0=>exact hv hq cs0 f0 hbk
      | _=>rw [hbk] at hb; cases hb
  | rsl k ver =>
    cases r with
    | rsl _ _ _ h1 hle hv =>
      refine @ARel.rsl (i1 m) _ _ _ _ _ _ h1 hle fun hq sz xs fz hb=>?_
      simp only [oldE] at hb hq
      cases hbk:(h k).body with
      | row=>rw [hbk] at hb; exact hv hq sz xs fz (by rw [hbk]; exact hb)
      | _=>rw [hbk] at hb; cases hb
  | skip=>cases r; exact @ARel.skip (i1 m) _ _ _
  | _=>exact @ARel.junk (i1 m) _ _ _ _
theorem zz8 {G:GS} {k b:Nat} {e:Ent}:Owns G k b (oldE e).body ↔ Owns G k b e.body:=by
  unfold oldE
  cases hb:e.body <;> simp [Owns]
theorem zXf {n:Nat} {G:GS} {st:S} {a:Act} {w:World} (fr:@Fr i0 n G st a w):@Fr (i1 w.heap.size) n G (oldS st) a w:=by
  have hst:=(@Fr.inv i0 _ _ _ _ _ fr).st
  refine @Fr.mk (i1 w.heap.size) _ _ _ _ _ ?_ (fun i=>zMj hst (@Fr.slots i0 _ _ _ _ _ fr i)) (@Fr.size i0 _ _ _ _ _ fr)
  have i:=@Fr.inv i0 _ _ _ _ _ fr
  refine @Inv.mk (i1 w.heap.size) _ _ _ hst (fun k=>?_) (fun k k' b h1 h2=>@Inv.apart i0 _ _ _ i k k' b (zz8.1 h1) (zz8.1 h2)) (yab _)
  have he:=@Inv.ent i0 _ _ _ i k
  show @zps (i1 w.heap.size) G (fun k=>oldE (st.h k)) w k (oldE (st.h k)).body
  unfold oldE
  cases hb:(st.h k).body with
  | dead=>exact trivial
  | box cs fz =>
    rw [hb] at he
    obtain ⟨b,arr,el,h1,h2,h3,h4,h5⟩:=he
    refine ⟨b,arr,el,h1,h2,by rw [ycn]; exact h3,fun j c hj=>?_,h5⟩
    rw [yau] at hj
    obtain ⟨c0,hc0,rfl⟩:=yaG.1 hj
    exact ⟨zMj hst (h4 j c0 hc0).1,(h4 j c0 hc0).2⟩
  | row sz xs fz =>
    rw [hb] at he
    cases fz with
    | true=>exact he
    | false=>exact he
theorem zJa {G:GS} {h:Nat→Ent} {w w':World} {v:Value} {av:AV} {m:Nat} (hst:∀ b,0<G.St b→b<w.heap.size) (hc:Chg (cutS true m G.St) w w') (r:@ARel (i1 m) G h w v av):@ARel i0 ⟨cutS false m G.St,G.hd⟩ (fun k=>aftE (h k)) w' v (zLd av):=by
  cases av with
  | d x =>
    have hr:=@ARel.d_inv (i1 m) _ _ _ _ _ r
    simp only [zLd]
    split
    · rename_i hf
      exact @ARel.d i0 _ _ _ _ _ (hr.flat hf)
    · exact @ARel.junk i0 _ _ _ _
  | n q x =>
    cases r with
    | n _ _ _ h1 hr =>
      cases q with
      | true=>exact @ARel.junk i0 _ _ _ _
      | false =>
        refine @ARel.d i0 _ _ _ _ _ (hr.keeps ⟨fun _=>yab _,fun b i hi=>?_,fun b hb hf=>hc.free b hf⟩)
        have hlt:i<cutS false m G.St b:=hi
        have hb:b<w.heap.size:=hst b (by have:=zjw false m G.St b; omega)
        refine World.cell?_of_block (w:=w) (a:=⟨b,i,none⟩) (hc.block b hb ?_)
        unfold cutS at hlt ⊢
        by_cases hm:m≤b
        · simp [hm] at hlt
        · simp [hm]
  | ptr k ver off =>
    cases r with
    | ptr _ _ _ _ h1 hle hv =>
      refine @ARel.ptr i0 _ _ _ _ _ _ _ h1 hle fun hq cs fz hb=>?_
      simp only [aftE] at hb hq
      split at hb
      · rename_i cs0 hbk
        exact hv hq cs0 false hbk
      · cases hb
  | skip=>cases r; exact @ARel.skip i0 _ _ _
  | _=>exact @ARel.junk i0 _ _ _ _
theorem zA1 {G G':GS} {k b:Nat} {e:Ent} (hG:G'.hd=G.hd) (h:Owns G' k b (aftE e).body):Owns G k b e.body:=by
  unfold aftE at h
  cases hb:e.body with
  | dead=>rw [hb] at h; exact h
  | row=>rw [hb] at h; exact h.elim
  | box cs fz =>
    rw [hb] at h
    cases fz with
    | true=>exact h.elim
    | false=>simp only [Owns] at h ⊢; rw [← hG]; exact h
theorem zXn {n m lim:Nat} {G:GS} {st:S} {a a':Act} {w w':World} (fr:@Fr (i1 m) n G st a w) (hc:Chg (cutS true m G.St) w w') (hsz:a'.tmps.size=n) (hs:∀ i,i<lim→a'.tmps.getD i undef=a.tmps.getD i undef):@Fr i0 n ⟨cutS false m G.St,G.hd⟩ (aftS lim st) a' w':=by
  have i:=@Fr.inv (i1 m) _ _ _ _ _ fr
  have hst:=@Inv.st (i1 m) _ _ _ i
  refine @Fr.mk i0 _ _ _ _ _ ?_ (fun j=>?_) hsz
  · refine @Inv.mk i0 _ _ _ (fun b hb=>yad (hst b (yad hb (zjw false m G.St b))) hc.size) (fun k=>?_) (fun k k' b h1 h2=>@Inv.apart (i1 m) _ _ _ i k k' b (zA1 rfl h1) (zA1 rfl h2)) (yaR _)
    have he:=@Inv.ent (i1 m) _ _ _ i k
    show @zps i0 ⟨cutS false m G.St,G.hd⟩ (fun k=>aftE (st.h k)) w' k (aftE (st.h k)).body
    unfold aftE
    cases hb:(st.h k).body with
    | dead=>exact trivial
    | row=>exact trivial
    | box cs fz =>
      cases fz with
      | true=>exact trivial
      | false =>
        rw [hb] at he
        obtain ⟨b,arr,el,h1,h2,h3,h4,h5⟩:=he
        have h50:G.St b=0:=h5
        have hbw:=(yay.1 h2).1
        have hz:∀ q,cutS q m G.St b=0:=fun q=>ybV fun hp=>by have:=zjw q m G.St b; omega
        refine ⟨b,arr,el,h1,(hc.block b hbw (hz true)).trans h2,by rw [ycn]; exact h3,fun j c hj=>?_,hz false⟩
        rw [yau] at hj
        obtain ⟨c0,hc0,rfl⟩:=yaG.1 hj
        exact ⟨zJa hst hc (h4 j c0 hc0).1,(h4 j c0 hc0).2⟩
  · show @ARel i0 _ _ _ _ (if j<lim then zLd (st.s j) else .junk)
    split
    · rename_i hj
      rw [hs j hj]
      exact zJa hst hc (@Fr.slots (i1 m) _ _ _ _ _ fr j)
    · exact @ARel.junk i0 _ _ _ _
end
section
structure Jn [Nw] (w0:World) (G:GS) (h:Nat→Ent) (w:World):Prop where
  below:RowKit.Below w0.heap.size w0 w
  own:∀ k b,Owns G k b (h k).body→w0.heap.size≤b
  low:Nw.on=true→w0.heap.size≤Nw.n ∧ ∀ b,Nw.n≤b→0<G.St b→zie w b
theorem Jn.step [Nw] {w0:World} {G G':GS} {h h':Nat→Ent} {w w':World} (j:Jn w0 G h w) (s:Step G h w G' h' w'):Jn w0 G' h' w':=by
  refine ⟨⟨s.left.os.trans j.below.os,s.left.tape.trans j.below.tape,s.left.output.trans j.below.output,yac j.below.size s.left.size,fun b hb=>?_⟩,fun k b hk=>?_,fun hon=>⟨(j.low hon).1,fun b hb h0=>?_⟩⟩
  · exact (s.left.block b (yad hb j.below.size) (fun k hk=>by have:=j.own k b hk; omega)).1.trans (j.below.block b hb)
  · rcases s.grow k b hk with ⟨k',hk'⟩ | hle
    · exact j.own k' b hk'
    · exact yac j.below.size hle
  · rcases yaj (G.St b) with hz | hp
    · exact s.fresh b hz h0
    · exact s.ext.keeps.free b hp ((j.low hon).2 b hb hp)
def FinB (P:Program) (fn:Func) (w0:World):Exit→Act→World→Prop:=fun e a' w'=>(e = .normal∨e = .ret)∧a'.defers=[]∧(results fn a'.tmps).run P w' = .ok (.bool true) w'∧RowKit.Below w0.heap.size w0 w'
def Snd [Nw] (P:Program) (fn:Func) (res:List XRes) (w0:World) (x:XCode) (st:S):Prop:=cres P fn.results.toList=some res→P.follows .mixedOrders=true → ∀ (c:Code) (G:GS) (a:Act) (w:World),zdf P fn.ntmps c=some x→Fr fn.ntmps G st a w→Jn w0 G st.h w→a.defers=[]→c.wp P (FinB P fn w0) a w
def Spd [Nw] (lim:Nat) (P:Program) (fn:Func) (res:List XRes) (w0:World) (x:XCode) (st:S):Prop:=cres P fn.results.toList=some res→P.follows .mixedOrders=true → ∀ (c:Code) (G:GS) (a a':Act) (w w':World),zdf P fn.ntmps c=some x→Fr fn.ntmps G st a w→Jn w0 G st.h w→Chg (cutS true Nw.n G.St) w w'→a'.tmps.size=fn.ntmps→(∀ i,i<lim→a'.tmps.getD i undef=a.tmps.getD i undef)→a'.defers=[]→c.wp P (FinB P fn w0) a' w'
section
variable {P:Program} {fn:Func} {res:List XRes} {w0:World}
theorem zNi [Nw] (hres:cres P fn.results.toList=some res) {G:GS} {st:S} {a:Act} {w:World} (fr:Fr fn.ntmps G st a w) (j:Jn w0 G st.h w) (hd:a.defers=[]) {e:Ex} (h:Ends res [.bool true] e st):FinB P fn w0 e.real a w:=by
  obtain ⟨he,vs,hrv,hds⟩:=h
  obtain ⟨us,h1,h2,h3⟩:=zgo (P:=P) fr.inv fr.slots _ _ _ hres hrv
  have hrel:=zgv fr.inv h2 h3 hds
  have hus:us=[.bool true]:=by
    obtain ⟨hl,hr⟩:=hrel
    have h0:=hr 0 (.bool true) rfl
    match us,hl,h0 with
    | [u],_,h0 =>
      simp only [List.getD_cons_zero] at h0
      cases h0
      rfl
  subst hus
  refine ⟨by rcases he with rfl | rfl; exact .inl rfl; exact .inr rfl,hd,zhg h1,j.below⟩
theorem Snd.last {nwI:Nw} {x:XCode} {st:S} (h:wpX P x (Ends res [.bool true]) st):Snd P fn res w0 x st:=fun hres hm c G a w hc fr j hd=>by
  refine wp_mono (zk9 hm c x hc _ _ _ _ _ h fr) ?_
  rintro e a' w' ⟨ex,G',st',rfl,fr',hs,hd',hend⟩
  exact zNi hres fr' (j.step hs) (hd'.trans hd) hend
theorem Snd.seq {nwI:Nw} {x y:XCode} {st:S} (h:wpX P x (Ex.then (Snd P fn res w0 y) (Ends res [.bool true])) st):Snd P fn res w0 (.seq x y) st:=fun hres hm c G a w hc fr j hd=>by
  obtain ⟨c1,c2,rfl,hc1,hc2⟩:=zFs hc
  refine wp_seq (wp_mono (zk9 hm c1 x hc1 _ _ _ _ _ h fr) ?_)
  rintro e a' w' ⟨ex,G',st',rfl,fr',hs,hd',hend⟩
  cases ex with
  | normal=>exact hend hres hm c2 G' a' w' hc2 fr' (j.step hs) (hd'.trans hd)
  | exit id=>exact zNi hres fr' (j.step hs) (hd'.trans hd) hend
  | ret=>exact zNi hres fr' (j.step hs) (hd'.trans hd) hend
theorem Snd.cut {x:XCode} {st:S} (h:∀ m,@Snd (i1 m) P fn res w0 x (oldS st)):@Snd i0 P fn res w0 x st:=fun hres hm c G a w hc fr j hd=>by
  refine h w.heap.size hres hm c G a w hc (zXf fr) ?_ hd
  refine @Jn.mk (i1 w.heap.size) _ _ _ _ (@Jn.below i0 _ _ _ _ j) (fun k b hk=>@Jn.own i0 _ _ _ _ j k b (zz8.1 hk)) fun _=>⟨(@Jn.below i0 _ _ _ _ j).size,fun b hb h0=>?_⟩
  have:=(@Fr.inv i0 _ _ _ _ _ fr).st b h0
  exact absurd hb (Nat.not_le.2 this)
theorem Spd.enter {nwI:Nw} (lim:Nat) {x:XCode} {st:S} (h:Spd lim P fn res w0 x st):Snd P fn res w0 x st:=fun hres hm c G a w hc fr j hd=>h hres hm c G a a w w hc fr j (.refl _ _) fr.size (fun _ _=>rfl) hd
theorem Spd.leave {lim m:Nat} {x:XCode} {st:S} (h:@Snd i0 P fn res w0 x (aftS lim st)):@Spd (i1 m) lim P fn res w0 x st:=fun hres hm c G a a' w w' hc fr j hch hsz hs hd=>by
  refine h hres hm c _ a' w' hc (zXn fr hch hsz hs) ?_ hd
  have jb:=@Jn.below (i1 m) _ _ _ _ j
  have jl:=(@Jn.low (i1 m) _ _ _ _ j rfl).1
  refine @Jn.mk i0 _ _ _ _ ⟨hch.os.trans jb.os,hch.tape.trans jb.tape,hch.output.trans jb.output,yac jb.size hch.size,fun b hb=>?_⟩ (fun k b hk=>@Jn.own (i1 m) _ _ _ _ j k b (zA1 rfl hk)) fun h=>by cases h
  refine (hch.block b (yad hb jb.size) ?_).trans (jb.block b hb)
  show cutS true m G.St b=0
  have hm:¬ m≤b:=fun hle=>by have:w0.heap.size≤m:=jl; omega
  simp [cutS,hm]
theorem zYs {f:FuncId} {x:XFn} (hm:P.follows .mixedOrders=true) (hf:P.funcs[f]? = some fn) (hx:cfn P fn=some x) {ds:List D} (hl:ds.length=x.np) (hw:∀ w0,@Snd i0 P fn x.res w0 x.code ⟨zle ds,za6⟩):Pure P f ds [.bool true]:=by
  unfold cfn at hx
  split at hx
  · rename_i c hb
    split at hx
    · cases hx
    · rename_i hname
      split at hx
      · rename_i xc r hcc hres
        split at hx
        · rename_i hnp
          cases hx
          simp only at hl hw
          refine ⟨⟨fn,hf,hname,by rw [hb]; rfl⟩,fun St w vs hst hrel=>?_⟩
          refine calls_of_wp hf hb ?_
          have hvl:vs.length=ds.length:=hrel.1
          have fr:@Fr i0 fn.ntmps ⟨St,fun _=>⟨none,0⟩⟩ ⟨zle ds,za6⟩ { tmps:=vs.toArray ++ ybQ (fn.ntmps - vs.toArray.size) undef,defers:=[] } w:=by
            refine ⟨⟨hst,fun k=>trivial,fun k k' b h=>h.elim,yaR _⟩,fun i=>?_,by simp; omega⟩
            simp only [zle]
            cases hd:ds[i]? with
            | none =>
              have hge:ds.length≤i:=List.getElem?_eq_none_iff.1 hd
              have:(vs.toArray ++ ybQ (fn.ntmps - vs.toArray.size) undef).getD i undef=undef:=by
                rw [yaw,Array.getElem?_append_right (by simp; omega),Array.getElem?_replicate]
                split <;> rfl
              rw [this]
              exact .skip
            | some d =>
              have hlt:=(yae.1 hd).1
              have:(vs.toArray ++ ybQ (fn.ntmps - vs.toArray.size) undef).getD i undef=vs.getD i undef:=by
                rw [yaw,Array.getElem?_append_left (by simp; omega)]
                simp
              rw [this]
              exact .d _ _ (hrel.2 i d hd)
          refine wp_mono (hw w hres hm c _ _ _ hcc fr ⟨RowKit.Below.refl _ _,fun k b h=>h.elim,fun h=>by cases h⟩ rfl) ?_
          rintro e a' w' ⟨he,hd,hpost,hbel⟩
          have hR:∃ St' us',Ending.returned (.bool true) = .returned (zbj us')∧RelL St' w' us' [.bool true]∧RowKit.Below w.heap.size w w'∧(∀ b,b<w.heap.size→St' b=St b)∧(∀ b,0<St' b→b<w'.heap.size)∧(∀ b,w.heap.size≤b→0<St' b→zie w' b) :=
            ⟨St,[.bool true],rfl,⟨rfl,fun j d hj=>by
              cases j with
              | zero=>cases hj; exact .bool true
              | succ j=>cases hj⟩,hbel,fun _ _=>rfl,fun b hb=>yad (hst b hb) hbel.size,fun b hb h0=>by have:=hst b h0; omega⟩
          rcases he with rfl | rfl
          · exact ⟨hd,_,hpost,hR⟩
          · exact ⟨hd,_,hpost,hR⟩
        · cases hx
      · cases hx
  · cases hx
end
end
section
section
variable {fn:Func} {res:List XRes} {w0:World}
theorem zFa:zpj Tryz.prog zfw:=⟨_,Tryz.func21,by decide,rfl⟩
theorem zJb {m:Nat} {G:GS} {h:Nat→Ent} {w w':World} (i:@Inv (i1 m) G h w) (j:@Jn (i1 m) w0 G h w) (hc:Chg (cutS true m G.St) w w'):∀ b,0<cutS true m G.St b→b<w'.heap.size∧zie w' b:=fun b hb=>by
  have hg:0<G.St b:=yad hb (zjw true m G.St b)
  have hm:m≤b:=by
    unfold cutS at hb
    by_cases hm:m≤b
    · exact hm
    · simp [hm] at hb
  exact ⟨yad (@Inv.st (i1 m) _ _ _ i b hg) hc.size,hc.free b ((@Jn.low (i1 m) _ _ _ _ j rfl).2 b hm hg)⟩
theorem Spd.term {m lim e1 e2 j k v:Nat} {y:XCode} {st:S} {p q:Int} {ks:List T} (hj:j<lim) (h1:lim≤e1) (h2:lim≤e2) (hs:st.s j = .ptr k v 0) (hk:st.h k=⟨v,.box [.d (.int .i64 p),.d (.int .i64 q),.n true (.sl 3 (ks.map eT))] false⟩) (h:@Spd (i1 m) lim Tryz.prog fn res w0 y st) :
    @Spd (i1 m) lim Tryz.prog fn res w0 (.seq (.region [⟨some e1,.load 3 true (.t j),none⟩,⟨some e2,.call (.c (.d (.clo zfw []))) [.t e1],none⟩] none) y) st:=fun hres hm c G a a' w w' hc fr jn hch hsz hsa hd=>by
  obtain ⟨c1,c2,rfl,hc1,hc2⟩:=zFs hc
  have i:=@Fr.inv (i1 m) _ _ _ _ _ fr
  have hr:=@Fr.slots (i1 m) _ _ _ _ _ fr j
  rw [hs] at hr
  have he:=@Inv.ent (i1 m) _ _ _ i k
  rw [hk] at he
  obtain ⟨b,arr,el,hA,hh,hasz,hcells,hst0⟩:=he
  have hst0:G.St b=0:=hst0
  have hch:Chg (cutS true m G.St) w w':=hch
  have hp:a.tmps.getD j undef = .pointer (some ⟨b,0,none⟩):=by
    generalize a.tmps.getD j undef=u at hr
    cases hr with
    | ptr _ _ _ _ _ _ hv =>
      obtain ⟨b',hA',hv'⟩:=hv (by rw [hk]) _ _ (by rw [hk])
      rw [hA] at hA'
      cases hA'
      exact hv'
  have hbw:=(yay.1 hh).1
  have hh':w'.heap[b]? = some (.cells arr el (0,0)):=(hch.block b hbw (ybV fun hp=>by have:=zjw true m G.St b; omega)).trans hh
  have hc2':=(hcells 2 _ rfl).1
  have hr2:Rel (cutS true m G.St) w (arr.getD 2 undef) (.sl 3 (ks.map eT)):=by
    generalize arr.getD 2 undef=u at hc2'
    cases hc2' with
    | n _ _ _ _ hr=>exact hr
  obtain ⟨ks',_,hr'⟩:=zJ2 ks _ _ w w' _ (fun b hb=>@Inv.st (i1 m) _ _ _ i b (yad hb (zjw true m G.St b))) hr2 hch
  have i':@Inv i0 ⟨cutS true m G.St,fun _=>⟨some ⟨b,0,none⟩,0⟩⟩ (fun q'=>if q'=k then ⟨v,.box [.d (.int .i64 p),.d (.int .i64 q),.d (.sl 3 (ks'.map eT))] false⟩ else ⟨0,.dead⟩) w':=by
    refine @Inv.mk i0 _ _ _ (fun b hb=>(zJb i jn hch b hb).1) (fun q'=>?_) (fun k1 k2 b' g1 g2=>?_) (yaR _)
    · by_cases hq:q'=k
      · simp only [hq,if_true]
        refine ⟨b,arr,el,rfl,hh',hasz,fun j' c' hj'=>?_,ybV fun hp=>by have:=zjw true m G.St b; have:0<cutS true m G.St b:=hp; omega⟩
        have hone:∀ z,z<3→(arr.getD z undef).oneCell'=true:=fun z hz=>by
          match z,hz with
          | 0,_=>exact (hcells 0 _ rfl).2
          | 1,_=>exact (hcells 1 _ rfl).2
          | 2,_=>exact (hcells 2 _ rfl).2
        match j',hj' with
        | 0,hj' =>
          cases hj'
          exact ⟨@ARel.d i0 _ _ _ _ _ ((@ARel.d_inv (i1 m) _ _ _ _ _ (hcells 0 _ rfl).1).flat rfl),hone 0 (by omega)⟩
        | 1,hj' =>
          cases hj'
          exact ⟨@ARel.d i0 _ _ _ _ _ ((@ARel.d_inv (i1 m) _ _ _ _ _ (hcells 1 _ rfl).1).flat rfl),hone 1 (by omega)⟩
        | 2,hj' =>
          cases hj'
          exact ⟨@ARel.d i0 _ _ _ _ _ hr',hone 2 (by omega)⟩
      · simp only [hq,if_false]
        exact trivial
    · by_cases q1:k1=k
      · by_cases q2:k2=k
        · rw [q1,q2]
        · simp only [q2,if_false] at g2
          exact g2.elim
      · simp only [q1,if_false] at g1
        exact g1.elim
  have hptr:@ARel i0 ⟨cutS true m G.St,fun _=>⟨some ⟨b,0,none⟩,0⟩⟩ (fun q'=>if q'=k then ⟨v,.box [.d (.int .i64 p),.d (.int .i64 q),.d (.sl 3 (ks'.map eT))] false⟩ else ⟨0,.dead⟩) w' (a'.tmps.getD j undef) (.ptr k v 0):=by
    refine @ARel.ptr i0 _ _ _ _ _ _ _ (by rw [hsa j hj,hp]; rfl) (by simp) fun _ cs fz _=>⟨b,rfl,by rw [hsa j hj,hp]⟩
  have hld:∀ t,sz? Tryz.prog t=some 3→ag? Tryz.prog t=some true → ∃ ad u,a'.tmps.getD j undef = .pointer (some ad)∧(loadVar t ad).run Tryz.prog w' = .ok u w'∧Rel (cutS true m G.St) w' u (.agg (cT (.mk p q ks'))):=fun t hn hg=>by
    obtain ⟨ad,u,h1,h2,h3⟩:=@zz9 i0 Tryz.prog _ _ _ i' t _ _ (.agg [.d (.int .i64 p),.d (.int .i64 q),.d (.sl 3 (ks'.map eT))]) hptr 3 true hn hg (by simp [zyc,cut,zv3])
    refine ⟨ad,u,h1,h2,?_⟩
    cases h3 with
    | agg vs _ hn hr =>
      refine .agg vs _ (by simpa [cT] using hn) fun j c hj=>?_
      match j,hj with
      | 0,hj=>cases hj; exact @ARel.d_inv i0 _ _ _ _ _ (hr 0 _ rfl)
      | 1,hj=>cases hj; exact @ARel.d_inv i0 _ _ _ _ _ (hr 1 _ rfl)
      | 2,hj=>cases hj; exact @ARel.d_inv i0 _ _ _ _ _ (hr 2 _ rfl)
  refine wp_seq (wp_mono (reg2 hc1 zFa hsz (R:=fun w2=>Chg (cutS true m G.St) w' w2) fun o ho=>?_) ?_)
  · obtain ⟨t,ho,hn,hg⟩:=zRw ho
    obtain ⟨ad,u,hu1,hu2,hu3⟩:=hld t hn hg
    exact ⟨u,zMx ho hu1 hu2,zRk _ (cutS true m G.St) w' u (zJb i jn hch) hu3⟩
  · rintro e a2 w2 ⟨rfl,hd2,hsz2,hsa2,hch2⟩
    exact h hres hm c2 G a a2 w w2 hc2 fr jn (hch.trans hch2) hsz2 (fun q hq=>(hsa2 q (by omega) (by omega)).trans (hsa q hq)) (hd2.trans hd)
end
end
section
attribute [local simp] zaf zag tk tn tks zcl zcu
mutual
def mapT (f:Int→Int→T):T→Int→T
  | .mk k n ks,b=>if k=1 then f n b else .mk k n (mapL f k b 0 ks)
def mapL (f:Int→Int→T) (k b:Int):Nat→List T→List T
  | _,[]=>[]
  | i,x :: xs=>mapT f x (b+zak k i) :: mapL f k b (i+1) xs
end
theorem zgl (f:Int→Int→T) (k b:Int):∀ (l:List T) (i:Nat),(mapL f k b i l).length=l.length
  | [],i=>by simp [mapL]
  | x :: xs,i=>by simp [mapL,zgl f k b xs (i+1)]
theorem zlg (f:Int→Int→T) (k b:Int):∀ (l:List T) (i j:Nat) (h:j<l.length),(mapL f k b i l)[j]'(by rw [zgl]; exact h)=mapT f l[j] (b+zak k (i+j:Nat))
  | x :: xs,i,0,h=>by simp [mapL]
  | x :: xs,i,j+1,h=>by
    have:=zlg f k b xs (i+1) j (by simpa using h)
    simp only [mapL,ycB]
    rw [this]
    congr 3
    omega
inductive VokT:T→Prop
  | mk (k n:Int) (ks:List T) (hv:k=1→0≤n∧n≤65535) (hz:k=1∨k=2∨k=3→ks=[]) (hl:ks.length≤1000) (h:∀ x ∈ ks,VokT x):VokT (.mk k n ks)
theorem VokT.out {k n:Int} {ks:List T} (h:VokT (.mk k n ks)):(k=1→(0≤n∧n≤65535)∧ks=[])∧ks.length≤1000 ∧ ∀ x ∈ ks,VokT x:=by
  cases h with
  | mk _ _ _ a z b c=>exact ⟨fun h=>⟨a h,z (.inl h)⟩,b,c⟩
theorem VokT.leaf {k n:Int} {ks:List T} (h:VokT (.mk k n ks)):k=1∨k=2∨k=3→ks=[]:=by
  cases h with
  | mk _ _ _ a z b c=>exact z
theorem zsj (t:T):zac t=true→VokT t:=by
  refine T.ind (p:=fun t=>zac t=true→VokT t) ?_ t
  intro k n ks ih h
  refine .mk _ _ _ (fun hk=>zds hk h) (fun hk=>?_) (zIx _ h).kids.1 fun x hx=>ih x hx (zbn h x hx)
  rw [zbf] at h
  have h0:zf5 k=0:=by rcases hk with rfl | rfl | rfl <;> rfl
  rw [h0] at h
  split at h
  · rename_i hl; simpa using hl
  · cases h
theorem zN3 (f:Int→Int→T) (g:FuncId) (caps:List D) (hf:∀ n b:Int,0≤n→n≤65535→0≤b→b≤1099511627776→Pure Tryz.prog g (.int .i64 n :: .int .i64 b :: caps) [.agg (cT (f n b))]) (t:T):∀ b:Int,VokT t→0≤b→b+zae t≤1099511627776 →
    Pure Tryz.prog zia [.agg (cT t),.int .i64 b,.clo g caps] [.agg (cT (mapT f t b))]:=by
  refine T.ind (p:=fun t=>∀ b:Int,VokT t→0≤b→b+zae t≤1099511627776→Pure Tryz.prog zia [.agg (cT t),.int .i64 b,.clo g caps] [.agg (cT (mapT f t b))]) ?_ t
  intro k n ks ih b hvk h0 hb
  obtain ⟨hvn,hl,hsk⟩:=hvk.out
  refine zKx rfl fun hs=>?_
  simp -dsimp [zwc,cT]
  (first | refine zal ?_ ?_ | refine zam ?_ ?_) <;> intro h1 <;> (try simp only [nrm] at h1) <;> simp -dsimp [h1]
  · have hn:=(hvn h1).1
    refine zaa (hf n b hn.1 hn.2 h0 (by omega)) ?_
    rw [mapT,if_pos h1]
    simp -dsimp [h1,cT]
  have hM:mapT f (.mk k n ks) b = .mk k n (mapL f k b 0 ks):=by rw [mapT,if_neg h1]
  rw [hM]
  by_cases hz:ks=[]
  · subst hz
    simp -dsimp [h1,mapL]
  simp -dsimp [h1,hz]
  have r1:(ks.length:Int)*40≤(zad:Int):=by simp only [zad]; omega
  have r2:ks.length≤zad:=by simp only [zad]; omega
  have hll:(mapL f k b 0 ks).length=ks.length:=zgl f k b ks 0
  simp -dsimp [h1,hz,r1,r2]
  refine zah ks.length (fun i st=>st.s 3 = .ptr 3 1 0∧st.h 3=⟨1,.box [.d (.int .i64 k),.d (.int .i64 n),.d (.sl 3 (ks.map eT))] false⟩∧st.s 1 = .d (.int .i64 b)∧st.s 2 = .d (.clo g caps) ∧
    st.s 6 = .ptr 6 1 0∧st.h 6=⟨1,.box [.d (.int .i64 0),.d (.int .i64 0),.fsl 3 []] false⟩∧st.s 7 = .rsl 27 1∧st.s 29 = .d (.sl 3 (ks.map eT))∧st.s 30 = .d (.int .i64 ks.length)∧st.s 31 = .d (.int .i64 i) ∧
    st.h 27=⟨1,.row 3 (((mapL f k b 0 ks).map eT).take i ++ List.replicate (ks.length - i) (D.agg [.int .i64 0,.int .i64 0,.sl 3 []])) false⟩) ?_ ?_
  · simp -dsimp
  · rintro i ⟨s,hp⟩ hi ⟨g1,g2,g3,g4,g5,g6,g7,g8,g9,g10,g11⟩
    dsimp only at g1 g2 g3 g4 g5 g6 g7 g8 g9 g10 g11
    rcases ybm i ks.length with hlt | hge
    · have w1:IntKind.i64.wrap ((i:Int)+1)=(i:Int)+1:=zab (by omega) (by omega)
      have hbl:=zco k i
      have hnk:=zcc (k:=k) (n:=n) (yaf hlt:ks[i] ∈ ks)
      have w2:IntKind.i64.wrap (b+zak k i)=b+zak k i:=zab (by omega) (by omega)
      simp -dsimp [g1,g2,g3,g4,g5,g6,g7,g8,g9,g10,g11,hlt,cT]
      refine zaa (zoe k i) ?_
      simp -dsimp [g1,g2,g3,g4,g5,g6,g7,g8,g9,g10,g11,hlt,w2]
      refine zaa (ih ks[i] (yaf _) (b+zak k i) (hsk _ (yaf _)) (by omega) (by omega)) ?_
      have q1:(i:Int)<((min i ks.length:Nat):Int)+((ks.length - i:Nat):Int):=by omega
      have q2:i<min i ks.length+(ks.length - i):=by omega
      have hle:((mapL f k b 0 ks).map eT).length=ks.length:=by rw [ycn,hll]
      have hfn:=zvs (l:=(mapL f k b 0 ks).map eT) (z:=D.agg [.int .i64 0,.int .i64 0,.sl 3 []]) (i:=i) (by rw [hle]; exact hlt)
      have hel:((mapL f k b 0 ks).map eT)[i]'(by rw [hle]; exact hlt) = .agg (cT (mapT f ks[i] (b+zak k i))):=by
        rw [yco,zlg f k b ks 0 i hlt,za4,ybj]
      rw [hel,hle] at hfn
      simp only [cT] at hfn
      simp -dsimp [g1,g2,g3,g4,g5,g6,g7,g8,g9,g10,g11,hlt,w1,w2,hll,q1,q2,cT,hfn]
    · have e:i=ks.length:=by omega
      subst e
      have ht:((mapL f k b 0 ks).map eT).take ks.length=(mapL f k b 0 ks).map eT:=ycd (by rw [ycn,hll]; exact yab _)
      rw [ht,ycy,ycp,ybp] at g11
      simp -dsimp [g1,g2,g3,g4,g5,g6,g7,g8,g9,g10,g11]
theorem zTf (f:Int→Int→T) (g:FuncId) (caps:List D) (hf:∀ n b:Int,0≤n→n≤65535→0≤b→b≤1099511627776→Pure Tryz.prog g (.int .i64 n :: .int .i64 b :: caps) [.agg (cT (f n b))]) (t:T) (b:Int) (hfm:zac t=true) (h0:0≤b) (hb:b+zae t≤1099511627776) :
    Pure Tryz.prog zia [.agg (cT t),.int .i64 b,.clo g caps] [.agg (cT (mapT f t b))]:=zN3 f g caps hf t b (zsj t hfm) h0 hb
def znw (y:Int) (t:T):T:=mapT (fun n b=>.mk 1 (if b≤n then w64 (n+y) else n) []) t 0
theorem zMl (n b y:Int):Pure Tryz.prog ziu [.int .i64 n,.int .i64 b,.rp [.int .i64 y]] [.agg (cT (.mk 1 (if b≤n then w64 (n+y) else n) []))]:=by
  refine zze rfl fun hs=>?_
  simp -dsimp [zmj]
  (first | refine zal ?_ ?_ | refine zam ?_ ?_) <;> intro h1 <;> (try simp only [nrm] at h1) <;> simp -dsimp [h1,w64]
  · refine zaa (v_ok _) ?_
    simp -dsimp [h1,w64,cT]
  · refine zaa (v_ok _) ?_
    simp -dsimp [h1,cT]
theorem zP3 (t:T) (y:Int) (hs:zac t=true) (hn:zae t≤1099511627776):Pure Tryz.prog zn9 [.agg (cT t),.int .i64 y] [.agg (cT (znw y t))]:=by
  refine zDp rfl fun hs'=>?_
  simp -dsimp [zoi,cT]
  refine zaa (zTf (fun n b=>.mk 1 (if b≤n then w64 (n+y) else n) []) ziu [.rp [.int .i64 y]] (fun n b _ _ _ _=>zMl n b y) t 0 hs (by omega) (by omega)) ?_
  simp -dsimp [znw,cT]
mutual
def ze6:T→Int→Int
  | .mk k n ks,b=>zks k b 0 (if k=1∧b≤n then n else -1) ks
def zks (k b:Int):Nat→Int→List T→Int
  | _,a,[]=>a
  | i,a,x :: xs=>zks k b (i+1) (mx a (ze6 x (b+zak k i))) xs
end
theorem zBv (k b:Int):∀ (l:List T) (i:Nat) (a:Int) (j:Nat) (h:j<l.length),zks k b i a (l.take (j+1))=mx (zks k b i a (l.take j)) (ze6 l[j] (b+zak k (i+j:Nat)))
  | x :: xs,i,a,0,h=>by simp [zks]
  | x :: xs,i,a,j+1,h=>by
    simp only [ycC,zks,ycB]
    rw [zBv k b xs (i+1) _ j (by simpa using h)]
    congr 4
    omega
theorem zVm (t:T):∀ b:Int,0≤b→b+zae t≤1099511627776→Pure Tryz.prog zkm [.agg (cT t),.int .i64 b] [.int .i64 (ze6 t b)]:=by
  refine T.ind (p:=fun t=>∀ b:Int,0≤b→b+zae t≤1099511627776→Pure Tryz.prog zkm [.agg (cT t),.int .i64 b] [.int .i64 (ze6 t b)]) ?_ t
  intro k n ks ih b h0 hb
  refine zGc rfl fun hs=>?_
  have hl:=zic (t:=.mk k n ks) (fun d hd=>hs d (by simp at hd; simp [hd]))
  simp [T.kids] at hl
  have hF:ze6 (.mk k n ks) b=zks k b 0 (if k=1∧b≤n then n else -1) ks:=by rw [ze6]
  have c1:k=1→b≤n→n=(if k=1∧b≤n then n else -1):=fun h1 h2=>(if_pos ⟨h1,h2⟩).symm
  have c2:¬(k=1∧b≤n) → -1=(if k=1∧b≤n then n else -1):=fun h=>(if_neg h).symm
  rw [hF]
  generalize (if k=1∧b≤n then n else -1)=A at c1 c2 ⊢
  simp -dsimp [zp3,cT]
  (first | refine zal ?_ ?_ | refine zam ?_ ?_) <;> intro h1 <;> (try simp only [nrm] at h1) <;> simp -dsimp [h1]
  (first | refine zal ?_ ?_ | refine zam ?_ ?_) <;> intro h2 <;> (try simp only [nrm] at h2) <;> simp -dsimp [h2,h1]
  all_goals
    refine zah ks.length (fun i st=>st.s 2 = .ptr 2 1 0∧st.h 2=⟨1,.box [.d (.int .i64 k),.d (.int .i64 n),.d (.sl 3 (ks.map eT))] false⟩∧st.s 1 = .d (.int .i64 b)∧st.s 20 = .d (.sl 3 (ks.map eT))∧st.s 21 = .d (.int .i64 ks.length)∧st.s 22 = .d (.int .i64 i) ∧
      st.s 5 = .d (.int .i64 (zks k b 0 A (ks.take i)))) ?_ ?_
    · simp -dsimp [zks]
      first | exact ⟨h1.symm,c1 h1 h2⟩ | exact ⟨h1.symm,c2 (fun h=>h2 h.2)⟩ | exact c2 (fun h=>h1 h.1)
    · rintro i ⟨s,hp⟩ hi ⟨g1,g2,g3,g4,g5,g6,g7⟩
      dsimp only at g1 g2 g3 g4 g5 g6 g7
      rcases ybm i ks.length with hlt | hge
      · have w1:IntKind.i64.wrap ((i:Int)+1)=(i:Int)+1:=zab (by omega) (by omega)
        have hbl:=zco k i
        have hnk:=zcc (k:=k) (n:=n) (yaf hlt:ks[i] ∈ ks)
        have w2:IntKind.i64.wrap (b+zak k i)=b+zak k i:=zab (by omega) (by omega)
        have hsn:=zBv k b ks 0 A i hlt
        rw [ybj] at hsn
        simp -dsimp [g1,g2,g3,g4,g5,g6,g7,hlt,cT]
        refine zaa (zoe k i) ?_
        simp -dsimp [g1,g2,g3,g4,g5,g6,g7,hlt,w2]
        refine zaa (ih ks[i] (yaf _) (b+zak k i) (by omega) (by omega)) ?_
        simp -dsimp [g1,g2,g3,g4,g5,g6,g7,hlt,w1,hsn,mx]
      · have e:i=ks.length:=by omega
        subst e
        rw [yce] at g7
        simp -dsimp [g1,g2,g3,g4,g5,g6,g7]
structure Ag where
  t:T
  size:Int
  depth:Int
  free:Int
def cAg (a:Ag):List D:=cT a.t ++ [.int .i64 a.size,.int .i64 a.depth,.int .i64 a.free]
def eAg (a:Ag):D:=.agg (cAg a)
@[simp] theorem zYy (a:Ag):(eAg a).cells=cAg a:=rfl
def jobD (l:List Ag) (u:Int) (sc:Bool) (sz dp:Int):D:=.rp [.sl 6 (l.map eAg),.int .i64 u,.bool sc,.int .i64 sz,.int .i64 dp]
def zck (len:Nat) (u n b:Int):Int:=if n<u+b∨(len:Int)≤n - (u+b) then -1 else len - 1 - (n - (u+b))
theorem zD2 (l:List Ag) (u:Int) (sc:Bool) (sz dp n b:Int) (hu:0≤u∧u≤65535) (hb:0≤b∧b≤1099511627776) (hn:0≤n∧n≤65535):Pure Tryz.prog zgw [jobD l u sc sz dp,.int .i64 n,.int .i64 b] [.int .i64 (zck l.length u n b)]:=by
  refine zxc rfl fun hs=>?_
  have hl:((l.length:Int))≤9223372036854775807:=by
    have:=hs (jobD l u sc sz dp) (by simp)
    simp -dsimp [jobD,small] at this
    omega
  have w1:IntKind.i64.wrap (u+b)=u+b:=zab (by omega) (by omega)
  have w2:IntKind.i64.wrap (n - (u+b))=n - (u+b):=zab (by omega) (by omega)
  have w3:IntKind.i64.wrap ((l.length:Int) - 1)=(l.length:Int) - 1:=zab (by omega) (by omega)
  simp -dsimp [zj2,jobD,w1,w2,w3]
  (first | refine zal ?_ ?_ | refine zam ?_ ?_) <;> intro h1 <;> (try simp only [nrm] at h1) <;> simp -dsimp [h1,zck,w1,w2,w3]
  (first | refine zal ?_ ?_ | refine zam ?_ ?_) <;> intro h2 <;> (try simp only [nrm] at h2) <;> simp -dsimp [h2,zck,h1,w1,w2,w3]
  have w4:IntKind.i64.wrap ((l.length:Int) - 1 - (n - (u+b)))=(l.length:Int) - 1 - (n - (u+b)):=zab (by omega) (by omega)
  rw [w4]
structure St3 where
  sc:Bool
  sz:Int
  dp:Int
def mn (a b:Int):Int:=if b<a then b else a
def zig:Int:=1099511627776
mutual
def zn4 (l:List Ag) (u:Int):T→Int→Int→St3→St3
  | .mk k n ks,b,d,st =>
    if k=1 then
      if 0≤zck l.length u n b then match l[(zck l.length u n b).toNat]? with
        | some a=>⟨if st.sc then true else if 0≤a.free then decide (65535<w64 (w64 (a.free+u)+b)) else false,mn (w64 (st.sz+a.size)) zig,mx st.dp (w64 (d+a.depth))⟩
        | none=>st
      else ⟨st.sc,mn (w64 (st.sz+1)) zig,mx st.dp (w64 (d+1))⟩
    else zqk l u k b d 0 ⟨st.sc,mn (w64 (st.sz+1)) zig,mx st.dp (w64 (d+1))⟩ ks
def zqk (l:List Ag) (u k b d:Int):Nat→St3→List T→St3
  | _,st,[]=>st
  | i,st,x :: xs=>zqk l u k b d (i+1) (zn4 l u x (b+zak k i) (w64 (d+1)) st) xs
end
theorem zv0 (l:List Ag) (u k b d:Int):∀ (xs:List T) (i:Nat) (st:St3) (j:Nat) (h:j<xs.length),zqk l u k b d i st (xs.take (j+1))=zn4 l u xs[j] (b+zak k (i+j:Nat)) (w64 (d+1)) (zqk l u k b d i st (xs.take j))
  | x :: xs,i,st,0,h=>by simp [zqk]
  | x :: xs,i,st,j+1,h=>by
    simp only [ycC,zqk,ycB]
    rw [zv0 l u k b d xs (i+1) _ j (by simpa using h)]
    congr 3
    omega
def jobC (c0:AV) (u:Int) (st:St3):List AV:=[c0,.d (.int .i64 u),.d (.bool st.sc),.d (.int .i64 st.sz),.d (.int .i64 st.dp)]
def jobH (k v:Nat) (b:Body) (e:Ent):Nat→Ent:=fun q=>if q=k then ⟨v,b⟩ else e
theorem zP2 {G:GS} {h:Nat→Ent} {w:World} {v:Value} {d:D} (r:ARel G h w v (.d d)):small 8 d:=r.d_inv.small 8
theorem zDy {P:Program} {g:FuncId} {K:List Nat} {h0 h1:Nat→Ent} {rs:List D} {pre post:List AV} {cs:List D} (hm:MutC P g (pre ++ .d (.agg cs) :: post) K h0 rs h1):MutC P g (pre ++ .agg (cs.map .d) :: post) K h0 rs h1:=by
  obtain ⟨a1,a2,a3⟩:=hm
  refine ⟨a1,a2,fun G h w vs b1 b2 b3 b4 b5=>a3 G h w vs b1 b2 b3 (by simpa using b4) fun j a hj=>?_⟩
  rw [List.getElem?_append] at hj
  split at hj
  · rename_i hlt
    exact b5 j a (by rw [List.getElem?_append_left hlt]; exact hj)
  · rename_i hge
    cases hjj:j - pre.length with
    | zero =>
      rw [hjj] at hj
      simp at hj
      subst hj
      have:=b5 j (.agg (cs.map .d)) (by rw [ybW (by omega),hjj]; rfl)
      generalize hq:vs.getD j undef=q at this ⊢
      generalize hz:cs.map AV.d=zs at this
      cases this with
      | agg vs' _ hn hr =>
        subst hz
        refine .d _ _ (.agg vs' cs (by simpa using hn) fun i c hi=>?_)
        exact (hr i (.d c) (by rw [yau,hi]; rfl)).d_inv
    | succ i =>
      rw [hjj] at hj
      exact b5 j a (by rw [ybW (by omega),hjj]; simpa using hj)
theorem zTi {aa:List AV} {K:List Nat} {h0 h1:Nat→Ent} {rs:List D} (hl:aa.length=4) (hov:∀ k ∈ K,zKs K (h1 k).body)
    (hw:∀ (h:Nat→Ent),(∀ k ∈ K,h k=h0 k)→(∀ d,AV.d d ∈ aa→small 8 d)→wpX Tryz.prog zff.code (zcu zff.res rs K h1) ⟨zcl aa,h⟩):MutC Tryz.prog zdd aa K h0 rs h1 :=
  zSn hm Tryz.func190 zx1 hl hov fun G h w vs hk hlen hr=>hw h hk fun d hd=>by
    obtain ⟨j,hj⟩:=List.mem_iff_getElem?.1 hd
    exact zP2 (hr j _ hj)
theorem zWn (l:List Ag) (u:Int) (hu:0≤u∧u≤65535) (t:T):∀ (k v r rv:Nat) (b d:Int) (st:St3),k ≠ r→k ≠ 5→k ≠ 11→k ≠ 13→r ≠ 5→r ≠ 11→r ≠ 13→zac t=true→0≤b→b+zae t≤1099511627776 →
    MutC Tryz.prog zdd [.ptr k v 0,.d (.agg (cT t)),.d (.int .i64 b),.d (.int .i64 d)] [k,r] (jobH k v (.box (jobC (.rsl r rv) u st) false) ⟨rv,.row 6 (l.map eAg) false⟩) []
      (jobH k v (.box (jobC (.rsl r rv) u (zn4 l u t b d st)) false) ⟨rv,.row 6 (l.map eAg) false⟩):=by
  refine T.ind (p:=fun t=>∀ (k v r rv:Nat) (b d:Int) (st:St3),k ≠ r→k ≠ 5→k ≠ 11→k ≠ 13→r ≠ 5→r ≠ 11→r ≠ 13→zac t=true→0≤b→b+zae t≤1099511627776 →
    MutC Tryz.prog zdd [.ptr k v 0,.d (.agg (cT t)),.d (.int .i64 b),.d (.int .i64 d)] [k,r] (jobH k v (.box (jobC (.rsl r rv) u st) false) ⟨rv,.row 6 (l.map eAg) false⟩) []
      (jobH k v (.box (jobC (.rsl r rv) u (zn4 l u t b d st)) false) ⟨rv,.row 6 (l.map eAg) false⟩)) ?_ t
  intro kd n ks ih k v r rv b d st hkr hk5 hk11 hk13 hr5 hr11 hr13 hfm hb0 hb
  have hrk:r ≠ k:=Ne.symm hkr
  have n1:5 ≠ k:=Ne.symm hk5
  have n2:11 ≠ k:=Ne.symm hk11
  have n3:13 ≠ k:=Ne.symm hk13
  have n4:5 ≠ r:=Ne.symm hr5
  have n5:11 ≠ r:=Ne.symm hr11
  have n6:13 ≠ r:=Ne.symm hr13
  refine zTi rfl ?_ fun h hh hs=>?_
  · intro q hq
    simp only [jobH]
    split
    · intro c hc
      simp only [jobC,yaZ,ycD,or_false] at hc
      rcases hc with rfl | rfl | rfl | rfl | rfl
      · exact .rsl _ _ (by simp)
      all_goals exact .d _
    · trivial
  have e1:h k=⟨v,.box (jobC (.rsl r rv) u st) false⟩:=by rw [hh k (by simp)]; simp [jobH]
  have e2:h r=⟨rv,.row 6 (l.map eAg) false⟩:=by rw [hh r (by simp)]; simp [jobH,hrk]
  simp only [jobC] at e1
  have hsm:=hs (.agg (cT (.mk kd n ks))) (by simp)
  simp -dsimp [cT,small] at hsm
  simp -dsimp [zff,cT,jobC,jobH]
  (first | refine zal ?_ ?_ | refine zam ?_ ?_) <;> intro g1 <;> (try simp only [nrm] at g1) <;> simp -dsimp [g1,e1,e2,hkr,hrk,hk5,hk11,hk13,hr5,hr11,hr13,n1,n2,n3,n4,n5,n6]
  · have hn:0≤n∧n≤65535:=by
      rw [zbf,g1] at hfm
      have h0:zf5 1=0:=rfl
      rw [h0] at hfm
      split at hfm
      · simp only [if_true,ybJ] at hfm
        exact (zeu _ _ _).1 hfm.1
      · cases hfm
    refine zyo (zD2 l u st.sc st.sz st.dp n b hu ⟨hb0,by omega⟩ hn) (by simp [D.flat]) ?_
    generalize hw:zck l.length u n b=W
    have hL:zn4 l u (.mk kd n ks) b d st=if 0≤W then match l[W.toNat]? with
        | some a=>⟨if st.sc then true else if 0≤a.free then decide (65535<w64 (w64 (a.free+u)+b)) else false,mn (w64 (st.sz+a.size)) zig,mx st.dp (w64 (d+a.depth))⟩
        | none=>st
      else ⟨st.sc,mn (w64 (st.sz+1)) zig,mx st.dp (w64 (d+1))⟩:=by rw [zn4,if_pos g1,hw]
    rw [hL]
    simp -dsimp [e1,e2,hkr,hrk,hk5,hk11,hk13,hr5,hr11,hr13,n1,n2,n3,n4,n5,n6,g1]
    (first | refine zal ?_ ?_ | refine zam ?_ ?_) <;> intro g2 <;> (try simp only [nrm] at g2) <;> simp -dsimp [g2,e1,e2,hkr,hrk,hk5,hk11,hk13,hr5,hr11,hr13,n1,n2,n3,n4,n5,n6,g1]
    · have hlt:W.toNat<l.length:=by
        rw [zck] at hw
        split at hw <;> omega
      have hget:l[W.toNat]? = some l[W.toNat]:=yar hlt
      have hltI:W<(l.length:Int):=by omega
      simp -dsimp [e1,e2,hkr,hrk,hk5,hk11,hk13,hr5,hr11,hr13,n1,n2,n3,n4,n5,n6,g1,g2,hlt,hltI,hget,eAg,cAg,cT]
      cases hsc:st.sc with
      | true =>
        simp -dsimp [e1,e2,hkr,hrk,hk5,hk11,hk13,hr5,hr11,hr13,n1,n2,n3,n4,n5,n6,g1,g2,hlt,hltI,hget,eAg,cAg,cT,hsc]
        (simp -dsimp [jobH,hrk,jobC,mn,mx,zig,w64,g2,hget,hsc]) <;> (first | exact ⟨rfl,rfl⟩ | exact ⟨rfl,rfl,rfl⟩)
      | false =>
        simp -dsimp [e1,e2,hkr,hrk,hk5,hk11,hk13,hr5,hr11,hr13,n1,n2,n3,n4,n5,n6,g1,g2,hlt,hltI,hget,eAg,cAg,cT,hsc]
        (first | refine zal ?_ ?_ | refine zam ?_ ?_) <;> intro g3 <;> (try simp only [nrm] at g3) <;> simp -dsimp [g3,e1,e2,hkr,hrk,hk5,hk11,hk13,hr5,hr11,hr13,n1,n2,n3,n4,n5,n6,g1,g2,hlt,hltI,hget,eAg,cAg,cT,hsc]
        · (simp -dsimp [jobH,hrk,jobC,mn,mx,zig,w64,g2,hget,hsc,g3]) <;> (first | exact ⟨rfl,rfl⟩ | exact ⟨rfl,rfl,rfl⟩)
        · (simp -dsimp [jobH,hrk,jobC,mn,mx,zig,w64,g2,hget,hsc,g3]) <;> (first | exact ⟨rfl,rfl⟩ | exact ⟨rfl,rfl,rfl⟩)
    · (simp -dsimp [jobH,hrk,jobC,mn,mx,zig,w64,g2]) <;> (first | exact ⟨rfl,rfl⟩ | exact ⟨rfl,rfl,rfl⟩)
  · have hL:zn4 l u (.mk kd n ks) b d st=zqk l u kd b d 0 ⟨st.sc,mn (w64 (st.sz+1)) zig,mx st.dp (w64 (d+1))⟩ ks:=by rw [zn4,if_neg g1]
    rw [hL]
    have hks:ks.all zac=true:=by
      rw [zbf] at hfm
      split at hfm
      · split at hfm
        · rw [ybJ] at hfm; exact hfm.2
        · split at hfm
          · exact hfm
          · cases hfm
      · cases hfm
    generalize hA:(⟨st.sc,mn (w64 (st.sz+1)) zig,mx st.dp (w64 (d+1))⟩:St3)=A
    refine zah ks.length (fun i st'=>st'.s 0 = .ptr k v 0∧st'.s 2 = .d (.int .i64 b)∧st'.s 3 = .d (.int .i64 d)∧st'.s 5 = .ptr 5 ((h 5).ver+1) 0∧st'.h 5=⟨(h 5).ver+1,.box [.d (.int .i64 kd),.d (.int .i64 n),.d (.sl 3 (ks.map eT))] false⟩ ∧
      st'.s 100 = .d (.sl 3 (ks.map eT))∧st'.s 101 = .d (.int .i64 ks.length)∧st'.s 102 = .d (.int .i64 i) ∧
      st'.h k=⟨v,.box (jobC (.rsl r rv) u (zqk l u kd b d 0 A (ks.take i))) false⟩∧st'.h r=⟨rv,.row 6 (l.map eAg) false⟩) ?_ ?_
    · simp -dsimp [e1,e2,hkr,hrk,hk5,hk11,hk13,hr5,hr11,hr13,n1,n2,n3,n4,n5,n6,g1,zqk,jobC]
      simp -dsimp [← hA,mn,mx,zig,w64] <;> exact ⟨rfl,rfl⟩
    · rintro i ⟨s,hp⟩ hi ⟨f1,f2,f3,f4,f5,f6,f7,f8,f9,f10⟩
      dsimp only at f1 f2 f3 f4 f5 f6 f7 f8 f9 f10
      generalize (h 5).ver+1=v5 at f4 f5
      rcases ybm i ks.length with hlt | hge
      · have w1:IntKind.i64.wrap ((i:Int)+1)=(i:Int)+1:=zab (by omega) (by omega)
        have hbl:=zco kd i
        have hnk:=zcc (k:=kd) (n:=n) (yaf hlt:ks[i] ∈ ks)
        have w2:IntKind.i64.wrap (b+zak kd i)=b+zak kd i:=zab (by omega) (by omega)
        simp only [jobC] at f9
        simp -dsimp [e1,e2,hkr,hrk,hk5,hk11,hk13,hr5,hr11,hr13,n1,n2,n3,n4,n5,n6,g1,f1,f2,f3,f4,f5,f6,f7,f8,f9,f10,hlt,cT]
        refine zyo (zoe kd i) (by simp [D.flat]) ?_
        simp -dsimp [e1,e2,hkr,hrk,hk5,hk11,hk13,hr5,hr11,hr13,n1,n2,n3,n4,n5,n6,g1,f1,f2,f3,f4,f5,f6,f7,f8,f9,f10,hlt,w2]
        generalize hX:zqk l u kd b d 0 A (ks.take i)=X at f9
        have hrec:=ih ks[i] (yaf _) k v r rv (b+zak kd i) (w64 (d+1)) X hkr hk5 hk11 hk13 hr5 hr11 hr13 (yaC.1 hks _ (yaf _)) (by omega) (by omega)
        have hrec2:=zDy (pre:=[.ptr k v 0]) (post:=[.d (.int .i64 (b+zak kd i)),.d (.int .i64 (w64 (d+1)))]) hrec
        refine zvc hrec2 ?_ ?_
        · simp [jobH,jobC,hrk,f9,f10,upd,hkr,hk5,hk11,hk13,hr5,hr11,hr13]
        have hsn:=zv0 l u kd b d ks 0 A i hlt
        rw [ybj,hX] at hsn
        simp -dsimp [e1,e2,hkr,hrk,hk5,hk11,hk13,hr5,hr11,hr13,n1,n2,n3,n4,n5,n6,g1,zlt,znv,jobH,f1,f2,f3,f4,f5,f6,f7,f8,f9,f10,hlt,w1,hsn]
      · have e:i=ks.length:=by omega
        subst e
        rw [yce] at f9
        simp -dsimp [e1,e2,hkr,hrk,hk5,hk11,hk13,hr5,hr11,hr13,n1,n2,n3,n4,n5,n6,g1,f1,f2,f3,f4,f5,f6,f7,f8,f9,f10]
        simp [jobH,jobC,hrk]
theorem zXd (u n b:Int) (h:0≤u) (hb:0≤b):zck 0 u n b = -1:=by
  rw [zck,if_pos]
  omega
theorem zRb (u:Int) (hu:0≤u∧u≤65535) (t:T):∀ (k v:Nat) (b d:Int) (st:St3),k ≠ 5→k ≠ 11→k ≠ 13→zac t=true→0≤b→b+zae t≤1099511627776 →
    MutC Tryz.prog zdd [.ptr k v 0,.d (.agg (cT t)),.d (.int .i64 b),.d (.int .i64 d)] [k] (jobH k v (.box (jobC (.fsl 6 []) u st) false) ⟨0,.dead⟩) []
      (jobH k v (.box (jobC (.fsl 6 []) u (zn4 [] u t b d st)) false) ⟨0,.dead⟩):=by
  refine T.ind (p:=fun t=>∀ (k v:Nat) (b d:Int) (st:St3),k ≠ 5→k ≠ 11→k ≠ 13→zac t=true→0≤b→b+zae t≤1099511627776 →
    MutC Tryz.prog zdd [.ptr k v 0,.d (.agg (cT t)),.d (.int .i64 b),.d (.int .i64 d)] [k] (jobH k v (.box (jobC (.fsl 6 []) u st) false) ⟨0,.dead⟩) []
      (jobH k v (.box (jobC (.fsl 6 []) u (zn4 [] u t b d st)) false) ⟨0,.dead⟩)) ?_ t
  intro kd n ks ih k v b d st hk5 hk11 hk13 hfm hb0 hb
  have n1:5 ≠ k:=Ne.symm hk5
  have n2:11 ≠ k:=Ne.symm hk11
  have n3:13 ≠ k:=Ne.symm hk13
  refine zTi rfl ?_ fun h hh hs=>?_
  · intro q hq
    simp only [jobH]
    split
    · intro c hc
      simp only [jobC,yaZ,ycD,or_false] at hc
      rcases hc with rfl | rfl | rfl | rfl | rfl
      · exact .fsl _ _
      all_goals exact .d _
    · trivial
  have e1:h k=⟨v,.box (jobC (.fsl 6 []) u st) false⟩:=by rw [hh k (by simp)]; simp [jobH]
  simp only [jobC] at e1
  have hsm:=hs (.agg (cT (.mk kd n ks))) (by simp)
  simp -dsimp [cT,small] at hsm
  simp -dsimp [zff,cT,jobC,jobH]
  (first | refine zal ?_ ?_ | refine zam ?_ ?_) <;> intro g1 <;> (try simp only [nrm] at g1) <;> simp -dsimp [g1,e1,hk5,hk11,hk13,n1,n2,n3]
  · have hn:0≤n∧n≤65535:=by
      rw [zbf,g1] at hfm
      have h0:zf5 1=0:=rfl
      rw [h0] at hfm
      split at hfm
      · simp only [if_true,ybJ] at hfm
        exact (zeu _ _ _).1 hfm.1
      · cases hfm
    refine zyo (zD2 [] u st.sc st.sz st.dp n b hu ⟨hb0,by omega⟩ hn) (by simp [D.flat]) ?_
    have hw:zck ([]:List Ag).length u n b = -1:=zXd u n b hu.1 hb0
    have hL:zn4 [] u (.mk kd n ks) b d st=⟨st.sc,mn (w64 (st.sz+1)) zig,mx st.dp (w64 (d+1))⟩:=by rw [zn4,if_pos g1,hw,if_neg (by omega)]
    rw [hL,hw]
    simp -dsimp [e1,hk5,hk11,hk13,n1,n2,n3,g1]
    simp -dsimp [jobH,jobC,mn,mx,zig,w64] <;> (first | exact ⟨rfl,rfl⟩ | exact ⟨rfl,rfl,rfl⟩)
  · have hL:zn4 [] u (.mk kd n ks) b d st=zqk [] u kd b d 0 ⟨st.sc,mn (w64 (st.sz+1)) zig,mx st.dp (w64 (d+1))⟩ ks:=by rw [zn4,if_neg g1]
    rw [hL]
    have hks:ks.all zac=true:=by
      rw [zbf] at hfm
      split at hfm
      · split at hfm
        · rw [ybJ] at hfm; exact hfm.2
        · split at hfm
          · exact hfm
          · cases hfm
      · cases hfm
    generalize hA:(⟨st.sc,mn (w64 (st.sz+1)) zig,mx st.dp (w64 (d+1))⟩:St3)=A
    refine zah ks.length (fun i st'=>st'.s 0 = .ptr k v 0∧st'.s 2 = .d (.int .i64 b)∧st'.s 3 = .d (.int .i64 d)∧st'.s 5 = .ptr 5 ((h 5).ver+1) 0∧st'.h 5=⟨(h 5).ver+1,.box [.d (.int .i64 kd),.d (.int .i64 n),.d (.sl 3 (ks.map eT))] false⟩ ∧
      st'.s 100 = .d (.sl 3 (ks.map eT))∧st'.s 101 = .d (.int .i64 ks.length)∧st'.s 102 = .d (.int .i64 i) ∧
      st'.h k=⟨v,.box (jobC (.fsl 6 []) u (zqk [] u kd b d 0 A (ks.take i))) false⟩) ?_ ?_
    · simp -dsimp [e1,hk5,hk11,hk13,n1,n2,n3,g1,zqk,jobC]
      simp -dsimp [← hA,mn,mx,zig,w64] <;> exact ⟨rfl,rfl⟩
    · rintro i ⟨s,hp⟩ hi ⟨f1,f2,f3,f4,f5,f6,f7,f8,f9⟩
      dsimp only at f1 f2 f3 f4 f5 f6 f7 f8 f9
      generalize (h 5).ver+1=v5 at f4 f5
      rcases ybm i ks.length with hlt | hge
      · have w1:IntKind.i64.wrap ((i:Int)+1)=(i:Int)+1:=zab (by omega) (by omega)
        have hbl:=zco kd i
        have hnk:=zcc (k:=kd) (n:=n) (yaf hlt:ks[i] ∈ ks)
        have w2:IntKind.i64.wrap (b+zak kd i)=b+zak kd i:=zab (by omega) (by omega)
        simp only [jobC] at f9
        simp -dsimp [e1,hk5,hk11,hk13,n1,n2,n3,g1,f1,f2,f3,f4,f5,f6,f7,f8,f9,hlt,cT]
        refine zyo (zoe kd i) (by simp [D.flat]) ?_
        simp -dsimp [e1,hk5,hk11,hk13,n1,n2,n3,g1,f1,f2,f3,f4,f5,f6,f7,f8,f9,hlt,w2]
        generalize hX:zqk [] u kd b d 0 A (ks.take i)=X at f9
        have hrec:=ih ks[i] (yaf _) k v (b+zak kd i) (w64 (d+1)) X hk5 hk11 hk13 (yaC.1 hks _ (yaf _)) (by omega) (by omega)
        have hrec2:=zDy (pre:=[.ptr k v 0]) (post:=[.d (.int .i64 (b+zak kd i)),.d (.int .i64 (w64 (d+1)))]) hrec
        refine zvc hrec2 ?_ ?_
        · simp [jobH,jobC,f9,upd,hk5,hk11,hk13]
        have hsn:=zv0 [] u kd b d ks 0 A i hlt
        rw [ybj,hX] at hsn
        simp -dsimp [e1,hk5,hk11,hk13,n1,n2,n3,g1,zlt,znv,jobH,f1,f2,f3,f4,f5,f6,f7,f8,f9,hlt,w1,hsn]
      · have e:i=ks.length:=by omega
        subst e
        rw [yce] at f9
        simp -dsimp [e1,hk5,hk11,hk13,n1,n2,n3,g1,f1,f2,f3,f4,f5,f6,f7,f8,f9]
        simp [jobH,jobC]
def agOf (x:T):Ag:=⟨x,zhd x,zec x,ze6 x 0⟩
def zum:List T→Int
  | []=>0
  | x :: xs=>if za0 x=0 then zum xs else za0 x
theorem zKa:∀ (l:List T) (i:Nat) (h:i<l.length),(∀ (j:Nat) (hj:j<l.length),j<i→za0 l[j]=0)→za0 l[i] ≠ 0→zum l=za0 l[i]
  | x :: xs,0,h,_,hn=>by simp only [ycz] at hn ⊢; rw [zum,if_neg hn]
  | x :: xs,i+1,h,ha,hn=>by
    have h0:=ha 0 (by simp) (by omega)
    simp only [ycz] at h0
    rw [zum,if_pos h0]
    simp only [ycB] at hn ⊢
    exact zKa xs i (by simpa using h) (fun j hj hji=>by have:=ha (j+1) (by simpa using hj) (by omega); simpa using this) hn
theorem zF1:∀ (l:List T),(∀ (j:Nat) (hj:j<l.length),j<l.length→za0 l[j]=0)→zum l=0
  | [],_=>rfl
  | x :: xs,ha=>by
    have h0:=ha 0 (by simp) (by simp)
    simp only [ycz] at h0
    rw [zum,if_pos h0]
    exact zF1 xs fun j hj _=>by have:=ha (j+1) (by simpa using hj) (by simpa using hj); simpa using this
def zk0 (t:T) (l:List T) (u:Int):Int:=if za0 t=0 then if zum l=0 then if u<0∨65535<u then 1 else 0 else zum l else za0 t
def st0:St3:=⟨false,0,0⟩
def zh7 (t:T) (l:List T) (u:Int):St3:=zn4 (l.map agOf) u t 0 0 st0
def zyb (t:T) (l:List T) (u:Int):D:=if zk0 t l u=0 then jobD (l.map agOf) u (zh7 t l u).sc (zh7 t l u).sz (zh7 t l u).dp else .nilp
theorem zT8 (t:T) (l:List T) (u:Int) (ht:zae t≤549755813888) (hl:∀ x ∈ l,zae x≤549755813888) (hn:l.length≤2097152) :
    Pure Tryz.prog zpw [.agg (cT t),eTs l,.int .i64 u] [zyb t l u,.int .i64 (zk0 t l u)]:=by
  refine zGa rfl fun hs=>?_
  simp -dsimp [zqt,cT,eTs]
  refine zaa (zug t) ?_
  simp -dsimp
  (first | refine zal ?_ ?_ | refine zam ?_ ?_) <;> intro h1 <;> (try simp only [nrm] at h1) <;> simp -dsimp [h1]
  · have hE:zk0 t l u=za0 t:=by rw [zk0,if_neg h1]
    rw [zyb,hE,if_neg h1]
    simp -dsimp
  have hfm:=zhb h1
  refine zah l.length (fun i st=>st.s 2 = .d (.int .i64 u)∧st.s 3 = .ptr 3 1 0∧st.h 3=⟨1,.box [.d (.int .i64 t.kind),.d (.int .i64 t.num),.d (.sl 3 (t.kids.map eT))] false⟩ ∧
    st.s 9 = .ptr 20 1 0∧st.s 21 = .d (.sl 3 (l.map eT))∧st.s 22 = .d (.int .i64 l.length)∧st.s 23 = .d (.int .i64 i) ∧
    (∃ c0,st.h 20=⟨1,.box [c0,.d (.int .i64 u),.d (.bool false),.d (.int .i64 0),.d (.int .i64 0)] false⟩∧((i=0∧c0 = .fsl 6 []) ∨ ∃ v,c0 = .rsl 46 v∧st.h 46=⟨v,.row 6 ((l.map (eAg ∘ agOf)).take i) false⟩)) ∧
    ∀ (j:Nat) (hj:j<l.length),j<i→za0 l[j]=0) ?_ ?_
  · simp -dsimp
  · rintro i ⟨s,hp⟩ hi ⟨g1,g2,g3,g4,g5,g6,g7,⟨c0,g8,g9⟩,g10⟩
    dsimp only at g1 g2 g3 g4 g5 g6 g7 g8 g9
    rcases ybm i l.length with hlt | hge
    · have w1:IntKind.i64.wrap ((i:Int)+1)=(i:Int)+1:=zab (by omega) (by omega)
      simp -dsimp [g1,g2,g3,g4,g5,g6,g7,g8,hlt,cT]
      refine zaa (zug l[i]) ?_
      simp -dsimp [g1,g2,g3,g4,g5,g6,g7,g8,hlt,cT]
      (first | refine zal ?_ ?_ | refine zam ?_ ?_) <;> intro h2 <;> (try simp only [nrm] at h2) <;> simp -dsimp [h2,g1,g2,g3,g4,g5,g6,g7,g8,hlt,cT]
      · have hA:=zKa l i hlt g10 h2
        have hE:zk0 t l u=za0 l[i]:=by rw [zk0,if_pos h1,if_neg (by rw [hA]; exact h2),hA]
        have hR:zyb t l u = .nilp:=by rw [zyb,if_neg (by rw [hE]; exact h2)]
        simp -dsimp [hE,hR]
      refine zaa (zI3 l[i]) ?_
      simp -dsimp [g1,g2,g3,g4,g5,g6,g7,g8,hlt,cT]
      refine zaa (zFe l[i]) ?_
      simp -dsimp [g1,g2,g3,g4,g5,g6,g7,g8,hlt,cT]
      have hln:=hl l[i] (yaf _)
      refine zaa (zVm l[i] 0 (by omega) (by omega)) ?_
      have hr:(min i l.length+1)*64≤zad:=by simp only [zad]; omega
      have hsn:(l.map (eAg ∘ agOf)).take i ++ [D.agg [.int .i64 l[i].kind,.int .i64 l[i].num,.sl 3 (l[i].kids.map eT),.int .i64 (zhd l[i]),.int .i64 (zec l[i]),.int .i64 (ze6 l[i] 0)]]=(l.map (eAg ∘ agOf)).take (i+1) :=
        zkk (eAg ∘ agOf) (fun x=>cAg (agOf x)) (fun _=>rfl) l i hlt
      rcases g9 with ⟨rfl,rfl⟩ | ⟨v,rfl,g9⟩
      · have h64:64≤zad:=by decide
        simp only [List.take_zero,List.nil_append,ybj] at hsn
        simp at hlt w1
        simp -dsimp [g1,g2,g3,g4,g5,g6,g7,g8,hlt,cT,h64,w1]
        exact ⟨hsn, fun j hj hji => by have:j=0:=by omega
                                       subst this; exact h2⟩
      · simp -dsimp [g1,g2,g3,g4,g5,g6,g7,g8,g9,hlt,cT,hr,hsn,w1]
        intro j hj hji
        rcases ybm j i with h | h
        · exact g10 j hj h
        · have:j=i:=by omega
          subst this
          exact h2
    · have e:i=l.length:=by omega
      subst e
      have hA:=zF1 l g10
      simp -dsimp [g1,g2,g3,g4,g5,g6,g7,g8]
      have bad:(u<0∨65535<u)→zyb t l u = .nilp∧zk0 t l u=1:=fun hu=>by
        have hE:zk0 t l u=1:=by rw [zk0,if_pos h1,if_pos hA,if_pos hu]
        exact ⟨by rw [zyb,hE]; rfl,hE⟩
      (first | refine zal ?_ ?_ | refine zam ?_ ?_) <;> intro h3 <;> (try simp only [nrm] at h3) <;> simp -dsimp [h3,g1,g2,g3,g4,g5,g6,g7,g8]
      · simp -dsimp [bad (.inl h3)]
      (first | refine zal ?_ ?_ | refine zam ?_ ?_) <;> intro h4 <;> (try simp only [nrm] at h4) <;> simp -dsimp [h4,g1,g2,g3,g4,g5,g6,g7,g8,h3]
      · simp -dsimp [bad (.inr h4)]
      have hE:zk0 t l u=0:=by rw [zk0,if_pos h1,if_pos hA,if_neg (by omega)]
      have hR:zyb t l u=jobD (l.map agOf) u (zh7 t l u).sc (zh7 t l u).sz (zh7 t l u).dp:=by rw [zyb,if_pos hE]
      rw [hE,hR]
      have hu:0≤u∧u≤65535:=by omega
      have hnt:(0:Int)+zae t≤1099511627776:=by omega
      rcases g9 with ⟨hz,rfl⟩ | ⟨v,rfl,g9⟩
      · have hl0:l=[]:=List.length_eq_zero_iff.1 hz
        subst hl0
        refine zvc (zDy (pre:=[.ptr 20 1 0]) (post:=[.d (.int .i64 0),.d (.int .i64 0)]) (zRb u hu t 20 1 0 0 st0 (by omega) (by omega) (by omega) hfm (by omega) hnt)) ?_ ?_
        · simp [jobH,jobC,g8,st0]
        simp -dsimp [zlt,znv,jobH,jobC,g1,g2,g3,g4,jobD,zh7]
      · rw [ycd (by simp)] at g9
        rw [zqu]
        refine zvc (zDy (pre:=[.ptr 20 1 0]) (post:=[.d (.int .i64 0),.d (.int .i64 0)]) (zWn (l.map agOf) u hu t 20 1 46 v 0 0 st0 (by omega) (by omega) (by omega) (by omega) (by omega) (by omega) (by omega) hfm (by omega) hnt)) ?_ ?_
        · simp [jobH,jobC,g8,g9,st0]
        simp -dsimp [zlt,znv,jobH,jobC,g1,g2,g3,g4,jobD,zh7]
def zT:T:=.mk 0 0 []
def zc6 (l:List T) (u n b:Int):T :=
  if 0≤zck l.length u n b then match l[(zck l.length u n b).toNat]? with
    | some a=>znw (w64 (u+b)) a
    | none=>zT
  else .mk 1 (if u+b≤n then w64 (n - l.length) else n) []
theorem zRd (l:List T) (u:Int) (sc:Bool) (sz dp:Int) (hu:0≤u∧u≤65535) (hl:∀ x ∈ l,zac x=true∧zae x≤549755813888) (n b:Int) (hn:0≤n) (hn':n≤65535) (hb:0≤b) (hb':b≤1099511627776) :
    Pure Tryz.prog zkj [.int .i64 n,.int .i64 b,.rp [jobD (l.map agOf) u sc sz dp],.rp [.int .i64 u],.rp [eTs l]] [.agg (cT (zc6 l u n b))]:=by
  refine zBb rfl fun hs=>?_
  have w1:IntKind.i64.wrap (u+b)=u+b:=zab (by omega) (by omega)
  have w1':w64 (u+b)=u+b:=w1
  simp -dsimp [zm0,eTs]
  have hw:=zD2 (l.map agOf) u sc sz dp n b hu ⟨hb,hb'⟩ ⟨hn,hn'⟩
  rw [ycn] at hw
  refine zaa hw ?_
  generalize hW:zck l.length u n b=W
  have hI:zc6 l u n b=if 0≤W then match l[W.toNat]? with
    | some a=>znw (w64 (u+b)) a
    | none=>zT
    else .mk 1 (if u+b≤n then w64 (n - l.length) else n) []:=by rw [zc6,hW]
  simp -dsimp
  (first | refine zal ?_ ?_ | refine zam ?_ ?_) <;> intro g1 <;> (try simp only [nrm] at g1) <;> simp -dsimp [g1]
  · have hlt:W.toNat<l.length:=by
      rw [zck] at hW
      split at hW <;> omega
    have hget:l[W.toNat]? = some l[W.toNat]:=yar hlt
    have hI2:zc6 l u n b=znw (w64 (u+b)) l[W.toNat]:=by rw [hI,if_pos g1,hget]
    rw [hI2,w1']
    simp -dsimp [jobD,g1,hlt,w1,agOf,cAg,eAg,cT]
    obtain ⟨hf,hnn⟩:=hl l[W.toNat] (yaf _)
    refine zaa (zP3 l[W.toNat] (u+b) hf (by omega)) ?_
    simp -dsimp [cT]
  · have hI2:zc6 l u n b = .mk 1 (if u+b≤n then w64 (n - l.length) else n) []:=by rw [hI,if_neg g1]
    rw [hI2]
    simp -dsimp [g1,w1]
    (first | refine zal ?_ ?_ | refine zam ?_ ?_) <;> intro g2 <;> (try simp only [nrm] at g2) <;> simp -dsimp [g2,g1,w1]
    · refine zaa (v_ok _) ?_
      simp -dsimp [g2,cT,w64]
    · refine zaa (v_ok _) ?_
      simp -dsimp [g2,cT,w64]
def zid (t:T) (l:List T) (u:Int):Int :=
  if zk0 t l u=0 then if (zh7 t l u).sc then 6 else if 6000<(zh7 t l u).sz then 4 else if 200<(zh7 t l u).dp then 5 else 0 else zk0 t l u
def zei (t:T) (l:List T) (u:Int):T:=if zid t l u=0 then mapT (zc6 l u) t 0 else zT
theorem zpe {t:T} {l:List T} {u:Int} (h:zk0 t l u=0):zac t=true∧(∀ x ∈ l,zac x=true)∧0≤u∧u≤65535:=by
  rw [zk0] at h
  by_cases h1:za0 t=0
  · rw [if_pos h1] at h
    by_cases h2:zum l=0
    · rw [if_pos h2] at h
      refine ⟨zhb h1,?_,?_⟩
      · clear h h1
        induction l with
        | nil=>simp
        | cons x xs ih =>
          rw [zum] at h2
          by_cases h3:za0 x=0
          · rw [if_pos h3] at h2
            intro y hy
            rcases yaZ.1 hy with rfl | hy
            · exact zhb h3
            · exact ih h2 y hy
          · rw [if_neg h3] at h2; exact absurd h2 h3
      · by_cases h3:u<0∨65535<u
        · rw [if_pos h3] at h; cases h
        · omega
    · rw [if_neg h2] at h; exact absurd h h2
  · rw [if_neg h1] at h; exact absurd h h1
theorem zWa (t:T) (l:List T) (u:Int) (ht:zae t≤549755813888) (hl:∀ x ∈ l,zae x≤549755813888) (hn:l.length≤2097152) :
    Pure Tryz.prog zq1 [.agg (cT t),eTs l,.int .i64 u] [.agg (cT (zei t l u)),.int .i64 (zid t l u)]:=by
  refine zGt rfl fun hs=>?_
  simp -dsimp [zp5,cT,eTs]
  refine zaa (zT8 t l u ht hl hn) ?_
  by_cases h1:zk0 t l u=0
  · have hR:zyb t l u=jobD (l.map agOf) u (zh7 t l u).sc (zh7 t l u).sz (zh7 t l u).dp:=by rw [zyb,if_pos h1]
    obtain ⟨f1,f2,f3⟩:=zpe h1
    have hE:zid t l u=if (zh7 t l u).sc then 6 else if 6000<(zh7 t l u).sz then 4 else if 200<(zh7 t l u).dp then 5 else 0:=by rw [zid,if_pos h1]
    generalize zh7 t l u=st at hR hE
    obtain ⟨sc,sz,dp⟩:=st
    have bad:zid t l u ≠ 0→zei t l u=zT:=fun h=>by rw [zei,if_neg h]
    rw [hR,h1]
    cases sc with
    | true =>
      have hE1:zid t l u=6:=by rw [hE]; rfl
      have hT:=bad (by omega)
      simp -dsimp [jobD,hE1,hT,zT,cT]
    | false =>
      simp -dsimp [jobD]
      (first | refine zal ?_ ?_ | refine zam ?_ ?_) <;> intro h2 <;> (try simp only [nrm] at h2) <;> simp -dsimp [h2]
      · have hE1:zid t l u=4:=by rw [hE]; simp [h2]
        have hT:=bad (by omega)
        simp -dsimp [hE1,hT,zT,cT]
      (first | refine zal ?_ ?_ | refine zam ?_ ?_) <;> intro h3 <;> (try simp only [nrm] at h3) <;> simp -dsimp [h3,h2]
      · have hE1:zid t l u=5:=by rw [hE]; simp [h2,h3]
        have hT:=bad (by omega)
        simp -dsimp [hE1,hT,zT,cT]
      have hE1:zid t l u=0:=by rw [hE]; simp [h2,h3]
      have hT:zei t l u=mapT (zc6 l u) t 0:=by rw [zei,if_pos hE1]
      rw [hE1,hT]
      have hmap:=zTf (zc6 l u) zkj [.rp [jobD (l.map agOf) u false sz dp],.rp [.int .i64 u],.rp [eTs l]] (fun n b a1 a2 a3 a4=>zRd l u false sz dp f3 (fun x hx=>⟨f2 x hx,hl x hx⟩) n b a1 a2 a3 a4) t 0 f1 (by omega) (show (0:Int)+zae t≤1099511627776 by omega)
      have hj:jobD (l.map agOf) u false sz dp = .rp [.sl 6 (l.map (eAg ∘ agOf)),.int .i64 u,.bool false,.int .i64 sz,.int .i64 dp]:=by simp [jobD]
      rw [hj] at hmap
      refine zaa hmap ?_
      simp -dsimp [h2,h3,cT]
  · have hR:zyb t l u = .nilp:=by rw [zyb,if_neg h1]
    have hE:zid t l u=zk0 t l u:=by rw [zid,if_neg h1]
    have hT:zei t l u=zT:=by rw [zei,hE,if_neg h1]
    rw [hR,hE,hT]
    simp -dsimp [h1,zT,cT]
theorem zO1 (a b:Int):mn a b=min a b:=by rw [mn]; split <;> omega
theorem zDz (f:Int→Int→T) (k b:Int) (g:T→Nat):∀ (l:List T) (i:Nat),(∀ x ∈ l,∀ c,g (mapT f x c)=g x)→(mapL f k b i l).map g=l.map g
  | [],i,_=>by simp [mapL]
  | x :: xs,i,h=>by
    simp only [mapL,yaV]
    rw [h x (by simp) _,zDz f k b g xs (i+1) fun y hy=>h y (by simp [hy])]
theorem zCe (f:Int→Int→T) (hf:∀ n b,zae (f n b)=1) (t:T):zac t=true → ∀ b,zae (mapT f t b)=zae t:=by
  refine T.ind (p:=fun t=>zac t=true → ∀ b,zae (mapT f t b)=zae t) ?_ t
  intro k n ks ih hfm b
  rw [mapT]
  by_cases h1:k=1
  · rw [if_pos h1,hf,zln h1 hfm,zcr]
  · rw [if_neg h1,zae,zae,zDz f k b zae ks 0 fun x hx c=>ih x hx (zbn hfm x hx) c]
theorem zBs (f:Int→Int→T) (hf:∀ n b,zbx (f n b)=1) (t:T):zac t=true → ∀ b,zbx (mapT f t b)=zbx t:=by
  refine T.ind (p:=fun t=>zac t=true → ∀ b,zbx (mapT f t b)=zbx t) ?_ t
  intro k n ks ih hfm b
  rw [mapT]
  by_cases h1:k=1
  · rw [if_pos h1,hf,zln h1 hfm,zjt]
  · rw [if_neg h1,zbx,zbx,zDz f k b zbx ks 0 fun x hx c=>ih x hx (zbn hfm x hx) c]
theorem zHp {a:T} (h:zac a=true) (y:Int):zae (znw y a)=zae a:=zCe _ (fun _ _=>zcr _ _) a h 0
theorem zAp {a:T} (h:zac a=true) (y:Int):zbx (znw y a)=zbx a:=zBs _ (fun _ _=>zjt _ _) a h 0
def zGp (a:T) (c:Int):Bool:=decide (0≤ze6 a 0) && decide (65535<ze6 a 0+c)
mutual
def scI (l:List T) (u:Int):T→Int→Bool
  | .mk k n ks,b=>if k=1 then (match (if 0≤zck l.length u n b then l[(zck l.length u n b).toNat]? else none) with | some a=>zGp a (u+b) | none=>false) else scL l u k b 0 ks
def scL (l:List T) (u k b:Int):Nat→List T→Bool
  | _,[]=>false
  | i,x :: xs=>scI l u x (b+zak k i) || scL l u k b (i+1) xs
end
theorem zId (t:T):zac t=true → ∀ b,-1≤ze6 t b∧ze6 t b≤65535:=by
  refine T.ind (p:=fun t=>zac t=true → ∀ b,-1≤ze6 t b∧ze6 t b≤65535) ?_ t
  intro k n ks ih hfm b
  rw [ze6]
  have h0:-1≤(if k=1∧b≤n then n else -1)∧(if k=1∧b≤n then n else -1)≤65535:=by
    split
    · rename_i h
      have:=zds h.1 hfm
      omega
    · omega
  have hk:=zbn hfm
  generalize (if k=1∧b≤n then n else -1)=a at h0
  have go:∀ (l:List T) (i:Nat) (a:Int),(∀ x ∈ l,zac x=true → ∀ b,-1≤ze6 x b∧ze6 x b≤65535)→(∀ x ∈ l,zac x=true) → -1≤a∧a≤65535 → -1≤zks k b i a l∧zks k b i a l≤65535:=by
    intro l
    induction l with
    | nil=>intro i a _ _ h; simpa [zks] using h
    | cons x xs ihx =>
      intro i a h1 h2 h3
      rw [zks]
      have hx:=h1 x (by simp) (h2 x (by simp)) (b+zak k i)
      refine ihx (i+1) _ (fun y hy=>h1 y (by simp [hy])) (fun y hy=>h2 y (by simp [hy])) ?_
      rw [zAu]
      omega
  exact go ks 0 a ih hk h0
theorem zLj (l:List T) (u:Int) (hl:∀ x ∈ l,zac x=true∧zae x≤1048576) (t:T):∀ b,zbx (mapT (zc6 l u) t b)≤zbx t+1048576:=by
  refine T.ind (p:=fun t=>∀ b,zbx (mapT (zc6 l u) t b)≤zbx t+1048576) ?_ t
  intro k n ks ih b
  rw [mapT]
  by_cases h1:k=1
  · rw [if_pos h1,zc6]
    have hz:zbx zT=1:=zjt 0 0
    split
    · split
      · rename_i a ha
        obtain ⟨h2,h3⟩:=hl a (yas ha)
        rw [zAp h2]
        have:=zry a
        omega
      · rw [hz]; omega
    · rw [zjt]; omega
  · rw [if_neg h1,zbx,zbx]
    have go:∀ (xs:List T) (i:Nat),(∀ x ∈ xs,x ∈ ks)→dmax ((mapL (zc6 l u) k b i xs).map zbx)≤dmax (xs.map zbx)+1048576:=by
      intro xs
      induction xs with
      | nil=>intro i _; simp [mapL,dmax]
      | cons x xs ihx =>
        intro i hm
        have h2:=ih x (hm x (by simp)) (b+zak k i)
        have h3:=ihx (i+1) fun y hy=>hm y (by simp [hy])
        simp only [mapL,yaV,dmax,ycl] at h3 ⊢
        omega
    have:=go ks 0 fun x hx=>hx
    omega
theorem zU9 (l:List T) (u:Int) (hu:0≤u∧u≤65535) (hl:∀ x ∈ l,zac x=true∧zae x≤1048576) (t:T):∀ (b d:Int) (st:St3),zac t=true→0≤b→b+zae t≤2097152→0≤d→d+zae t≤2097152 →
    0≤st.sz→st.sz≤zig→0≤st.dp→st.dp≤1099511627776 →
    zn4 (l.map agOf) u t b d st=⟨st.sc || scI l u t b,min (st.sz+zae (mapT (zc6 l u) t b)) zig,max st.dp (d+zbx (mapT (zc6 l u) t b))⟩:=by
  refine T.ind (p:=fun t=>∀ (b d:Int) (st:St3),zac t=true→0≤b→b+zae t≤2097152→0≤d→d+zae t≤2097152 →
    0≤st.sz→st.sz≤zig→0≤st.dp→st.dp≤1099511627776 →
    zn4 (l.map agOf) u t b d st=⟨st.sc || scI l u t b,min (st.sz+zae (mapT (zc6 l u) t b)) zig,max st.dp (d+zbx (mapT (zc6 l u) t b))⟩) ?_ t
  intro k n ks ih b d st hfm hb0 hb hd0 hd hs0 hs1 hp0 hp1
  have hM:zig=1099511627776:=rfl
  have hn1:1≤zae (.mk k n ks):=by rw [zae]; omega
  by_cases h1:k=1
  · have hks:=zln h1 hfm
    have hn:=zds h1 hfm
    subst h1 hks
    rw [zn4,if_pos rfl,scI,if_pos rfl,mapT,if_pos rfl,zc6,ycn]
    by_cases hW:0≤zck l.length u n b
    · have hlt:(zck l.length u n b).toNat<l.length:=by
        have h2:=hW
        rw [zck] at h2 ⊢
        split at h2
        · omega
        · rename_i h3
          rw [if_neg h3]
          omega
      have hx:=hl _ (yaf hlt)
      generalize hw:(zck l.length u n b).toNat=m at hlt hx
      have hfr:=zId l[m] hx.1 0
      rw [if_pos hW,if_pos hW,if_pos hW,yau,yar hlt]
      simp only [yak,agOf]
      rw [zIy _ (by omega),zEn _ (by omega),zHp hx.1,zAp hx.1]
      have hdl:=zry l[m]
      rw [zb3 (n:=st.sz+_) (by omega) (by omega),zb3 (n:=d+_) (by omega) (by omega),zO1,zAu,hM,zb3 (n:=ze6 l[m] 0+u) (by omega) (by omega),zb3 (n:=ze6 l[m] 0+u+b) (by omega) (by omega)]
      congr 1
      rw [zGp]
      have e:ze6 l[m] 0+u+b=ze6 l[m] 0+(u+b):=by omega
      rw [e]
      cases st.sc
      · by_cases h4:0≤ze6 l[m] 0 <;> simp [h4]
      · simp
    · rw [if_neg hW,if_neg hW,if_neg hW]
      simp only [zcr,zjt]
      rw [zb3 (by omega) (by omega),zb3 (by omega) (by omega),zO1,zAu,hM]
      simp
  · have hkf:=zbn hfm
    rw [zn4,if_neg h1,scI,if_neg h1,mapT,if_neg h1,zae,zbx]
    have hnn:zae (.mk k n ks)=(ks.map zae).sum+1:=by rw [zae]
    have go:∀ (xs:List T) (i:Nat) (st:St3),(∀ x ∈ xs,x ∈ ks)→0≤st.sz→st.sz≤zig→d+1≤st.dp→st.dp≤1099511627776 →
        zqk (l.map agOf) u k b d i st xs=⟨st.sc || scL l u k b i xs,min (st.sz+((mapL (zc6 l u) k b i xs).map zae).sum) zig,max st.dp (d+1+dmax ((mapL (zc6 l u) k b i xs).map zbx))⟩:=by
      intro xs
      induction xs with
      | nil =>
        intro i st _ a0 a1 a2 a3
        simp only [zqk,scL,mapL,ycE,List.sum_nil,dmax,List.foldr_nil]
        obtain ⟨sc,sz,dp⟩:=st
        simp only [Bool.or_false,St3.mk.injEq,true_and]
        simp only at a0 a1 a2 a3
        omega
      | cons x xs ihx =>
        intro i st hmem a0 a1 a2 a3
        have hxk:=hmem x (by simp)
        have hxn:=zcc (k:=k) (n:=n) hxk
        have hbl:=zco k i
        rw [zqk,zb3 (n:=d+1) (by omega) (by omega),ih x hxk (b+zak k i) (d+1) st (hkf x hxk) (by omega) (by omega) (by omega) (by omega) a0 a1 (by omega) a3]
        have hdx:=zry x
        rw [ihx (i+1) _ (fun y hy=>hmem y (by simp [hy])) (by simp only; omega) (by simp only; omega) (by simp only; omega) ?_]
        · simp only [scL,mapL,yaV,List.sum_cons,dmax,ycl,Bool.or_assoc,St3.mk.injEq,true_and]
          omega
        · simp only
          have:=zLj l u hl x (b+zak k i)
          omega
    have hg:=go ks 0 ⟨st.sc,mn (w64 (st.sz+1)) zig,mx st.dp (w64 (d+1))⟩ (fun x hx=>hx) (by simp only; rw [zb3 (by omega) (by omega),zO1]; omega) (by simp only; rw [zO1]; omega) (by simp only; rw [zb3 (by omega) (by omega),zAu]; omega)
      (by simp only; rw [zb3 (by omega) (by omega),zAu]; omega)
    rw [hg]
    simp only [St3.mk.injEq,true_and]
    rw [zb3 (n:=st.sz+1) (by omega) (by omega),zb3 (n:=d+1) (by omega) (by omega),zO1,zAu]
    omega
theorem zy8 {t:T} {l:List T} {u:Int} (h:zk0 t l u=0) (ht:zae t≤1048576) (hl:∀ x ∈ l,zae x≤1048576) :
    zh7 t l u=⟨scI l u t 0,min (zae (mapT (zc6 l u) t 0):Int) zig,zbx (mapT (zc6 l u) t 0)⟩:=by
  obtain ⟨f1,f2,f3⟩:=zpe h
  rw [zh7,zU9 l u f3 (fun x hx=>⟨f2 x hx,hl x hx⟩) t 0 0 st0 f1 (by omega) (by omega) (by omega) (by omega) (by simp [st0]) (by simp [st0,zig]) (by simp [st0]) (by simp [st0])]
  simp only [st0,Bool.false_or,St3.mk.injEq,true_and]
  omega
theorem zC7 {t:T} {l:List T} {u:Int} (ht:zae t≤1048576) (hl:∀ x ∈ l,zae x≤1048576) :
    zid t l u=0 ↔ zk0 t l u=0∧scI l u t 0=false∧zae (mapT (zc6 l u) t 0)≤6000∧zbx (mapT (zc6 l u) t 0)≤200:=by
  have hM:zig=1099511627776:=rfl
  rw [zid]
  by_cases h:zk0 t l u=0
  · rw [if_pos h,zy8 h ht hl]
    simp only
    cases scI l u t 0 with
    | true=>simp
    | false =>
      simp only [yao,if_false,true_and,h]
      by_cases h1:(6000:Int)<min (zae (mapT (zc6 l u) t 0):Int) zig
      · rw [if_pos h1]
        constructor
        · intro h; cases h
        · omega
      · rw [if_neg h1]
        by_cases h2:(200:Int)<zbx (mapT (zc6 l u) t 0)
        · rw [if_pos h2]
          constructor
          · intro h; cases h
          · omega
        · rw [if_neg h2]
          constructor
          · intro _; omega
          · intro _; rfl
  · rw [if_neg h]
    constructor
    · intro h'; exact absurd h' h
    · rintro ⟨h',_⟩; exact absurd h' h
theorem zDc {t:T} {l:List T} {u:Int} (h:zid t l u=0):zei t l u=mapT (zc6 l u) t 0:=by rw [zei,if_pos h]
theorem zWe (k:Int) (l:List T) (hl:l.length*40≤zad):Pure Tryz.prog zdu [.int .i64 k,eTs l] [.agg (cT (.mk k 0 l))]:=by
  refine zq4 rfl fun hs=>?_
  simp -dsimp [zif,cT,eTs,hl]
theorem zG0 (t:T) (l:List T) (u:Int):zk0 t l u=0 ↔ za0 t=0∧(∀ x ∈ l,za0 x=0)∧0≤u∧u≤65535:=by
  have ha:zum l=0 ↔ ∀ x ∈ l,za0 x=0:=by
    induction l with
    | nil=>simp [zum]
    | cons x xs ih =>
      rw [zum]
      by_cases h:za0 x=0
      · simp [h,ih]
      · simp [h]
  rw [zk0,← ha]
  by_cases h1:za0 t=0
  · rw [if_pos h1]
    by_cases h2:zum l=0
    · rw [if_pos h2]
      by_cases h3:u<0∨65535<u
      · rw [if_pos h3]
        constructor
        · intro h; cases h
        · omega
      · rw [if_neg h3]
        constructor
        · intro _; exact ⟨h1,h2,by omega⟩
        · intro _; rfl
    · rw [if_neg h2]
      constructor
      · intro h; exact absurd h h2
      · intro h; exact absurd h.2.1 h2
  · rw [if_neg h1]
    constructor
    · intro h; exact absurd h h1
    · intro h; exact absurd h.1 h1
theorem zSt (l:List T) (u k b:Int):∀ (xs:List T) (i j:Nat) (h:j<xs.length),scL l u k b i xs=false→scI l u xs[j] (b+zak k (i+j:Nat))=false
  | x :: xs,i,0,h,hs=>by
    rw [scL,ycx] at hs
    simpa using hs.1
  | x :: xs,i,j+1,h,hs=>by
    rw [scL,ycx] at hs
    have:=zSt l u k b xs (i+1) j (by simpa using h) hs.2
    simp only [ycB]
    rw [show i+(j+1)=i+1+j by omega]
    exact this
theorem zOi (f g:Int→Int→T) (h:∀ n b:Int,0≤n→n≤65535→0≤b→b≤4194304→f n b=g n b) (t:T):∀ b:Int,zac t=true→0≤b→b+zae t≤4194304→mapT f t b=mapT g t b:=by
  refine T.ind (p:=fun t=>∀ b:Int,zac t=true→0≤b→b+zae t≤4194304→mapT f t b=mapT g t b) ?_ t
  intro k n ks ih b hfm h0 hb
  rw [mapT,mapT]
  by_cases h1:k=1
  · have hn:=zds h1 hfm
    rw [if_pos h1,if_pos h1,h n b hn.1 hn.2 h0 (by omega)]
  · rw [if_neg h1,if_neg h1]
    congr 1
    have go:∀ (xs:List T) (i:Nat),(∀ x ∈ xs,x ∈ ks)→mapL f k b i xs=mapL g k b i xs:=by
      intro xs
      induction xs with
      | nil=>intro i _; simp [mapL]
      | cons x xs ihx =>
        intro i hm
        have hx:=hm x (by simp)
        have hxn:=zcc (k:=k) (n:=n) hx
        have hbl:=zco k i
        rw [mapL,mapL,ih x hx _ (zbn hfm x hx) (by omega) (by omega),ihx (i+1) fun y hy=>hm y (by simp [hy])]
    exact go ks 0 fun x hx=>hx
theorem map_map (f g h:Int→Int→T) (e:Int) (hv:∀ n b:Int,0≤n→n≤65535→0≤b→b≤4194304→mapT f (g n b) (b+e)=h n b) (t:T):∀ b:Int,zac t=true→0≤b→b+zae t≤4194304→mapT f (mapT g t b) (b+e)=mapT h t b:=by
  refine T.ind (p:=fun t=>∀ b:Int,zac t=true→0≤b→b+zae t≤4194304→mapT f (mapT g t b) (b+e)=mapT h t b) ?_ t
  intro k n ks ih b hfm h0 hb
  rw [mapT,mapT]
  by_cases h1:k=1
  · have hn:=zds h1 hfm
    rw [if_pos h1,if_pos h1,hv n b hn.1 hn.2 h0 (by omega)]
  · rw [if_neg h1,if_neg h1,mapT,if_neg h1]
    congr 1
    have go:∀ (xs:List T) (i:Nat),(∀ x ∈ xs,x ∈ ks)→mapL f k (b+e) i (mapL g k b i xs)=mapL h k b i xs:=by
      intro xs
      induction xs with
      | nil=>intro i _; simp [mapL]
      | cons x xs ihx =>
        intro i hm
        have hx:=hm x (by simp)
        have hxn:=zcc (k:=k) (n:=n) hx
        have hbl:=zco k i
        have e1:b+e+zak k i=b+zak k i+e:=by omega
        rw [mapL,mapL,mapL,e1,ih x hx _ (zbn hfm x hx) (by omega) (by omega),ihx (i+1) fun y hy=>hm y (by simp [hy])]
    exact go ks 0 fun x hx=>hx
def mv (y:Int) (n b:Int):T:=.mk 1 (if b≤n then w64 (n+y) else n) []
theorem zD9 (y:Int) (t:T):znw y t=mapT (mv y) t 0:=rfl
theorem zIj (f:Int→Int→T) (n b:Int):mapT f (.mk 1 n []) b=f n b:=by rw [mapT,if_pos rfl]
theorem zVu {y n b:Int} (h:n<b):mv y n b = .mk 1 n []:=by rw [mv,if_neg (by omega)]
theorem zYl {y n b:Int} (h:b≤n) (hn:0≤n) (hn':n≤10000000) (hy:0≤y) (hy':y≤10000000):mv y n b = .mk 1 (n+y) []:=by rw [mv,if_pos h,zb3 (by omega) (by omega)]
theorem zAo {f:Int→Int→T} {k n b:Int} {ks:List T} (h1:k ≠ 1) (hfm:zac (.mk k n ks)=true) (h:∀ (j:Nat) (hj:j<ks.length),zac (mapT f ks[j] (b+zak k j))=true):zac (.mk k n (mapL f k b 0 ks))=true:=by
  have ha:(mapL f k b 0 ks).all zac=true:=by
    rw [yaC]
    intro x hx
    obtain ⟨j,hj,rfl⟩:=List.mem_iff_getElem.1 hx
    rw [zgl] at hj
    rw [zlg f k b ks 0 j hj,ybj]
    exact h j hj
  rw [zbf] at hfm ⊢
  rw [zgl,ha]
  split at hfm
  · rename_i c1
    rw [if_pos c1]
    split at hfm
    · rename_i c2
      rw [if_pos c2]
      rw [ybJ] at hfm
      rw [hfm.1]; rfl
    · rename_i c2
      rw [if_neg c2]
      split at hfm
      · rename_i c3; rw [if_pos c3]
      · cases hfm
  · cases hfm
theorem ze7 {n:Int} (h:0≤n∧n≤65535):zac (.mk 1 n [])=true:=by simp [zbf,zf5,(zeu n 0 65535).2 h]
theorem zC2 (k b:Int):∀ (xs:List T) (i:Nat) (a:Int),a≤zks k b i a xs ∧ ∀ (j:Nat) (hj:j<xs.length),ze6 xs[j] (b+zak k (i+j:Nat))≤zks k b i a xs
  | [],i,a=>⟨by rw [zks]; omega,fun j hj=>by simp at hj⟩
  | x :: xs,i,a=>by
    obtain ⟨h1,h2⟩:=zC2 k b xs (i+1) (mx a (ze6 x (b+zak k i)))
    rw [zAu] at h1
    rw [zks]
    refine ⟨by rw [zAu] at *; omega,fun j hj=>?_⟩
    cases j with
    | zero=>simp only [ycz,Nat.add_zero]; rw [zAu] at *; omega
    | succ j =>
      have:=h2 j (by simpa using hj)
      simp only [ycB]
      rw [show i+(j+1)=i+1+j by omega]
      exact this
theorem zG4 (t:T):∀ (b y F:Int),zac t=true→0≤y→y≤10000000→ze6 t b≤F→(F<0∨F+y≤65535)→0≤b→zac (mapT (mv y) t b)=true:=by
  refine T.ind (p:=fun t=>∀ (b y F:Int),zac t=true→0≤y→y≤10000000→ze6 t b≤F→(F<0∨F+y≤65535)→0≤b→zac (mapT (mv y) t b)=true) ?_ t
  intro k n ks ih b y F hfm hy0 hy1 hF hFy hb
  rw [ze6] at hF
  rw [mapT]
  by_cases h1:k=1
  · have hn:=zds h1 hfm
    rw [if_pos h1]
    by_cases c:b≤n
    · rw [zYl c hn.1 (by omega) hy0 hy1]
      have:=(zC2 k b ks 0 (if k=1∧b≤n then n else -1)).1
      rw [if_pos ⟨h1,c⟩] at this hF
      exact ze7 (by omega)
    · rw [zVu (by omega)]
      exact ze7 hn
  · rw [if_neg h1]
    refine zAo h1 hfm fun j hj=>?_
    have h2:=(zC2 k b ks 0 (if k=1∧b≤n then n else -1)).2 j hj
    rw [ybj] at h2
    have hbl:=zco k j
    exact ih ks[j] (yaf _) _ y F (zbn hfm _ (yaf _)) hy0 hy1 (by omega) hFy (by omega)
theorem zIn (l:List T) (u:Int) (hu:0≤u∧u≤65535) (hl:∀ x ∈ l,zac x=true) (t:T):∀ b:Int,zac t=true→0≤b→b+zae t≤2097152→scI l u t b=false→zac (mapT (zc6 l u) t b)=true:=by
  refine T.ind (p:=fun t=>∀ b:Int,zac t=true→0≤b→b+zae t≤2097152→scI l u t b=false→zac (mapT (zc6 l u) t b)=true) ?_ t
  intro k n ks ih b hfm h0 hb hsc
  rw [mapT]
  rw [scI] at hsc
  by_cases h1:k=1
  · have hn:=zds h1 hfm
    rw [if_pos h1] at hsc ⊢
    rw [zc6]
    by_cases hW:0≤zck l.length u n b
    · have hlt:(zck l.length u n b).toNat<l.length:=by
        have h2:=hW
        rw [zck] at h2 ⊢
        split at h2
        · omega
        · rename_i h3
          rw [if_neg h3]
          omega
      generalize (zck l.length u n b).toNat=m at hlt hsc
      rw [if_pos hW,yar hlt] at hsc ⊢
      have hx:=hl _ (yaf hlt)
      have hfr:=zId l[m] hx 0
      simp only [zGp,Bool.and_eq_false_iff,decide_eq_false_iff_not] at hsc
      show zac (znw (w64 (u+b)) l[m])=true
      rw [zb3 (by omega) (by omega),zD9]
      exact zG4 l[m] 0 (u+b) (ze6 l[m] 0) hx (by omega) (by omega) (Int.le_refl _) (by omega) (by omega)
    · rw [if_neg hW]
      have h2:=hW
      rw [zck] at h2
      by_cases c:u+b≤n
      · rw [if_pos c]
        have:(l.length:Int)≤n - (u+b):=by
          split at h2
          · rename_i h3; omega
          · omega
        rw [zb3 (by omega) (by omega)]
        exact ze7 (by omega)
      · rw [if_neg c]
        exact ze7 hn
  · rw [if_neg h1] at hsc ⊢
    refine zAo h1 hfm fun j hj=>?_
    have hxn:=zcc (k:=k) (n:=n) (yaf hj)
    have hbl:=zco k j
    have h2:=zSt l u k b ks 0 j hj hsc
    rw [ybj] at h2
    exact ih ks[j] (yaf _) _ (zbn hfm _ (yaf _)) (by omega) (by omega) h2
theorem zL2 {t:T} {l:List T} {u:Int} (ht:zae t≤1048576) (hl:∀ x ∈ l,zae x≤1048576) (h:zid t l u=0):za0 (zei t l u)=0∧zae (zei t l u)≤6000∧zac (zei t l u)=true:=by
  obtain ⟨h1,h2,h3,h4⟩:=(zC7 ht hl).1 h
  obtain ⟨f1,f2,f3⟩:=zpe h1
  rw [zDc h]
  have hf:=zIn l u f3 f2 t 0 f1 (by omega) (by omega) h2
  exact ⟨(zqp (by omega)).2 ⟨h3,h4,hf⟩,h3,hf⟩
end
section
section
attribute [local simp] zaf zag tk tn tks zcl zcu
theorem zJk (n:Int):Pure Tryz.prog zlk [.int .i64 n] [.bool (decide (0≤n) && decide (n≤6))]:=by
  refine zC1 rfl fun hs=>?_
  simp -dsimp [zn1]
  (first | refine zal ?_ ?_ | refine zam ?_ ?_) <;> intro h <;> (try simp only [nrm] at h) <;> simp -dsimp [h]
def zku (base ahead k many:Int):Int:=if base<0∨65535<base∨k<0∨many≤k then -1 else w64 (w64 (base+ahead)+k)
theorem zyt (a b c d:Int):Pure Tryz.prog zgn [.int .i64 a,.int .i64 b,.int .i64 c,.int .i64 d] [.int .i64 (zku a b c d)]:=by
  refine zDt rfl fun hs=>?_
  simp -dsimp [zn6]
  (first | refine zal ?_ ?_ | refine zam ?_ ?_) <;> intro h1 <;> (try simp only [nrm] at h1) <;> simp -dsimp [h1,zku,w64]
  (first | refine zal ?_ ?_ | refine zam ?_ ?_) <;> intro h2 <;> (try simp only [nrm] at h2) <;> simp -dsimp [h2,h1,zku,w64]
  (first | refine zal ?_ ?_ | refine zam ?_ ?_) <;> intro h3 <;> (try simp only [nrm] at h3) <;> simp -dsimp [h3,h1,h2,zku,w64]
  (first | refine zal ?_ ?_ | refine zam ?_ ?_) <;> intro h4 <;> (try simp only [nrm] at h4) <;> simp -dsimp [h4,h1,h2,h3,zku,w64]
def decs (l:List So):Nat:=(l.filter (·.dec)).length
theorem zAm (l:List So) (i:Nat) (x:So) (h:l[i]? = some x):decs (l.take (i+1))=decs (l.take i)+if x.dec then 1 else 0:=by
  simp only [decs,ycb,h]
  cases hd:x.dec <;> simp -dsimp [hd]
theorem zj9 (l:List So):decs l≤l.length:=List.length_filter_le _ _
theorem zEc (b:Bl) (k:Int) (h0:0≤k) (hk:k≤b.sorts.length):Pure Tryz.prog zh5 [eBl b,.int .i64 k] [.int .i64 (decs (b.sorts.take k.toNat))]:=by
  refine zFo rfl fun hs=>?_
  have hb:b.sorts.length≤9223372036854775807:=by
    have:=hs (eBl b) (by simp)
    simp -dsimp [eBl,cBl,eSos,small] at this
    exact this.1.1
  obtain ⟨m,rfl⟩:∃ m:Nat,k=m:=⟨k.toNat,by omega⟩
  have hm:m≤b.sorts.length:=by omega
  simp -dsimp [zri,eBl,cBl,eSos,eCos,h0,hk]
  refine zah m (fun i st=>st.s 11 = .d (.sl 6 ((b.sorts.take m).map eSo))∧st.s 12 = .d (.int .i64 m)∧st.s 13 = .d (.int .i64 i)∧st.s 5 = .d (.int .i64 (decs (b.sorts.take i)))) ?_ ?_
  · simp -dsimp [decs,hm]
  · rintro i ⟨s,hp⟩ hi ⟨h1,h2,h3,h4⟩
    dsimp only at h1 h2 h3 h4
    rcases ybm i m with hlt | hge
    · obtain ⟨x,hx⟩:∃ x,b.sorts[i]? = some x:=⟨_,yar (by omega)⟩
      have hx':(b.sorts.take m)[i]? = some x:=by rw [List.getElem?_take_of_lt hlt,hx]
      simp -dsimp [h1,h2,h3,h4,hlt,hx,hx',eSo,cSo,cT,eArs]
      have hd:=zj9 (b.sorts.take i)
      rw [yaE] at hd
      have w1:IntKind.i64.wrap ((i:Int)+1)=(i:Int)+1:=zab (by omega) (by omega)
      have w2:IntKind.i64.wrap ((decs (b.sorts.take i):Int)+1)=(decs (b.sorts.take i):Int)+1:=zab (by omega) (by omega)
      cases hxd:x.dec <;> simp -dsimp [hxd,hlt,h1,h2,h3,h4,w1,w2,zAm _ _ _ hx]
    · have e:i=m:=by omega
      subst e
      simp -dsimp [h1,h2,h3,h4]
def zws (b:Bl):Int:=w64 (w64 (w64 (2*b.sorts.length)+decs b.sorts)+b.cons.length)
theorem zQ3 (b:Bl):Pure Tryz.prog zor [eBl b] [.int .i64 (zws b)]:=by
  refine zDl rfl fun hs=>?_
  simp -dsimp [zoj,eBl,cBl,eSos,eCos]
  refine zaa (zEc b b.sorts.length (by omega) (by omega)) ?_
  simp -dsimp [zws,w64]
def zbm (b:Bl) (base k:Int):Int:=zku base 0 k b.sorts.length
theorem zvb (b:Bl) (base k:Int):Pure Tryz.prog zc0 [eBl b,.int .i64 base,.int .i64 k] [.int .i64 (zbm b base k)]:=by
  refine zBc rfl fun hs=>?_
  simp -dsimp [zm1,eBl,cBl,eSos,eCos]
  refine zaa (zyt _ _ _ _) ?_
  simp -dsimp [zbm]
def zej (b:Bl) (base k:Int):Int :=
  if k<0 then -1 else match b.sorts[k.toNat]? with
    | none=>-1
    | some s=>if s.dec then zku base b.sorts.length (decs (b.sorts.take k.toNat)) b.sorts.length else -1
theorem zLn (b:Bl) (base k:Int):Pure Tryz.prog ze1 [eBl b,.int .i64 base,.int .i64 k] [.int .i64 (zej b base k)]:=by
  refine zz6 rfl fun hs=>?_
  simp -dsimp [zme,eBl,cBl,eSos,eCos]
  (first | refine zal ?_ ?_ | refine zam ?_ ?_) <;> intro h1 <;> (try simp only [nrm] at h1) <;> simp -dsimp [h1,zej]
  (first | refine zal ?_ ?_ | refine zam ?_ ?_) <;> intro h2 <;> (try simp only [nrm] at h2) <;> simp -dsimp [h2,h1,zej]
  · have:b.sorts[k.toNat]? = none:=ybB (by omega)
    simp -dsimp [this]
  · obtain ⟨s,hs⟩:∃ s,b.sorts[k.toNat]? = some s:=⟨_,yar (by omega)⟩
    have h3:0≤k:=by omega
    simp -dsimp [hs,h1,h2,h3,eSo,cSo,cT,eArs]
    (first | refine zal ?_ ?_ | refine zam ?_ ?_) <;> intro h4 <;> (try simp only [nrm] at h4) <;> simp -dsimp [h4,hs,h1,h2,h3,zej]
    · 
      refine zaa (zEc b k (by omega) (by omega)) ?_
      simp -dsimp
      refine zaa (zyt _ _ _ _) ?_
      simp -dsimp [zej,h1,h4,hs]
def zap (b:Bl) (base k:Int):Int:=zku base (w64 (b.sorts.length+decs b.sorts)) k b.cons.length
theorem zsi (b:Bl) (base k:Int):Pure Tryz.prog zb5 [eBl b,.int .i64 base,.int .i64 k] [.int .i64 (zap b base k)]:=by
  refine zta rfl fun hs=>?_
  simp -dsimp [zhs,eBl,cBl,eSos,eCos]
  refine zaa (zEc b b.sorts.length (by omega) (by omega)) ?_
  simp -dsimp
  refine zaa (zyt _ _ _ _) ?_
  simp -dsimp [zap,w64]
def za3 (b:Bl) (base k:Int):Int:=zku base (w64 (w64 (b.sorts.length+decs b.sorts)+b.cons.length)) k b.sorts.length
theorem zu7 (b:Bl) (base k:Int):Pure Tryz.prog zb9 [eBl b,.int .i64 base,.int .i64 k] [.int .i64 (za3 b base k)]:=by
  refine zvk rfl fun hs=>?_
  simp -dsimp [zje,eBl,cBl,eSos,eCos]
  refine zaa (zEc b b.sorts.length (by omega) (by omega)) ?_
  simp -dsimp
  refine zaa (zyt _ _ _ _) ?_
  simp -dsimp [za3,w64]
end
section
attribute [local simp] zaf zag tk tn tks zcl zcu
theorem ztg (t:T):Pure Tryz.prog zbg [.sl 3 [.agg (cT t)]] [.bool (zga [t])]:=by
  have h:=zrm [t]
  simp only [eTs,yaV,ycE,za4] at h
  exact h
theorem zDu {α:Type} {p:α→Bool} {l:List α} {i:Nat} (hlt:i<l.length) (h:(l.take i).any p=false) (hx:p l[i]=false):(l.take (i+1)).any p=false:=by
  rw [zce (yar hlt),List.any_append,h]
  simp [hx]
theorem zAr {α:Type} {p:α→Bool} {l:List α} {i:Nat} (hlt:i<l.length) (hx:p l[i]=true):l.any p=true:=List.any_eq_true.2 ⟨l[i],yaf _,hx⟩
def pArg (a:Ar):Bool:=zga [a.ty] || zga a.dom || zga a.idx
def zji (l:List Ar):Bool:=decide ((20:Int)<(l.length:Int)) || l.any pArg
theorem zxm (l:List Ar):Pure Tryz.prog zdl [eArs l] [.bool (zji l)]:=by
  refine zog rfl fun hs=>?_
  simp -dsimp [zfa,eArs]
  (first | refine zal ?_ ?_ | refine zam ?_ ?_) <;> intro h1 <;> (try simp only [nrm] at h1) <;> simp -dsimp [h1,zji]
  have hl:l.length≤20:=by omega
  refine zah l.length (fun i st=>st.s 0 = .d (.sl 7 (l.map eAr))∧st.s 3 = .d (.int .i64 i)∧(l.take i).any pArg=false) ?_ ?_
  · simp -dsimp
  · rintro i ⟨s,hp⟩ hi ⟨h2,h3,h5⟩
    dsimp only at h2 h3 h5
    rcases ybm i l.length with hlt | hge
    · have w1:IntKind.i64.wrap ((i:Int)+1)=(i:Int)+1:=zab (by omega) (by omega)
      have ht:∀ b,pArg l[i]=b→zga [l[i].ty]=true∨zga l[i].dom=true∨zga l[i].idx=true→b=true:=by
        rintro b rfl h
        simp only [pArg,Bool.or_eq_true]
        rcases h with h | h | h <;> simp [h]
      have fin:pArg l[i]=true→zji l=true:=fun h=>by simp only [zji,zAr hlt h,ycF]
      simp -dsimp [h2,h3,hlt,eAr,cAr,cT,eTs]
      refine zaa (ztg l[i].ty) ?_
      simp -dsimp [h2,h3,hlt]
      (first | refine zal ?_ ?_ | refine zam ?_ ?_) <;> intro h6 <;> (try simp only [nrm] at h6) <;> simp -dsimp [h6,h2,h3,hlt]
      · exact fin (ht _ rfl (.inl h6))
      · simp -dsimp [h2,h3,hlt,h6,eAr,cAr,cT,eTs]
        refine zaa (zrm l[i].dom) ?_
        simp -dsimp [h2,h3,hlt,h6]
        (first | refine zal ?_ ?_ | refine zam ?_ ?_) <;> intro h7 <;> (try simp only [nrm] at h7) <;> simp -dsimp [h7,h2,h3,hlt,h6]
        · exact fin (ht _ rfl (.inr (.inl h7)))
        · simp -dsimp [h2,h3,hlt,h6,h7,eAr,cAr,cT,eTs]
          refine zaa (zrm l[i].idx) ?_
          simp -dsimp [h2,h3,hlt,h6,h7]
          (first | refine zal ?_ ?_ | refine zam ?_ ?_) <;> intro h8 <;> (try simp only [nrm] at h8) <;> simp -dsimp [h8,h2,h3,hlt,h6,h7]
          · exact fin (ht _ rfl (.inr (.inr h8)))
          · simp -dsimp [h2,h3,hlt,h6,h7,h8,w1]
            have:=zDu hlt h5 (by simp [pArg,h6,h7,h8])
            simpa using this
    · have e:i=l.length:=by omega
      subst e
      simp -dsimp [h2,h3,zji]
      rw [yce] at h5
      exact ⟨by omega,by simpa using h5⟩
def pSo (s:So):Bool:=zji s.idx || zga [s.dty]
def pCo (c:Co):Bool:=zji c.args || zga c.idx || zga [c.dec]
def zjx (b:Bl):Bool:=decide ((10:Int)<(b.sorts.length:Int)) || decide ((20:Int)<(b.cons.length:Int)) || b.sorts.any pSo || b.cons.any pCo
theorem zLo (b:Bl):Pure Tryz.prog zhr [eBl b] [.bool (zjx b)]:=by
  refine zsx rfl fun hs=>?_
  simp -dsimp [zhu,eBl,cBl,eSos,eCos]
  (first | refine zal ?_ ?_ | refine zam ?_ ?_) <;> intro h1 <;> (try simp only [nrm] at h1) <;> simp -dsimp [h1,zjx]
  (first | refine zal ?_ ?_ | refine zam ?_ ?_) <;> intro h2 <;> (try simp only [nrm] at h2) <;> simp -dsimp [h2,zjx,h1]
  have hl:b.sorts.length≤10:=by omega
  have hl2:b.cons.length≤20:=by omega
  refine zah b.sorts.length (fun i st=>st.s 1 = .ptr 1 1 0∧st.h 1=⟨1,.box [.d (.sl 6 (b.sorts.map eSo)),.d (.sl 6 (b.cons.map eCo)),.d (.int .i64 b.elim)] false⟩∧st.s 3 = .d (.int .i64 i)∧(b.sorts.take i).any pSo=false) ?_ ?_
  · simp -dsimp
  · rintro i ⟨s,hp⟩ hi ⟨h3,h4,h5,h6⟩
    dsimp only at h3 h4 h5 h6
    rcases ybm i b.sorts.length with hlt | hge
    · have w1:IntKind.i64.wrap ((i:Int)+1)=(i:Int)+1:=zab (by omega) (by omega)
      have fin:pSo b.sorts[i]=true→zjx b=true:=fun h=>by simp only [zjx,zAr hlt h,ycF,Bool.true_or]
      simp -dsimp [h3,h4,h5,hlt,eSo,cSo,cT,eArs]
      refine zaa (zxm b.sorts[i].idx) ?_
      simp -dsimp [h3,h4,h5,hlt]
      (first | refine zal ?_ ?_ | refine zam ?_ ?_) <;> intro h7 <;> (try simp only [nrm] at h7) <;> simp -dsimp [h7,h3,h4,h5,hlt]
      · exact fin (by simp [pSo,h7])
      · simp -dsimp [h3,h4,h5,hlt,h7,eSo,cSo,cT,eArs]
        refine zaa (ztg b.sorts[i].dty) ?_
        simp -dsimp [h3,h4,h5,hlt,h7]
        (first | refine zal ?_ ?_ | refine zam ?_ ?_) <;> intro h8 <;> (try simp only [nrm] at h8) <;> simp -dsimp [h8,h3,h4,h5,hlt,h7]
        · exact fin (by simp [pSo,h8])
        · simp -dsimp [h3,h4,h5,hlt,h7,h8,w1]
          simpa using zDu hlt h6 (by simp [pSo,h7,h8])
    · have e:i=b.sorts.length:=by omega
      subst e
      rw [yce] at h6
      simp -dsimp [h3,h4,h5]
      refine zah b.cons.length (fun i st=>st.s 1 = .ptr 1 1 0∧st.h 1=⟨1,.box [.d (.sl 6 (b.sorts.map eSo)),.d (.sl 6 (b.cons.map eCo)),.d (.int .i64 b.elim)] false⟩∧st.s 4 = .d (.int .i64 i)∧(b.cons.take i).any pCo=false) ?_ ?_
      · simp -dsimp [h3,h4,h5]
      · rintro i ⟨s,hp⟩ hi ⟨h3,h4,h5,h10⟩
        dsimp only at h3 h4 h5 h10
        rcases ybm i b.cons.length with hlt | hge
        · have w1:IntKind.i64.wrap ((i:Int)+1)=(i:Int)+1:=zab (by omega) (by omega)
          have fin:pCo b.cons[i]=true→zjx b=true:=fun h=>by simp only [zjx,zAr hlt h,ycF,Bool.true_or]
          simp -dsimp [h3,h4,h5,hlt,eCo,cCo,cT,eArs,eTs]
          refine zaa (zxm b.cons[i].args) ?_
          simp -dsimp [h3,h4,h5,hlt]
          (first | refine zal ?_ ?_ | refine zam ?_ ?_) <;> intro h7 <;> (try simp only [nrm] at h7) <;> simp -dsimp [h7,h3,h4,h5,hlt]
          · exact fin (by simp [pCo,h7])
          · simp -dsimp [h3,h4,h5,hlt,h7,eCo,cCo,cT,eArs,eTs]
            refine zaa (zrm b.cons[i].idx) ?_
            simp -dsimp [h3,h4,h5,hlt,h7]
            (first | refine zal ?_ ?_ | refine zam ?_ ?_) <;> intro h8 <;> (try simp only [nrm] at h8) <;> simp -dsimp [h8,h3,h4,h5,hlt,h7]
            · exact fin (by simp [pCo,h8])
            · simp -dsimp [h3,h4,h5,hlt,h7,h8,eCo,cCo,cT,eArs,eTs]
              refine zaa (ztg b.cons[i].dec) ?_
              simp -dsimp [h3,h4,h5,hlt,h7,h8]
              (first | refine zal ?_ ?_ | refine zam ?_ ?_) <;> intro h9 <;> (try simp only [nrm] at h9) <;> simp -dsimp [h9,h3,h4,h5,hlt,h7,h8]
              · exact fin (by simp [pCo,h9])
              · simp -dsimp [h3,h4,h5,hlt,h7,h8,h9,w1]
                simpa using zDu hlt h10 (by simp [pCo,h7,h8,h9])
        · have e:i=b.cons.length:=by omega
          subst e
          rw [yce] at h10
          simp -dsimp [h3,h4,h5,zjx,h6,h10]
          exact ⟨by omega,by omega⟩
end
section
attribute [local simp] zaf zag tk tn tks zcl zcu
structure En where
  kind:Int
  many:Nat
  f:Nat
  of:Int→Int
def eEn (e:En):D:=.agg [.int .i64 e.kind,.int .i64 e.many,.clo e.f []]
def tab (b:Bl) (base:Int):List En :=
  [⟨3,b.sorts.length,zc0,zbm b base⟩,⟨4,b.sorts.length,ze1,zej b base⟩,⟨5,b.cons.length,zb5,zap b base⟩,⟨6,b.sorts.length,zb9,za3 b base⟩]
def hit (n:Int) (e:En):Option Nat:=(yai e.many).find? fun k=>e.of k == n
def seek (n:Int) (l:List En):Option (Int × Int):=l.findSome? fun e=>(hit n e).map fun (k:Nat)=>(e.kind,(k:Int))
def ofM (b:Bl) (base n:Int):Int × Int :=
  if base<0∨65535<base∨n<base∨zws b≤w64 (n - base) then (0,0) else (seek n (tab b base)).getD (0,0)
theorem zZc (b:Bl) (base:Int):∀ e ∈ tab b base,∀ k:Int,Pure Tryz.prog e.f [eBl b,.int .i64 base,.int .i64 k] [.int .i64 (e.of k)]:=by
  intro e he k
  simp only [tab,yaZ,ycD,or_false] at he
  rcases he with rfl | rfl | rfl | rfl
  · exact zvb b base k
  · exact zLn b base k
  · exact zsi b base k
  · exact zu7 b base k
theorem zRh (b:Bl) (base:Int) (hl:b.sorts.length≤9223372036854775807) (hc:b.cons.length≤9223372036854775807):∀ e ∈ tab b base,e.many≤9223372036854775807:=by
  intro e he
  simp only [tab,yaZ,ycD,or_false] at he
  rcases he with rfl | rfl | rfl | rfl <;> assumption
theorem zKt {p:Nat→Bool} {n i:Nat} (hi:i<n) (hb:∀ j,j<i→p j=false) (h:p i=true):(yai n).find? p=some i:=by
  rw [List.find?_eq_some_iff_append]
  refine ⟨h,yai i,(yai (n - i - 1)).map (· + (i+1)),?_,?_⟩
  · apply ycw
    · simp; omega
    · intro j h1 h2
      simp [List.getElem_append,List.getElem_cons]
      split
      · omega
      · omega
  · intro a ha
    simp at ha
    simp [hb a ha]
theorem zMc {n:Int} {l:List En} {i:Nat} (hlt:i<l.length) (h:seek n (l.take i)=none) (hx:hit n l[i]=none):seek n (l.take (i+1))=none:=by
  rw [zce (yar hlt)]
  simp only [seek,ycG] at h ⊢
  rw [h]
  simp [hx]
theorem zQu {n:Int} {l:List En} {i k:Nat} (hlt:i<l.length) (h:seek n (l.take i)=none) (hx:hit n l[i]=some k):seek n l=some (l[i].kind,(k:Int)):=by
  have e:seek n (l.take i ++ l[i] :: l.drop (i+1))=some (l[i].kind,(k:Int)):=by
    simp only [seek,ycG] at h ⊢
    rw [h,List.findSome?_cons,hx]
    rfl
  rwa [List.getElem_cons_drop,List.take_append_drop] at e
theorem zRj (b:Bl) (base n:Int):Pure Tryz.prog zlq [eBl b,.int .i64 base,.int .i64 n] [.int .i64 (ofM b base n).1,.int .i64 (ofM b base n).2]:=by
  refine zK0 rfl fun hs=>?_
  have hsm:=hs (eBl b) (by simp)
  simp [eBl,cBl,eSos,eCos,small] at hsm
  obtain ⟨⟨hl,_⟩,hlc,_⟩:=hsm
  simp -dsimp [zw8,eBl,cBl,eSos,eCos]
  (first | refine zal ?_ ?_ | refine zam ?_ ?_) <;> intro h1 <;> (try simp only [nrm] at h1) <;> simp -dsimp [h1,ofM]
  (first | refine zal ?_ ?_ | refine zam ?_ ?_) <;> intro h2 <;> (try simp only [nrm] at h2) <;> simp -dsimp [h2,ofM,h1]
  (first | refine zal ?_ ?_ | refine zam ?_ ?_) <;> intro h3 <;> (try simp only [nrm] at h3) <;> simp -dsimp [h3,ofM,h1,h2]
  refine zaa (zQ3 b) ?_
  simp -dsimp [h1,h2,h3]
  (first | refine zal ?_ ?_ | refine zam ?_ ?_) <;> intro h4 <;> (try simp only [nrm] at h4) <;> simp -dsimp [h4,h1,h2,h3]
  · have:ofM b base n=(0,0):=by rw [ofM,if_pos (.inr (.inr (.inr h4)))]
    simp [this]
  have hof:ofM b base n=(seek n (tab b base)).getD (0,0):=by
    rw [ofM,if_neg]
    rintro (h | h | h | h)
    · exact h1 h
    · exact h2 h
    · exact h3 h
    · exact h4 h
  rw [hof]
  refine zah 4 (fun i st=>st.s 1 = .d (.int .i64 base)∧st.s 2 = .d (.int .i64 n)∧st.s 3 = .ptr 3 1 0∧st.h 3=⟨1,.box [.d (.sl 6 (b.sorts.map eSo)),.d (.sl 6 (b.cons.map eCo)),.d (.int .i64 b.elim)] false⟩ ∧
    st.s 46 = .fsl 3 ((tab b base).map eEn)∧st.s 47 = .d (.int .i64 4)∧st.s 48 = .d (.int .i64 i)∧seek n ((tab b base).take i)=none) ?_ ?_
  · simp -dsimp [tab,eEn,seek]
  · rintro i ⟨s,hp⟩ hi ⟨g1,g2,g3,g4,g5,g6,g7,g8⟩
    dsimp only at g1 g2 g3 g4 g5 g6 g7 g8
    have htl:(tab b base).length=4:=rfl
    rcases ybm i 4 with hlt | hge
    · have w1:IntKind.i64.wrap ((i:Int)+1)=(i:Int)+1:=zab (by omega) (by omega)
      have hlt':i<(tab b base).length:=by omega
      generalize he:(tab b base)[i]=e at *
      have hm:=zRh b base hl hlc e (he ▸ yaf _)
      have hok:=zZc b base e (he ▸ yaf _)
      have hi4:((i:Int)<4):=by omega
      simp -dsimp [g1,g2,g3,g4,g5,g6,g7,hi4,hlt',he,eEn]
      refine zah e.many (fun j st=>st.s 1 = .d (.int .i64 base)∧st.s 2 = .d (.int .i64 n)∧st.s 3 = .ptr 3 1 0∧st.h 3=⟨1,.box [.d (.sl 6 (b.sorts.map eSo)),.d (.sl 6 (b.cons.map eCo)),.d (.int .i64 b.elim)] false⟩ ∧
        st.s 46 = .fsl 3 ((tab b base).map eEn)∧st.s 47 = .d (.int .i64 4)∧st.s 48 = .d (.int .i64 i)∧(∃ v,st.s 9 = .ptr 9 v 0∧st.h 9=⟨v,.box [.d (.int .i64 e.kind),.d (.int .i64 e.many),.d (.clo e.f [])] false⟩) ∧
        st.s 53 = .d (.int .i64 e.many)∧st.s 54 = .d (.int .i64 j) ∧ ∀ k,k<j→(e.of k == n)=false) ?_ ?_
      · simp -dsimp [g1,g2,g3,g4,g5,g6,g7]
      · rintro j ⟨s,hp⟩ hj ⟨g1,g2,g3,g4,g5,g6,g7,⟨v,g9,g10⟩,g11,g12,g13⟩
        dsimp only at g1 g2 g3 g4 g5 g6 g7 g9 g10 g11 g12
        rcases ybm j e.many with hjl | hjg
        · have w2:IntKind.i64.wrap ((j:Int)+1)=(j:Int)+1:=zab (by omega) (by omega)
          simp -dsimp [g1,g2,g3,g4,g5,g6,g7,g9,g10,g11,g12,hjl]
          refine zaa (hok j) ?_
          simp -dsimp [g1,g2,g3,g4,g5,g6,g7,g9,g10,g11,g12,hjl]
          (first | refine zal ?_ ?_ | refine zam ?_ ?_) <;> intro h5 <;> (try simp only [nrm] at h5) <;> simp -dsimp [h5,g1,g2,g3,g4,g5,g6,g7,g9,g10,g11,g12,hjl,w2]
          · have hh:hit n e=some j:=zKt hjl g13 (by simpa using h5)
            have hk:=zQu hlt' g8 (by rw [he]; exact hh)
            rw [hk,he]
            simp
          · intro k hk
            rcases ybm k j with h | h
            · simpa using g13 k h
            · have:k=j:=by omega
              subst this
              exact h5
        · have e2:j=e.many:=by omega
          subst e2
          simp -dsimp [g1,g2,g3,g4,g5,g6,g7,g9,g10,g11,g12,w1,hlt]
          refine zMc hlt' g8 ?_
          rw [he]
          simp only [hit,ycH]
          intro k hk
          simpa using g13 k (by simpa using hk)
    · have e:i=4:=by omega
      subst e
      simp -dsimp [g1,g2,g3,g4,g5,g6,g7]
      have:(tab b base).take 4=tab b base:=ycd (by omega)
      rw [this] at g8
      simp [g8]
end
section
attribute [local simp] zaf zag tk tn tks zcl zcu
theorem zEu (l:List Ar) (g:FuncId) (caps:List D) (p:Ar→Bool) (hp:∀ x ∈ l,Pure Tryz.prog g (.agg (cAr x) :: caps) [.bool (p x)]) :
    Pure Tryz.prog zfq [.sl 7 (l.map eAr),.clo g caps] [.int .i64 (idxF l p)]:=by
  refine zpp rfl fun hs=>?_
  have hl:=hs (.sl 7 (l.map eAr)) (by simp)
  simp [small] at hl
  replace hl:=hl.1
  simp -dsimp [zfi]
  refine zah l.length (fun i st=>st.s 0 = .d (.sl 7 (l.map eAr))∧st.s 1 = .d (.clo g caps)∧st.s 7 = .d (.int .i64 l.length)∧st.s 8 = .d (.int .i64 i) ∧ ∀ x ∈ l.take i,p x=false) ?_ ?_
  · simp -dsimp
  · rintro i ⟨s,hp'⟩ hi ⟨h1,h2,h3,h4,h5⟩
    dsimp only at h1 h2 h3 h4 h5
    rcases ybm i l.length with hlt | hge
    · have w1:IntKind.i64.wrap ((i:Int)+1)=(i:Int)+1:=zab (by omega) (by omega)
      have hc:(cAr l[i]).length=7:=rfl
      simp -dsimp [h1,h2,h3,h4,hlt,hc]
      have ht:(cAr l[i]).take 7=cAr l[i]:=ycd (by omega)
      refine zaa (by rw [ht]; exact hp l[i] (yaf _)) ?_
      simp -dsimp [h1,h2,h3,h4,hlt]
      (first | refine zal ?_ ?_ | refine zam ?_ ?_) <;> intro h6 <;> (try simp only [nrm] at h6) <;> simp -dsimp [h6,h1,h2,h3,h4,hlt,w1]
      · have:l.findIdx? p=some i:=by
          rw [ycg]
          refine ⟨hlt,h6,fun j hj=>?_⟩
          have:=h5 l[j] (by rw [ych]; exact ⟨j,by omega,rfl⟩)
          simpa using this
        simp only [idxF,this]
      · intro x hx
        rw [zce (yar hlt),yaY] at hx
        rcases hx with hx | hx
        · simpa using h5 x hx
        · simp at hx; subst hx; exact h6
    · have e:i=l.length:=by omega
      subst e
      rw [yce] at h5
      have:l.findIdx? p=none:=by
        rw [yci]; exact h5
      simp -dsimp [h1,h2,h3,h4,idxF,this]
theorem zxx (l:List Ar) (g:FuncId) (caps:List D) (p:Ar→Bool) (hp:∀ x ∈ l,Pure Tryz.prog g (.agg (cAr x) :: caps) [.bool (p x)]) :
    Pure Tryz.prog zeo [.sl 7 (l.map eAr),.clo g caps] [.bool (l.any p)]:=by
  refine zm9 rfl fun hs=>?_
  simp -dsimp [zeg]
  refine zaa (zEu l g caps p hp) ?_
  simp -dsimp [zHu]
theorem zCz (l:List Co) (g:FuncId) (caps:List D) (p:Co→Bool) (hp:∀ x ∈ l,Pure Tryz.prog g (.agg (cCo x) :: caps) [.bool (p x)]) :
    Pure Tryz.prog zfo [.sl 6 (l.map eCo),.clo g caps] [.int .i64 (idxF l p)]:=by
  refine zpn rfl fun hs=>?_
  have hl:=hs (.sl 6 (l.map eCo)) (by simp)
  simp [small] at hl
  replace hl:=hl.1
  simp -dsimp [zfl]
  refine zah l.length (fun i st=>st.s 0 = .d (.sl 6 (l.map eCo))∧st.s 1 = .d (.clo g caps)∧st.s 7 = .d (.int .i64 l.length)∧st.s 8 = .d (.int .i64 i) ∧ ∀ x ∈ l.take i,p x=false) ?_ ?_
  · simp -dsimp
  · rintro i ⟨s,hp'⟩ hi ⟨h1,h2,h3,h4,h5⟩
    dsimp only at h1 h2 h3 h4 h5
    rcases ybm i l.length with hlt | hge
    · have w1:IntKind.i64.wrap ((i:Int)+1)=(i:Int)+1:=zab (by omega) (by omega)
      have hc:(cCo l[i]).length=6:=rfl
      simp -dsimp [h1,h2,h3,h4,hlt,hc]
      have ht:(cCo l[i]).take 6=cCo l[i]:=ycd (by omega)
      refine zaa (by rw [ht]; exact hp l[i] (yaf _)) ?_
      simp -dsimp [h1,h2,h3,h4,hlt]
      (first | refine zal ?_ ?_ | refine zam ?_ ?_) <;> intro h6 <;> (try simp only [nrm] at h6) <;> simp -dsimp [h6,h1,h2,h3,h4,hlt,w1]
      · have:l.findIdx? p=some i:=by
          rw [ycg]
          refine ⟨hlt,h6,fun j hj=>?_⟩
          have:=h5 l[j] (by rw [ych]; exact ⟨j,by omega,rfl⟩)
          simpa using this
        simp only [idxF,this]
      · intro x hx
        rw [zce (yar hlt),yaY] at hx
        rcases hx with hx | hx
        · simpa using h5 x hx
        · simp at hx; subst hx; exact h6
    · have e:i=l.length:=by omega
      subst e
      rw [yce] at h5
      have:l.findIdx? p=none:=by
        rw [yci]; exact h5
      simp -dsimp [h1,h2,h3,h4,idxF,this]
theorem zxs (l:List Co) (g:FuncId) (caps:List D) (p:Co→Bool) (hp:∀ x ∈ l,Pure Tryz.prog g (.agg (cCo x) :: caps) [.bool (p x)]) :
    Pure Tryz.prog zek [.sl 6 (l.map eCo),.clo g caps] [.bool (l.any p)]:=by
  refine zm7 rfl fun hs=>?_
  simp -dsimp [zen]
  refine zaa (zCz l g caps p hp) ?_
  simp -dsimp [zHu]
end
section
attribute [local simp] zaf zag w64 tk tn tks zcl zcu
def zzx (t:T):Bool:=if t.kind=0 then if t.num=0 then decide ((t.kids.length:Int)=0) else false else false
theorem zNh (t:T):Pure Tryz.prog zn7 [.agg (cT t)] [.bool (zzx t)]:=by
  refine zIz rfl fun hs=>?_
  simp -dsimp [ztb,cT]
  (first | refine zal ?_ ?_ | refine zam ?_ ?_) <;> intro h1 <;> (try simp only [nrm] at h1) <;> simp -dsimp [h1,zzx]
  (first | refine zal ?_ ?_ | refine zam ?_ ?_) <;> intro h2 <;> (try simp only [nrm] at h2) <;> simp -dsimp [h2,zzx,h1]
def inM (t:T) (v:Int):Bool:=zni t v 65536
theorem zQ5 (t:T) (v:Int):Pure Tryz.prog zls [.agg (cT t),.int .i64 v] [.bool (inM t v)]:=by
  refine zKu rfl fun hs=>?_
  simp -dsimp [zw4,cT]
  refine zaa (zR1 t v 65536) ?_
  simp -dsimp [inM]
theorem zUm (t:T) (v:Int):Pure Tryz.prog zll [.agg (cT t),.rp [.int .i64 v]] [.bool (!inM t v)]:=by
  refine zDf rfl fun hs=>?_
  simp -dsimp [zov,cT]
  refine zaa (zQ5 t v) ?_
  simp -dsimp
def allM (l:List T) (v:Int):Bool:=!l.any fun t=>!inM t v
theorem zS1 (l:List T) (v:Int):Pure Tryz.prog zo3 [eTs l,.int .i64 v] [.bool (allM l v)]:=by
  refine zHb rfl fun hs=>?_
  simp -dsimp [zt6,eTs]
  refine zaa (zgx l zll [.rp [.int .i64 v]] (fun t=>!inM t v) (fun x _=>zUm x v)) ?_
  simp -dsimp [allM]
def zgi (is:Bool) (t:T) (v:Int):Bool:=if is then inM t v else zzx t
theorem zJe (is:Bool) (t:T) (v:Int):Pure Tryz.prog zlj [.bool is,.agg (cT t),.int .i64 v] [.bool (zgi is t v)]:=by
  refine zD0 rfl fun hs=>?_
  cases is with
  | false =>
    simp -dsimp [zlm,cT]
    refine zaa (zNh t) ?_
    simp -dsimp [zgi]
  | true =>
    simp -dsimp [zlm,cT]
    refine zaa (zQ5 t v) ?_
    simp -dsimp [zgi]
def allI {α:Type} (p:Nat→α→Bool):Nat→List α→Bool
  | _,[]=>true
  | i,x :: xs=>p i x && allI p (i+1) xs
theorem zaq {α:Type} (p:Nat→α→Bool):∀ (l:List α) (i:Nat),allI p i l=true ↔ ∀ (j:Nat) (hj:j<l.length),p (i+j) l[j]=true
  | [],i=>by simp [allI]
  | x :: xs,i=>by
    rw [allI,ybJ,zaq p xs (i+1)]
    constructor
    · rintro ⟨h1,h2⟩ j hj
      cases j with
      | zero=>simpa using h1
      | succ j =>
        have:=h2 j (by simpa using hj)
        have e:i+1+j=i+(j+1):=by omega
        rw [e] at this
        simpa using this
    · intro h
      refine ⟨h 0 (by simp),fun j hj=>?_⟩
      have:=h (j+1) (by simpa using hj)
      have e:i+1+j=i+(j+1):=by omega
      rw [e]
      simpa using this
theorem zrv {α:Type} {p:Nat→α→Bool} {l:List α} {j:Nat} (hj:j<l.length) (h:p j l[j]=false):allI p 0 l=false:=by
  cases hw:allI p 0 l with
  | false=>rfl
  | true =>
    have:=(zaq p l 0).1 hw j hj
    rw [ybj,h] at this
    cases this
theorem zkq {α:Type} {p:Nat→α→Bool} {l:List α} {i:Nat} (hi:i<l.length) (h:∀ (j:Nat) (hj:j<l.length),j<i→p j l[j]=true) (hx:p i l[i]=true) :
    ∀ (j:Nat) (hj:j<l.length),j<i+1→p j l[j]=true:=by
  intro j hj hji
  rcases ybm j i with h' | h'
  · exact h j hj h'
  · have:j=i:=by omega
    subst this
    exact hx
theorem zrt {α:Type} {p:Nat→α→Bool} {l:List α} (h:∀ (j:Nat) (hj:j<l.length),j<l.length→p j l[j]=true):allI p 0 l=true :=
  (zaq p l 0).2 fun j hj=>by rw [ybj]; exact h j hj hj
def domM (i:Int) (l:List T):Bool:=allI (fun j t=>inM t (w64 (i+j))) 0 l
def argM (b:Bl) (a:Ar) (i:Int):Bool :=
  if a.rc then
    if zzx a.ty then
      if 12<(a.dom.length:Int) then false else if a.sort<0 then false else match b.sorts[a.sort.toNat]? with
      | none=>false
      | some s=>if (a.idx.length:Int)=(s.idx.length:Int) then domM i a.dom && allM a.idx (w64 (i+a.dom.length)) else false
    else false
  else if inM a.ty i then if w64 (a.dom.length+a.idx.length)=0 then decide (a.sort=0) else false else false
theorem zX8 (b:Bl) (a:Ar) (i:Int):Pure Tryz.prog ztu [eBl b,.agg (cAr a),.int .i64 i] [.bool (argM b a i)]:=by
  refine zHn rfl fun hs=>?_
  simp -dsimp [ztl,eBl,cBl,eSos,eCos,cAr,cT,eTs]
  cases hr:a.rc with
  | false =>
    simp -dsimp [hr]
    refine zaa (zQ5 a.ty i) ?_
    simp -dsimp
    (first | refine zal ?_ ?_ | refine zam ?_ ?_) <;> intro h1 <;> (try simp only [nrm] at h1) <;> simp -dsimp [h1,argM,hr]
    · (first | refine zal ?_ ?_ | refine zam ?_ ?_) <;> intro h2 <;> (try simp only [nrm] at h2) <;> simp -dsimp [h2,argM,hr,h1]
  | true =>
    simp -dsimp [hr]
    refine zaa (zNh a.ty) ?_
    simp -dsimp
    (first | refine zal ?_ ?_ | refine zam ?_ ?_) <;> intro h1 <;> (try simp only [nrm] at h1) <;> simp -dsimp [h1,argM,hr]
    (first | refine zal ?_ ?_ | refine zam ?_ ?_) <;> intro h2 <;> (try simp only [nrm] at h2) <;> simp -dsimp [h2,argM,hr,h1]
    (first | refine zal ?_ ?_ | refine zam ?_ ?_) <;> intro h3 <;> (try simp only [nrm] at h3) <;> simp -dsimp [h3,argM,hr,h1,h2]
    (first | refine zal ?_ ?_ | refine zam ?_ ?_) <;> intro h4 <;> (try simp only [nrm] at h4) <;> simp -dsimp [h4,argM,hr,h1,h2,h3]
    · have:b.sorts[a.sort.toNat]? = none:=ybB (by omega)
      simp [this]
    have hlt:a.sort.toNat<b.sorts.length:=by omega
    have h0:0≤a.sort:=by omega
    have hA:argM b a i=if (a.idx.length:Int)=(b.sorts[a.sort.toNat].idx.length:Int) then domM i a.dom && allM a.idx (w64 (i+a.dom.length)) else false:=by
      simp [argM,hr,h1,h2,h3,hlt]
    simp -dsimp [hr,h1,h2,h3,h4,hlt,h0,eSo,cSo,eArs,cT]
    (first | refine zal ?_ ?_ | refine zam ?_ ?_) <;> intro h5 <;> (try simp only [nrm] at h5) <;> simp -dsimp [h5,hr,h1,h2,h3,h4,hlt,h0,eSo,cSo,eArs,cT]
    · rw [hA,if_neg h5]
    rw [hA,if_pos h5]
    have hd:a.dom.length≤12:=by omega
    refine zah a.dom.length (fun j st=>st.s 2 = .d (.int .i64 i)∧st.s 4 = .ptr 4 1 0∧st.h 4=⟨1,.box [.d (.bool true),.d (.int .i64 a.ty.kind),.d (.int .i64 a.ty.num),.d (.sl 3 (a.ty.kids.map eT)),.d (.sl 3 (a.dom.map eT)),.d (.int .i64 a.sort),.d (.sl 3 (a.idx.map eT))] false⟩ ∧
      st.s 69 = .d (.sl 3 (a.dom.map eT))∧st.s 70 = .d (.int .i64 a.dom.length)∧st.s 71 = .d (.int .i64 j) ∧ ∀ (k:Nat) (hk:k<a.dom.length),k<j→inM a.dom[k] (w64 (i+k))=true) ?_ ?_
    · simp -dsimp [hr]
    · rintro j ⟨s,hp⟩ hj ⟨g1,g2,g3,g4,g5,g6,g7⟩
      dsimp only at g1 g2 g3 g4 g5 g6
      rcases ybm j a.dom.length with hlt | hge
      · have w1:IntKind.i64.wrap ((j:Int)+1)=(j:Int)+1:=zab (by omega) (by omega)
        simp -dsimp [g1,g2,g3,g4,g5,g6,hlt,cT]
        refine zaa (zQ5 a.dom[j] _) ?_
        simp -dsimp [g1,g2,g3,g4,g5,g6,hlt]
        (first | refine zal ?_ ?_ | refine zam ?_ ?_) <;> intro h6 <;> (try simp only [nrm] at h6) <;> simp -dsimp [h6,g1,g2,g3,g4,g5,g6,hlt,w1]
        · have:domM i a.dom=false:=zrv hlt h6
          simp [this]
        · exact zkq (p:=fun j t=>inM t (w64 (i+j))) hlt g7 h6
      · have e:j=a.dom.length:=by omega
        subst e
        have:domM i a.dom=true:=zrt g7
        simp -dsimp [g1,g2,g3,g4,g5,g6]
        refine zaa (zS1 a.idx _) ?_
        simp -dsimp [this]
def rowM (b:Bl) (l:List Ar):Bool:=if 12<(l.length:Int) then false else allI (fun i a=>argM b a i) 0 l
theorem zS0 (b:Bl) (l:List Ar):Pure Tryz.prog zpa [eBl b,eArs l] [.bool (rowM b l)]:=by
  refine zIe rfl fun hs=>?_
  simp -dsimp [ztc,eBl,cBl,eSos,eCos,eArs]
  (first | refine zal ?_ ?_ | refine zam ?_ ?_) <;> intro h1 <;> (try simp only [nrm] at h1) <;> simp -dsimp [h1,rowM]
  have hl:l.length≤12:=by omega
  have hR:rowM b l=allI (fun i a=>argM b a i) 0 l:=by rw [rowM,if_neg h1]
  rw [hR]
  refine zah l.length (fun i st=>st.s 2 = .ptr 2 1 0∧st.h 2=⟨1,.box [.d (.sl 6 (b.sorts.map eSo)),.d (.sl 6 (b.cons.map eCo)),.d (.int .i64 b.elim)] false⟩∧st.s 10 = .d (.sl 7 (l.map eAr))∧st.s 11 = .d (.int .i64 l.length)∧st.s 12 = .d (.int .i64 i) ∧
    ∀ (j:Nat) (hj:j<l.length),j<i→argM b l[j] j=true) ?_ ?_
  · simp -dsimp
  · rintro i ⟨s,hp⟩ hi ⟨g1,g2,g3,g4,g5,g6⟩
    dsimp only at g1 g2 g3 g4 g5
    rcases ybm i l.length with hlt | hge
    · have w1:IntKind.i64.wrap ((i:Int)+1)=(i:Int)+1:=zab (by omega) (by omega)
      simp -dsimp [g1,g2,g3,g4,g5,hlt,eAr,cAr,cT,eTs]
      refine zaa (zX8 b l[i] i) ?_
      simp -dsimp [g1,g2,g3,g4,g5,hlt]
      (first | refine zal ?_ ?_ | refine zam ?_ ?_) <;> intro h6 <;> (try simp only [nrm] at h6) <;> simp -dsimp [h6,g1,g2,g3,g4,g5,hlt,w1]
      · exact zrv (p:=fun i a=>argM b a i) hlt h6
      · exact zkq (p:=fun i a=>argM b a i) hlt g6 h6
    · have e:i=l.length:=by omega
      subst e
      simp -dsimp [g1,g2,g3,g4,g5,zrt (p:=fun i a=>argM b a i) g6]
def zf1 (k:Int) (s:So) (a:Ar):Bool:=if a.rc then if 0<(a.dom.length:Int) then true else if k≤a.sort then true else s.dec else false
theorem zQ8 (k:Int) (s:So) (a:Ar):Pure Tryz.prog zkh [.agg (cAr a),.rp [.int .i64 k],.rp (cSo s)] [.bool (zf1 k s a)]:=by
  refine zA9 rfl fun hs=>?_
  cases hr:a.rc with
  | false =>
    simp -dsimp [zki,cAr,cSo,cT,eTs,eArs,hr,zf1]
  | true =>
    simp -dsimp [zki,cAr,cSo,cT,eTs,eArs,hr]
    (first | refine zal ?_ ?_ | refine zam ?_ ?_) <;> intro h1 <;> (try simp only [nrm] at h1) <;> simp -dsimp [h1,zf1,hr]
    (first | refine zal ?_ ?_ | refine zam ?_ ?_) <;> intro h2 <;> (try simp only [nrm] at h2) <;> simp -dsimp [h2,zf1,hr,h1]
def zmp (n:Int):Bool:=decide (0≤n) && decide (n≤6)
def zh2 (b:Bl) (k:Nat) (s:So):Bool :=
  if rowM b s.idx then if zmp s.level then if zgi s.dec s.dty s.idx.length then !s.idx.any (zf1 k s) else false else false else false
theorem zV9 (b:Bl) (k:Nat) (hk:k<b.sorts.length):Pure Tryz.prog zrb [eBl b,.int .i64 k] [.bool (zh2 b k b.sorts[k])]:=by
  refine zGe rfl fun hs=>?_
  simp -dsimp [zqd,eBl,cBl,eSos,eCos,hk,eSo,cSo,cT,eArs]
  refine zaa (zS0 b b.sorts[k].idx) ?_
  simp -dsimp
  (first | refine zal ?_ ?_ | refine zam ?_ ?_) <;> intro h1 <;> (try simp only [nrm] at h1) <;> simp -dsimp [h1,zh2]
  refine zaa (rs:=[.bool (zmp b.sorts[k].level)]) (zJk b.sorts[k].level) ?_
  simp -dsimp [h1]
  (first | refine zal ?_ ?_ | refine zam ?_ ?_) <;> intro h2 <;> (try simp only [nrm] at h2) <;> simp -dsimp [h2,zh2,h1]
  refine zaa (zJe b.sorts[k].dec b.sorts[k].dty b.sorts[k].idx.length) ?_
  simp -dsimp [h1,h2]
  (first | refine zal ?_ ?_ | refine zam ?_ ?_) <;> intro h3 <;> (try simp only [nrm] at h3) <;> simp -dsimp [h3,zh2,h1,h2]
  refine zaa (zxx b.sorts[k].idx zkh [.rp [.int .i64 k],.rp (cSo b.sorts[k])] (zf1 k b.sorts[k]) (fun x _=>zQ8 k _ x)) ?_
  simp -dsimp [zh2,h1,h2,h3]
def conM (b:Bl) (c:Co):Bool :=
  if c.sort<0 then false else if rowM b c.args then match b.sorts[c.sort.toNat]? with
  | none=>false
  | some s=>if (c.idx.length:Int)=(s.idx.length:Int) then if allM c.idx c.args.length then zgi s.dec c.dec c.args.length else false else false
  else false
theorem zX6 (b:Bl) (c:Co):Pure Tryz.prog zts [eBl b,eCo c] [.bool (conM b c)]:=by
  refine zH1 rfl fun hs=>?_
  simp -dsimp [ztz,eBl,cBl,eSos,eCos,eCo,cCo,cT,eArs,eTs]
  (first | refine zal ?_ ?_ | refine zam ?_ ?_) <;> intro h1 <;> (try simp only [nrm] at h1) <;> simp -dsimp [h1,conM]
  (first | refine zal ?_ ?_ | refine zam ?_ ?_) <;> intro h2 <;> (try simp only [nrm] at h2) <;> simp -dsimp [h2,conM,h1]
  · have:b.sorts[c.sort.toNat]? = none:=ybB (by omega)
    simp [this]
  refine zaa (zS0 b c.args) ?_
  have hlt:c.sort.toNat<b.sorts.length:=by omega
  have h0:0≤c.sort:=by omega
  simp -dsimp [h1,h2]
  (first | refine zal ?_ ?_ | refine zam ?_ ?_) <;> intro h3 <;> (try simp only [nrm] at h3) <;> simp -dsimp [h3,conM,h1,h2]
  have hA:conM b c=if (c.idx.length:Int)=(b.sorts[c.sort.toNat].idx.length:Int) then if allM c.idx c.args.length then zgi b.sorts[c.sort.toNat].dec c.dec c.args.length else false else false:=by
    simp [conM,h1,h3,hlt]
  simp -dsimp [h1,h2,h3,hlt,h0,eSo,cSo,eArs,cT,eTs]
  (first | refine zal ?_ ?_ | refine zam ?_ ?_) <;> intro h4 <;> (try simp only [nrm] at h4) <;> simp -dsimp [h4,h1,h2,h3,hlt,h0,eSo,cSo,eArs,cT]
  · refine zaa (zS1 c.idx _) ?_
    simp -dsimp [h4]
    (first | refine zal ?_ ?_ | refine zam ?_ ?_) <;> intro h5 <;> (try simp only [nrm] at h5) <;> simp -dsimp [h5,h4]
    · refine zaa (zJe _ c.dec _) ?_
      simp -dsimp [h4,h5,hA]
    · rw [hA,if_pos h4,h5]; rfl
  · rw [hA,if_neg h4]
theorem zOs (b:Bl) (c:Co):Pure Tryz.prog zin [eCo c,.rp (cBl b)] [.bool (!conM b c)]:=by
  refine zzj rfl fun hs=>?_
  simp -dsimp [zmi,cBl,eSos,eCos,eCo,cCo,cT,eArs,eTs]
  refine zaa (zX6 b c) ?_
  simp -dsimp
def zgc (b:Bl):Int :=
  if (b.sorts.length:Int)<1 then 12 else if 4<(b.sorts.length:Int) then 12 else if 8<(b.cons.length:Int) then 12 else if zmp b.elim then
    if allI (fun k s=>zh2 b k s) 0 b.sorts then if b.cons.any fun c=>!conM b c then 12 else 0 else 12
  else 12
theorem zMr (b:Bl):Pure Tryz.prog zox [eBl b] [.int .i64 (zgc b)]:=by
  refine zD8 rfl fun hs=>?_
  simp -dsimp [zo0,eBl,cBl,eSos,eCos]
  (first | refine zal ?_ ?_ | refine zam ?_ ?_) <;> intro h1 <;> (try simp only [nrm] at h1) <;> simp -dsimp [h1,zgc]
  (first | refine zal ?_ ?_ | refine zam ?_ ?_) <;> intro h2 <;> (try simp only [nrm] at h2) <;> simp -dsimp [h2,zgc,h1]
  (first | refine zal ?_ ?_ | refine zam ?_ ?_) <;> intro h3 <;> (try simp only [nrm] at h3) <;> simp -dsimp [h3,zgc,h1,h2]
  refine zaa (rs:=[.bool (zmp b.elim)]) (zJk b.elim) ?_
  simp -dsimp [h1,h2,h3]
  (first | refine zal ?_ ?_ | refine zam ?_ ?_) <;> intro h4 <;> (try simp only [nrm] at h4) <;> simp -dsimp [h4,zgc,h1,h2,h3]
  have hl:b.sorts.length≤4:=by omega
  have hC:zgc b=if allI (fun k s=>zh2 b k s) 0 b.sorts then if b.cons.any fun c=>!conM b c then 12 else 0 else 12:=by
    rw [zgc,if_neg h1,if_neg h2,if_neg h3,if_pos h4]
  rw [hC]
  refine zah b.sorts.length (fun i st=>st.s 1 = .ptr 1 1 0∧st.h 1=⟨1,.box [.d (.sl 6 (b.sorts.map eSo)),.d (.sl 6 (b.cons.map eCo)),.d (.int .i64 b.elim)] false⟩∧st.s 28 = .d (.int .i64 b.sorts.length)∧st.s 29 = .d (.int .i64 i) ∧
    ∀ (j:Nat) (hj:j<b.sorts.length),j<i→zh2 b j b.sorts[j]=true) ?_ ?_
  · simp -dsimp
  · rintro i ⟨s,hp⟩ hi ⟨g1,g2,g3,g4,g5⟩
    dsimp only at g1 g2 g3 g4
    rcases ybm i b.sorts.length with hlt | hge
    · have w1:IntKind.i64.wrap ((i:Int)+1)=(i:Int)+1:=zab (by omega) (by omega)
      simp -dsimp [g1,g2,g3,g4,hlt]
      refine zaa (zV9 b i hlt) ?_
      simp -dsimp [g1,g2,g3,g4,hlt]
      (first | refine zal ?_ ?_ | refine zam ?_ ?_) <;> intro h6 <;> (try simp only [nrm] at h6) <;> simp -dsimp [h6,g1,g2,g3,g4,hlt,w1]
      · intro h
        rw [zrv (p:=fun k s=>zh2 b k s) hlt h6] at h
        cases h
      · exact zkq (p:=fun k s=>zh2 b k s) hlt g5 h6
    · have e:i=b.sorts.length:=by omega
      subst e
      have hA:allI (fun k s=>zh2 b k s) 0 b.sorts=true:=zrt (p:=fun k s=>zh2 b k s) g5
      simp -dsimp [g1,g2,g3,g4,hA]
      refine zaa (zxs b.cons zin [.rp (cBl b)] (fun c=>!conM b c) (fun x _=>zOs b x)) ?_
      simp -dsimp [g1,g2,g3,g4]
      (first | refine zal ?_ ?_ | refine zam ?_ ?_) <;> intro h7 <;> (try simp only [nrm] at h7) <;> simp -dsimp [h7,g1,g2,g3,g4,hA]
end
section
attribute [local simp] zaf zag w64 tk tn tks zcl zcu
def recA (n:Int) (l:List T):Ar:=⟨true,zT,[],n,l⟩
theorem zXl (n:Int) (l:List T) (hl:l.length*40≤zad):Pure Tryz.prog zkb [.int .i64 n,eTs l] [.agg (cAr (recA n l))]:=by
  refine zvx rfl fun hs=>?_
  simp -dsimp [hl,zjn,eTs,cAr,recA,zT,cT,T.kind,T.num,T.kids]
def zMy (b:Bl):List D:=[.int .i64 3,.int .i64 0,.int .i64 0,.sl 3 [],.int .i64 0,.int .i64 0,.sl 3 []] ++ cBl b
theorem zT3 (b:Bl):Pure Tryz.prog zi3 [eBl b] [.agg (zMy b)]:=by
  refine zuz rfl fun hs=>?_
  simp -dsimp [ziw,eBl,cBl,eSos,eCos,zMy]
def natB:Bl:=⟨[⟨[],0,false,zT⟩],[⟨0,[],[],zT⟩,⟨0,[recA 0 []],[],zT⟩],0⟩
theorem zXg:Pure Tryz.prog zjy [] [.agg (zMy natB)]:=by
  refine zw5 rfl fun hs=>?_
  simp -dsimp [zkf]
  refine zaa (zXl 0 [] (by decide)) ?_
  simp -dsimp [cAr,recA,zT,cT,T.kind,T.num,T.kids,eTs]
  refine zaa (zT3 natB) ?_
  simp -dsimp [zMy,cBl,eSos,eCos]
end
section
attribute [local simp] zaf zag tk tn tks zcl zcu
def is64 (n:Int):Prop:=-9223372036854775808≤n∧n<9223372036854775808
structure Fit (b:Bl):Prop where
  s:b.sorts.length≤10
  c:b.cons.length≤20
theorem zTb {b:Bl} (h:zjx b=false):Fit b:=by
  simp only [zjx,ycx,decide_eq_false_iff_not] at h
  exact ⟨by omega,by omega⟩
theorem zEp {b:Bl} (hf:Fit b):zws b=2*b.sorts.length+decs b.sorts+b.cons.length:=by
  have h1:=hf.s
  have h2:=hf.c
  have h3:=zj9 b.sorts
  rw [zws,zb3,zb3,zb3] <;> (try rw [zb3,zb3]) <;> (try rw [zb3]) <;> omega
theorem zyj {base ahead k many:Int} (h0:0≤base) (h1:base≤65535) (h2:0≤ahead) (h3:ahead≤1000) (h4:many≤1000) :
    zku base ahead k many=if 0≤k∧k<many then base+ahead+k else -1:=by
  by_cases h:0≤k∧k<many
  · rw [zku,if_neg (by omega),if_pos h,zb3,zb3] <;> (try rw [zb3]) <;> omega
  · rw [zku,if_pos (by omega),if_neg h]
theorem zkr {b:Bl} (hf:Fit b) {base:Int} (h0:0≤base) (h1:base≤65535) (k:Int):zbm b base k=if 0≤k∧k<b.sorts.length then base+k else -1:=by
  have hs:=hf.s
  rw [zbm,zyj h0 h1 (by omega) (by omega) (by omega)]
  split <;> omega
theorem zhc {b:Bl} (hf:Fit b) {base:Int} (h0:0≤base) (h1:base≤65535) (k:Int):zap b base k=if 0≤k∧k<b.cons.length then base+(b.sorts.length+decs b.sorts)+k else -1:=by
  have hs:=hf.s
  have hc:=hf.c
  have h3:=zj9 b.sorts
  rw [zap,zb3 (by omega) (by omega),zyj h0 h1 (by omega) (by omega) (by omega)]
theorem zoo {b:Bl} (hf:Fit b) {base:Int} (h0:0≤base) (h1:base≤65535) (k:Int):za3 b base k=if 0≤k∧k<b.sorts.length then base+(b.sorts.length+decs b.sorts+b.cons.length)+k else -1:=by
  have hs:=hf.s
  have hc:=hf.c
  have h3:=zj9 b.sorts
  rw [za3,zb3 (n:=(b.sorts.length:Int)+decs b.sorts) (by omega) (by omega),zb3 (by omega) (by omega),zyj h0 h1 (by omega) (by omega) (by omega)]
theorem zw0 {b:Bl} (hf:Fit b) {base:Int} (h0:0≤base) (h1:base≤65535) (k:Int) :
    zej b base k=if h:0≤k∧k<b.sorts.length then if (b.sorts[k.toNat]'(by omega)).dec then base+b.sorts.length+decs (b.sorts.take k.toNat) else -1 else -1:=by
  have hs:=hf.s
  by_cases h:0≤k∧k<b.sorts.length
  · have hlt:k.toNat<b.sorts.length:=by omega
    have h3:=zj9 (b.sorts.take k.toNat)
    rw [yaE] at h3
    rw [dif_pos h,zej,if_neg (by omega),yar hlt]
    dsimp only
    split
    · rw [zyj h0 h1 (by omega) (by omega) (by omega),if_pos (by omega)]
    · rfl
  · rw [dif_neg h,zej]
    by_cases hk:k<0
    · rw [if_pos hk]
    · rw [if_neg hk,ybB (by omega)]
theorem zMq:∀ (l:List So) (j:Nat),j<decs l → ∃ (k:Nat) (hk:k<l.length),l[k].dec=true∧decs (l.take k)=j
  | [],j,h=>by simp [decs] at h
  | s :: l,j,h=>by
    cases hd:s.dec with
    | false =>
      obtain ⟨k,hk,h1,h2⟩:=zMq l j (by simpa [decs,hd] using h)
      exact ⟨k+1,by simpa using hk,by simpa using h1,by simpa [decs,hd] using h2⟩
    | true =>
      cases j with
      | zero=>exact ⟨0,by simp,by simpa using hd,by simp [decs]⟩
      | succ j =>
        obtain ⟨k,hk,h1,h2⟩:=zMq l j (by simp [decs,hd] at h; simpa [decs] using h)
        exact ⟨k+1,by simpa using hk,by simpa using h1,by simp [decs,hd] at h2 ⊢; exact h2⟩
theorem zRq {n:Int} {e:En} {k:Nat} (h:hit n e=some k):k<e.many∧e.of k=n:=by
  have h1:=List.find?_some h
  have h2:=List.mem_of_find?_eq_some h
  exact ⟨by simpa using h2,by simpa using h1⟩
theorem zva {n:Int} {l:List En} {p:Int × Int} (h:seek n l=some p):∃ e ∈ l,∃ k:Nat,k<e.many∧e.of k=n∧p=(e.kind,(k:Int)):=by
  obtain ⟨e,he,h1⟩:=List.exists_of_findSome?_eq_some h
  cases hh:hit n e with
  | none=>rw [hh] at h1; cases h1
  | some k =>
    rw [hh] at h1
    obtain ⟨h2,h3⟩:=zRq hh
    exact ⟨e,he,k,h2,h3,(Option.some.inj h1).symm⟩
theorem zoh {n:Int} {l:List En} {e:En} (he:e ∈ l) {k:Nat} (hk:k<e.many) (hn:e.of k=n):∃ p,seek n l=some p:=by
  cases h:seek n l with
  | some p=>exact ⟨p,rfl⟩
  | none =>
    have h1:=List.findSome?_eq_none_iff.1 h e he
    cases hh:hit n e with
    | some k=>rw [hh] at h1; cases h1
    | none =>
      have h2:=ycH.1 hh k (by simpa using hk)
      simp [hn] at h2
theorem zYk {b:Bl} (hf:Fit b) {base:Int} (h0:0≤base) (h1:base≤65535) {n:Int} (hn:base≤n) (hc:n<base+zws b) :
    ∃ e ∈ tab b base,∃ k:Nat,k<e.many∧e.of k=n∧ofM b base n=(e.kind,(k:Int)):=by
  have hs:=hf.s
  have hcc:=hf.c
  have h3:=zj9 b.sorts
  have hci:=zEp hf
  have hb:base≤65535:=by omega
  have hso:∃ p,seek n (tab b base)=some p:=by
    by_cases c1:n<base+b.sorts.length
    · exact zoh (e:=⟨3,b.sorts.length,zc0,zbm b base⟩) (k:=(n - base).toNat) (by simp [tab]) (by simp; omega) (by simp only; rw [zkr hf h0 hb,if_pos (by omega)]; omega)
    by_cases c2:n<base+b.sorts.length+decs b.sorts
    · obtain ⟨k,hk,d1,d2⟩:=zMq b.sorts (n - base - b.sorts.length).toNat (by omega)
      refine zoh (e:=⟨4,b.sorts.length,ze1,zej b base⟩) (k:=k) (by simp [tab]) hk ?_
      simp only
      rw [zw0 hf h0 hb,dif_pos (by omega),if_pos (by simpa using d1),Int.toNat_natCast,d2]
      omega
    by_cases c3:n<base+b.sorts.length+decs b.sorts+b.cons.length
    · exact zoh (e:=⟨5,b.cons.length,zb5,zap b base⟩) (k:=(n - base - b.sorts.length - decs b.sorts).toNat) (by simp [tab]) (by simp; omega) (by simp only; rw [zhc hf h0 hb,if_pos (by omega)]; omega)
    · exact zoh (e:=⟨6,b.sorts.length,zb9,za3 b base⟩) (k:=(n - base - b.sorts.length - decs b.sorts - b.cons.length).toNat) (by simp [tab]) (by simp; omega) (by simp only; rw [zoo hf h0 hb,if_pos (by omega)]; omega)
  obtain ⟨p,hp⟩:=hso
  obtain ⟨e,he,k,g1,g2,g3⟩:=zva hp
  refine ⟨e,he,k,g1,g2,?_⟩
  rw [ofM,if_neg,hp,g3]
  · rfl
  · rw [zb3 (by omega) (by omega)]; omega
theorem zXc {b:Bl} (hf:Fit b) {base:Int} (h0:0≤base) {n:Int} (hn64:is64 n) (hn:n<base∨base+zws b≤n):ofM b base n=(0,0):=by
  obtain ⟨m1,m2⟩:=hn64
  rw [ofM,if_pos]
  rcases hn with hn | hn
  · omega
  · have:=zEp hf
    rw [zb3 (by omega) (by omega)]
    omega
end
section
attribute [local simp] zaf zag tk tn tks zcl zcu
theorem zAe (l:List So) {a c:Nat} (h:a≤c):decs (l.take a)≤decs (l.take c):=by
  have h1:(l.take a).Sublist (l.take c):=List.take_sublist_take_left h
  exact (h1.filter _).length_le
theorem zEa (l:List So) {k:Nat} (hk:k<l.length) (hd:l[k].dec=true):decs (l.take (k+1))=decs (l.take k)+1:=by
  rw [zAm l k l[k] (yar hk),hd]
  rfl
theorem zU6 (l:List So) {k m:Nat} (hk:k<l.length) (hm:m<l.length) (hd:l[k].dec=true) (hd':l[m].dec=true) (h:decs (l.take k)=decs (l.take m)):k=m:=by
  rcases Nat.lt_trichotomy k m with c | c | c
  · have:=zAe l (show k+1≤m from c)
    rw [zEa l hk hd] at this
    omega
  · exact c
  · have:=zAe l (show m+1≤k from c)
    rw [zEa l hm hd'] at this
    omega
theorem zSp (l:List So) {k:Nat} (hk:k<l.length) (hd:l[k].dec=true):decs (l.take k)+1≤decs l:=by
  have:=zAe l (show k+1≤l.length from hk)
  rw [zEa l hk hd,yce] at this
  exact this
theorem zgu {b:Bl} (hf:Fit b) {base:Int} (h0:0≤base) (h1:base≤65535) {k n:Int} (hn:0≤n) (h:zej b base k=n) :
    ∃ (j:Nat) (hj:j<b.sorts.length),k=j∧b.sorts[j].dec=true∧n=base+b.sorts.length+decs (b.sorts.take j):=by
  rw [zw0 hf h0 h1] at h
  by_cases c:0≤k∧k<b.sorts.length
  · rw [dif_pos c] at h
    have hlt:k.toNat<b.sorts.length:=by omega
    cases hd:b.sorts[k.toNat].dec with
    | true=>rw [hd] at h; exact ⟨k.toNat,hlt,by omega,hd,by simpa using h.symm⟩
    | false=>rw [hd] at h; simp at h; omega
  · rw [dif_neg c] at h; omega
theorem zi2 {b:Bl} (hf:Fit b) {base:Int} (h0:0≤base) (h1:base≤65535) {k n:Int} (hn:0≤n) (h:zbm b base k=n):0≤k∧k<b.sorts.length∧n=base+k:=by
  rw [zkr hf h0 h1] at h
  split at h <;> omega
theorem zcy {b:Bl} (hf:Fit b) {base:Int} (h0:0≤base) (h1:base≤65535) {k n:Int} (hn:0≤n) (h:zap b base k=n):0≤k∧k<b.cons.length∧n=base+(b.sorts.length+decs b.sorts)+k:=by
  rw [zhc hf h0 h1] at h
  split at h <;> omega
theorem zdk {b:Bl} (hf:Fit b) {base:Int} (h0:0≤base) (h1:base≤65535) {k n:Int} (hn:0≤n) (h:za3 b base k=n):0≤k∧k<b.sorts.length∧n=base+(b.sorts.length+decs b.sorts+b.cons.length)+k:=by
  rw [zoo hf h0 h1] at h
  split at h <;> omega
theorem off {b:Bl} {base:Int} (h:¬(0≤base∧base≤65535)) (k:Int):zbm b base k = -1∧zej b base k = -1∧zap b base k = -1∧za3 b base k = -1:=by
  refine ⟨?_,?_,?_,?_⟩
  · rw [zbm,zku,if_pos (by omega)]
  · rw [zej]
    split
    · rfl
    · split
      · rfl
      · split
        · rw [zku,if_pos (by omega)]
        · rfl
  · rw [zap,zku,if_pos (by omega)]
  · rw [za3,zku,if_pos (by omega)]
theorem zRs {b:Bl} (hf:Fit b) {base n:Int} (hn:0≤n) {e:En} (he:e ∈ tab b base) {k:Nat} (h:e.of k=n):ofM b base n=(e.kind,(k:Int)):=by
  by_cases hb:0≤base∧base≤65535
  · obtain ⟨h0,h1⟩:=hb
    have hs:=hf.s
    have hc:=hf.c
    have hd:=zj9 b.sorts
    have hr:base≤n∧n<base+zws b:=by
      rw [zEp hf]
      simp only [tab,yaZ,ycD,or_false] at he
      rcases he with rfl | rfl | rfl | rfl <;> simp only at h
      · have:=zi2 hf h0 h1 hn h; omega
      · obtain ⟨j,hj,_,hd1,hd2⟩:=zgu hf h0 h1 hn h
        have:=zSp b.sorts hj hd1
        omega
      · have:=zcy hf h0 h1 hn h; omega
      · have:=zdk hf h0 h1 hn h; omega
    obtain ⟨e',he',k',_,g2,g3⟩:=zYk hf h0 h1 hr.1 hr.2
    rw [g3]
    simp only [tab,yaZ,ycD,or_false] at he he'
    have D:∀ {j:Nat} (hj:j<b.sorts.length),b.sorts[j].dec=true→decs (b.sorts.take j)+1≤decs b.sorts:=fun hj hd1=>zSp b.sorts hj hd1
    rcases he with rfl | rfl | rfl | rfl <;> rcases he' with rfl | rfl | rfl | rfl <;> simp only at h g2
    · have a1:=zi2 hf h0 h1 hn h; have a2:=zi2 hf h0 h1 hn g2
      have:k'=k:=by omega
      subst this; rfl
    · have a1:=zi2 hf h0 h1 hn h; obtain ⟨j,hj,_,hd1,hd2⟩:=zgu hf h0 h1 hn g2; omega
    · have a1:=zi2 hf h0 h1 hn h; have a2:=zcy hf h0 h1 hn g2; omega
    · have a1:=zi2 hf h0 h1 hn h; have a2:=zdk hf h0 h1 hn g2; omega
    · obtain ⟨j,hj,_,hd1,hd2⟩:=zgu hf h0 h1 hn h; have a1:=zi2 hf h0 h1 hn g2; omega
    · obtain ⟨j,hj,ej,hd1,hd2⟩:=zgu hf h0 h1 hn h; obtain ⟨i,hi,ei,he1,he2⟩:=zgu hf h0 h1 hn g2
      have:i=j:=zU6 b.sorts hi hj he1 hd1 (by omega)
      have:k'=k:=by omega
      subst this; rfl
    · obtain ⟨j,hj,_,hd1,hd2⟩:=zgu hf h0 h1 hn h; have a1:=zcy hf h0 h1 hn g2; have:=D hj hd1; omega
    · obtain ⟨j,hj,_,hd1,hd2⟩:=zgu hf h0 h1 hn h; have a1:=zdk hf h0 h1 hn g2; have:=D hj hd1; omega
    · have a1:=zcy hf h0 h1 hn h; have a2:=zi2 hf h0 h1 hn g2; omega
    · have a1:=zcy hf h0 h1 hn h; obtain ⟨j,hj,_,hd1,hd2⟩:=zgu hf h0 h1 hn g2; have:=D hj hd1; omega
    · have a1:=zcy hf h0 h1 hn h; have a2:=zcy hf h0 h1 hn g2
      have:k'=k:=by omega
      subst this; rfl
    · have a1:=zcy hf h0 h1 hn h; have a2:=zdk hf h0 h1 hn g2; omega
    · have a1:=zdk hf h0 h1 hn h; have a2:=zi2 hf h0 h1 hn g2; omega
    · have a1:=zdk hf h0 h1 hn h; obtain ⟨j,hj,_,hd1,hd2⟩:=zgu hf h0 h1 hn g2; have:=D hj hd1; omega
    · have a1:=zdk hf h0 h1 hn h; have a2:=zcy hf h0 h1 hn g2; omega
    · have a1:=zdk hf h0 h1 hn h; have a2:=zdk hf h0 h1 hn g2
      have:k'=k:=by omega
      subst this; rfl
  · obtain ⟨o1,o2,o3,o4⟩:=off (b:=b) hb (k:Int)
    simp only [tab,yaZ,ycD,or_false] at he
    rcases he with rfl | rfl | rfl | rfl <;> simp only at h <;> omega
theorem zO4 {b:Bl} (hf:Fit b) {base n:Int} (hn:0≤n) {k:Nat} (h:zbm b base k=n):ofM b base n=(3,(k:Int)):=zRs hf hn (e:=⟨3,b.sorts.length,zc0,zbm b base⟩) (by simp [tab]) h
theorem zLg {b:Bl} (hf:Fit b) {base n:Int} (hn:0≤n) {k:Nat} (h:zej b base k=n):ofM b base n=(4,(k:Int)):=zRs hf hn (e:=⟨4,b.sorts.length,ze1,zej b base⟩) (by simp [tab]) h
theorem zBd {b:Bl} (hf:Fit b) {base n:Int} (hn:0≤n) {k:Nat} (h:zap b base k=n):ofM b base n=(5,(k:Int)):=zRs hf hn (e:=⟨5,b.cons.length,zb5,zap b base⟩) (by simp [tab]) h
theorem zDe {b:Bl} (hf:Fit b) {base n:Int} (hn:0≤n) {k:Nat} (h:za3 b base k=n):ofM b base n=(6,(k:Int)):=zRs hf hn (e:=⟨6,b.sorts.length,zb9,za3 b base⟩) (by simp [tab]) h
theorem zV1 {b:Bl} (hf:Fit b) {base n:Int} (hn:is64 n) (h:∀ e ∈ tab b base,∀ k:Nat,k<e.many→0≤n→e.of k ≠ n):ofM b base n=(0,0):=by
  by_cases hb:0≤base∧base≤65535
  · by_cases hr:base≤n∧n<base+zws b
    · obtain ⟨e,he,k,g1,g2,_⟩:=zYk hf hb.1 hb.2 hr.1 hr.2
      exact absurd g2 (h e he k g1 (by omega))
    · exact zXc hf hb.1 hn (by omega)
  · rw [ofM,if_pos (by omega)]
end
section
attribute [local simp] zaf zag tk tn tks zcl zcu
end
end
section
theorem Snd.seqF {nwI:Nw} {P:Program} {fn:Func} {res:List XRes} {w0:World} {x y:XCode} {st:S} (F:S→Prop) (h:∀ K:S→Prop,(∀ st',F st'→K st')→wpX P x (Ex.then K (Ends res [.bool true])) st) (k:∀ st',F st'→Snd P fn res w0 y st'):Snd P fn res w0 (.seq x y) st:=.seq (h _ k)
def VZ (js:List Nat) (st:S):Prop:=∀ j ∈ js,(st.h j).ver=0
def SI (j:Nat) (q:D→AV) (b:Bl) (st:S):Prop:=st.s j = .ptr j 1 0∧st.h j=⟨1,.box [q (eSos b.sorts),q (eCos b.cons),.d (.int .i64 b.elim)] false⟩
def SK (base k:Int) (st:S):Prop:=st.s 1 = .d (.int .i64 base)∧st.s 2 = .d (.int .i64 k)
def SO (j e:Nat) (q:D→AV) (t:T) (n:Int) (st:S):Prop:=st.s j = .ptr j 1 0∧st.h j=⟨1,.box [.d (.int .i64 t.kind),.d (.int .i64 t.num),q (.sl 3 (t.kids.map eT))] false⟩∧st.s e = .d (.int .i64 n)
def SP (j e:Nat) (t:T) (n:Int) (st:S):Prop:=st.s j = .ptr j 1 0∧(∃ c,st.h j=⟨1,.box [.d (.int .i64 t.kind),.d (.int .i64 t.num),c] false⟩∧(c = .d (.sl 3 (t.kids.map eT))∨(c = .fsl 3 []∧t.kids=[])))∧st.s e = .d (.int .i64 n)
theorem SI.old {j:Nat} {b:Bl} {st:S} (h:SI j .d b st):SI j (.n false) b (oldS st):=by
  obtain ⟨g7,g8⟩:=h
  simp [SI,oldS,oldE,oldA,Ev.D.flat,g7,g8,eSos,eCos]
theorem SK.old {base k:Int} {st:S} (h:SK base k st):SK base k (oldS st):=by
  obtain ⟨g7,g8⟩:=h
  simp [SK,oldS,oldE,oldA,Ev.D.flat,g7,g8]
theorem SI.aft {lim j:Nat} {b:Bl} {st:S} (hj:j<lim) (h:SI j (.n false) b st):SI j .d b (aftS lim st):=by
  obtain ⟨g7,g8⟩:=h
  simp [SI,aftS,aftE,zLd,Ev.D.flat,g7,g8,eSos,eCos,hj]
end
section
attribute [local simp] zaf zag tk tn tks
theorem zf7 (f:T) (l:List T) (hl:l.length≤100000000) (hf:okT f) (ho:okTs l):Pure Tryz.prog zau [.agg (cT f),eTs l] [.agg (cT (spT f l))]:=by
  refine zt4 rfl fun hs=>?_
  simp -dsimp [zht,cT,eTs]
  refine zaa (zir f hf) ?_
  simp -dsimp [cT]
  refine zah l.length (fun i st=>st.s 4 = .ptr 4 1 0∧st.h 4=⟨1,.box [.d (.int .i64 0),.d (.int .i64 0),.fsl 3 []] false⟩∧st.s 1 = .d (.sl 3 (l.map eT))∧st.s 6 = .d (.int .i64 i) ∧
    st.s 5 = .ptr 5 1 0 ∧ ∃ cs,st.h 5=⟨1,.box [.d (.int .i64 (spT f (l.take i)).kind),.d (.int .i64 (spT f (l.take i)).num),cs] false⟩∧(cs = .d (.sl 3 ((spT f (l.take i)).kids.map eT))∨cs = .fsl 3 ((spT f (l.take i)).kids.map eT))) ?_ ?_
  · simp -dsimp [spT]
  · rintro i ⟨s,hp⟩ hi ⟨g1,g2,g3,g4,g5,cs,g6,g7⟩
    dsimp only at g1 g2 g3 g4 g5 g6
    rcases ybm i l.length with hlt | hge
    · have w1:IntKind.i64.wrap ((i:Int)+1)=(i:Int)+1:=zab (by omega) (by omega)
      have hnx:spT f (l.take (i+1)) = .mk 6 0 [spT f (l.take i),l[i]]:=by
        have e:l.take (i+1)=l.take i ++ [l[i]]:=by rw [ycb,yar hlt]; rfl
        rw [spT,e,List.foldl_append]
        rfl
      rw [hnx]
      generalize spT f (l.take i)=Y at g6 g7
      have hnode:=zWe 6 [Y,l[i]] (by simp [zad])
      simp only [eTs,yaV,ycE,za4,cT,tk,tn,tks] at hnode
      rcases g7 with rfl | rfl
      all_goals
        simp -dsimp [g1,g2,g3,g4,g5,g6,hlt,cT]
        refine zaa (zir l[i] (ho.2 _ (yaf _))) ?_
        simp -dsimp [g1,g2,g3,g4,g5,g6,hlt,cT]
        refine zaa hnode ?_
        simp -dsimp [g1,g2,g3,g4,g5,g6,hlt,w1,za4,cT]
    · have e:i=l.length:=by omega
      subst e
      rw [yce] at g6 g7
      rcases g7 with rfl | rfl
      · simp -dsimp [g1,g2,g3,g4,g5,g6]
      · simp -dsimp [g1,g2,g3,g4,g5,g6]
theorem zSb (k:Int) (l:List T) (t:T) (hl:l.length≤100000000) (ht:okT t) (ho:okTs l):Pure Tryz.prog zi4 [.int .i64 k,eTs l,.agg (cT t)] [.agg (cT (zcq k l t))]:=by
  refine zvl rfl fun hs=>?_
  have w0:IntKind.i64.wrap ((l.length:Int) - 1)=(l.length:Int) - 1:=zab (by omega) (by omega)
  simp -dsimp [zil,cT,eTs]
  refine zaa (zir t ht) ?_
  simp -dsimp [cT,w0]
  refine zah l.length (fun i st=>st.s 6 = .ptr 6 1 0∧st.h 6=⟨1,.box [.d (.int .i64 0),.d (.int .i64 0),.fsl 3 []] false⟩∧st.s 0 = .d (.int .i64 k)∧st.s 1 = .d (.sl 3 (l.map eT))∧st.s 8 = .d (.int .i64 ((l.length:Int) - 1 - i)) ∧
    st.s 7 = .ptr 7 1 0 ∧ ∃ cs,st.h 7=⟨1,.box [.d (.int .i64 (zcq k (l.drop (l.length - i)) t).kind),.d (.int .i64 (zcq k (l.drop (l.length - i)) t).num),cs] false⟩ ∧
      (cs = .d (.sl 3 ((zcq k (l.drop (l.length - i)) t).kids.map eT))∨cs = .fsl 3 ((zcq k (l.drop (l.length - i)) t).kids.map eT))) ?_ ?_
  · simp -dsimp [zcq]
  · rintro i ⟨s,hp⟩ hi ⟨g1,g2,g3,g4,g5,g6,cs,g7,g8⟩
    dsimp only at g1 g2 g3 g4 g5 g6 g7
    rcases ybm i l.length with hlt | hge
    · obtain ⟨m,hm⟩:∃ m:Nat,l.length=m+1+i:=⟨l.length - 1 - i,by omega⟩
      have hmi:(l.length:Int) - 1 - i=(m:Int):=by omega
      have hml:m<l.length:=by omega
      have w1:IntKind.i64.wrap ((m:Int) - 1)=(l.length:Int) - 1 - ((i+1:Nat):Int):=by rw [zab (by omega) (by omega)]; omega
      have e1:l.length - i=m+1:=by omega
      have e2:l.length - (i+1)=m:=by omega
      have hnx:zcq k (l.drop m) t = .mk k 0 [l[m],zcq k (l.drop (m+1)) t]:=by
        rw [List.drop_eq_getElem_cons hml]
        rfl
      rw [hmi] at g5
      rw [e1] at g7 g8
      rw [e2,hnx]
      generalize zcq k (l.drop (m+1)) t=Y at g7 g8
      have hnode:=zWe k [l[m],Y] (by simp [zad])
      simp only [eTs,yaV,ycE,za4,cT,tk,tn,tks] at hnode
      rcases g8 with rfl | rfl
      all_goals
        simp -dsimp [g1,g2,g3,g4,g5,g6,g7,hml,cT]
        refine zaa (zir l[m] (ho.2 _ (yaf _))) ?_
        simp -dsimp [g1,g2,g3,g4,g5,g6,g7,hml,cT]
        refine zaa hnode ?_
        simp -dsimp [g1,g2,g3,g4,g5,g6,g7,hml,w1,za4,cT,hlt]
    · have e:i=l.length:=by omega
      subst e
      have e3:(l.length:Int) - 1 - (l.length:Int) = -1:=by omega
      rw [e3] at g5
      rw [ycy,List.drop_zero] at g7 g8
      rcases g8 with rfl | rfl
      · simp -dsimp [g1,g2,g3,g4,g5,g6,g7]
      · simp -dsimp [g1,g2,g3,g4,g5,g6,g7]
theorem zAv (l:List T) (t:T) (hl:l.length≤100000000) (ht:okT t) (hol:okTs l):Pure Tryz.prog zcw [eTs l,.agg (cT t)] [.agg (cT (zcq 4 l t))]:=by
  refine zwl rfl fun hs=>?_
  have h:=zSb 4 l t hl ht hol
  simp only [cT,eTs] at h
  simp -dsimp [zj6,cT,eTs]
  refine zaa h ?_
  simp -dsimp [cT]
theorem zmt (t:T):okT t→(spA t).length≤1000000→OwnC Tryz.prog za5 [.agg (cT t)] [.agg [.d (.int .i64 (spH t).kind),.d (.int .i64 (spH t).num),.d (.sl 3 ((spH t).kids.map eT))],.one (.row 3 ((spA t).reverse.map eT) false)]:=by
  refine T.ind (p:=fun t=>okT t→(spA t).length≤1000000→OwnC Tryz.prog za5 [.agg (cT t)] [.agg [.d (.int .i64 (spH t).kind),.d (.int .i64 (spH t).num),.d (.sl 3 ((spH t).kids.map eT))],.one (.row 3 ((spA t).reverse.map eT) false)]) ?_ t
  intro k n ks ih ho hb
  refine zp9 rfl fun hs=>?_
  by_cases hc:k=6 ∧ ∃ a b,ks=[a,b]
  · obtain ⟨rfl,a,b,rfl⟩:=hc
    rw [(zjl n a b).1,(zjl n a b).2]
    rw [(zjl n a b).1,yaS] at hb
    have h:=ih a (by simp) (ho.kids.2 a (by simp)) (by omega)
    have hb':=zir b (ho.kids.2 b (by simp))
    have hr:((spA a).length+1)*40≤zad:=by simp only [zad]; omega
    simp only [cT] at h hb'
    simp -dsimp [zeb,cT,za4]
    refine zcn h (by simp [za1,zb2,RV.cells]) ?_
    simp -dsimp [cT,za4]
    refine zaa hb' ?_
    simp -dsimp [cT,za4,hr]
  · rw [(zg4 hc).1,(zg4 hc).2]
    have htw:=zir (.mk k n ks) ho
    simp only [cT,tk,tn,tks] at htw
    simp -dsimp [zeb,cT]
    by_cases h6:k=6
    · have h2:¬ (ks.length:Int)=2:=fun h=>hc ⟨h6,by
        match ks,h with
        | [a,b],_=>exact ⟨a,b,rfl⟩
        | [],h=>simp at h
        | [_],h=>simp at h
        | _ :: _ :: _ :: _,h=>simp at h; omega⟩
      simp -dsimp [h6,h2]
      rw [h6] at htw
      refine zaa htw ?_
      simp -dsimp [cT,h6]
    · simp -dsimp [h6]
      refine zaa htw ?_
      simp -dsimp [cT]
theorem zPj (t:T) (hb:(piD t).length≤1000000) (h1:okT (piB t)) (h2:okTs (piD t)):Pure Tryz.prog zfc [.agg (cT t)] [eTs (piD t),.agg (cT (piB t))]:=by
  refine zsm rfl fun hs=>?_
  simp -dsimp [zhf,cT]
  refine zah (piD t).length (fun i st=>st.s 3 = .ptr 3 1 0∧st.h 3=⟨1,.box [.d (.int .i64 0),.d (.int .i64 0),.fsl 3 []] false⟩∧st.s 1 = .ptr 1 1 0 ∧ ∃ (cur:T) (L:List T),
    st.h 1=⟨1,.box [.d (.int .i64 cur.kind),.d (.int .i64 cur.num),.d (.sl 3 (cur.kids.map eT))] false⟩∧L ++ piD cur=piD t∧L.length=i∧piB cur=piB t ∧
    st.s 4 = .rsl 4 (1+i)∧st.h 4=⟨1+i,.row 3 (L.map eT) false⟩) ?_ ?_
  · simp -dsimp
    exact ⟨t,⟨rfl,rfl,rfl⟩,[],by simp⟩
  · rintro i ⟨s,hp⟩ hi ⟨g1,g2,g3,cur,L,g4,g5,g6,g7,g8,g9⟩
    dsimp only at g1 g2 g3 g4 g8 g9
    obtain ⟨k,n,ks⟩:=cur
    simp only [tk,tn,tks] at g4
    have hL:L.length≤(piD t).length:=by rw [← g5,yaF]; omega
    by_cases hc:k=4 ∧ ∃ a b,ks=[a,b]
    · obtain ⟨rfl,a,b,rfl⟩:=hc
      rw [(zJm n a b).1] at g5
      rw [(zJm n a b).2] at g7
      have hlt:i<(piD t).length:=by rw [← g5,yaF,yaS]; omega
      have hr:(L.length+1)*40≤zad:=by simp only [zad]; omega
      simp -dsimp [g1,g2,g3,g4,g8,g9,hr,za4,cT]
      refine zaa (zir a (h2.2 a (by rw [← g5]; simp))) ?_
      simp -dsimp [g1,g2,g3,g4,g8,g9,hr,za4,cT]
      exact ⟨hlt,b,⟨rfl,rfl,rfl⟩,L ++ [a],by simp [g5],by simp [g6],g7,by omega,by simp [za4,cT]⟩
    · have e1:=zMu (n:=n) hc
      rw [e1.1,ybp] at g5
      rw [e1.2] at g7
      subst g5
      rw [← g7] at h1
      have htw:=zir _ h1
      simp only [cT,tk,tn,tks] at htw
      by_cases h4:k=4
      · have h2':¬ (ks.length:Int)=2:=fun h=>hc ⟨h4,by
          match ks,h with
          | [a,b],_=>exact ⟨a,b,rfl⟩
          | [],h=>simp at h
          | [_],h=>simp at h
          | _ :: _ :: _ :: _,h=>simp at h; omega⟩
        rw [h4] at htw g4 g7
        simp -dsimp [g1,g2,g3,g4,g8,g9,h4,h2']
        refine zaa htw ?_
        simp -dsimp [g1,g2,g3,g4,g8,g9,cT,← g7,eTs]
      · simp -dsimp [g1,g2,g3,g4,g8,g9,h4]
        refine zaa htw ?_
        simp -dsimp [g1,g2,g3,g4,g8,g9,cT,← g7,eTs]
theorem zJd (n:Nat) (hn:n≤65536):Pure Tryz.prog zft [.int .i64 n] [eTs (zdy n)]:=by
  refine zu3 rfl fun hs=>?_
  have w0:IntKind.i64.wrap ((n:Int) - 1)=(n:Int) - 1:=zab (by omega) (by omega)
  simp -dsimp [zjh,w0]
  refine zah n (fun i st=>st.s 2 = .rsl 2 1∧st.h 2=⟨1,.row 3 [] false⟩∧st.s 0 = .d (.int .i64 n)∧st.s 4 = .d (.int .i64 ((n:Int) - 1 - i))∧st.s 3 = .rsl 3 (1+i)∧st.h 3=⟨1+i,.row 3 (((zdy n).take i).map eT) false⟩) ?_ ?_
  · simp -dsimp
  · rintro i ⟨s,hp⟩ hi ⟨g1,g2,g3,g4,g5,g6⟩
    dsimp only at g1 g2 g3 g4 g5 g6
    have hvl:=zmb n
    rcases ybm i n with hlt | hge
    · have w1:IntKind.i64.wrap ((n:Int) - 1 - i - 1)=(n:Int) - 1 - ((i+1:Nat):Int):=by rw [zab (by omega) (by omega)]; omega
      have q1:(0:Int)≤(n:Int) - 1 - i:=by omega
      have q1':(i:Int)≤(n:Int) - 1:=by omega
      have q2:(n:Int)≤65536:=by omega
      have hg:=zG9 n i (by omega)
      have hr:(min i n+1)*40≤zad:=by simp only [zad]; omega
      have htk:((zdy n).take (i+1)).map eT=((zdy n).take i).map eT ++ [.agg (cT (.mk 1 ((n:Int) - 1 - i) []))]:=by
        rw [zce (yar (by omega:i<(zdy n).length)),hg,List.map_append]
        simp [za4,tV]
      rw [htk]
      simp -dsimp [g1,g2,g3,g4,g5,g6,q1,q1',q2]
      refine zaa (zQt _) ?_
      simp -dsimp [g1,g2,g3,g4,g5,g6,q1,q1',q2,hvl,hr,w1,cT,hlt]
      omega
    · have e:i=n:=by omega
      subst e
      have q1:¬ (0:Int)≤(i:Int) - 1 - i:=by omega
      have q1':¬ (i:Int)≤(i:Int) - 1:=by omega
      have ht:(zdy i).take i=zdy i:=ycd (by omega)
      rw [ht] at g6
      simp -dsimp [g1,g2,g3,g4,g5,g6,q1,q1',eTs]
end
end Ev
end Go.Proofs.YtncmainjcffanaaGreat
