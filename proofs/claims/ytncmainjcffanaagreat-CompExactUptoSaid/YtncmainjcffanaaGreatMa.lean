/- Texts of this claim, in one. -/
import Derived.Test.YtncmainjcffanaaGreatSA
import Derived.WalkKit
import Derived.Deep.Heap
import Derived.Test.YtncmainjcffanaaGreatXs
import Derived.Test.YtncmainjcffanaaGreatRA
set_option maxRecDepth 100000
set_option linter.unusedSimpArgs false
set_option linter.unusedVariables false
open List renaming all_eq_true→yaC,append_nil→ybp,findIdx?_eq_none_iff→ycj,findIdx?_eq_some_iff_getElem→ych,foldr_cons→ycm,getElem?_append_right→ybW,getElem?_eq_getElem→yar,getElem?_eq_none→ybB,getElem?_eq_some_iff→yae,getElem?_map→yau,getElem_cons_succ→ycB,getElem_cons_zero→ycz,getElem_map→yco,getElem_mem→yaf,length_eq_zero_iff→ycF,length_map→ycn,map_append→ycI,map_cons→yaV,map_nil→ycG,mem_append→yaY,mem_cons→yaZ,mem_iff_getElem?→ybD,mem_of_getElem?→yas,mem_take_iff_getElem→yci,ne_nil_of_length_pos→ycK,nil_append→ycu,not_mem_nil→ycD,replicate→yaa,replicate_zero→ycp,take_add_one→ycc,take_length→ycf,take_of_length_le→yce,take_succ_cons→ycC,take_zero→ycE
open Nat renaming decEq→ycA,eq_zero_of_not_pos→ybV,eq_zero_or_pos→yaj,le_refl→yab,le_trans→yac,lt_of_lt_of_le→yad,lt_or_ge→ybm,sub_self→ycy,zero_add→ybj,zero_le→yaR
open Int renaming add_zero→ycL,toNat_natCast→ycM
open Option renaming getD_some→ybG,map_eq_some_iff→yaG,map_some→yak
open Bool renaming and_eq_true→ybJ,eq_iff_iff→ycJ,false_eq_true→yao,or_eq_false_iff→ycx,or_eq_true→ybM,or_true→ycH
open Array renaming getD_eq_getD_getElem?→yaw,getElem?_eq_some_iff→yay,getElem?_toList→yav,replicate→ybQ
namespace Go.Proofs.YtncmainjcffanaaGreat
namespace Ev
open Go
section
attribute [local simp] zaf zai tk tn tks
theorem zDn (l:List T) (hl:l.length*40≤140737488351232) (h:∀ x ∈ l,zi0 Tryz.prog zc3 [.agg (cT x)] [.agg (cT x)]):zi0 Tryz.prog zjd [eTs l] [eTs l]:=by
  refine zds true hm Tryz.func127 zr3 rfl fun hs n=>?_
  simp -dsimp [zjk,eTs]
  by_cases hz:l=[]
  · subst hz
    simp -dsimp
  simp -dsimp [hz]
  have r1:(l.length:Int)*40≤(zae:Int):=by simp only [zae]; omega
  have r2:l.length≤zae:=by simp only [zae]; omega
  simp -dsimp [hz,r1,r2]
  refine zaj l.length (fun i st=>st.s 0 = .d (.sl 3 (l.map eT))∧st.s 3 = .rsl 10 1∧st.s 12 = .d (.int .i64 l.length)∧st.s 13 = .d (.int .i64 i) ∧
    st.h 10=⟨1,.row 3 ((l.map eT).take i ++ yaa (l.length - i) (D.agg [.int .i64 0,.int .i64 0,.sl 3 []])) false⟩) ?_ ?_
  · simp -dsimp
  · rintro i ⟨s,hp⟩ hi ⟨g1,g2,g3,g4,g5⟩
    dsimp only at g1 g2 g3 g4 g5
    rcases ybm i l.length with hlt | hge
    · have w1:IntKind.i64.wrap ((i:Int)+1)=(i:Int)+1:=zad (by omega) (by omega)
      simp -dsimp [g1,g2,g3,g4,g5,hlt,cT]
      refine zcm (h l[i] (yaf _)) ?_
      have q1:(i:Int)<((min i l.length:Nat):Int)+((l.length - i:Nat):Int):=by omega
      have q2:i<min i l.length+(l.length - i):=by omega
      have hle:(l.map eT).length=l.length:=ycn ..
      have hfn:=zj4 (l:=l.map eT) (z:=D.agg [.int .i64 0,.int .i64 0,.sl 3 []]) (i:=i) (by rw [hle]; exact hlt)
      have hel:(l.map eT)[i]'(by rw [hle]; exact hlt) = .agg (cT l[i]):=by rw [yco,zb4]
      rw [hel,hle] at hfn
      simp only [cT] at hfn
      simp -dsimp [g1,g2,g3,g4,g5,hlt,w1,q1,q2,cT,hfn]
    · have e:i=l.length:=by omega
      subst e
      have ht:(l.map eT).take l.length=l.map eT:=yce (by rw [ycn]; exact yab _)
      rw [ht,ycy,ycp,ybp] at g5
      simp -dsimp [g1,g2,g3,g4,g5]
theorem zA7 (t:T):okT t→zi0 Tryz.prog zc3 [.agg (cT t)] [.agg (cT t)]:=by
  refine T.ind (p:=fun t=>okT t→zi0 Tryz.prog zc3 [.agg (cT t)] [.agg (cT t)]) ?_ t
  intro k n ks ih h
  obtain ⟨h1,h2⟩:=h.kids
  refine zds false hm Tryz.func62 ztb rfl fun hs n=>?_
  simp -dsimp [zkm,cT]
  refine zcm (zDn ks h1 fun x hx=>ih x hx (h2 x hx)) ?_
  simp -dsimp [eTs]
end
section
structure Chg (St:Nat→Nat) (w w':World):Prop where
  os:w'.os=w.os
  tape:w'.tape=w.tape
  output:w'.output=w.output
  size:w.heap.size≤w'.heap.size
  block:∀ b,b<w.heap.size→St b=0→w'.heap[b]? = w.heap[b]?
  free:∀ b,zgv w b→zgv w' b
  cell:∀ b i v,b<w.heap.size→w.cell? ⟨b,i,none⟩=some v → ∃ v',w'.cell? ⟨b,i,none⟩=some v'∧(v'=v ∨ ∃ k n n',v = .int k n∧v' = .int k n')
theorem Chg.refl (St:Nat→Nat) (w:World):Chg St w w:=⟨rfl,rfl,rfl,yab _,fun _ _ _=>rfl,fun _ h=>h,fun b i v _ h=>⟨v,h,.inl rfl⟩⟩
theorem Chg.trans {St:Nat→Nat} {w w' w'':World} (h:Chg St w w') (k:Chg St w' w''):Chg St w w'' :=
  ⟨k.os.trans h.os,k.tape.trans h.tape,k.output.trans h.output,yac h.size k.size,fun b hb h0=>(k.block b (yad hb h.size) h0).trans (h.block b hb h0),fun b hb=>k.free b (h.free b hb),fun b i v hb hv=>by
    obtain ⟨v1,h1,h2⟩:=h.cell b i v hb hv
    obtain ⟨v2,k1,k2⟩:=k.cell b i v1 (yad hb h.size) h1
    refine ⟨v2,k1,?_⟩
    rcases h2 with rfl | ⟨q,n,n',rfl,rfl⟩
    · exact k2
    · rcases k2 with rfl | ⟨q',m,m',e,rfl⟩
      · exact .inr ⟨q,n,n',rfl,rfl⟩
      · cases e
        exact .inr ⟨q,n,m',rfl,rfl⟩⟩
theorem Chg.of_below {St:Nat→Nat} {w w':World} (h:RowKit.Below w.heap.size w w'):Chg St w w' :=
  ⟨h.os,h.tape,h.output,h.size,fun b hb _=>h.block b hb,fun b hf=>hf.eq (h.block b (by obtain ⟨_,_,hh⟩:=hf; exact (yay.1 hh).1)),fun b i v hb hv=>⟨v,(World.cell?_of_block (w:=w) (a:=⟨b,i,none⟩) (h.block b hb)).trans hv,.inl rfl⟩⟩
theorem zuj {α:Type} {Q:Nat→α→Prop}:∀ n,(∀ i,i<n → ∃ x,Q i x) → ∃ l:List α,l.length=n ∧ ∀ i (h:i<l.length),Q i l[i]
  | 0,_=>⟨[],rfl,fun i h=>by simp at h⟩
  | n+1,h=>by
    obtain ⟨l,hl,hq⟩:=zuj n fun i hi=>h i (by omega)
    obtain ⟨x,hx⟩:=h n (by omega)
    refine ⟨l ++ [x],by simp [hl],fun i hi=>?_⟩
    simp only [List.length_append,List.length_singleton] at hi
    rcases ybm i l.length with hlt | hge
    · rw [List.getElem_append_left hlt]; exact hq i hlt
    · have e:i=l.length:=by omega
      subst e
      rw [List.getElem_append_right (yab _)]
      simp only [ycy,ycz]
      rw [hl]; exact hx
def zEe (l:List T):Prop:=∀ (St S0:Nat→Nat) (w w':World) (v:Value),(∀ b,0<St b→b<w.heap.size)→Rel St w v (.sl 3 (l.map eT))→Chg S0 w w' → ∃ l':List T,l'.map zac=l.map zac∧Rel St w' v (.sl 3 (l'.map eT))
theorem zAs (l:List T) (ih:∀ x ∈ l,zEe x.kids):zEe l:=by
  intro St S0 w w' v hst hr hc
  generalize hm:l.map eT=ml at hr
  have hll:ml.length=l.length:=by rw [← hm]; exact ycn ..
  cases hr with
  | sl A cap _ b off _ hcp hmx hs ha val hv h1 hr =>
    have hget:∀ i,(hi:i<l.length)→ml[i]? = some (.agg (cT l[i])):=fun i hi=>by rw [← hm,yau,yar hi,yak,zb4]
    have hblk:0<l.length→b<w.heap.size:=fun hp=>hst b (by have:=(ha (by omega)).2; omega)
    have hone:∀ i,i<l.length → ∃ t':T,zac t'=zac (l[i]?.getD (.mk 0 0 [])) ∧ ∀ j c,(cT t')[j]? = some c → ∃ u,w'.cell? ⟨b,off+i*3+j,none⟩=some u∧u.oneCell'=true∧Rel St w' u c:=by
      intro i hi
      have hx:=hget i hi
      obtain ⟨x,hxe⟩:∃ x,l[i]=x:=⟨_,rfl⟩
      have hxm:x ∈ l:=by rw [← hxe]; exact yaf _
      rw [hxe] at hx
      rw [yar hi,hxe,ybG]
      have ihx:=ih x hxm
      obtain ⟨k,n,ks⟩:=x
      simp only [T.kids] at ihx
      have c0:=hv i _ hx 0 (.int .i64 k) rfl
      have c1:=hv i _ hx 1 (.int .i64 n) rfl
      have c2:=hv i _ hx 2 (.sl 3 (ks.map eT)) rfl
      have r0:=hr i _ hx 0 (.int .i64 k) rfl
      have r1:=hr i _ hx 1 (.int .i64 n) rfl
      have r2:=hr i _ hx 2 (.sl 3 (ks.map eT)) rfl
      have hb:=hblk (by omega)
      generalize val i 0=v0 at c0 r0
      generalize val i 1=v1 at c1 r1
      generalize val i 2=v2 at c2 r2
      cases r0
      cases r1
      obtain ⟨u0,d0,e0⟩:=hc.cell b _ _ hb c0
      obtain ⟨u1,d1,e1⟩:=hc.cell b _ _ hb c1
      obtain ⟨u2,d2,e2⟩:=hc.cell b _ _ hb c2
      obtain ⟨k',rfl⟩:∃ k',u0 = .int .i64 k':=by
        rcases e0 with rfl | ⟨_,_,n',h,rfl⟩
        · exact ⟨_,rfl⟩
        · cases h; exact ⟨n',rfl⟩
      obtain ⟨n',rfl⟩:∃ n',u1 = .int .i64 n':=by
        rcases e1 with rfl | ⟨_,_,n',h,rfl⟩
        · exact ⟨_,rfl⟩
        · cases h; exact ⟨n',rfl⟩
      have hu2:u2=v2:=by
        rcases e2 with rfl | ⟨_,_,_,h,_⟩
        · rfl
        · rw [h] at r2; cases r2
      subst hu2
      obtain ⟨ks',hk',rk⟩:=ihx St S0 w w' u2 hst r2 hc
      refine ⟨.mk k' n' ks',?_,fun j c hj=>?_⟩
      · rw [zac,zac,hk']
      · match j,hj with
        | 0,hj=>cases hj; exact ⟨_,d0,rfl,.int _ _⟩
        | 1,hj=>cases hj; exact ⟨_,d1,rfl,.int _ _⟩
        | 2,hj=>cases hj; exact ⟨_,d2,by cases rk; rfl,rk⟩
    obtain ⟨l',hl',hq⟩:=zuj l.length hone
    refine ⟨l',?_,?_⟩
    · refine List.ext_getElem (by simp [hl']) fun i h1 h2=>?_
      simp only [ycn] at h1 h2
      have:=(hq i h1).1
      rw [yar (by omega),ybG] at this
      simpa using this
    · have hl2:(l'.map eT).length=ml.length:=by rw [ycn,hl',hll]
      have hgl:∀ i,(hi:i<l'.length)→(l'.map eT)[i]? = some (.agg (cT l'[i])):=fun i hi=>by rw [yau,yar hi,yak,zb4]
      have hcell:∀ i x,(l'.map eT)[i]? = some x → ∀ j c,x.cells[j]? = some c → ∃ u,w'.cell? ⟨b,off+i*3+j,none⟩=some u∧u.oneCell'=true∧Rel St w' u c:=by
        intro i x hx j c hj
        have hi:i<l'.length:=by have:=(yae.1 hx).1; simpa using this
        rw [hgl i hi] at hx
        cases hx
        exact (hq i hi).2 j c hj
      rw [← hl2]
      refine .sl A cap 3 b off _ (by omega) (by omega) (fun x hx=>?_) (fun hp=>by rw [hl2] at hp ⊢; exact ha hp) (fun i j=>(w'.cell? ⟨b,off+i*3+j,none⟩).getD undef) (fun i x hx j c hj=>?_) (fun i x hx j c hj=>?_) (fun i x hx j c hj=>?_)
      · obtain ⟨y,_,rfl⟩:=List.mem_map.1 hx
        rw [zmy]; rfl
      · obtain ⟨u,h1,_⟩:=hcell i x hx j c hj
        rw [h1]; rfl
      · obtain ⟨u,h1,h2,_⟩:=hcell i x hx j c hj
        rw [h1]; exact h2
      · obtain ⟨u,h1,_,h3⟩:=hcell i x hx j c hj
        rw [h1]; exact h3
theorem zBc (l:List T):zEe l:=zAs l fun x _=>by
  have key:∀ t:T,zEe t.kids:=fun t=>by
    refine T.ind (p:=fun t=>zEe t.kids) ?_ t
    intro k n ks ih
    exact zAs ks ih
  exact key x
end
section
open Go.RowKit (Hid)
def zv3 (t:T):Prop:=∀ (St:Nat→Nat) (w:World) (v:Value),(∀ b,0<St b→b<w.heap.size∧zgv w b)→Rel St w v (.agg (cT t))→Calls Tryz.prog zcy #[v] w fun e w'=>e = .returned (.tuple #[])∧Chg St w w'
theorem zM1 {St:Nat→Nat} {w:World} {b off len cap q:Nat} {l:List T} (h:Rel St w (.slice (some ⟨b,off,none⟩) len cap) (.sl 3 (l.map eT))) (hl:l.length=len) (hq:q<len) :
    ∃ k1 n1 v1 t1,l[q]? = some t1∧w.cell? ⟨b,off+q*3,none⟩=some (.int .i64 k1)∧w.cell? ⟨b,off+q*3+1,none⟩=some (.int .i64 n1)∧w.cell? ⟨b,off+q*3+2,none⟩=some v1∧Rel St w (.agg #[.int .i64 k1,.int .i64 n1,v1]) (.agg (cT t1)):=by
  generalize hm:l.map eT=ml at h
  have hll:ml.length=l.length:=by rw [← hm]; exact ycn ..
  cases h with
  | sl _ _ _ b' off' _ hc hm' hs ha val hv h1 hr =>
    obtain ⟨hA,_⟩:=ha (by omega)
    simp only [Option.some.injEq,Addr.mk.injEq,and_true] at hA
    obtain ⟨rfl,rfl⟩:=hA
    have hql:q<l.length:=by rw [hl]; exact hq
    have hx:ml[q]? = some (.agg (cT (l[q]'hql))):=by rw [← hm,yau,yar hql,yak,zb4]
    have c0:=hv q _ hx 0 _ rfl
    have c1:=hv q _ hx 1 _ rfl
    have c2:=hv q _ hx 2 _ rfl
    have r0:=hr q _ hx 0 _ rfl
    have r1:=hr q _ hx 1 _ rfl
    have r2:=hr q _ hx 2 _ rfl
    generalize val q 0=u0 at c0 r0
    generalize val q 1=u1 at c1 r1
    cases r0
    cases r1
    refine ⟨_,_,_,l[q]'hql,yar hql,by simpa using c0,c1,c2,.agg _ _ rfl fun j c hj=>?_⟩
    match j,hj with
    | 0,hj=>cases hj; exact .int _ _
    | 1,hj=>cases hj; exact .int _ _
    | 2,hj=>cases hj; exact r2
theorem Chg.set {St:Nat→Nat} {w:World} {b i:Nat} {k:IntKind} {n n':Int} (h0:0<St b) (hf:zgv w b) (hv:w.cell? ⟨b,i,none⟩=some (.int k n)):Chg St w (w.setCell ⟨b,i,none⟩ (.int k n')).drew:=by
  have ho:∀ c,c ≠ b→(w.setCell ⟨b,i,none⟩ (.int k n')).heap[c]? = w.heap[c]?:=fun c hc=>Go.Deep.blk_setCell_other _ _ _ _ hc
  refine ⟨rfl,rfl,rfl,Nat.le_of_eq (Go.Deep.nblk_setCell _ _ _).symm,fun c _ h=>ho c (fun e=>by subst e; omega),fun c hc=>?_,fun c j v _ hj=>?_⟩
  · rcases ycA c b with hne | rfl
    · exact hc.eq (ho c hne)
    · obtain ⟨arr,el,hh⟩:=hf
      refine ⟨arr.setIfInBounds i (.int k n'),el,?_⟩
      show (w.heap.modify c _)[c]? = _
      rw [Array.getElem?_modify,if_pos rfl,hh]
      rfl
  · show ∃ v',(w.setCell ⟨b,i,none⟩ (.int k n')).cell? ⟨c,j,none⟩=some v'∧_
    rcases ycA c b with hne | rfl
    · exact ⟨v,(World.cell?_of_block (w:=w) (a:=⟨c,j,none⟩) (ho c hne)).trans hj,.inl rfl⟩
    · rcases ycA j i with hne | rfl
      · exact ⟨v,(World.cell?_setCell_other w _ _ _ (by simp only [ne_eq,Addr.mk.injEq,true_and,and_true]; omega)).trans hj,.inl rfl⟩
      · rw [hv] at hj; cases hj
        exact ⟨_,World.cell?_setCell_same w _ _ hv,.inr ⟨_,_,_,rfl,rfl⟩⟩
theorem zvf:∀ {l:List Nat} {x:Nat},x ∈ l→x≤l.sum
  | a :: l,x,h=>by
    rcases yaZ.1 h with rfl | h
    · simp
    · have:=zvf h
      simp; omega
theorem zGs {k n:Int} {ks ks':List T} {q:Nat} {t1:T} (h:ks'[q]? = some t1) (hk:ks'.map zac=ks.map zac):zac t1<zac (.mk k n ks):=by
  rw [zac,← hk]
  have:=zvf (List.mem_map_of_mem (f:=zac) (yas h))
  omega
theorem zEy (t:T) (ih:∀ t',zac t'<zac t→zv3 t'):zv3 t:=by
  intro St w v hst hr
  obtain ⟨k,n,ks⟩:=t
  obtain ⟨v2,rfl,r2⟩:∃ v2,v = .agg #[.int .i64 k,.int .i64 n,v2]∧Rel St w v2 (.sl 3 (ks.map eT)):=by
    cases hr with
    | agg vs _ hn hr =>
      refine ⟨vs.getD 2 undef,?_,hr 2 _ rfl⟩
      have h0:=hr 0 _ rfl
      have h1:=hr 1 _ rfl
      have hs:vs = #[vs.getD 0 undef,vs.getD 1 undef,vs.getD 2 undef]:=by
        have hn3:vs.size=3:=by simpa [cT] using hn
        apply Array.ext
        · simp [hn3]
        · intro i h1 h2
          have:i=0∨i=1∨i=2:=by omega
          rcases this with rfl | rfl | rfl <;> simp [Array.getD,hn3]
      generalize vs.getD 0 undef=u0 at hs h0
      generalize vs.getD 1 undef=u1 at hs h1
      cases h0
      cases h1
      exact congrArg Value.agg hs
  obtain ⟨len,hlen⟩:∃ len,len=ks.length:=⟨_,rfl⟩
  obtain ⟨A,cap,rfl⟩:∃ A cap,v2 = .slice A len cap:=by
    generalize hm:ks.map eT=ml at r2
    have hll:ml.length=ks.length:=by rw [← hm]; exact ycn ..
    cases r2
    exact ⟨_,_,by rw [hll,hlen]⟩
  have hmx:len≤9223372036854775807:=by
    generalize hm:ks.map eT=ml at r2
    have hll:ml.length=ks.length:=by rw [← hm]; exact ycn ..
    cases r2 with
    | sl _ _ _ b off _ hc hm'=>omega
  rcases yaj len with h0 | hpos
  · subst h0
    clear hlen
    go_enter Tryz.func21,Tryz.ntmps21
    go_wp2
    refine wp_loop_rounds 1 ?_
    rw [rounds_succ]
    go_wp2
    go_end0
    exact ⟨rfl,.of_below ((RowKit.Below.refl _ _).alloc (yab _) _)⟩
  obtain ⟨b,off,rfl,hroom⟩:∃ b off,A=some ⟨b,off,none⟩∧off+len*3≤St b:=by
    generalize hm:ks.map eT=ml at r2
    have hll:ml.length=ks.length:=by rw [← hm]; exact ycn ..
    cases r2 with
    | sl _ _ _ b off _ hc hm' hs ha =>
      obtain ⟨h1,h2⟩:=ha (by omega)
      exact ⟨b,off,h1,by rw [hlen,← hll]; exact h2⟩
  have hks:Hid (len=ks.length):=hlen
  clear hlen
  go_enter Tryz.func21,Tryz.ntmps21
  go_wp2
  go_loopw [2] (fun iv wr=>∃ (q:Nat),q≤len∧iv = .int .i64 q∧Hid (Chg St w wr)∧wr.heap[w.heap.size]? = some (.cells #[.int .i64 k,.int .i64 n,.slice (some ⟨b,off,none⟩) len cap] 28 (0,0))) (fun iv _=>len - (RowKit.intOf iv).toNat)
  case atStart=>exact ⟨0,yaR _,rfl,Chg.of_below ((RowKit.Below.refl _ _).alloc (yab _) _),heap_alloc_new w _⟩
  case round =>
    obtain ⟨q,hq,rfl,hc,hbox⟩:=hrel
    have g2:wr.cell? ⟨w.heap.size,2,none⟩=some (.slice (some ⟨b,off,none⟩) len cap):=by simp [World.cell?,hbox]
    have hst0:St w.heap.size=0:=ybV fun hp=>by have:=(hst _ hp).1; omega
    rcases ybm q len with hlt | hge
    · obtain ⟨ks',hk',rk⟩:=zBc ks St St w wr _ (fun b hb=>(hst b hb).1) r2 hc.out
      have hkl:ks'.length=len:=by
        have:=congrArg List.length hk'
        simp only [ycn] at this
        rw [this,hks.out]
      obtain ⟨k1,n1,v1,t1,hn1,c0,c1,c2,rt⟩:=zM1 rk hkl hlt
      have hbw:b<wr.heap.size:=yad (hst b (by omega)).1 hc.out.size
      have hnt:zac t1<zac (T.mk k n ks):=zGs hn1 hk'
      have hcall:=ih t1 hnt St wr _ (fun b hb=>⟨yad (hst b hb).1 hc.out.size,hc.out.free b (hst b hb).2⟩) rt
      go_wp2_with (go_at_call 21; refine hcall.mono ?_; rintro e w1 ⟨rfl,hc1⟩)
      have hc2:=hc.out.trans hc1
      obtain ⟨n2,hn2⟩:∃ n2,w1.cell? ⟨b,off+q*3+1,none⟩=some (.int .i64 n2):=by
        obtain ⟨u,h1,h2⟩:=hc1.cell b _ _ hbw c1
        rcases h2 with rfl | ⟨_,_,n',he,rfl⟩
        · exact ⟨_,h1⟩
        · cases he; exact ⟨n',h1⟩
      have hbox1:w1.heap[w.heap.size]? = some (.cells #[.int .i64 k,.int .i64 n,.slice (some ⟨b,off,none⟩) len cap] 28 (0,0)):=(hc1.block _ (yay.1 hbox).1 hst0).trans hbox
      have g3:w1.cell? ⟨w.heap.size,2,none⟩=some (.slice (some ⟨b,off,none⟩) len cap):=by simp [World.cell?,hbox1]
      have hfz:w1.frozen? ⟨b,off+q*3+1,none⟩=false:=by
        obtain ⟨arr,el,hh⟩:=hc2.free b (hst b (by omega)).2
        simp [World.frozen?,hh]
      clear c0 c1 c2 rt hcall hbox g2 rk hr r2
      have hcH:Hid (Chg St w w1):=hc2
      have hbH:Hid (w1.heap[w.heap.size]? = some (.cells #[.int .i64 k,.int .i64 n,.slice (some ⟨b,off,none⟩) len cap] 28 (0,0))):=hbox1
      clear hc1 hc2 hbox1
      go_region
      all_goals (try go_wp2)
      have hneb:w.heap.size ≠ b:=fun e=>by rw [← e] at hroom; omega
      refine ⟨⟨q+1,hlt,by simp,hcH.out.trans (Chg.set (by omega) (hcH.out.free b (hst b (by omega)).2) hn2),?_⟩,by simp [RowKit.intOf]; omega⟩
      exact (Go.Deep.blk_setCell_other _ _ _ _ hneb).trans hbH.out
    · go_wp2
      go_end0
      exact ⟨rfl,hc.out⟩
theorem zF3 (t:T):zv3 t:=by
  have key:∀ n,∀ t,zac t<n→zv3 t:=fun n=>by
    induction n with
    | zero=>intro t h; omega
    | succ n ih=>exact fun t h=>zEy t fun t' h'=>ih t' (by omega)
  exact key _ t (Nat.lt_succ_self _)
end
section
open Go.RowKit (Hid)
end
section
section
variable {P:Program}
theorem zGa {o:Oper} {f:Opd} {args:List Opd} (hcop:cop P o=some (.call f args)) :
    ∃ (c:Call) (f':Operand) (al:List Operand) (ts:List TypeId),o.op = .call c∧c.callee = .value f'∧c.args.toList=al∧al.length=ts.length∧f=copd P 0 f'∧args=(al.zip ts).map fun p=>copd P p.2 p.1:=by
  unfold cop at hcop
  split at hcop
  case h_21 c ho =>
    obtain ⟨cal,as_,ts⟩:=c
    simp only at hcop
    split at hcop
    · obtain ⟨e,he,hh⟩:=map_some hcop; cases hh
    · split at hcop
      · obtain ⟨e,he,hcop⟩:=bind_some hcop
        obtain ⟨sz,hn,hcop⟩:=bind_some hcop
        obtain ⟨b,hb,hcop⟩:=bind_some hcop
        split at hcop
        · cases hcop
        · cases hcop
      · cases hcop
    · cases hcop
    · cases hcop
    · rename_i f'
      split at hcop
      · rename_i hl
        cases hcop
        exact ⟨_,f',as_.toList,ts.toList,ho,rfl,rfl,hl,rfl,rfl⟩
      · cases hcop
    · cases hcop
  all_goals first
    | (cases hcop; done)
    | (obtain ⟨_,_,hcop⟩:=bind_some hcop; obtain ⟨_,_,hcop⟩:=bind_some hcop; obtain ⟨_,_,hcop⟩:=bind_some hcop; split at hcop <;> cases hcop; done)
    | (obtain ⟨_,_,hcop⟩:=bind_some hcop; obtain ⟨_,_,hcop⟩:=map_some hcop; cases hcop; done)
    | (obtain ⟨_,_,hcop⟩:=map_some hcop; cases hcop; done)
    | (split at hcop <;> first
        | (cases hcop; done)
        | (obtain ⟨_,_,hcop⟩:=map_some hcop; cases hcop; done)
        | (split at hcop <;> first
            | (cases hcop; done)
            | (obtain ⟨_,_,hcop⟩:=bind_some hcop; obtain ⟨_,_,hcop⟩:=map_some hcop; cases hcop; done)
            | (obtain ⟨_,_,hcop⟩:=bind_some hcop; obtain ⟨_,_,hcop⟩:=bind_some hcop; obtain ⟨_,_,hcop⟩:=bind_some hcop; obtain ⟨_,_,hcop⟩:=bind_some hcop; split at hcop <;> cases hcop; done))
        | (obtain ⟨_,_,hcop⟩:=bind_some hcop; obtain ⟨_,_,hcop⟩:=bind_some hcop; split at hcop <;> cases hcop; done)
        | (obtain ⟨_,_,hcop⟩:=bind_some hcop; obtain ⟨_,_,hcop⟩:=bind_some hcop; obtain ⟨_,_,hcop⟩:=map_some hcop; cases hcop; done))
theorem zHp {o:Oper} {n:Nat} {g:Bool} {j:Nat} (hcop:cop P o=some (.load n g (.t j))):∃ t,o.op = .load t (.tmp j)∧sz? P t=some n∧ag? P t=some g:=by
  unfold cop at hcop
  split at hcop
  case h_6 t x ho =>
    obtain ⟨n',hn,hcop⟩:=bind_some hcop
    obtain ⟨g',hg,hcop⟩:=map_some hcop
    cases x <;> cases hcop
    exact ⟨t,ho,hn,hg⟩
  all_goals first
    | (cases hcop; done)
    | (obtain ⟨_,_,hcop⟩:=bind_some hcop; obtain ⟨_,_,hcop⟩:=bind_some hcop; obtain ⟨_,_,hcop⟩:=bind_some hcop; split at hcop <;> cases hcop; done)
    | (obtain ⟨_,_,hcop⟩:=bind_some hcop; obtain ⟨_,_,hcop⟩:=map_some hcop; cases hcop; done)
    | (obtain ⟨_,_,hcop⟩:=map_some hcop; cases hcop; done)
    | (split at hcop <;> first
        | (cases hcop; done)
        | (obtain ⟨_,_,hcop⟩:=map_some hcop; cases hcop; done)
        | (obtain ⟨_,_,hcop⟩:=bind_some hcop; obtain ⟨_,_,hcop⟩:=map_some hcop; cases hcop; done)
        | (split at hcop <;> first
            | (cases hcop; done)
            | (obtain ⟨_,_,hcop⟩:=map_some hcop; cases hcop; done)
            | (obtain ⟨_,_,hcop⟩:=bind_some hcop; obtain ⟨_,_,hcop⟩:=map_some hcop; cases hcop; done)
            | (obtain ⟨_,_,hcop⟩:=bind_some hcop; obtain ⟨_,_,hcop⟩:=bind_some hcop; obtain ⟨_,_,hcop⟩:=bind_some hcop; obtain ⟨_,_,hcop⟩:=bind_some hcop; split at hcop <;> cases hcop; done)
            | (obtain ⟨_,_,hcop⟩:=bind_some hcop; obtain ⟨_,_,hcop⟩:=bind_some hcop; obtain ⟨_,_,hcop⟩:=bind_some hcop; split at hcop <;> cases hcop; done)
            | (split at hcop <;> cases hcop; done))
        | (obtain ⟨_,_,hcop⟩:=bind_some hcop; obtain ⟨_,_,hcop⟩:=bind_some hcop; split at hcop <;> cases hcop; done)
        | (obtain ⟨_,_,hcop⟩:=bind_some hcop; obtain ⟨_,_,hcop⟩:=bind_some hcop; obtain ⟨_,_,hcop⟩:=map_some hcop; cases hcop; done))
theorem zEs {o:Oper} {g e1:Nat} (hcop:cop P o=some (.call (.c (.d (.clo g []))) [.t e1])) (hent:zlb P g) (a:Act) (w:World):(execOp a.eval o).run P w = .ok (.enter g #[a.tmps.getD e1 undef]) w:=by
  obtain ⟨c,f',al,ts,ho,hcc,hal,hl,hf,hargs⟩:=zGa hcop
  have sl:@zc0 i0 ⟨fun _=>0,fun _=>⟨none,0⟩⟩ zat w a (fun _=>AV.junk):=fun i=>.junk _
  have hfr:=@za0 i0 P _ _ _ _ _ sl 0 f'
  rw [← hf] at hfr
  obtain ⟨vs,hfe,hvs⟩:∃ vs:Array Value,a.eval f' = .func (.func g) #[] vs∧vs.size=0:=by
    generalize a.eval f'=v at hfr
    have:=hfr.d_inv
    cases this with
    | clo _ vs _ hn hr=>exact ⟨vs,rfl,by simpa using hn⟩
  obtain ⟨x,t,rfl,rfl,hx⟩:∃ x t,al=[x]∧ts=[t]∧copd P t x = .t e1:=by
    match al,ts,hl,hargs with
    | [x],[t],_,h=>exact ⟨x,t,rfl,rfl,by simpa using h.symm⟩
    | [],[],_,h=>simp at h
    | _ :: _ :: _,_ :: _ :: _,_,h=>simp at h
  have hxe:x = .tmp e1:=by
    cases x <;> simp [copd] at hx
    rw [hx]
  subst hxe
  have hargs':c.args.map a.eval ++ vs = #[a.tmps.getD e1 undef]:=by
    apply Array.ext'
    have:vs.toList=[]:=by simpa using hvs
    simp [hal,this,Act.eval]
  simp only [execOp,ho,resolve,hcc,Deferred.ofValue,hfe,Sem.run_bind,Sem.run_pure,Result.andThen_ok,invoke,Array.empty_append]
  rw [hargs']
  exact zlu hent _
theorem zD1 {o:Oper} {t:TypeId} {j:Nat} (ho:o.op = .load t (.tmp j)) {a:Act} {w:World} {ad:Addr} {v:Value} (hu:a.tmps.getD j undef = .pointer (some ad)) (hrun:(loadVar t ad).run P w = .ok v w):(execOp a.eval o).run P w = .ok (.value v) w:=by
  have hu':a.eval (.tmp j) = .pointer (some ad):=hu
  simp [execOp,ho,Instr.loadAt,hu',Instr.sureAddr,Sem.run_bind,Sem.run_pure,hrun]
theorem zyu {a:Act} {d i:Nat} {v:Value} (h:i ≠ d):(a.put (some d) v).tmps.getD i undef=a.tmps.getD i undef:=by
  simp only [Act.put,yaw,Array.getElem?_setIfInBounds]
  rw [if_neg (Ne.symm h)]
theorem zI4 {ops:Array Oper} {n:Nat} {l:List Oper} {x y:XOper} (h:zi2 P ops n l=some [x,y]):∃ o1 o2,l=[o1,o2]∧zuw P ops n o1=some x∧zuw P ops n o2=some y:=by
  obtain ⟨hlen,hget⟩:=zm3 h
  obtain ⟨o1,o2,rfl⟩:∃ o1 o2,l=[o1,o2]:=by
    cases l with
    | nil=>simp at hlen
    | cons o1 l=>cases l with
      | nil=>simp at hlen
      | cons o2 l=>cases l with
        | nil=>exact ⟨o1,o2,rfl⟩
        | cons=>simp at hlen
  obtain ⟨x',hx,hx'⟩:=hget 0 o1 rfl
  obtain ⟨y',hy,hy'⟩:=hget 1 o2 rfl
  simp only [List.getElem?_cons_zero,List.getElem?_cons_succ,Option.some.injEq] at hx hy
  subst hx
  subst hy
  exact ⟨o1,o2,rfl,hx',hy'⟩
theorem zxe {n:Nat} {c:Code} {xs:List XOper} (hc:zca P n c=some (.region xs none)):∃ id ops,c = .region id ops false∧zi2 P ops n ops.toList=some xs:=by
  unfold zca at hc
  split at hc
  case h_2 id ops dr =>
    split at hc
    · rename_i ys hys
      cases dr with
      | true =>
        simp only [if_true] at hc
        obtain ⟨ds,_,hh⟩:=map_some hc
        cases hh
      | false =>
        simp only [yao,if_false,Option.some.injEq,XCode.region.injEq,and_true] at hc
        subst hc
        exact ⟨id,ops,rfl,hys⟩
    · cases hc
  all_goals first
    | (cases hc; done)
    | (split at hc <;> cases hc; done)
    | (obtain ⟨_,_,hc⟩:=map_some hc; cases hc; done)
theorem zw9 {n:Nat} {c:Code} {x y:XCode} (hc:zca P n c=some (.seq x y)):∃ a b,c = .seq a b∧zca P n a=some x∧zca P n b=some y:=by
  unfold zca at hc
  split at hc
  case h_3 a b =>
    split at hc
    · rename_i xa xb ha hb
      simp only [Option.some.injEq,XCode.seq.injEq] at hc
      obtain ⟨rfl,rfl⟩:=hc
      exact ⟨a,b,rfl,ha,hb⟩
    · cases hc
  all_goals first
    | (cases hc; done)
    | (split at hc <;> cases hc; done)
    | (split at hc <;> first | (cases hc; done) | (split at hc <;> first | (cases hc; done) | (obtain ⟨_,_,hc⟩:=map_some hc; cases hc; done)))
    | (obtain ⟨_,_,hc⟩:=map_some hc; cases hc; done)
theorem reg2 {n:Nat} {c:Code} {e1 e2 f:Nat} {x1:XOp} (hc:zca P n c=some (.region [⟨some e1,x1,none⟩,⟨some e2,.call (.c (.d (.clo f []))) [.t e1],none⟩] none)) (hent:zlb P f) {a:Act} {w:World} (hsz:a.tmps.size=n) {R:World→Prop}
    (hv:∀ o,cop P o=some x1 → ∃ v,(execOp a.eval o).run P w = .ok (.value v) w∧Calls P f #[v] w fun e w'=>e = .returned (.tuple #[])∧R w') :
    c.wp P (fun e a' w'=>e = .normal∧a'.defers=a.defers∧a'.tmps.size=n∧(∀ i,i ≠ e1→i ≠ e2→a'.tmps.getD i undef=a.tmps.getD i undef)∧R w') a w:=by
  obtain ⟨id,ops,rfl,hxs⟩:=zxe hc
  have sl:∀ (a:Act) (w:World),@zc0 i0 ⟨fun _=>0,fun _=>⟨none,0⟩⟩ zat w a (fun _=>AV.junk):=fun a w i=>.junk _
  refine wp_region ?_
  rw [List.range_eq_range',← Array.length_toList]
  generalize hl:ops.toList=l at hxs
  obtain ⟨o1,o2,rfl,h1,h2⟩:=zI4 hxs
  have g0:ops[0]? = some o1:=by rw [← yav,hl]; rfl
  have g1:ops[1]? = some o2:=by rw [← yav,hl]; rfl
  obtain ⟨p1,p2,p3,_⟩:=zc1 h1
  obtain ⟨q1,q2,q3,_⟩:=zc1 h2
  simp only at p1 p2 q1 q2
  simp only [List.length_cons,List.length_nil,List.range'_succ,List.range'_zero,wpOps,g0,g1,ybj]
  rw [@zmv i0 P _ _ _ _ _ _ _ _ _ h1 (sl a w) true rfl]
  simp only [if_true]
  refine .inl ?_
  unfold Oper.wp
  obtain ⟨v,hv,hcalls⟩:=hv o1 p2
  rw [hv,Oper.upon_value]
  rw [@zmv i0 P _ _ _ _ _ _ _ _ _ h2 (sl _ w) true rfl]
  simp only [if_true]
  refine .inl ?_
  have he:e1<a.tmps.size:=by
    rw [← p1] at p3
    simpa [hsz] using p3
  have hev:(a.put o1.dst v).tmps.getD e1 undef=v:=by
    rw [← p1,zAk he,if_pos rfl]
  rw [zEs q2 hent,hev,Oper.upon_enter]
  refine hcalls.mono ?_
  rintro e w' ⟨rfl,hR⟩
  refine ⟨trivial,?_,?_,fun i h1 h2=>?_,hR⟩
  · rw [zax,zax]
  · rw [zbq,zbq]; exact hsz
  · rw [← q1,zyu h2,← p1,zyu h1]
end
end
section
def oldA:AV→AV
  | .d (.sl sz xs)=>.n false (.sl sz xs)
  | .d x=>if x.flat=true then .d x else .junk
  | .ptr k v o=>.ptr k v o
  | .rsl k v=>.rsl k v
  | .skip=>.skip
  | _=>.junk
def oldE (e:Ent):Ent:=⟨e.ver,match e.body with | .box cs fz=>.box (cs.map oldA) fz | b=>b⟩
def oldS (st:S):S:=⟨fun i=>oldA (st.s i),fun k=>oldE (st.h k)⟩
def zzo:AV→AV
  | .n false x=>.d x
  | .d x=>if x.flat=true then .d x else .junk
  | .ptr k v o=>.ptr k v o
  | .skip=>.skip
  | _=>.junk
def aftE (e:Ent):Ent:=⟨e.ver,match e.body with | .box cs false=>.box (cs.map zzo) false | _=>.dead⟩
def aftS (lim:Nat) (st:S):S:=⟨fun i=>if i<lim then zzo (st.s i) else .junk,fun k=>aftE (st.h k)⟩
theorem zuz {m:Nat} {St:Nat→Nat} (h:∀ b,0<St b→b<m):cutS false m St=St:=by
  funext b
  unfold cutS
  by_cases hb:m≤b
  · simp only [hb,decide_true,Bool.true_eq_false,if_false]
    rcases yaj (St b) with h0 | h0
    · exact h0.symm
    · have:=h b h0; omega
  · simp [hb]
theorem zD9 {G:GS} {h:Nat→Ent} {w:World} {v:Value} {av:AV} {m:Nat} (hst:∀ b,0<G.St b→b<m) (r:@ARel i0 G h w v av):@ARel (i1 m) G (fun k=>oldE (h k)) w v (oldA av):=by
  cases av with
  | d x =>
    have hr:=@ARel.d_inv i0 _ _ _ _ _ r
    cases x with
    | sl sz xs =>
      refine @ARel.n (i1 m) G _ w v false _ (by cases hr; rfl) ?_
      show Rel (cutS false m G.St) w v _
      rw [zuz hst]
      exact hr
    | _ =>
      simp only [oldA]
      split
      · exact @ARel.d (i1 m) _ _ _ _ _ hr
      · exact @ARel.junk (i1 m) _ _ _ _
  | ptr k ver off =>
    cases r with
    | ptr _ _ _ _ h1 hle hv =>
      refine @ARel.ptr (i1 m) _ _ _ _ _ _ _ h1 hle fun hq cs fz hb=>?_
      simp only [oldE] at hb hq
      cases hbk:(h k).body with
      | box cs0 f0=>exact hv hq cs0 f0 hbk
      | _=>rw [hbk] at hb; cases hb
  | rsl k ver =>
    cases r with
    | rsl _ _ _ h1 hle hv =>
      refine @ARel.rsl (i1 m) _ _ _ _ _ _ h1 hle fun hq sz xs fz hb=>?_
      simp only [oldE] at hb hq
      cases hbk:(h k).body with
      | row=>rw [hbk] at hb; exact hv hq sz xs fz (by rw [hbk]; exact hb)
      | _=>rw [hbk] at hb; cases hb
  | skip=>cases r; exact @ARel.skip (i1 m) _ _ _
  | _=>exact @ARel.junk (i1 m) _ _ _ _
theorem zs3 {G:GS} {k b:Nat} {e:Ent}:Owns G k b (oldE e).body ↔ Owns G k b e.body:=by
  unfold oldE
  cases hb:e.body <;> simp [Owns]
theorem zMt {n:Nat} {G:GS} {st:S} {a:Act} {w:World} (fr:@Fr i0 n G st a w):@Fr (i1 w.heap.size) n G (oldS st) a w:=by
  have hst:=(@Fr.inv i0 _ _ _ _ _ fr).st
  refine @Fr.mk (i1 w.heap.size) _ _ _ _ _ ?_ (fun i=>zD9 hst (@Fr.slots i0 _ _ _ _ _ fr i)) (@Fr.size i0 _ _ _ _ _ fr)
  have i:=@Fr.inv i0 _ _ _ _ _ fr
  refine @Inv.mk (i1 w.heap.size) _ _ _ hst (fun k=>?_) (fun k k' b h1 h2=>@Inv.apart i0 _ _ _ i k k' b (zs3.1 h1) (zs3.1 h2)) (yab _)
  have he:=@Inv.ent i0 _ _ _ i k
  show @zjc (i1 w.heap.size) G (fun k=>oldE (st.h k)) w k (oldE (st.h k)).body
  unfold oldE
  cases hb:(st.h k).body with
  | dead=>exact trivial
  | box cs fz =>
    rw [hb] at he
    obtain ⟨b,arr,el,h1,h2,h3,h4,h5⟩:=he
    refine ⟨b,arr,el,h1,h2,by rw [ycn]; exact h3,fun j c hj=>?_,h5⟩
    rw [yau] at hj
    obtain ⟨c0,hc0,rfl⟩:=yaG.1 hj
    exact ⟨zD9 hst (h4 j c0 hc0).1,(h4 j c0 hc0).2⟩
  | row sz xs fz =>
    rw [hb] at he
    cases fz with
    | true=>exact he
    | false=>exact he
theorem zA6 {G:GS} {h:Nat→Ent} {w w':World} {v:Value} {av:AV} {m:Nat} (hst:∀ b,0<G.St b→b<w.heap.size) (hc:Chg (cutS true m G.St) w w') (r:@ARel (i1 m) G h w v av):@ARel i0 ⟨cutS false m G.St,G.hd⟩ (fun k=>aftE (h k)) w' v (zzo av):=by
  cases av with
  | d x =>
    have hr:=@ARel.d_inv (i1 m) _ _ _ _ _ r
    simp only [zzo]
    split
    · rename_i hf
      exact @ARel.d i0 _ _ _ _ _ (hr.flat hf)
    · exact @ARel.junk i0 _ _ _ _
  | n q x =>
    cases r with
    | n _ _ _ h1 hr =>
      cases q with
      | true=>exact @ARel.junk i0 _ _ _ _
      | false =>
        refine @ARel.d i0 _ _ _ _ _ (hr.keeps ⟨fun _=>yab _,fun b i hi=>?_,fun b hb hf=>hc.free b hf⟩)
        have hlt:i<cutS false m G.St b:=hi
        have hb:b<w.heap.size:=hst b (by have:=zhl false m G.St b; omega)
        refine World.cell?_of_block (w:=w) (a:=⟨b,i,none⟩) (hc.block b hb ?_)
        unfold cutS at hlt ⊢
        by_cases hm:m≤b
        · simp [hm] at hlt
        · simp [hm]
  | ptr k ver off =>
    cases r with
    | ptr _ _ _ _ h1 hle hv =>
      refine @ARel.ptr i0 _ _ _ _ _ _ _ h1 hle fun hq cs fz hb=>?_
      simp only [aftE] at hb hq
      split at hb
      · rename_i cs0 hbk
        exact hv hq cs0 false hbk
      · cases hb
  | skip=>cases r; exact @ARel.skip i0 _ _ _
  | _=>exact @ARel.junk i0 _ _ _ _
theorem zum {G G':GS} {k b:Nat} {e:Ent} (hG:G'.hd=G.hd) (h:Owns G' k b (aftE e).body):Owns G k b e.body:=by
  unfold aftE at h
  cases hb:e.body with
  | dead=>rw [hb] at h; exact h
  | row=>rw [hb] at h; exact h.elim
  | box cs fz =>
    rw [hb] at h
    cases fz with
    | true=>exact h.elim
    | false=>simp only [Owns] at h ⊢; rw [← hG]; exact h
theorem zLo {n m lim:Nat} {G:GS} {st:S} {a a':Act} {w w':World} (fr:@Fr (i1 m) n G st a w) (hc:Chg (cutS true m G.St) w w') (hsz:a'.tmps.size=n) (hs:∀ i,i<lim→a'.tmps.getD i undef=a.tmps.getD i undef):@Fr i0 n ⟨cutS false m G.St,G.hd⟩ (aftS lim st) a' w':=by
  have i:=@Fr.inv (i1 m) _ _ _ _ _ fr
  have hst:=@Inv.st (i1 m) _ _ _ i
  refine @Fr.mk i0 _ _ _ _ _ ?_ (fun j=>?_) hsz
  · refine @Inv.mk i0 _ _ _ (fun b hb=>yad (hst b (yad hb (zhl false m G.St b))) hc.size) (fun k=>?_) (fun k k' b h1 h2=>@Inv.apart (i1 m) _ _ _ i k k' b (zum rfl h1) (zum rfl h2)) (yaR _)
    have he:=@Inv.ent (i1 m) _ _ _ i k
    show @zjc i0 ⟨cutS false m G.St,G.hd⟩ (fun k=>aftE (st.h k)) w' k (aftE (st.h k)).body
    unfold aftE
    cases hb:(st.h k).body with
    | dead=>exact trivial
    | row=>exact trivial
    | box cs fz =>
      cases fz with
      | true=>exact trivial
      | false =>
        rw [hb] at he
        obtain ⟨b,arr,el,h1,h2,h3,h4,h5⟩:=he
        have h50:G.St b=0:=h5
        have hbw:=(yay.1 h2).1
        have hz:∀ q,cutS q m G.St b=0:=fun q=>ybV fun hp=>by have:=zhl q m G.St b; omega
        refine ⟨b,arr,el,h1,(hc.block b hbw (hz true)).trans h2,by rw [ycn]; exact h3,fun j c hj=>?_,hz false⟩
        rw [yau] at hj
        obtain ⟨c0,hc0,rfl⟩:=yaG.1 hj
        exact ⟨zA6 hst hc (h4 j c0 hc0).1,(h4 j c0 hc0).2⟩
  · show @ARel i0 _ _ _ _ (if j<lim then zzo (st.s j) else .junk)
    split
    · rename_i hj
      rw [hs j hj]
      exact zA6 hst hc (@Fr.slots (i1 m) _ _ _ _ _ fr j)
    · exact @ARel.junk i0 _ _ _ _
end
section
structure Jn [Nw] (w0:World) (G:GS) (h:Nat→Ent) (w:World):Prop where
  below:RowKit.Below w0.heap.size w0 w
  own:∀ k b,Owns G k b (h k).body→w0.heap.size≤b
  low:Nw.on=true→w0.heap.size≤Nw.n ∧ ∀ b,Nw.n≤b→0<G.St b→zgv w b
theorem Jn.step [Nw] {w0:World} {G G':GS} {h h':Nat→Ent} {w w':World} (j:Jn w0 G h w) (s:Step G h w G' h' w'):Jn w0 G' h' w':=by
  refine ⟨⟨s.left.os.trans j.below.os,s.left.tape.trans j.below.tape,s.left.output.trans j.below.output,yac j.below.size s.left.size,fun b hb=>?_⟩,fun k b hk=>?_,fun hon=>⟨(j.low hon).1,fun b hb h0=>?_⟩⟩
  · exact (s.left.block b (yad hb j.below.size) (fun k hk=>by have:=j.own k b hk; omega)).1.trans (j.below.block b hb)
  · rcases s.grow k b hk with ⟨k',hk'⟩ | hle
    · exact j.own k' b hk'
    · exact yac j.below.size hle
  · rcases yaj (G.St b) with hz | hp
    · exact s.fresh b hz h0
    · exact s.ext.keeps.free b hp ((j.low hon).2 b hb hp)
def FinB (P:Program) (fn:Func) (w0:World):Exit→Act→World→Prop:=fun e a' w'=>(e = .normal∨e = .ret)∧a'.defers=[]∧(results fn a'.tmps).run P w' = .ok (.bool true) w'∧RowKit.Below w0.heap.size w0 w'
def Snd [Nw] (P:Program) (fn:Func) (res:List XRes) (w0:World) (x:XCode) (st:S):Prop:=cres P fn.results.toList=some res→P.follows .mixedOrders=true → ∀ (c:Code) (G:GS) (a:Act) (w:World),zca P fn.ntmps c=some x→Fr fn.ntmps G st a w→Jn w0 G st.h w→a.defers=[]→c.wp P (FinB P fn w0) a w
def Spd [Nw] (lim:Nat) (P:Program) (fn:Func) (res:List XRes) (w0:World) (x:XCode) (st:S):Prop:=cres P fn.results.toList=some res→P.follows .mixedOrders=true → ∀ (c:Code) (G:GS) (a a':Act) (w w':World),zca P fn.ntmps c=some x→Fr fn.ntmps G st a w→Jn w0 G st.h w→Chg (cutS true Nw.n G.St) w w'→a'.tmps.size=fn.ntmps→(∀ i,i<lim→a'.tmps.getD i undef=a.tmps.getD i undef)→a'.defers=[]→c.wp P (FinB P fn w0) a' w'
section
variable {P:Program} {fn:Func} {res:List XRes} {w0:World}
theorem zFh [Nw] (hres:cres P fn.results.toList=some res) {G:GS} {st:S} {a:Act} {w:World} (fr:Fr fn.ntmps G st a w) (j:Jn w0 G st.h w) (hd:a.defers=[]) {e:Ex} (h:Ends res [.bool true] e st):FinB P fn w0 e.real a w:=by
  obtain ⟨he,vs,hrv,hds⟩:=h
  obtain ⟨us,h1,h2,h3⟩:=zej (P:=P) fr.inv fr.slots _ _ _ hres hrv
  have hrel:=zed fr.inv h2 h3 hds
  have hus:us=[.bool true]:=by
    obtain ⟨hl,hr⟩:=hrel
    have h0:=hr 0 (.bool true) rfl
    match us,hl,h0 with
    | [u],_,h0 =>
      simp only [List.getD_cons_zero] at h0
      cases h0
      rfl
  subst hus
  refine ⟨by rcases he with rfl | rfl; exact .inl rfl; exact .inr rfl,hd,ze7 h1,j.below⟩
theorem Snd.last {nwI:Nw} {x:XCode} {st:S} (h:wpX P x (Ends res [.bool true]) st):Snd P fn res w0 x st:=fun hres hm c G a w hc fr j hd=>by
  refine wp_mono (zg4 hm c x hc _ _ _ _ _ h fr) ?_
  rintro e a' w' ⟨ex,G',st',rfl,fr',hs,hd',hend⟩
  exact zFh hres fr' (j.step hs) (hd'.trans hd) hend
theorem Snd.seq {nwI:Nw} {x y:XCode} {st:S} (h:wpX P x (Ex.then (Snd P fn res w0 y) (Ends res [.bool true])) st):Snd P fn res w0 (.seq x y) st:=fun hres hm c G a w hc fr j hd=>by
  obtain ⟨c1,c2,rfl,hc1,hc2⟩:=zw9 hc
  refine wp_seq (wp_mono (zg4 hm c1 x hc1 _ _ _ _ _ h fr) ?_)
  rintro e a' w' ⟨ex,G',st',rfl,fr',hs,hd',hend⟩
  cases ex with
  | normal=>exact hend hres hm c2 G' a' w' hc2 fr' (j.step hs) (hd'.trans hd)
  | exit id=>exact zFh hres fr' (j.step hs) (hd'.trans hd) hend
  | ret=>exact zFh hres fr' (j.step hs) (hd'.trans hd) hend
theorem Snd.cut {x:XCode} {st:S} (h:∀ m,@Snd (i1 m) P fn res w0 x (oldS st)):@Snd i0 P fn res w0 x st:=fun hres hm c G a w hc fr j hd=>by
  refine h w.heap.size hres hm c G a w hc (zMt fr) ?_ hd
  refine @Jn.mk (i1 w.heap.size) _ _ _ _ (@Jn.below i0 _ _ _ _ j) (fun k b hk=>@Jn.own i0 _ _ _ _ j k b (zs3.1 hk)) fun _=>⟨(@Jn.below i0 _ _ _ _ j).size,fun b hb h0=>?_⟩
  have:=(@Fr.inv i0 _ _ _ _ _ fr).st b h0
  exact absurd hb (Nat.not_le.2 this)
theorem Spd.enter {nwI:Nw} (lim:Nat) {x:XCode} {st:S} (h:Spd lim P fn res w0 x st):Snd P fn res w0 x st:=fun hres hm c G a w hc fr j hd=>h hres hm c G a a w w hc fr j (.refl _ _) fr.size (fun _ _=>rfl) hd
theorem Spd.leave {lim m:Nat} {x:XCode} {st:S} (h:@Snd i0 P fn res w0 x (aftS lim st)):@Spd (i1 m) lim P fn res w0 x st:=fun hres hm c G a a' w w' hc fr j hch hsz hs hd=>by
  refine h hres hm c _ a' w' hc (zLo fr hch hsz hs) ?_ hd
  have jb:=@Jn.below (i1 m) _ _ _ _ j
  have jl:=(@Jn.low (i1 m) _ _ _ _ j rfl).1
  refine @Jn.mk i0 _ _ _ _ ⟨hch.os.trans jb.os,hch.tape.trans jb.tape,hch.output.trans jb.output,yac jb.size hch.size,fun b hb=>?_⟩ (fun k b hk=>@Jn.own (i1 m) _ _ _ _ j k b (zum rfl hk)) fun h=>by cases h
  refine (hch.block b (yad hb jb.size) ?_).trans (jb.block b hb)
  show cutS true m G.St b=0
  have hm:¬ m≤b:=fun hle=>by have:w0.heap.size≤m:=jl; omega
  simp [cutS,hm]
theorem zL6 {f:FuncId} {x:XFn} (hm:P.follows .mixedOrders=true) (hf:P.funcs[f]? = some fn) (hx:cfn P fn=some x) {ds:List D} (hl:ds.length=x.np) (hw:∀ w0,@Snd i0 P fn x.res w0 x.code ⟨zjv ds,zat⟩):Pure P f ds [.bool true]:=by
  unfold cfn at hx
  split at hx
  · rename_i c hb
    split at hx
    · cases hx
    · rename_i hname
      split at hx
      · rename_i xc r hcc hres
        split at hx
        · rename_i hnp
          cases hx
          simp only at hl hw
          refine ⟨⟨fn,hf,hname,by rw [hb]; rfl⟩,fun St w vs hst hrel=>?_⟩
          refine calls_of_wp hf hb ?_
          have hvl:vs.length=ds.length:=hrel.1
          have fr:@Fr i0 fn.ntmps ⟨St,fun _=>⟨none,0⟩⟩ ⟨zjv ds,zat⟩ { tmps:=vs.toArray ++ ybQ (fn.ntmps - vs.toArray.size) undef,defers:=[] } w:=by
            refine ⟨⟨hst,fun k=>trivial,fun k k' b h=>h.elim,yaR _⟩,fun i=>?_,by simp; omega⟩
            simp only [zjv]
            cases hd:ds[i]? with
            | none =>
              have hge:ds.length≤i:=List.getElem?_eq_none_iff.1 hd
              have:(vs.toArray ++ ybQ (fn.ntmps - vs.toArray.size) undef).getD i undef=undef:=by
                rw [yaw,Array.getElem?_append_right (by simp; omega),Array.getElem?_replicate]
                split <;> rfl
              rw [this]
              exact .skip
            | some d =>
              have hlt:=(yae.1 hd).1
              have:(vs.toArray ++ ybQ (fn.ntmps - vs.toArray.size) undef).getD i undef=vs.getD i undef:=by
                rw [yaw,Array.getElem?_append_left (by simp; omega)]
                simp
              rw [this]
              exact .d _ _ (hrel.2 i d hd)
          refine wp_mono (hw w hres hm c _ _ _ hcc fr ⟨RowKit.Below.refl _ _,fun k b h=>h.elim,fun h=>by cases h⟩ rfl) ?_
          rintro e a' w' ⟨he,hd,hpost,hbel⟩
          have hR:∃ St' us',Ending.returned (.bool true) = .returned (za3 us')∧RelL St' w' us' [.bool true]∧RowKit.Below w.heap.size w w'∧(∀ b,b<w.heap.size→St' b=St b)∧(∀ b,0<St' b→b<w'.heap.size)∧(∀ b,w.heap.size≤b→0<St' b→zgv w' b) :=
            ⟨St,[.bool true],rfl,⟨rfl,fun j d hj=>by
              cases j with
              | zero=>cases hj; exact .bool true
              | succ j=>cases hj⟩,hbel,fun _ _=>rfl,fun b hb=>yad (hst b hb) hbel.size,fun b hb h0=>by have:=hst b h0; omega⟩
          rcases he with rfl | rfl
          · exact ⟨hd,_,hpost,hR⟩
          · exact ⟨hd,_,hpost,hR⟩
        · cases hx
      · cases hx
  · cases hx
end
end
section
section
variable {fn:Func} {res:List XRes} {w0:World}
theorem zyb:zlb Tryz.prog zcy:=⟨_,Tryz.func21,by decide,rfl⟩
theorem zAp {m:Nat} {G:GS} {h:Nat→Ent} {w w':World} (i:@Inv (i1 m) G h w) (j:@Jn (i1 m) w0 G h w) (hc:Chg (cutS true m G.St) w w'):∀ b,0<cutS true m G.St b→b<w'.heap.size∧zgv w' b:=fun b hb=>by
  have hg:0<G.St b:=yad hb (zhl true m G.St b)
  have hm:m≤b:=by
    unfold cutS at hb
    by_cases hm:m≤b
    · exact hm
    · simp [hm] at hb
  exact ⟨yad (@Inv.st (i1 m) _ _ _ i b hg) hc.size,hc.free b ((@Jn.low (i1 m) _ _ _ _ j rfl).2 b hm hg)⟩
theorem Spd.term {m lim e1 e2 j k v:Nat} {y:XCode} {st:S} {p q:Int} {ks:List T} (hj:j<lim) (h1:lim≤e1) (h2:lim≤e2) (hs:st.s j = .ptr k v 0) (hk:st.h k=⟨v,.box [.d (.int .i64 p),.d (.int .i64 q),.n true (.sl 3 (ks.map eT))] false⟩) (h:@Spd (i1 m) lim Tryz.prog fn res w0 y st) :
    @Spd (i1 m) lim Tryz.prog fn res w0 (.seq (.region [⟨some e1,.load 3 true (.t j),none⟩,⟨some e2,.call (.c (.d (.clo zcy []))) [.t e1],none⟩] none) y) st:=fun hres hm c G a a' w w' hc fr jn hch hsz hsa hd=>by
  obtain ⟨c1,c2,rfl,hc1,hc2⟩:=zw9 hc
  have i:=@Fr.inv (i1 m) _ _ _ _ _ fr
  have hr:=@Fr.slots (i1 m) _ _ _ _ _ fr j
  rw [hs] at hr
  have he:=@Inv.ent (i1 m) _ _ _ i k
  rw [hk] at he
  obtain ⟨b,arr,el,hA,hh,hasz,hcells,hst0⟩:=he
  have hst0:G.St b=0:=hst0
  have hch:Chg (cutS true m G.St) w w':=hch
  have hp:a.tmps.getD j undef = .pointer (some ⟨b,0,none⟩):=by
    generalize a.tmps.getD j undef=u at hr
    cases hr with
    | ptr _ _ _ _ _ _ hv =>
      obtain ⟨b',hA',hv'⟩:=hv (by rw [hk]) _ _ (by rw [hk])
      rw [hA] at hA'
      cases hA'
      exact hv'
  have hbw:=(yay.1 hh).1
  have hh':w'.heap[b]? = some (.cells arr el (0,0)):=(hch.block b hbw (ybV fun hp=>by have:=zhl true m G.St b; omega)).trans hh
  have hc2':=(hcells 2 _ rfl).1
  have hr2:Rel (cutS true m G.St) w (arr.getD 2 undef) (.sl 3 (ks.map eT)):=by
    generalize arr.getD 2 undef=u at hc2'
    cases hc2' with
    | n _ _ _ _ hr=>exact hr
  obtain ⟨ks',_,hr'⟩:=zBc ks _ _ w w' _ (fun b hb=>@Inv.st (i1 m) _ _ _ i b (yad hb (zhl true m G.St b))) hr2 hch
  have i':@Inv i0 ⟨cutS true m G.St,fun _=>⟨some ⟨b,0,none⟩,0⟩⟩ (fun q'=>if q'=k then ⟨v,.box [.d (.int .i64 p),.d (.int .i64 q),.d (.sl 3 (ks'.map eT))] false⟩ else ⟨0,.dead⟩) w':=by
    refine @Inv.mk i0 _ _ _ (fun b hb=>(zAp i jn hch b hb).1) (fun q'=>?_) (fun k1 k2 b' g1 g2=>?_) (yaR _)
    · by_cases hq:q'=k
      · simp only [hq,if_true]
        refine ⟨b,arr,el,rfl,hh',hasz,fun j' c' hj'=>?_,ybV fun hp=>by have:=zhl true m G.St b; have:0<cutS true m G.St b:=hp; omega⟩
        have hone:∀ z,z<3→(arr.getD z undef).oneCell'=true:=fun z hz=>by
          match z,hz with
          | 0,_=>exact (hcells 0 _ rfl).2
          | 1,_=>exact (hcells 1 _ rfl).2
          | 2,_=>exact (hcells 2 _ rfl).2
        match j',hj' with
        | 0,hj' =>
          cases hj'
          exact ⟨@ARel.d i0 _ _ _ _ _ ((@ARel.d_inv (i1 m) _ _ _ _ _ (hcells 0 _ rfl).1).flat rfl),hone 0 (by omega)⟩
        | 1,hj' =>
          cases hj'
          exact ⟨@ARel.d i0 _ _ _ _ _ ((@ARel.d_inv (i1 m) _ _ _ _ _ (hcells 1 _ rfl).1).flat rfl),hone 1 (by omega)⟩
        | 2,hj' =>
          cases hj'
          exact ⟨@ARel.d i0 _ _ _ _ _ hr',hone 2 (by omega)⟩
      · simp only [hq,if_false]
        exact trivial
    · by_cases q1:k1=k
      · by_cases q2:k2=k
        · rw [q1,q2]
        · simp only [q2,if_false] at g2
          exact g2.elim
      · simp only [q1,if_false] at g1
        exact g1.elim
  have hptr:@ARel i0 ⟨cutS true m G.St,fun _=>⟨some ⟨b,0,none⟩,0⟩⟩ (fun q'=>if q'=k then ⟨v,.box [.d (.int .i64 p),.d (.int .i64 q),.d (.sl 3 (ks'.map eT))] false⟩ else ⟨0,.dead⟩) w' (a'.tmps.getD j undef) (.ptr k v 0):=by
    refine @ARel.ptr i0 _ _ _ _ _ _ _ (by rw [hsa j hj,hp]; rfl) (by simp) fun _ cs fz _=>⟨b,rfl,by rw [hsa j hj,hp]⟩
  have hld:∀ t,sz? Tryz.prog t=some 3→ag? Tryz.prog t=some true → ∃ ad u,a'.tmps.getD j undef = .pointer (some ad)∧(loadVar t ad).run Tryz.prog w' = .ok u w'∧Rel (cutS true m G.St) w' u (.agg (cT (.mk p q ks'))):=fun t hn hg=>by
    obtain ⟨ad,u,h1,h2,h3⟩:=@ztr i0 Tryz.prog _ _ _ i' t _ _ (.agg [.d (.int .i64 p),.d (.int .i64 q),.d (.sl 3 (ks'.map eT))]) hptr 3 true hn hg (by simp [zsg,cut,zrv])
    refine ⟨ad,u,h1,h2,?_⟩
    cases h3 with
    | agg vs _ hn hr =>
      refine .agg vs _ (by simpa [cT] using hn) fun j c hj=>?_
      match j,hj with
      | 0,hj=>cases hj; exact @ARel.d_inv i0 _ _ _ _ _ (hr 0 _ rfl)
      | 1,hj=>cases hj; exact @ARel.d_inv i0 _ _ _ _ _ (hr 1 _ rfl)
      | 2,hj=>cases hj; exact @ARel.d_inv i0 _ _ _ _ _ (hr 2 _ rfl)
  refine wp_seq (wp_mono (reg2 hc1 zyb hsz (R:=fun w2=>Chg (cutS true m G.St) w' w2) fun o ho=>?_) ?_)
  · obtain ⟨t,ho,hn,hg⟩:=zHp ho
    obtain ⟨ad,u,hu1,hu2,hu3⟩:=hld t hn hg
    exact ⟨u,zD1 ho hu1 hu2,zF3 _ (cutS true m G.St) w' u (zAp i jn hch) hu3⟩
  · rintro e a2 w2 ⟨rfl,hd2,hsz2,hsa2,hch2⟩
    exact h hres hm c2 G a a2 w w2 hc2 fr jn (hch.trans hch2) hsz2 (fun q hq=>(hsa2 q (by omega) (by omega)).trans (hsa q hq)) (hd2.trans hd)
end
end
section
theorem Snd.seqF {nwI:Nw} {P:Program} {fn:Func} {res:List XRes} {w0:World} {x y:XCode} {st:S} (F:S→Prop) (h:∀ K:S→Prop,(∀ st',F st'→K st')→wpX P x (Ex.then K (Ends res [.bool true])) st) (k:∀ st',F st'→Snd P fn res w0 y st'):Snd P fn res w0 (.seq x y) st:=.seq (h _ k)
def VZ (js:List Nat) (st:S):Prop:=∀ j ∈ js,(st.h j).ver=0
def SK (base k:Int) (st:S):Prop:=st.s 1 = .d (.int .i64 base)∧st.s 2 = .d (.int .i64 k)
def SO (j e:Nat) (q:D→AV) (t:T) (n:Int) (st:S):Prop:=st.s j = .ptr j 1 0∧st.h j=⟨1,.box [.d (.int .i64 t.kind),.d (.int .i64 t.num),q (.sl 3 (t.kids.map eT))] false⟩∧st.s e = .d (.int .i64 n)
def SP (j e:Nat) (t:T) (n:Int) (st:S):Prop:=st.s j = .ptr j 1 0∧(∃ c,st.h j=⟨1,.box [.d (.int .i64 t.kind),.d (.int .i64 t.num),c] false⟩∧(c = .d (.sl 3 (t.kids.map eT))∨(c = .fsl 3 []∧t.kids=[])))∧st.s e = .d (.int .i64 n)
theorem SK.old {base k:Int} {st:S} (h:SK base k st):SK base k (oldS st):=by
  obtain ⟨g7,g8⟩:=h
  simp [SK,oldS,oldE,oldA,Ev.D.flat,g7,g8]
end
section
attribute [local simp] zaf zai tk tn tks zde zee
mutual
def mapT (f:Int→Int→T):T→Int→T
  | .mk k n ks,b=>if k=1 then f n b else .mk k n (mapL f k b 0 ks)
def mapL (f:Int→Int→T) (k b:Int):Nat→List T→List T
  | _,[]=>[]
  | i,x :: xs=>mapT f x (b+zal k i) :: mapL f k b (i+1) xs
end
theorem zhu (f:Int→Int→T) (k b:Int):∀ (l:List T) (i:Nat),(mapL f k b i l).length=l.length
  | [],i=>by simp [mapL]
  | x :: xs,i=>by simp [mapL,zhu f k b xs (i+1)]
theorem zjh (f:Int→Int→T) (k b:Int):∀ (l:List T) (i j:Nat) (h:j<l.length),(mapL f k b i l)[j]'(by rw [zhu]; exact h)=mapT f l[j] (b+zal k (i+j:Nat))
  | x :: xs,i,0,h=>by simp [mapL]
  | x :: xs,i,j+1,h=>by
    have:=zjh f k b xs (i+1) j (by simpa using h)
    simp only [mapL,ycB]
    rw [this]
    congr 3
    omega
inductive VokT:T→Prop
  | mk (k n:Int) (ks:List T) (hv:k=1→0≤n∧n≤65535) (hz:k=1∨k=2∨k=3→ks=[]) (hl:ks.length≤1000) (h:∀ x ∈ ks,VokT x):VokT (.mk k n ks)
theorem VokT.out {k n:Int} {ks:List T} (h:VokT (.mk k n ks)):(k=1→(0≤n∧n≤65535)∧ks=[])∧ks.length≤1000 ∧ ∀ x ∈ ks,VokT x:=by
  cases h with
  | mk _ _ _ a z b c=>exact ⟨fun h=>⟨a h,z (.inl h)⟩,b,c⟩
theorem VokT.leaf {k n:Int} {ks:List T} (h:VokT (.mk k n ks)):k=1∨k=2∨k=3→ks=[]:=by
  cases h with
  | mk _ _ _ a z b c=>exact z
theorem zve (t:T):zab t=true→VokT t:=by
  refine T.ind (p:=fun t=>zab t=true→VokT t) ?_ t
  intro k n ks ih h
  refine .mk _ _ _ (fun hk=>zc7 hk h) (fun hk=>?_) (zvq _ h).kids.1 fun x hx=>ih x hx (za9 h x hx)
  rw [za5] at h
  have h0:zdw k=0:=by rcases hk with rfl | rfl | rfl <;> rfl
  rw [h0] at h
  split at h
  · rename_i hl; simpa using hl
  · cases h
theorem zIq (f:Int→Int→T) (g:FuncId) (caps:List D) (hf:∀ n b:Int,0≤n→n≤65535→0≤b→b≤1099511627776→Pure Tryz.prog g (.int .i64 n :: .int .i64 b :: caps) [.agg (cT (f n b))]) (t:T):∀ b:Int,VokT t→0≤b→b+zac t≤1099511627776 →
    Pure Tryz.prog zcj [.agg (cT t),.int .i64 b,.clo g caps] [.agg (cT (mapT f t b))]:=by
  refine T.ind (p:=fun t=>∀ b:Int,VokT t→0≤b→b+zac t≤1099511627776→Pure Tryz.prog zcj [.agg (cT t),.int .i64 b,.clo g caps] [.agg (cT (mapT f t b))]) ?_ t
  intro k n ks ih b hvk h0 hb
  obtain ⟨hvn,hl,hsk⟩:=hvk.out
  refine zCa rfl fun hs=>?_
  simp -dsimp [zg9,cT]
  (first | refine zah ?_ ?_ | refine zag ?_ ?_) <;> intro h1 <;> (try simp only [nrm] at h1) <;> simp -dsimp [h1]
  · have hn:=(hvn h1).1
    refine zaa (hf n b hn.1 hn.2 h0 (by omega)) ?_
    rw [mapT,if_pos h1]
    simp -dsimp [h1,cT]
  have hM:mapT f (.mk k n ks) b = .mk k n (mapL f k b 0 ks):=by rw [mapT,if_neg h1]
  rw [hM]
  by_cases hz:ks=[]
  · subst hz
    simp -dsimp [h1,mapL]
  simp -dsimp [h1,hz]
  have r1:(ks.length:Int)*40≤(zae:Int):=by simp only [zae]; omega
  have r2:ks.length≤zae:=by simp only [zae]; omega
  have hll:(mapL f k b 0 ks).length=ks.length:=zhu f k b ks 0
  simp -dsimp [h1,hz,r1,r2]
  refine zaj ks.length (fun i st=>st.s 3 = .ptr 3 1 0∧st.h 3=⟨1,.box [.d (.int .i64 k),.d (.int .i64 n),.d (.sl 3 (ks.map eT))] false⟩∧st.s 1 = .d (.int .i64 b)∧st.s 2 = .d (.clo g caps) ∧
    st.s 6 = .ptr 6 1 0∧st.h 6=⟨1,.box [.d (.int .i64 0),.d (.int .i64 0),.fsl 3 []] false⟩∧st.s 7 = .rsl 27 1∧st.s 29 = .d (.sl 3 (ks.map eT))∧st.s 30 = .d (.int .i64 ks.length)∧st.s 31 = .d (.int .i64 i) ∧
    st.h 27=⟨1,.row 3 (((mapL f k b 0 ks).map eT).take i ++ yaa (ks.length - i) (D.agg [.int .i64 0,.int .i64 0,.sl 3 []])) false⟩) ?_ ?_
  · simp -dsimp
  · rintro i ⟨s,hp⟩ hi ⟨g1,g2,g3,g4,g5,g6,g7,g8,g9,g10,g11⟩
    dsimp only at g1 g2 g3 g4 g5 g6 g7 g8 g9 g10 g11
    rcases ybm i ks.length with hlt | hge
    · have w1:IntKind.i64.wrap ((i:Int)+1)=(i:Int)+1:=zad (by omega) (by omega)
      have hbl:=zcv k i
      have hnk:=zb7 (k:=k) (n:=n) (yaf hlt:ks[i] ∈ ks)
      have w2:IntKind.i64.wrap (b+zal k i)=b+zal k i:=zad (by omega) (by omega)
      simp -dsimp [g1,g2,g3,g4,g5,g6,g7,g8,g9,g10,g11,hlt,cT]
      refine zaa (zk3 k i) ?_
      simp -dsimp [g1,g2,g3,g4,g5,g6,g7,g8,g9,g10,g11,hlt,w2]
      refine zaa (ih ks[i] (yaf _) (b+zal k i) (hsk _ (yaf _)) (by omega) (by omega)) ?_
      have q1:(i:Int)<((min i ks.length:Nat):Int)+((ks.length - i:Nat):Int):=by omega
      have q2:i<min i ks.length+(ks.length - i):=by omega
      have hle:((mapL f k b 0 ks).map eT).length=ks.length:=by rw [ycn,hll]
      have hfn:=zj4 (l:=(mapL f k b 0 ks).map eT) (z:=D.agg [.int .i64 0,.int .i64 0,.sl 3 []]) (i:=i) (by rw [hle]; exact hlt)
      have hel:((mapL f k b 0 ks).map eT)[i]'(by rw [hle]; exact hlt) = .agg (cT (mapT f ks[i] (b+zal k i))):=by
        rw [yco,zjh f k b ks 0 i hlt,zb4,ybj]
      rw [hel,hle] at hfn
      simp only [cT] at hfn
      simp -dsimp [g1,g2,g3,g4,g5,g6,g7,g8,g9,g10,g11,hlt,w1,w2,hll,q1,q2,cT,hfn]
    · have e:i=ks.length:=by omega
      subst e
      have ht:((mapL f k b 0 ks).map eT).take ks.length=(mapL f k b 0 ks).map eT:=yce (by rw [ycn,hll]; exact yab _)
      rw [ht,ycy,ycp,ybp] at g11
      simp -dsimp [g1,g2,g3,g4,g5,g6,g7,g8,g9,g10,g11]
theorem zH9 (f:Int→Int→T) (g:FuncId) (caps:List D) (hf:∀ n b:Int,0≤n→n≤65535→0≤b→b≤1099511627776→Pure Tryz.prog g (.int .i64 n :: .int .i64 b :: caps) [.agg (cT (f n b))]) (t:T) (b:Int) (hfm:zab t=true) (h0:0≤b) (hb:b+zac t≤1099511627776) :
    Pure Tryz.prog zcj [.agg (cT t),.int .i64 b,.clo g caps] [.agg (cT (mapT f t b))]:=zIq f g caps hf t b (zve t hfm) h0 hb
def zit (y:Int) (t:T):T:=mapT (fun n b=>.mk 1 (if b≤n then w64 (n+y) else n) []) t 0
theorem zEj (n b y:Int):Pure Tryz.prog zc9 [.int .i64 n,.int .i64 b,.rp [.int .i64 y]] [.agg (cT (.mk 1 (if b≤n then w64 (n+y) else n) []))]:=by
  refine ztz rfl fun hs=>?_
  simp -dsimp [zgl]
  (first | refine zah ?_ ?_ | refine zag ?_ ?_) <;> intro h1 <;> (try simp only [nrm] at h1) <;> simp -dsimp [h1,w64]
  · refine zaa (v_ok _) ?_
    simp -dsimp [h1,w64,cT]
  · refine zaa (v_ok _) ?_
    simp -dsimp [h1,cT]
theorem zHk (t:T) (y:Int) (hs:zab t=true) (hn:zac t≤1099511627776):Pure Tryz.prog zig [.agg (cT t),.int .i64 y] [.agg (cT (zit y t))]:=by
  refine zvt rfl fun hs'=>?_
  simp -dsimp [zie,cT]
  refine zaa (zH9 (fun n b=>.mk 1 (if b≤n then w64 (n+y) else n) []) zc9 [.rp [.int .i64 y]] (fun n b _ _ _ _=>zEj n b y) t 0 hs (by omega) (by omega)) ?_
  simp -dsimp [zit,cT]
mutual
def zep:T→Int→Int
  | .mk k n ks,b=>zjs k b 0 (if k=1∧b≤n then n else -1) ks
def zjs (k b:Int):Nat→Int→List T→Int
  | _,a,[]=>a
  | i,a,x :: xs=>zjs k b (i+1) (mx a (zep x (b+zal k i))) xs
end
theorem zvb (k b:Int):∀ (l:List T) (i:Nat) (a:Int) (j:Nat) (h:j<l.length),zjs k b i a (l.take (j+1))=mx (zjs k b i a (l.take j)) (zep l[j] (b+zal k (i+j:Nat)))
  | x :: xs,i,a,0,h=>by simp [zjs]
  | x :: xs,i,a,j+1,h=>by
    simp only [ycC,zjs,ycB]
    rw [zvb k b xs (i+1) _ j (by simpa using h)]
    congr 4
    omega
theorem zKo (t:T):∀ b:Int,0≤b→b+zac t≤1099511627776→Pure Tryz.prog zhz [.agg (cT t),.int .i64 b] [.int .i64 (zep t b)]:=by
  refine T.ind (p:=fun t=>∀ b:Int,0≤b→b+zac t≤1099511627776→Pure Tryz.prog zhz [.agg (cT t),.int .i64 b] [.int .i64 (zep t b)]) ?_ t
  intro k n ks ih b h0 hb
  refine zyq rfl fun hs=>?_
  have hl:=zfp (t:=.mk k n ks) (fun d hd=>hs d (by simp at hd; simp [hd]))
  simp [T.kids] at hl
  have hF:zep (.mk k n ks) b=zjs k b 0 (if k=1∧b≤n then n else -1) ks:=by rw [zep]
  have c1:k=1→b≤n→n=(if k=1∧b≤n then n else -1):=fun h1 h2=>(if_pos ⟨h1,h2⟩).symm
  have c2:¬(k=1∧b≤n) → -1=(if k=1∧b≤n then n else -1):=fun h=>(if_neg h).symm
  rw [hF]
  generalize (if k=1∧b≤n then n else -1)=A at c1 c2 ⊢
  simp -dsimp [zlp,cT]
  (first | refine zah ?_ ?_ | refine zag ?_ ?_) <;> intro h1 <;> (try simp only [nrm] at h1) <;> simp -dsimp [h1]
  (first | refine zah ?_ ?_ | refine zag ?_ ?_) <;> intro h2 <;> (try simp only [nrm] at h2) <;> simp -dsimp [h2,h1]
  all_goals
    refine zaj ks.length (fun i st=>st.s 2 = .ptr 2 1 0∧st.h 2=⟨1,.box [.d (.int .i64 k),.d (.int .i64 n),.d (.sl 3 (ks.map eT))] false⟩∧st.s 1 = .d (.int .i64 b)∧st.s 20 = .d (.sl 3 (ks.map eT))∧st.s 21 = .d (.int .i64 ks.length)∧st.s 22 = .d (.int .i64 i) ∧
      st.s 5 = .d (.int .i64 (zjs k b 0 A (ks.take i)))) ?_ ?_
    · simp -dsimp [zjs]
      first | exact ⟨h1.symm,c1 h1 h2⟩ | exact ⟨h1.symm,c2 (fun h=>h2 h.2)⟩ | exact c2 (fun h=>h1 h.1)
    · rintro i ⟨s,hp⟩ hi ⟨g1,g2,g3,g4,g5,g6,g7⟩
      dsimp only at g1 g2 g3 g4 g5 g6 g7
      rcases ybm i ks.length with hlt | hge
      · have w1:IntKind.i64.wrap ((i:Int)+1)=(i:Int)+1:=zad (by omega) (by omega)
        have hbl:=zcv k i
        have hnk:=zb7 (k:=k) (n:=n) (yaf hlt:ks[i] ∈ ks)
        have w2:IntKind.i64.wrap (b+zal k i)=b+zal k i:=zad (by omega) (by omega)
        have hsn:=zvb k b ks 0 A i hlt
        rw [ybj] at hsn
        simp -dsimp [g1,g2,g3,g4,g5,g6,g7,hlt,cT]
        refine zaa (zk3 k i) ?_
        simp -dsimp [g1,g2,g3,g4,g5,g6,g7,hlt,w2]
        refine zaa (ih ks[i] (yaf _) (b+zal k i) (by omega) (by omega)) ?_
        simp -dsimp [g1,g2,g3,g4,g5,g6,g7,hlt,w1,hsn,mx]
      · have e:i=ks.length:=by omega
        subst e
        rw [ycf] at g7
        simp -dsimp [g1,g2,g3,g4,g5,g6,g7]
structure Ag where
  t:T
  size:Int
  depth:Int
  free:Int
def cAg (a:Ag):List D:=cT a.t ++ [.int .i64 a.size,.int .i64 a.depth,.int .i64 a.free]
def eAg (a:Ag):D:=.agg (cAg a)
@[simp] theorem zMv (a:Ag):(eAg a).cells=cAg a:=rfl
def jobD (l:List Ag) (u:Int) (sc:Bool) (sz dp:Int):D:=.rp [.sl 6 (l.map eAg),.int .i64 u,.bool sc,.int .i64 sz,.int .i64 dp]
def zbt (len:Nat) (u n b:Int):Int:=if n<u+b∨(len:Int)≤n - (u+b) then -1 else len - 1 - (n - (u+b))
theorem zsx (l:List Ag) (u:Int) (sc:Bool) (sz dp n b:Int) (hu:0≤u∧u≤65535) (hb:0≤b∧b≤1099511627776) (hn:0≤n∧n≤65535):Pure Tryz.prog zei [jobD l u sc sz dp,.int .i64 n,.int .i64 b] [.int .i64 (zbt l.length u n b)]:=by
  refine zrr rfl fun hs=>?_
  have hl:((l.length:Int))≤9223372036854775807:=by
    have:=hs (jobD l u sc sz dp) (by simp)
    simp -dsimp [jobD,small] at this
    omega
  have w1:IntKind.i64.wrap (u+b)=u+b:=zad (by omega) (by omega)
  have w2:IntKind.i64.wrap (n - (u+b))=n - (u+b):=zad (by omega) (by omega)
  have w3:IntKind.i64.wrap ((l.length:Int) - 1)=(l.length:Int) - 1:=zad (by omega) (by omega)
  simp -dsimp [zg8,jobD,w1,w2,w3]
  (first | refine zah ?_ ?_ | refine zag ?_ ?_) <;> intro h1 <;> (try simp only [nrm] at h1) <;> simp -dsimp [h1,zbt,w1,w2,w3]
  (first | refine zah ?_ ?_ | refine zag ?_ ?_) <;> intro h2 <;> (try simp only [nrm] at h2) <;> simp -dsimp [h2,zbt,h1,w1,w2,w3]
  have w4:IntKind.i64.wrap ((l.length:Int) - 1 - (n - (u+b)))=(l.length:Int) - 1 - (n - (u+b)):=zad (by omega) (by omega)
  rw [w4]
structure St3 where
  sc:Bool
  sz:Int
  dp:Int
def mn (a b:Int):Int:=if b<a then b else a
def ze0:Int:=1099511627776
mutual
def zkz (l:List Ag) (u:Int):T→Int→Int→St3→St3
  | .mk k n ks,b,d,st =>
    if k=1 then
      if 0≤zbt l.length u n b then match l[(zbt l.length u n b).toNat]? with
        | some a=>⟨if st.sc then true else if 0≤a.free then decide (65535<w64 (w64 (a.free+u)+b)) else false,mn (w64 (st.sz+a.size)) ze0,mx st.dp (w64 (d+a.depth))⟩
        | none=>st
      else ⟨st.sc,mn (w64 (st.sz+1)) ze0,mx st.dp (w64 (d+1))⟩
    else zl1 l u k b d 0 ⟨st.sc,mn (w64 (st.sz+1)) ze0,mx st.dp (w64 (d+1))⟩ ks
def zl1 (l:List Ag) (u k b d:Int):Nat→St3→List T→St3
  | _,st,[]=>st
  | i,st,x :: xs=>zl1 l u k b d (i+1) (zkz l u x (b+zal k i) (w64 (d+1)) st) xs
end
theorem zrb (l:List Ag) (u k b d:Int):∀ (xs:List T) (i:Nat) (st:St3) (j:Nat) (h:j<xs.length),zl1 l u k b d i st (xs.take (j+1))=zkz l u xs[j] (b+zal k (i+j:Nat)) (w64 (d+1)) (zl1 l u k b d i st (xs.take j))
  | x :: xs,i,st,0,h=>by simp [zl1]
  | x :: xs,i,st,j+1,h=>by
    simp only [ycC,zl1,ycB]
    rw [zrb l u k b d xs (i+1) _ j (by simpa using h)]
    congr 3
    omega
def jobC (c0:AV) (u:Int) (st:St3):List AV:=[c0,.d (.int .i64 u),.d (.bool st.sc),.d (.int .i64 st.sz),.d (.int .i64 st.dp)]
def jobH (k v:Nat) (b:Body) (e:Ent):Nat→Ent:=fun q=>if q=k then ⟨v,b⟩ else e
theorem zso {G:GS} {h:Nat→Ent} {w:World} {v:Value} {d:D} (r:ARel G h w v (.d d)):small 8 d:=r.d_inv.small 8
theorem zjx {P:Program} {g:FuncId} {K:List Nat} {h0 h1:Nat→Ent} {rs:List D} {pre post:List AV} {cs:List D} (hm:MutC P g (pre ++ .d (.agg cs) :: post) K h0 rs h1):MutC P g (pre ++ .agg (cs.map .d) :: post) K h0 rs h1:=by
  obtain ⟨a1,a2,a3⟩:=hm
  refine ⟨a1,a2,fun G h w vs b1 b2 b3 b4 b5=>a3 G h w vs b1 b2 b3 (by simpa using b4) fun j a hj=>?_⟩
  rw [List.getElem?_append] at hj
  split at hj
  · rename_i hlt
    exact b5 j a (by rw [List.getElem?_append_left hlt]; exact hj)
  · rename_i hge
    cases hjj:j - pre.length with
    | zero =>
      rw [hjj] at hj
      simp at hj
      subst hj
      have:=b5 j (.agg (cs.map .d)) (by rw [ybW (by omega),hjj]; rfl)
      generalize hq:vs.getD j undef=q at this ⊢
      generalize hz:cs.map AV.d=zs at this
      cases this with
      | agg vs' _ hn hr =>
        subst hz
        refine .d _ _ (.agg vs' cs (by simpa using hn) fun i c hi=>?_)
        exact (hr i (.d c) (by rw [yau,hi]; rfl)).d_inv
    | succ i =>
      rw [hjj] at hj
      exact b5 j a (by rw [ybW (by omega),hjj]; simpa using hj)
theorem zIb {aa:List AV} {K:List Nat} {h0 h1:Nat→Ent} {rs:List D} (hl:aa.length=4) (hov:∀ k ∈ K,zvz K (h1 k).body)
    (hw:∀ (h:Nat→Ent),(∀ k ∈ K,h k=h0 k)→(∀ d,AV.d d ∈ aa→small 8 d)→wpX Tryz.prog zdq.code (zee zdq.res rs K h1) ⟨zde aa,h⟩):MutC Tryz.prog zb6 aa K h0 rs h1 :=
  zAy hm Tryz.func190 zsa hl hov fun G h w vs hk hlen hr=>hw h hk fun d hd=>by
    obtain ⟨j,hj⟩:=ybD.1 hd
    exact zso (hr j _ hj)
theorem zI8 (l:List Ag) (u:Int) (hu:0≤u∧u≤65535) (t:T):∀ (k v r rv:Nat) (b d:Int) (st:St3),k ≠ r→k ≠ 5→k ≠ 11→k ≠ 13→r ≠ 5→r ≠ 11→r ≠ 13→zab t=true→0≤b→b+zac t≤1099511627776 →
    MutC Tryz.prog zb6 [.ptr k v 0,.d (.agg (cT t)),.d (.int .i64 b),.d (.int .i64 d)] [k,r] (jobH k v (.box (jobC (.rsl r rv) u st) false) ⟨rv,.row 6 (l.map eAg) false⟩) []
      (jobH k v (.box (jobC (.rsl r rv) u (zkz l u t b d st)) false) ⟨rv,.row 6 (l.map eAg) false⟩):=by
  refine T.ind (p:=fun t=>∀ (k v r rv:Nat) (b d:Int) (st:St3),k ≠ r→k ≠ 5→k ≠ 11→k ≠ 13→r ≠ 5→r ≠ 11→r ≠ 13→zab t=true→0≤b→b+zac t≤1099511627776 →
    MutC Tryz.prog zb6 [.ptr k v 0,.d (.agg (cT t)),.d (.int .i64 b),.d (.int .i64 d)] [k,r] (jobH k v (.box (jobC (.rsl r rv) u st) false) ⟨rv,.row 6 (l.map eAg) false⟩) []
      (jobH k v (.box (jobC (.rsl r rv) u (zkz l u t b d st)) false) ⟨rv,.row 6 (l.map eAg) false⟩)) ?_ t
  intro kd n ks ih k v r rv b d st hkr hk5 hk11 hk13 hr5 hr11 hr13 hfm hb0 hb
  have hrk:r ≠ k:=Ne.symm hkr
  have n1:5 ≠ k:=Ne.symm hk5
  have n2:11 ≠ k:=Ne.symm hk11
  have n3:13 ≠ k:=Ne.symm hk13
  have n4:5 ≠ r:=Ne.symm hr5
  have n5:11 ≠ r:=Ne.symm hr11
  have n6:13 ≠ r:=Ne.symm hr13
  refine zIb rfl ?_ fun h hh hs=>?_
  · intro q hq
    simp only [jobH]
    split
    · intro c hc
      simp only [jobC,yaZ,ycD,or_false] at hc
      rcases hc with rfl | rfl | rfl | rfl | rfl
      · exact .rsl _ _ (by simp)
      all_goals exact .d _
    · trivial
  have e1:h k=⟨v,.box (jobC (.rsl r rv) u st) false⟩:=by rw [hh k (by simp)]; simp [jobH]
  have e2:h r=⟨rv,.row 6 (l.map eAg) false⟩:=by rw [hh r (by simp)]; simp [jobH,hrk]
  simp only [jobC] at e1
  have hsm:=hs (.agg (cT (.mk kd n ks))) (by simp)
  simp -dsimp [cT,small] at hsm
  simp -dsimp [zdq,cT,jobC,jobH]
  (first | refine zah ?_ ?_ | refine zag ?_ ?_) <;> intro g1 <;> (try simp only [nrm] at g1) <;> simp -dsimp [g1,e1,e2,hkr,hrk,hk5,hk11,hk13,hr5,hr11,hr13,n1,n2,n3,n4,n5,n6]
  · have hn:0≤n∧n≤65535:=by
      rw [za5,g1] at hfm
      have h0:zdw 1=0:=rfl
      rw [h0] at hfm
      split at hfm
      · simp only [if_true,ybJ] at hfm
        exact (zb1 _ _ _).1 hfm.1
      · cases hfm
    refine zqp (zsx l u st.sc st.sz st.dp n b hu ⟨hb0,by omega⟩ hn) (by simp [D.flat]) ?_
    generalize hw:zbt l.length u n b=W
    have hL:zkz l u (.mk kd n ks) b d st=if 0≤W then match l[W.toNat]? with
        | some a=>⟨if st.sc then true else if 0≤a.free then decide (65535<w64 (w64 (a.free+u)+b)) else false,mn (w64 (st.sz+a.size)) ze0,mx st.dp (w64 (d+a.depth))⟩
        | none=>st
      else ⟨st.sc,mn (w64 (st.sz+1)) ze0,mx st.dp (w64 (d+1))⟩:=by rw [zkz,if_pos g1,hw]
    rw [hL]
    simp -dsimp [e1,e2,hkr,hrk,hk5,hk11,hk13,hr5,hr11,hr13,n1,n2,n3,n4,n5,n6,g1]
    (first | refine zah ?_ ?_ | refine zag ?_ ?_) <;> intro g2 <;> (try simp only [nrm] at g2) <;> simp -dsimp [g2,e1,e2,hkr,hrk,hk5,hk11,hk13,hr5,hr11,hr13,n1,n2,n3,n4,n5,n6,g1]
    · have hlt:W.toNat<l.length:=by
        rw [zbt] at hw
        split at hw <;> omega
      have hget:l[W.toNat]? = some l[W.toNat]:=yar hlt
      have hltI:W<(l.length:Int):=by omega
      simp -dsimp [e1,e2,hkr,hrk,hk5,hk11,hk13,hr5,hr11,hr13,n1,n2,n3,n4,n5,n6,g1,g2,hlt,hltI,hget,eAg,cAg,cT]
      cases hsc:st.sc with
      | true =>
        simp -dsimp [e1,e2,hkr,hrk,hk5,hk11,hk13,hr5,hr11,hr13,n1,n2,n3,n4,n5,n6,g1,g2,hlt,hltI,hget,eAg,cAg,cT,hsc]
        (simp -dsimp [jobH,hrk,jobC,mn,mx,ze0,w64,g2,hget,hsc]) <;> (first | exact ⟨rfl,rfl⟩ | exact ⟨rfl,rfl,rfl⟩)
      | false =>
        simp -dsimp [e1,e2,hkr,hrk,hk5,hk11,hk13,hr5,hr11,hr13,n1,n2,n3,n4,n5,n6,g1,g2,hlt,hltI,hget,eAg,cAg,cT,hsc]
        (first | refine zah ?_ ?_ | refine zag ?_ ?_) <;> intro g3 <;> (try simp only [nrm] at g3) <;> simp -dsimp [g3,e1,e2,hkr,hrk,hk5,hk11,hk13,hr5,hr11,hr13,n1,n2,n3,n4,n5,n6,g1,g2,hlt,hltI,hget,eAg,cAg,cT,hsc]
        · (simp -dsimp [jobH,hrk,jobC,mn,mx,ze0,w64,g2,hget,hsc,g3]) <;> (first | exact ⟨rfl,rfl⟩ | exact ⟨rfl,rfl,rfl⟩)
        · (simp -dsimp [jobH,hrk,jobC,mn,mx,ze0,w64,g2,hget,hsc,g3]) <;> (first | exact ⟨rfl,rfl⟩ | exact ⟨rfl,rfl,rfl⟩)
    · (simp -dsimp [jobH,hrk,jobC,mn,mx,ze0,w64,g2]) <;> (first | exact ⟨rfl,rfl⟩ | exact ⟨rfl,rfl,rfl⟩)
  · have hL:zkz l u (.mk kd n ks) b d st=zl1 l u kd b d 0 ⟨st.sc,mn (w64 (st.sz+1)) ze0,mx st.dp (w64 (d+1))⟩ ks:=by rw [zkz,if_neg g1]
    rw [hL]
    have hks:ks.all zab=true:=by
      rw [za5] at hfm
      split at hfm
      · split at hfm
        · rw [ybJ] at hfm; exact hfm.2
        · split at hfm
          · exact hfm
          · cases hfm
      · cases hfm
    generalize hA:(⟨st.sc,mn (w64 (st.sz+1)) ze0,mx st.dp (w64 (d+1))⟩:St3)=A
    refine zaj ks.length (fun i st'=>st'.s 0 = .ptr k v 0∧st'.s 2 = .d (.int .i64 b)∧st'.s 3 = .d (.int .i64 d)∧st'.s 5 = .ptr 5 ((h 5).ver+1) 0∧st'.h 5=⟨(h 5).ver+1,.box [.d (.int .i64 kd),.d (.int .i64 n),.d (.sl 3 (ks.map eT))] false⟩ ∧
      st'.s 100 = .d (.sl 3 (ks.map eT))∧st'.s 101 = .d (.int .i64 ks.length)∧st'.s 102 = .d (.int .i64 i) ∧
      st'.h k=⟨v,.box (jobC (.rsl r rv) u (zl1 l u kd b d 0 A (ks.take i))) false⟩∧st'.h r=⟨rv,.row 6 (l.map eAg) false⟩) ?_ ?_
    · simp -dsimp [e1,e2,hkr,hrk,hk5,hk11,hk13,hr5,hr11,hr13,n1,n2,n3,n4,n5,n6,g1,zl1,jobC]
      simp -dsimp [← hA,mn,mx,ze0,w64] <;> exact ⟨rfl,rfl⟩
    · rintro i ⟨s,hp⟩ hi ⟨f1,f2,f3,f4,f5,f6,f7,f8,f9,f10⟩
      dsimp only at f1 f2 f3 f4 f5 f6 f7 f8 f9 f10
      generalize (h 5).ver+1=v5 at f4 f5
      rcases ybm i ks.length with hlt | hge
      · have w1:IntKind.i64.wrap ((i:Int)+1)=(i:Int)+1:=zad (by omega) (by omega)
        have hbl:=zcv kd i
        have hnk:=zb7 (k:=kd) (n:=n) (yaf hlt:ks[i] ∈ ks)
        have w2:IntKind.i64.wrap (b+zal kd i)=b+zal kd i:=zad (by omega) (by omega)
        simp only [jobC] at f9
        simp -dsimp [e1,e2,hkr,hrk,hk5,hk11,hk13,hr5,hr11,hr13,n1,n2,n3,n4,n5,n6,g1,f1,f2,f3,f4,f5,f6,f7,f8,f9,f10,hlt,cT]
        refine zqp (zk3 kd i) (by simp [D.flat]) ?_
        simp -dsimp [e1,e2,hkr,hrk,hk5,hk11,hk13,hr5,hr11,hr13,n1,n2,n3,n4,n5,n6,g1,f1,f2,f3,f4,f5,f6,f7,f8,f9,f10,hlt,w2]
        generalize hX:zl1 l u kd b d 0 A (ks.take i)=X at f9
        have hrec:=ih ks[i] (yaf _) k v r rv (b+zal kd i) (w64 (d+1)) X hkr hk5 hk11 hk13 hr5 hr11 hr13 (yaC.1 hks _ (yaf _)) (by omega) (by omega)
        have hrec2:=zjx (pre:=[.ptr k v 0]) (post:=[.d (.int .i64 (b+zal kd i)),.d (.int .i64 (w64 (d+1)))]) hrec
        refine zdo hrec2 ?_ ?_
        · simp [jobH,jobC,hrk,f9,f10,upd,hkr,hk5,hk11,hk13,hr5,hr11,hr13]
        have hsn:=zrb l u kd b d ks 0 A i hlt
        rw [ybj,hX] at hsn
        simp -dsimp [e1,e2,hkr,hrk,hk5,hk11,hk13,hr5,hr11,hr13,n1,n2,n3,n4,n5,n6,g1,za8,zbm,jobH,f1,f2,f3,f4,f5,f6,f7,f8,f9,f10,hlt,w1,hsn]
      · have e:i=ks.length:=by omega
        subst e
        rw [ycf] at f9
        simp -dsimp [e1,e2,hkr,hrk,hk5,hk11,hk13,hr5,hr11,hr13,n1,n2,n3,n4,n5,n6,g1,f1,f2,f3,f4,f5,f6,f7,f8,f9,f10]
        simp [jobH,jobC,hrk]
theorem zLp (u n b:Int) (h:0≤u) (hb:0≤b):zbt 0 u n b = -1:=by
  rw [zbt,if_pos]
  omega
theorem zGy (u:Int) (hu:0≤u∧u≤65535) (t:T):∀ (k v:Nat) (b d:Int) (st:St3),k ≠ 5→k ≠ 11→k ≠ 13→zab t=true→0≤b→b+zac t≤1099511627776 →
    MutC Tryz.prog zb6 [.ptr k v 0,.d (.agg (cT t)),.d (.int .i64 b),.d (.int .i64 d)] [k] (jobH k v (.box (jobC (.fsl 6 []) u st) false) ⟨0,.dead⟩) []
      (jobH k v (.box (jobC (.fsl 6 []) u (zkz [] u t b d st)) false) ⟨0,.dead⟩):=by
  refine T.ind (p:=fun t=>∀ (k v:Nat) (b d:Int) (st:St3),k ≠ 5→k ≠ 11→k ≠ 13→zab t=true→0≤b→b+zac t≤1099511627776 →
    MutC Tryz.prog zb6 [.ptr k v 0,.d (.agg (cT t)),.d (.int .i64 b),.d (.int .i64 d)] [k] (jobH k v (.box (jobC (.fsl 6 []) u st) false) ⟨0,.dead⟩) []
      (jobH k v (.box (jobC (.fsl 6 []) u (zkz [] u t b d st)) false) ⟨0,.dead⟩)) ?_ t
  intro kd n ks ih k v b d st hk5 hk11 hk13 hfm hb0 hb
  have n1:5 ≠ k:=Ne.symm hk5
  have n2:11 ≠ k:=Ne.symm hk11
  have n3:13 ≠ k:=Ne.symm hk13
  refine zIb rfl ?_ fun h hh hs=>?_
  · intro q hq
    simp only [jobH]
    split
    · intro c hc
      simp only [jobC,yaZ,ycD,or_false] at hc
      rcases hc with rfl | rfl | rfl | rfl | rfl
      · exact .fsl _ _
      all_goals exact .d _
    · trivial
  have e1:h k=⟨v,.box (jobC (.fsl 6 []) u st) false⟩:=by rw [hh k (by simp)]; simp [jobH]
  simp only [jobC] at e1
  have hsm:=hs (.agg (cT (.mk kd n ks))) (by simp)
  simp -dsimp [cT,small] at hsm
  simp -dsimp [zdq,cT,jobC,jobH]
  (first | refine zah ?_ ?_ | refine zag ?_ ?_) <;> intro g1 <;> (try simp only [nrm] at g1) <;> simp -dsimp [g1,e1,hk5,hk11,hk13,n1,n2,n3]
  · have hn:0≤n∧n≤65535:=by
      rw [za5,g1] at hfm
      have h0:zdw 1=0:=rfl
      rw [h0] at hfm
      split at hfm
      · simp only [if_true,ybJ] at hfm
        exact (zb1 _ _ _).1 hfm.1
      · cases hfm
    refine zqp (zsx [] u st.sc st.sz st.dp n b hu ⟨hb0,by omega⟩ hn) (by simp [D.flat]) ?_
    have hw:zbt ([]:List Ag).length u n b = -1:=zLp u n b hu.1 hb0
    have hL:zkz [] u (.mk kd n ks) b d st=⟨st.sc,mn (w64 (st.sz+1)) ze0,mx st.dp (w64 (d+1))⟩:=by rw [zkz,if_pos g1,hw,if_neg (by omega)]
    rw [hL,hw]
    simp -dsimp [e1,hk5,hk11,hk13,n1,n2,n3,g1]
    simp -dsimp [jobH,jobC,mn,mx,ze0,w64] <;> (first | exact ⟨rfl,rfl⟩ | exact ⟨rfl,rfl,rfl⟩)
  · have hL:zkz [] u (.mk kd n ks) b d st=zl1 [] u kd b d 0 ⟨st.sc,mn (w64 (st.sz+1)) ze0,mx st.dp (w64 (d+1))⟩ ks:=by rw [zkz,if_neg g1]
    rw [hL]
    have hks:ks.all zab=true:=by
      rw [za5] at hfm
      split at hfm
      · split at hfm
        · rw [ybJ] at hfm; exact hfm.2
        · split at hfm
          · exact hfm
          · cases hfm
      · cases hfm
    generalize hA:(⟨st.sc,mn (w64 (st.sz+1)) ze0,mx st.dp (w64 (d+1))⟩:St3)=A
    refine zaj ks.length (fun i st'=>st'.s 0 = .ptr k v 0∧st'.s 2 = .d (.int .i64 b)∧st'.s 3 = .d (.int .i64 d)∧st'.s 5 = .ptr 5 ((h 5).ver+1) 0∧st'.h 5=⟨(h 5).ver+1,.box [.d (.int .i64 kd),.d (.int .i64 n),.d (.sl 3 (ks.map eT))] false⟩ ∧
      st'.s 100 = .d (.sl 3 (ks.map eT))∧st'.s 101 = .d (.int .i64 ks.length)∧st'.s 102 = .d (.int .i64 i) ∧
      st'.h k=⟨v,.box (jobC (.fsl 6 []) u (zl1 [] u kd b d 0 A (ks.take i))) false⟩) ?_ ?_
    · simp -dsimp [e1,hk5,hk11,hk13,n1,n2,n3,g1,zl1,jobC]
      simp -dsimp [← hA,mn,mx,ze0,w64] <;> exact ⟨rfl,rfl⟩
    · rintro i ⟨s,hp⟩ hi ⟨f1,f2,f3,f4,f5,f6,f7,f8,f9⟩
      dsimp only at f1 f2 f3 f4 f5 f6 f7 f8 f9
      generalize (h 5).ver+1=v5 at f4 f5
      rcases ybm i ks.length with hlt | hge
      · have w1:IntKind.i64.wrap ((i:Int)+1)=(i:Int)+1:=zad (by omega) (by omega)
        have hbl:=zcv kd i
        have hnk:=zb7 (k:=kd) (n:=n) (yaf hlt:ks[i] ∈ ks)
        have w2:IntKind.i64.wrap (b+zal kd i)=b+zal kd i:=zad (by omega) (by omega)
        simp only [jobC] at f9
        simp -dsimp [e1,hk5,hk11,hk13,n1,n2,n3,g1,f1,f2,f3,f4,f5,f6,f7,f8,f9,hlt,cT]
        refine zqp (zk3 kd i) (by simp [D.flat]) ?_
        simp -dsimp [e1,hk5,hk11,hk13,n1,n2,n3,g1,f1,f2,f3,f4,f5,f6,f7,f8,f9,hlt,w2]
        generalize hX:zl1 [] u kd b d 0 A (ks.take i)=X at f9
        have hrec:=ih ks[i] (yaf _) k v (b+zal kd i) (w64 (d+1)) X hk5 hk11 hk13 (yaC.1 hks _ (yaf _)) (by omega) (by omega)
        have hrec2:=zjx (pre:=[.ptr k v 0]) (post:=[.d (.int .i64 (b+zal kd i)),.d (.int .i64 (w64 (d+1)))]) hrec
        refine zdo hrec2 ?_ ?_
        · simp [jobH,jobC,f9,upd,hk5,hk11,hk13]
        have hsn:=zrb [] u kd b d ks 0 A i hlt
        rw [ybj,hX] at hsn
        simp -dsimp [e1,hk5,hk11,hk13,n1,n2,n3,g1,za8,zbm,jobH,f1,f2,f3,f4,f5,f6,f7,f8,f9,hlt,w1,hsn]
      · have e:i=ks.length:=by omega
        subst e
        rw [ycf] at f9
        simp -dsimp [e1,hk5,hk11,hk13,n1,n2,n3,g1,f1,f2,f3,f4,f5,f6,f7,f8,f9]
        simp [jobH,jobC]
def agOf (x:T):Ag:=⟨x,zez x,zco x,zep x 0⟩
def zoy:List T→Int
  | []=>0
  | x :: xs=>if zam x=0 then zoy xs else zam x
theorem zv7:∀ (l:List T) (i:Nat) (h:i<l.length),(∀ (j:Nat) (hj:j<l.length),j<i→zam l[j]=0)→zam l[i] ≠ 0→zoy l=zam l[i]
  | x :: xs,0,h,_,hn=>by simp only [ycz] at hn ⊢; rw [zoy,if_neg hn]
  | x :: xs,i+1,h,ha,hn=>by
    have h0:=ha 0 (by simp) (by omega)
    simp only [ycz] at h0
    rw [zoy,if_pos h0]
    simp only [ycB] at hn ⊢
    exact zv7 xs i (by simpa using h) (fun j hj hji=>by have:=ha (j+1) (by simpa using hj) (by omega); simpa using this) hn
theorem ztg:∀ (l:List T),(∀ (j:Nat) (hj:j<l.length),j<l.length→zam l[j]=0)→zoy l=0
  | [],_=>rfl
  | x :: xs,ha=>by
    have h0:=ha 0 (by simp) (by simp)
    simp only [ycz] at h0
    rw [zoy,if_pos h0]
    exact ztg xs fun j hj _=>by have:=ha (j+1) (by simpa using hj) (by simpa using hj); simpa using this
def zes (t:T) (l:List T) (u:Int):Int:=if zam t=0 then if zoy l=0 then if u<0∨65535<u then 1 else 0 else zoy l else zam t
def st0:St3:=⟨false,0,0⟩
def zc6 (t:T) (l:List T) (u:Int):St3:=zkz (l.map agOf) u t 0 0 st0
def zne (t:T) (l:List T) (u:Int):D:=if zes t l u=0 then jobD (l.map agOf) u (zc6 t l u).sc (zc6 t l u).sz (zc6 t l u).dp else .nilp
theorem zDh (t:T) (l:List T) (u:Int) (ht:zac t≤549755813888) (hl:∀ x ∈ l,zac x≤549755813888) (hn:l.length≤2097152) :
    Pure Tryz.prog zlr [.agg (cT t),eTs l,.int .i64 u] [zne t l u,.int .i64 (zes t l u)]:=by
  refine zxh rfl fun hs=>?_
  simp -dsimp [zl3,cT,eTs]
  refine zaa (zk2 t) ?_
  simp -dsimp
  (first | refine zah ?_ ?_ | refine zag ?_ ?_) <;> intro h1 <;> (try simp only [nrm] at h1) <;> simp -dsimp [h1]
  · have hE:zes t l u=zam t:=by rw [zes,if_neg h1]
    rw [zne,hE,if_neg h1]
    simp -dsimp
  have hfm:=zj1 h1
  refine zaj l.length (fun i st=>st.s 2 = .d (.int .i64 u)∧st.s 3 = .ptr 3 1 0∧st.h 3=⟨1,.box [.d (.int .i64 t.kind),.d (.int .i64 t.num),.d (.sl 3 (t.kids.map eT))] false⟩ ∧
    st.s 9 = .ptr 20 1 0∧st.s 21 = .d (.sl 3 (l.map eT))∧st.s 22 = .d (.int .i64 l.length)∧st.s 23 = .d (.int .i64 i) ∧
    (∃ c0,st.h 20=⟨1,.box [c0,.d (.int .i64 u),.d (.bool false),.d (.int .i64 0),.d (.int .i64 0)] false⟩∧((i=0∧c0 = .fsl 6 []) ∨ ∃ v,c0 = .rsl 46 v∧st.h 46=⟨v,.row 6 ((l.map (eAg ∘ agOf)).take i) false⟩)) ∧
    ∀ (j:Nat) (hj:j<l.length),j<i→zam l[j]=0) ?_ ?_
  · simp -dsimp
  · rintro i ⟨s,hp⟩ hi ⟨g1,g2,g3,g4,g5,g6,g7,⟨c0,g8,g9⟩,g10⟩
    dsimp only at g1 g2 g3 g4 g5 g6 g7 g8 g9
    rcases ybm i l.length with hlt | hge
    · have w1:IntKind.i64.wrap ((i:Int)+1)=(i:Int)+1:=zad (by omega) (by omega)
      simp -dsimp [g1,g2,g3,g4,g5,g6,g7,g8,hlt,cT]
      refine zaa (zk2 l[i]) ?_
      simp -dsimp [g1,g2,g3,g4,g5,g6,g7,g8,hlt,cT]
      (first | refine zah ?_ ?_ | refine zag ?_ ?_) <;> intro h2 <;> (try simp only [nrm] at h2) <;> simp -dsimp [h2,g1,g2,g3,g4,g5,g6,g7,g8,hlt,cT]
      · have hA:=zv7 l i hlt g10 h2
        have hE:zes t l u=zam l[i]:=by rw [zes,if_pos h1,if_neg (by rw [hA]; exact h2),hA]
        have hR:zne t l u = .nilp:=by rw [zne,if_neg (by rw [hE]; exact h2)]
        simp -dsimp [hE,hR]
      refine zaa (zAh l[i]) ?_
      simp -dsimp [g1,g2,g3,g4,g5,g6,g7,g8,hlt,cT]
      refine zaa (zxw l[i]) ?_
      simp -dsimp [g1,g2,g3,g4,g5,g6,g7,g8,hlt,cT]
      have hln:=hl l[i] (yaf _)
      refine zaa (zKo l[i] 0 (by omega) (by omega)) ?_
      have hr:(min i l.length+1)*64≤zae:=by simp only [zae]; omega
      have hsn:(l.map (eAg ∘ agOf)).take i ++ [D.agg [.int .i64 l[i].kind,.int .i64 l[i].num,.sl 3 (l[i].kids.map eT),.int .i64 (zez l[i]),.int .i64 (zco l[i]),.int .i64 (zep l[i] 0)]]=(l.map (eAg ∘ agOf)).take (i+1) :=
        zix (eAg ∘ agOf) (fun x=>cAg (agOf x)) (fun _=>rfl) l i hlt
      rcases g9 with ⟨rfl,rfl⟩ | ⟨v,rfl,g9⟩
      · have h64:64≤zae:=by decide
        simp only [ycE,ycu,ybj] at hsn
        simp at hlt w1
        simp -dsimp [g1,g2,g3,g4,g5,g6,g7,g8,hlt,cT,h64,w1]
        exact ⟨hsn, fun j hj hji => by have:j=0:=by omega
                                       subst this; exact h2⟩
      · simp -dsimp [g1,g2,g3,g4,g5,g6,g7,g8,g9,hlt,cT,hr,hsn,w1]
        intro j hj hji
        rcases ybm j i with h | h
        · exact g10 j hj h
        · have:j=i:=by omega
          subst this
          exact h2
    · have e:i=l.length:=by omega
      subst e
      have hA:=ztg l g10
      simp -dsimp [g1,g2,g3,g4,g5,g6,g7,g8]
      have bad:(u<0∨65535<u)→zne t l u = .nilp∧zes t l u=1:=fun hu=>by
        have hE:zes t l u=1:=by rw [zes,if_pos h1,if_pos hA,if_pos hu]
        exact ⟨by rw [zne,hE]; rfl,hE⟩
      (first | refine zah ?_ ?_ | refine zag ?_ ?_) <;> intro h3 <;> (try simp only [nrm] at h3) <;> simp -dsimp [h3,g1,g2,g3,g4,g5,g6,g7,g8]
      · simp -dsimp [bad (.inl h3)]
      (first | refine zah ?_ ?_ | refine zag ?_ ?_) <;> intro h4 <;> (try simp only [nrm] at h4) <;> simp -dsimp [h4,g1,g2,g3,g4,g5,g6,g7,g8,h3]
      · simp -dsimp [bad (.inr h4)]
      have hE:zes t l u=0:=by rw [zes,if_pos h1,if_pos hA,if_neg (by omega)]
      have hR:zne t l u=jobD (l.map agOf) u (zc6 t l u).sc (zc6 t l u).sz (zc6 t l u).dp:=by rw [zne,if_pos hE]
      rw [hE,hR]
      have hu:0≤u∧u≤65535:=by omega
      have hnt:(0:Int)+zac t≤1099511627776:=by omega
      rcases g9 with ⟨hz,rfl⟩ | ⟨v,rfl,g9⟩
      · have hl0:l=[]:=ycF.1 hz
        subst hl0
        refine zdo (zjx (pre:=[.ptr 20 1 0]) (post:=[.d (.int .i64 0),.d (.int .i64 0)]) (zGy u hu t 20 1 0 0 st0 (by omega) (by omega) (by omega) hfm (by omega) hnt)) ?_ ?_
        · simp [jobH,jobC,g8,st0]
        simp -dsimp [za8,zbm,jobH,jobC,g1,g2,g3,g4,jobD,zc6]
      · rw [yce (by simp)] at g9
        rw [zll]
        refine zdo (zjx (pre:=[.ptr 20 1 0]) (post:=[.d (.int .i64 0),.d (.int .i64 0)]) (zI8 (l.map agOf) u hu t 20 1 46 v 0 0 st0 (by omega) (by omega) (by omega) (by omega) (by omega) (by omega) (by omega) hfm (by omega) hnt)) ?_ ?_
        · simp [jobH,jobC,g8,g9,st0]
        simp -dsimp [za8,zbm,jobH,jobC,g1,g2,g3,g4,jobD,zc6]
def zT:T:=.mk 0 0 []
def zbb (l:List T) (u n b:Int):T :=
  if 0≤zbt l.length u n b then match l[(zbt l.length u n b).toNat]? with
    | some a=>zit (w64 (u+b)) a
    | none=>zT
  else .mk 1 (if u+b≤n then w64 (n - l.length) else n) []
theorem zFt (l:List T) (u:Int) (sc:Bool) (sz dp:Int) (hu:0≤u∧u≤65535) (hl:∀ x ∈ l,zab x=true∧zac x≤549755813888) (n b:Int) (hn:0≤n) (hn':n≤65535) (hb:0≤b) (hb':b≤1099511627776) :
    Pure Tryz.prog zdv [.int .i64 n,.int .i64 b,.rp [jobD (l.map agOf) u sc sz dp],.rp [.int .i64 u],.rp [eTs l]] [.agg (cT (zbb l u n b))]:=by
  refine zut rfl fun hs=>?_
  have w1:IntKind.i64.wrap (u+b)=u+b:=zad (by omega) (by omega)
  have w1':w64 (u+b)=u+b:=w1
  simp -dsimp [zhs,eTs]
  have hw:=zsx (l.map agOf) u sc sz dp n b hu ⟨hb,hb'⟩ ⟨hn,hn'⟩
  rw [ycn] at hw
  refine zaa hw ?_
  generalize hW:zbt l.length u n b=W
  have hI:zbb l u n b=if 0≤W then match l[W.toNat]? with
    | some a=>zit (w64 (u+b)) a
    | none=>zT
    else .mk 1 (if u+b≤n then w64 (n - l.length) else n) []:=by rw [zbb,hW]
  simp -dsimp
  (first | refine zah ?_ ?_ | refine zag ?_ ?_) <;> intro g1 <;> (try simp only [nrm] at g1) <;> simp -dsimp [g1]
  · have hlt:W.toNat<l.length:=by
      rw [zbt] at hW
      split at hW <;> omega
    have hget:l[W.toNat]? = some l[W.toNat]:=yar hlt
    have hI2:zbb l u n b=zit (w64 (u+b)) l[W.toNat]:=by rw [hI,if_pos g1,hget]
    rw [hI2,w1']
    simp -dsimp [jobD,g1,hlt,w1,agOf,cAg,eAg,cT]
    obtain ⟨hf,hnn⟩:=hl l[W.toNat] (yaf _)
    refine zaa (zHk l[W.toNat] (u+b) hf (by omega)) ?_
    simp -dsimp [cT]
  · have hI2:zbb l u n b = .mk 1 (if u+b≤n then w64 (n - l.length) else n) []:=by rw [hI,if_neg g1]
    rw [hI2]
    simp -dsimp [g1,w1]
    (first | refine zah ?_ ?_ | refine zag ?_ ?_) <;> intro g2 <;> (try simp only [nrm] at g2) <;> simp -dsimp [g2,g1,w1]
    · refine zaa (v_ok _) ?_
      simp -dsimp [g2,cT,w64]
    · refine zaa (v_ok _) ?_
      simp -dsimp [g2,cT,w64]
def zbh (t:T) (l:List T) (u:Int):Int :=
  if zes t l u=0 then if (zc6 t l u).sc then 6 else if 6000<(zc6 t l u).sz then 4 else if 200<(zc6 t l u).dp then 5 else 0 else zes t l u
def zb0 (t:T) (l:List T) (u:Int):T:=if zbh t l u=0 then mapT (zbb l u) t 0 else zT
theorem zhh {t:T} {l:List T} {u:Int} (h:zes t l u=0):zab t=true∧(∀ x ∈ l,zab x=true)∧0≤u∧u≤65535:=by
  rw [zes] at h
  by_cases h1:zam t=0
  · rw [if_pos h1] at h
    by_cases h2:zoy l=0
    · rw [if_pos h2] at h
      refine ⟨zj1 h1,?_,?_⟩
      · clear h h1
        induction l with
        | nil=>simp
        | cons x xs ih =>
          rw [zoy] at h2
          by_cases h3:zam x=0
          · rw [if_pos h3] at h2
            intro y hy
            rcases yaZ.1 hy with rfl | hy
            · exact zj1 h3
            · exact ih h2 y hy
          · rw [if_neg h3] at h2; exact absurd h2 h3
      · by_cases h3:u<0∨65535<u
        · rw [if_pos h3] at h; cases h
        · omega
    · rw [if_neg h2] at h; exact absurd h h2
  · rw [if_neg h1] at h; exact absurd h h1
theorem zEd (t:T) (l:List T) (u:Int) (ht:zac t≤549755813888) (hl:∀ x ∈ l,zac x≤549755813888) (hn:l.length≤2097152) :
    Pure Tryz.prog zft [.agg (cT t),eTs l,.int .i64 u] [.agg (cT (zb0 t l u)),.int .i64 (zbh t l u)]:=by
  refine zyj rfl fun hs=>?_
  simp -dsimp [zjj,cT,eTs]
  refine zaa (zDh t l u ht hl hn) ?_
  by_cases h1:zes t l u=0
  · have hR:zne t l u=jobD (l.map agOf) u (zc6 t l u).sc (zc6 t l u).sz (zc6 t l u).dp:=by rw [zne,if_pos h1]
    obtain ⟨f1,f2,f3⟩:=zhh h1
    have hE:zbh t l u=if (zc6 t l u).sc then 6 else if 6000<(zc6 t l u).sz then 4 else if 200<(zc6 t l u).dp then 5 else 0:=by rw [zbh,if_pos h1]
    generalize zc6 t l u=st at hR hE
    obtain ⟨sc,sz,dp⟩:=st
    have bad:zbh t l u ≠ 0→zb0 t l u=zT:=fun h=>by rw [zb0,if_neg h]
    rw [hR,h1]
    cases sc with
    | true =>
      have hE1:zbh t l u=6:=by rw [hE]; rfl
      have hT:=bad (by omega)
      simp -dsimp [jobD,hE1,hT,zT,cT]
    | false =>
      simp -dsimp [jobD]
      (first | refine zah ?_ ?_ | refine zag ?_ ?_) <;> intro h2 <;> (try simp only [nrm] at h2) <;> simp -dsimp [h2]
      · have hE1:zbh t l u=4:=by rw [hE]; simp [h2]
        have hT:=bad (by omega)
        simp -dsimp [hE1,hT,zT,cT]
      (first | refine zah ?_ ?_ | refine zag ?_ ?_) <;> intro h3 <;> (try simp only [nrm] at h3) <;> simp -dsimp [h3,h2]
      · have hE1:zbh t l u=5:=by rw [hE]; simp [h2,h3]
        have hT:=bad (by omega)
        simp -dsimp [hE1,hT,zT,cT]
      have hE1:zbh t l u=0:=by rw [hE]; simp [h2,h3]
      have hT:zb0 t l u=mapT (zbb l u) t 0:=by rw [zb0,if_pos hE1]
      rw [hE1,hT]
      have hmap:=zH9 (zbb l u) zdv [.rp [jobD (l.map agOf) u false sz dp],.rp [.int .i64 u],.rp [eTs l]] (fun n b a1 a2 a3 a4=>zFt l u false sz dp f3 (fun x hx=>⟨f2 x hx,hl x hx⟩) n b a1 a2 a3 a4) t 0 f1 (by omega) (show (0:Int)+zac t≤1099511627776 by omega)
      have hj:jobD (l.map agOf) u false sz dp = .rp [.sl 6 (l.map (eAg ∘ agOf)),.int .i64 u,.bool false,.int .i64 sz,.int .i64 dp]:=by simp [jobD]
      rw [hj] at hmap
      refine zaa hmap ?_
      simp -dsimp [h2,h3,cT]
  · have hR:zne t l u = .nilp:=by rw [zne,if_neg h1]
    have hE:zbh t l u=zes t l u:=by rw [zbh,if_neg h1]
    have hT:zb0 t l u=zT:=by rw [zb0,hE,if_neg h1]
    rw [hR,hE,hT]
    simp -dsimp [h1,zT,cT]
theorem zEc (a b:Int):mn a b=min a b:=by rw [mn]; split <;> omega
theorem zw1 (f:Int→Int→T) (k b:Int) (g:T→Nat):∀ (l:List T) (i:Nat),(∀ x ∈ l,∀ c,g (mapT f x c)=g x)→(mapL f k b i l).map g=l.map g
  | [],i,_=>by simp [mapL]
  | x :: xs,i,h=>by
    simp only [mapL,yaV]
    rw [h x (by simp) _,zw1 f k b g xs (i+1) fun y hy=>h y (by simp [hy])]
theorem zvk (f:Int→Int→T) (hf:∀ n b,zac (f n b)=1) (t:T):zab t=true → ∀ b,zac (mapT f t b)=zac t:=by
  refine T.ind (p:=fun t=>zab t=true → ∀ b,zac (mapT f t b)=zac t) ?_ t
  intro k n ks ih hfm b
  rw [mapT]
  by_cases h1:k=1
  · rw [if_pos h1,hf,zpy h1 hfm,zcs]
  · rw [if_neg h1,zac,zac,zw1 f k b zac ks 0 fun x hx c=>ih x hx (za9 hfm x hx) c]
theorem zu3 (f:Int→Int→T) (hf:∀ n b,za7 (f n b)=1) (t:T):zab t=true → ∀ b,za7 (mapT f t b)=za7 t:=by
  refine T.ind (p:=fun t=>zab t=true → ∀ b,za7 (mapT f t b)=za7 t) ?_ t
  intro k n ks ih hfm b
  rw [mapT]
  by_cases h1:k=1
  · rw [if_pos h1,hf,zpy h1 hfm,zhj]
  · rw [if_neg h1,za7,za7,zw1 f k b za7 ks 0 fun x hx c=>ih x hx (za9 hfm x hx) c]
theorem zs5 {a:T} (h:zab a=true) (y:Int):zac (zit y a)=zac a:=zvk _ (fun _ _=>zcs _ _) a h 0
theorem zuk {a:T} (h:zab a=true) (y:Int):za7 (zit y a)=za7 a:=zu3 _ (fun _ _=>zhj _ _) a h 0
def zvr (a:T) (c:Int):Bool:=decide (0≤zep a 0) && decide (65535<zep a 0+c)
mutual
def scI (l:List T) (u:Int):T→Int→Bool
  | .mk k n ks,b=>if k=1 then (match (if 0≤zbt l.length u n b then l[(zbt l.length u n b).toNat]? else none) with | some a=>zvr a (u+b) | none=>false) else scL l u k b 0 ks
def scL (l:List T) (u k b:Int):Nat→List T→Bool
  | _,[]=>false
  | i,x :: xs=>scI l u x (b+zal k i) || scL l u k b (i+1) xs
end
theorem zzc (t:T):zab t=true → ∀ b,-1≤zep t b∧zep t b≤65535:=by
  refine T.ind (p:=fun t=>zab t=true → ∀ b,-1≤zep t b∧zep t b≤65535) ?_ t
  intro k n ks ih hfm b
  rw [zep]
  have h0:-1≤(if k=1∧b≤n then n else -1)∧(if k=1∧b≤n then n else -1)≤65535:=by
    split
    · rename_i h
      have:=zc7 h.1 hfm
      omega
    · omega
  have hk:=za9 hfm
  generalize (if k=1∧b≤n then n else -1)=a at h0
  have go:∀ (l:List T) (i:Nat) (a:Int),(∀ x ∈ l,zab x=true → ∀ b,-1≤zep x b∧zep x b≤65535)→(∀ x ∈ l,zab x=true) → -1≤a∧a≤65535 → -1≤zjs k b i a l∧zjs k b i a l≤65535:=by
    intro l
    induction l with
    | nil=>intro i a _ _ h; simpa [zjs] using h
    | cons x xs ihx =>
      intro i a h1 h2 h3
      rw [zjs]
      have hx:=h1 x (by simp) (h2 x (by simp)) (b+zal k i)
      refine ihx (i+1) _ (fun y hy=>h1 y (by simp [hy])) (fun y hy=>h2 y (by simp [hy])) ?_
      rw [zuy]
      omega
  exact go ks 0 a ih hk h0
theorem zB2 (l:List T) (u:Int) (hl:∀ x ∈ l,zab x=true∧zac x≤1048576) (t:T):∀ b,za7 (mapT (zbb l u) t b)≤za7 t+1048576:=by
  refine T.ind (p:=fun t=>∀ b,za7 (mapT (zbb l u) t b)≤za7 t+1048576) ?_ t
  intro k n ks ih b
  rw [mapT]
  by_cases h1:k=1
  · rw [if_pos h1,zbb]
    have hz:za7 zT=1:=zhj 0 0
    split
    · split
      · rename_i a ha
        obtain ⟨h2,h3⟩:=hl a (yas ha)
        rw [zuk h2]
        have:=zps a
        omega
      · rw [hz]; omega
    · rw [zhj]; omega
  · rw [if_neg h1,za7,za7]
    have go:∀ (xs:List T) (i:Nat),(∀ x ∈ xs,x ∈ ks)→dmax ((mapL (zbb l u) k b i xs).map za7)≤dmax (xs.map za7)+1048576:=by
      intro xs
      induction xs with
      | nil=>intro i _; simp [mapL,dmax]
      | cons x xs ihx =>
        intro i hm
        have h2:=ih x (hm x (by simp)) (b+zal k i)
        have h3:=ihx (i+1) fun y hy=>hm y (by simp [hy])
        simp only [mapL,yaV,dmax,ycm] at h3 ⊢
        omega
    have:=go ks 0 fun x hx=>hx
    omega
theorem zJ9 (l:List T) (u:Int) (hu:0≤u∧u≤65535) (hl:∀ x ∈ l,zab x=true∧zac x≤1048576) (t:T):∀ (b d:Int) (st:St3),zab t=true→0≤b→b+zac t≤2097152→0≤d→d+zac t≤2097152 →
    0≤st.sz→st.sz≤ze0→0≤st.dp→st.dp≤1099511627776 →
    zkz (l.map agOf) u t b d st=⟨st.sc || scI l u t b,min (st.sz+zac (mapT (zbb l u) t b)) ze0,max st.dp (d+za7 (mapT (zbb l u) t b))⟩:=by
  refine T.ind (p:=fun t=>∀ (b d:Int) (st:St3),zab t=true→0≤b→b+zac t≤2097152→0≤d→d+zac t≤2097152 →
    0≤st.sz→st.sz≤ze0→0≤st.dp→st.dp≤1099511627776 →
    zkz (l.map agOf) u t b d st=⟨st.sc || scI l u t b,min (st.sz+zac (mapT (zbb l u) t b)) ze0,max st.dp (d+za7 (mapT (zbb l u) t b))⟩) ?_ t
  intro k n ks ih b d st hfm hb0 hb hd0 hd hs0 hs1 hp0 hp1
  have hM:ze0=1099511627776:=rfl
  have hn1:1≤zac (.mk k n ks):=by rw [zac]; omega
  by_cases h1:k=1
  · have hks:=zpy h1 hfm
    have hn:=zc7 h1 hfm
    subst h1 hks
    rw [zkz,if_pos rfl,scI,if_pos rfl,mapT,if_pos rfl,zbb,ycn]
    by_cases hW:0≤zbt l.length u n b
    · have hlt:(zbt l.length u n b).toNat<l.length:=by
        have h2:=hW
        rw [zbt] at h2 ⊢
        split at h2
        · omega
        · rename_i h3
          rw [if_neg h3]
          omega
      have hx:=hl _ (yaf hlt)
      generalize hw:(zbt l.length u n b).toNat=m at hlt hx
      have hfr:=zzc l[m] hx.1 0
      rw [if_pos hW,if_pos hW,if_pos hW,yau,yar hlt]
      simp only [yak,agOf]
      rw [ztw _ (by omega),zqq _ (by omega),zs5 hx.1,zuk hx.1]
      have hdl:=zps l[m]
      rw [zd8 (n:=st.sz+_) (by omega) (by omega),zd8 (n:=d+_) (by omega) (by omega),zEc,zuy,hM,zd8 (n:=zep l[m] 0+u) (by omega) (by omega),zd8 (n:=zep l[m] 0+u+b) (by omega) (by omega)]
      congr 1
      rw [zvr]
      have e:zep l[m] 0+u+b=zep l[m] 0+(u+b):=by omega
      rw [e]
      cases st.sc
      · by_cases h4:0≤zep l[m] 0 <;> simp [h4]
      · simp
    · rw [if_neg hW,if_neg hW,if_neg hW]
      simp only [zcs,zhj]
      rw [zd8 (by omega) (by omega),zd8 (by omega) (by omega),zEc,zuy,hM]
      simp
  · have hkf:=za9 hfm
    rw [zkz,if_neg h1,scI,if_neg h1,mapT,if_neg h1,zac,za7]
    have hnn:zac (.mk k n ks)=(ks.map zac).sum+1:=by rw [zac]
    have go:∀ (xs:List T) (i:Nat) (st:St3),(∀ x ∈ xs,x ∈ ks)→0≤st.sz→st.sz≤ze0→d+1≤st.dp→st.dp≤1099511627776 →
        zl1 (l.map agOf) u k b d i st xs=⟨st.sc || scL l u k b i xs,min (st.sz+((mapL (zbb l u) k b i xs).map zac).sum) ze0,max st.dp (d+1+dmax ((mapL (zbb l u) k b i xs).map za7))⟩:=by
      intro xs
      induction xs with
      | nil =>
        intro i st _ a0 a1 a2 a3
        simp only [zl1,scL,mapL,ycG,List.sum_nil,dmax,List.foldr_nil]
        obtain ⟨sc,sz,dp⟩:=st
        simp only [Bool.or_false,St3.mk.injEq,true_and]
        simp only at a0 a1 a2 a3
        omega
      | cons x xs ihx =>
        intro i st hmem a0 a1 a2 a3
        have hxk:=hmem x (by simp)
        have hxn:=zb7 (k:=k) (n:=n) hxk
        have hbl:=zcv k i
        rw [zl1,zd8 (n:=d+1) (by omega) (by omega),ih x hxk (b+zal k i) (d+1) st (hkf x hxk) (by omega) (by omega) (by omega) (by omega) a0 a1 (by omega) a3]
        have hdx:=zps x
        rw [ihx (i+1) _ (fun y hy=>hmem y (by simp [hy])) (by simp only; omega) (by simp only; omega) (by simp only; omega) ?_]
        · simp only [scL,mapL,yaV,List.sum_cons,dmax,ycm,Bool.or_assoc,St3.mk.injEq,true_and]
          omega
        · simp only
          have:=zB2 l u hl x (b+zal k i)
          omega
    have hg:=go ks 0 ⟨st.sc,mn (w64 (st.sz+1)) ze0,mx st.dp (w64 (d+1))⟩ (fun x hx=>hx) (by simp only; rw [zd8 (by omega) (by omega),zEc]; omega) (by simp only; rw [zEc]; omega) (by simp only; rw [zd8 (by omega) (by omega),zuy]; omega)
      (by simp only; rw [zd8 (by omega) (by omega),zuy]; omega)
    rw [hg]
    simp only [St3.mk.injEq,true_and]
    rw [zd8 (n:=st.sz+1) (by omega) (by omega),zd8 (n:=d+1) (by omega) (by omega),zEc,zuy]
    omega
theorem zp5 {t:T} {l:List T} {u:Int} (h:zes t l u=0) (ht:zac t≤1048576) (hl:∀ x ∈ l,zac x≤1048576) :
    zc6 t l u=⟨scI l u t 0,min (zac (mapT (zbb l u) t 0):Int) ze0,za7 (mapT (zbb l u) t 0)⟩:=by
  obtain ⟨f1,f2,f3⟩:=zhh h
  rw [zc6,zJ9 l u f3 (fun x hx=>⟨f2 x hx,hl x hx⟩) t 0 0 st0 f1 (by omega) (by omega) (by omega) (by omega) (by simp [st0]) (by simp [st0,ze0]) (by simp [st0]) (by simp [st0])]
  simp only [st0,Bool.false_or,St3.mk.injEq,true_and]
  omega
theorem zGo {t:T} {l:List T} {u:Int} (ht:zac t≤1048576) (hl:∀ x ∈ l,zac x≤1048576) :
    zbh t l u=0 ↔ zes t l u=0∧scI l u t 0=false∧zac (mapT (zbb l u) t 0)≤6000∧za7 (mapT (zbb l u) t 0)≤200:=by
  have hM:ze0=1099511627776:=rfl
  rw [zbh]
  by_cases h:zes t l u=0
  · rw [if_pos h,zp5 h ht hl]
    simp only
    cases scI l u t 0 with
    | true=>simp
    | false =>
      simp only [yao,if_false,true_and,h]
      by_cases h1:(6000:Int)<min (zac (mapT (zbb l u) t 0):Int) ze0
      · rw [if_pos h1]
        constructor
        · intro h; cases h
        · omega
      · rw [if_neg h1]
        by_cases h2:(200:Int)<za7 (mapT (zbb l u) t 0)
        · rw [if_pos h2]
          constructor
          · intro h; cases h
          · omega
        · rw [if_neg h2]
          constructor
          · intro _; omega
          · intro _; rfl
  · rw [if_neg h]
    constructor
    · intro h'; exact absurd h' h
    · rintro ⟨h',_⟩; exact absurd h' h
theorem zE7 {t:T} {l:List T} {u:Int} (h:zbh t l u=0):zb0 t l u=mapT (zbb l u) t 0:=by rw [zb0,if_pos h]
theorem zL7 (k:Int) (l:List T) (hl:l.length*40≤zae):Pure Tryz.prog zfy [.int .i64 k,eTs l] [.agg (cT (.mk k 0 l))]:=by
  refine zt1 rfl fun hs=>?_
  simp -dsimp [ziv,cT,eTs,hl]
theorem zDk (t:T) (l:List T) (u:Int):zes t l u=0 ↔ zam t=0∧(∀ x ∈ l,zam x=0)∧0≤u∧u≤65535:=by
  have ha:zoy l=0 ↔ ∀ x ∈ l,zam x=0:=by
    induction l with
    | nil=>simp [zoy]
    | cons x xs ih =>
      rw [zoy]
      by_cases h:zam x=0
      · simp [h,ih]
      · simp [h]
  rw [zes,← ha]
  by_cases h1:zam t=0
  · rw [if_pos h1]
    by_cases h2:zoy l=0
    · rw [if_pos h2]
      by_cases h3:u<0∨65535<u
      · rw [if_pos h3]
        constructor
        · intro h; cases h
        · omega
      · rw [if_neg h3]
        constructor
        · intro _; exact ⟨h1,h2,by omega⟩
        · intro _; rfl
    · rw [if_neg h2]
      constructor
      · intro h; exact absurd h h2
      · intro h; exact absurd h.2.1 h2
  · rw [if_neg h1]
    constructor
    · intro h; exact absurd h h1
    · intro h; exact absurd h.1 h1
theorem zC2 (l:List T) (u k b:Int):∀ (xs:List T) (i j:Nat) (h:j<xs.length),scL l u k b i xs=false→scI l u xs[j] (b+zal k (i+j:Nat))=false
  | x :: xs,i,0,h,hs=>by
    rw [scL,ycx] at hs
    simpa using hs.1
  | x :: xs,i,j+1,h,hs=>by
    rw [scL,ycx] at hs
    have:=zC2 l u k b xs (i+1) j (by simpa using h) hs.2
    simp only [ycB]
    rw [show i+(j+1)=i+1+j by omega]
    exact this
theorem zD2 (f g:Int→Int→T) (h:∀ n b:Int,0≤n→n≤65535→0≤b→b≤4194304→f n b=g n b) (t:T):∀ b:Int,zab t=true→0≤b→b+zac t≤4194304→mapT f t b=mapT g t b:=by
  refine T.ind (p:=fun t=>∀ b:Int,zab t=true→0≤b→b+zac t≤4194304→mapT f t b=mapT g t b) ?_ t
  intro k n ks ih b hfm h0 hb
  rw [mapT,mapT]
  by_cases h1:k=1
  · have hn:=zc7 h1 hfm
    rw [if_pos h1,if_pos h1,h n b hn.1 hn.2 h0 (by omega)]
  · rw [if_neg h1,if_neg h1]
    congr 1
    have go:∀ (xs:List T) (i:Nat),(∀ x ∈ xs,x ∈ ks)→mapL f k b i xs=mapL g k b i xs:=by
      intro xs
      induction xs with
      | nil=>intro i _; simp [mapL]
      | cons x xs ihx =>
        intro i hm
        have hx:=hm x (by simp)
        have hxn:=zb7 (k:=k) (n:=n) hx
        have hbl:=zcv k i
        rw [mapL,mapL,ih x hx _ (za9 hfm x hx) (by omega) (by omega),ihx (i+1) fun y hy=>hm y (by simp [hy])]
    exact go ks 0 fun x hx=>hx
theorem map_map (f g h:Int→Int→T) (e:Int) (hv:∀ n b:Int,0≤n→n≤65535→0≤b→b≤4194304→mapT f (g n b) (b+e)=h n b) (t:T):∀ b:Int,zab t=true→0≤b→b+zac t≤4194304→mapT f (mapT g t b) (b+e)=mapT h t b:=by
  refine T.ind (p:=fun t=>∀ b:Int,zab t=true→0≤b→b+zac t≤4194304→mapT f (mapT g t b) (b+e)=mapT h t b) ?_ t
  intro k n ks ih b hfm h0 hb
  rw [mapT,mapT]
  by_cases h1:k=1
  · have hn:=zc7 h1 hfm
    rw [if_pos h1,if_pos h1,hv n b hn.1 hn.2 h0 (by omega)]
  · rw [if_neg h1,if_neg h1,mapT,if_neg h1]
    congr 1
    have go:∀ (xs:List T) (i:Nat),(∀ x ∈ xs,x ∈ ks)→mapL f k (b+e) i (mapL g k b i xs)=mapL h k b i xs:=by
      intro xs
      induction xs with
      | nil=>intro i _; simp [mapL]
      | cons x xs ihx =>
        intro i hm
        have hx:=hm x (by simp)
        have hxn:=zb7 (k:=k) (n:=n) hx
        have hbl:=zcv k i
        have e1:b+e+zal k i=b+zal k i+e:=by omega
        rw [mapL,mapL,mapL,e1,ih x hx _ (za9 hfm x hx) (by omega) (by omega),ihx (i+1) fun y hy=>hm y (by simp [hy])]
    exact go ks 0 fun x hx=>hx
def mv (y:Int) (n b:Int):T:=.mk 1 (if b≤n then w64 (n+y) else n) []
theorem zA2 (y:Int) (t:T):zit y t=mapT (mv y) t 0:=rfl
theorem zAe (f:Int→Int→T) (n b:Int):mapT f (.mk 1 n []) b=f n b:=by rw [mapT,if_pos rfl]
theorem zM3 {y n b:Int} (h:n<b):mv y n b = .mk 1 n []:=by rw [mv,if_neg (by omega)]
theorem zMq {y n b:Int} (h:b≤n) (hn:0≤n) (hn':n≤10000000) (hy:0≤y) (hy':y≤10000000):mv y n b = .mk 1 (n+y) []:=by rw [mv,if_pos h,zd8 (by omega) (by omega)]
theorem znx {f:Int→Int→T} {k n b:Int} {ks:List T} (h1:k ≠ 1) (hfm:zab (.mk k n ks)=true) (h:∀ (j:Nat) (hj:j<ks.length),zab (mapT f ks[j] (b+zal k j))=true):zab (.mk k n (mapL f k b 0 ks))=true:=by
  have ha:(mapL f k b 0 ks).all zab=true:=by
    rw [yaC]
    intro x hx
    obtain ⟨j,hj,rfl⟩:=List.mem_iff_getElem.1 hx
    rw [zhu] at hj
    rw [zjh f k b ks 0 j hj,ybj]
    exact h j hj
  rw [za5] at hfm ⊢
  rw [zhu,ha]
  split at hfm
  · rename_i c1
    rw [if_pos c1]
    split at hfm
    · rename_i c2
      rw [if_pos c2]
      rw [ybJ] at hfm
      rw [hfm.1]; rfl
    · rename_i c2
      rw [if_neg c2]
      split at hfm
      · rename_i c3; rw [if_pos c3]
      · cases hfm
  · cases hfm
theorem zek {n:Int} (h:0≤n∧n≤65535):zab (.mk 1 n [])=true:=by simp [za5,zdw,(zb1 n 0 65535).2 h]
theorem zvl (k b:Int):∀ (xs:List T) (i:Nat) (a:Int),a≤zjs k b i a xs ∧ ∀ (j:Nat) (hj:j<xs.length),zep xs[j] (b+zal k (i+j:Nat))≤zjs k b i a xs
  | [],i,a=>⟨by rw [zjs]; omega,fun j hj=>by simp at hj⟩
  | x :: xs,i,a=>by
    obtain ⟨h1,h2⟩:=zvl k b xs (i+1) (mx a (zep x (b+zal k i)))
    rw [zuy] at h1
    rw [zjs]
    refine ⟨by rw [zuy] at *; omega,fun j hj=>?_⟩
    cases j with
    | zero=>simp only [ycz,Nat.add_zero]; rw [zuy] at *; omega
    | succ j =>
      have:=h2 j (by simpa using hj)
      simp only [ycB]
      rw [show i+(j+1)=i+1+j by omega]
      exact this
theorem zxn (t:T):∀ (b y F:Int),zab t=true→0≤y→y≤10000000→zep t b≤F→(F<0∨F+y≤65535)→0≤b→zab (mapT (mv y) t b)=true:=by
  refine T.ind (p:=fun t=>∀ (b y F:Int),zab t=true→0≤y→y≤10000000→zep t b≤F→(F<0∨F+y≤65535)→0≤b→zab (mapT (mv y) t b)=true) ?_ t
  intro k n ks ih b y F hfm hy0 hy1 hF hFy hb
  rw [zep] at hF
  rw [mapT]
  by_cases h1:k=1
  · have hn:=zc7 h1 hfm
    rw [if_pos h1]
    by_cases c:b≤n
    · rw [zMq c hn.1 (by omega) hy0 hy1]
      have:=(zvl k b ks 0 (if k=1∧b≤n then n else -1)).1
      rw [if_pos ⟨h1,c⟩] at this hF
      exact zek (by omega)
    · rw [zM3 (by omega)]
      exact zek hn
  · rw [if_neg h1]
    refine znx h1 hfm fun j hj=>?_
    have h2:=(zvl k b ks 0 (if k=1∧b≤n then n else -1)).2 j hj
    rw [ybj] at h2
    have hbl:=zcv k j
    exact ih ks[j] (yaf _) _ y F (za9 hfm _ (yaf _)) hy0 hy1 (by omega) hFy (by omega)
theorem zzp (l:List T) (u:Int) (hu:0≤u∧u≤65535) (hl:∀ x ∈ l,zab x=true) (t:T):∀ b:Int,zab t=true→0≤b→b+zac t≤2097152→scI l u t b=false→zab (mapT (zbb l u) t b)=true:=by
  refine T.ind (p:=fun t=>∀ b:Int,zab t=true→0≤b→b+zac t≤2097152→scI l u t b=false→zab (mapT (zbb l u) t b)=true) ?_ t
  intro k n ks ih b hfm h0 hb hsc
  rw [mapT]
  rw [scI] at hsc
  by_cases h1:k=1
  · have hn:=zc7 h1 hfm
    rw [if_pos h1] at hsc ⊢
    rw [zbb]
    by_cases hW:0≤zbt l.length u n b
    · have hlt:(zbt l.length u n b).toNat<l.length:=by
        have h2:=hW
        rw [zbt] at h2 ⊢
        split at h2
        · omega
        · rename_i h3
          rw [if_neg h3]
          omega
      generalize (zbt l.length u n b).toNat=m at hlt hsc
      rw [if_pos hW,yar hlt] at hsc ⊢
      have hx:=hl _ (yaf hlt)
      have hfr:=zzc l[m] hx 0
      simp only [zvr,Bool.and_eq_false_iff,decide_eq_false_iff_not] at hsc
      show zab (zit (w64 (u+b)) l[m])=true
      rw [zd8 (by omega) (by omega),zA2]
      exact zxn l[m] 0 (u+b) (zep l[m] 0) hx (by omega) (by omega) (Int.le_refl _) (by omega) (by omega)
    · rw [if_neg hW]
      have h2:=hW
      rw [zbt] at h2
      by_cases c:u+b≤n
      · rw [if_pos c]
        have:(l.length:Int)≤n - (u+b):=by
          split at h2
          · rename_i h3; omega
          · omega
        rw [zd8 (by omega) (by omega)]
        exact zek (by omega)
      · rw [if_neg c]
        exact zek hn
  · rw [if_neg h1] at hsc ⊢
    refine znx h1 hfm fun j hj=>?_
    have hxn:=zb7 (k:=k) (n:=n) (yaf hj)
    have hbl:=zcv k j
    have h2:=zC2 l u k b ks 0 j hj hsc
    rw [ybj] at h2
    exact ih ks[j] (yaf _) _ (za9 hfm _ (yaf _)) (by omega) (by omega) h2
theorem zBq {t:T} {l:List T} {u:Int} (ht:zac t≤1048576) (hl:∀ x ∈ l,zac x≤1048576) (h:zbh t l u=0):zam (zb0 t l u)=0∧zac (zb0 t l u)≤6000∧zab (zb0 t l u)=true:=by
  obtain ⟨h1,h2,h3,h4⟩:=(zGo ht hl).1 h
  obtain ⟨f1,f2,f3⟩:=zhh h1
  rw [zE7 h]
  have hf:=zzp l u f3 f2 t 0 f1 (by omega) (by omega) h2
  exact ⟨(ztp (by omega)).2 ⟨h3,h4,hf⟩,h3,hf⟩
end
section
section
attribute [local simp] zaf zai tk tn tks zde zee
theorem zA3 (n:Int):Pure Tryz.prog zic [.int .i64 n] [.bool (decide (0≤n) && decide (n≤6))]:=by
  refine zvw rfl fun hs=>?_
  simp -dsimp [zkb]
  (first | refine zah ?_ ?_ | refine zag ?_ ?_) <;> intro h <;> (try simp only [nrm] at h) <;> simp -dsimp [h]
def ziw (base ahead k many:Int):Int:=if base<0∨65535<base∨k<0∨many≤k then -1 else w64 (w64 (base+ahead)+k)
theorem zGh (a b c d:Int):Pure Tryz.prog zka [.int .i64 a,.int .i64 b,.int .i64 c,.int .i64 d] [.int .i64 (ziw a b c d)]:=by
  refine zwx rfl fun hs=>?_
  simp -dsimp [zkt]
  (first | refine zah ?_ ?_ | refine zag ?_ ?_) <;> intro h1 <;> (try simp only [nrm] at h1) <;> simp -dsimp [h1,ziw,w64]
  (first | refine zah ?_ ?_ | refine zag ?_ ?_) <;> intro h2 <;> (try simp only [nrm] at h2) <;> simp -dsimp [h2,h1,ziw,w64]
  (first | refine zah ?_ ?_ | refine zag ?_ ?_) <;> intro h3 <;> (try simp only [nrm] at h3) <;> simp -dsimp [h3,h1,h2,ziw,w64]
  (first | refine zah ?_ ?_ | refine zag ?_ ?_) <;> intro h4 <;> (try simp only [nrm] at h4) <;> simp -dsimp [h4,h1,h2,h3,ziw,w64]
def decs (l:List So):Nat:=(l.filter (·.dec)).length
theorem zyr (l:List So) (i:Nat) (x:So) (h:l[i]? = some x):decs (l.take (i+1))=decs (l.take i)+if x.dec then 1 else 0:=by
  simp only [decs,ycc,h]
  cases hd:x.dec <;> simp -dsimp [hd]
theorem zw3 (l:List So):decs l≤l.length:=List.length_filter_le _ _
theorem zLn (b:Bl) (k:Int) (h0:0≤k) (hk:k≤b.sorts.length):Pure Tryz.prog zl0 [eBl b,.int .i64 k] [.int .i64 (decs (b.sorts.take k.toNat))]:=by
  refine zyl rfl fun hs=>?_
  have hb:b.sorts.length≤9223372036854775807:=by
    have:=hs (eBl b) (by simp)
    simp -dsimp [eBl,cBl,eSos,small] at this
    exact this.1.1
  obtain ⟨m,rfl⟩:∃ m:Nat,k=m:=⟨k.toNat,by omega⟩
  have hm:m≤b.sorts.length:=by omega
  simp -dsimp [zmc,eBl,cBl,eSos,eCos,h0,hk]
  refine zaj m (fun i st=>st.s 11 = .d (.sl 6 ((b.sorts.take m).map eSo))∧st.s 12 = .d (.int .i64 m)∧st.s 13 = .d (.int .i64 i)∧st.s 5 = .d (.int .i64 (decs (b.sorts.take i)))) ?_ ?_
  · simp -dsimp [decs,hm]
  · rintro i ⟨s,hp⟩ hi ⟨h1,h2,h3,h4⟩
    dsimp only at h1 h2 h3 h4
    rcases ybm i m with hlt | hge
    · obtain ⟨x,hx⟩:∃ x,b.sorts[i]? = some x:=⟨_,yar (by omega)⟩
      have hx':(b.sorts.take m)[i]? = some x:=by rw [List.getElem?_take_of_lt hlt,hx]
      simp -dsimp [h1,h2,h3,h4,hlt,hx,hx',eSo,cSo,cT,eArs]
      have hd:=zw3 (b.sorts.take i)
      rw [List.length_take] at hd
      have w1:IntKind.i64.wrap ((i:Int)+1)=(i:Int)+1:=zad (by omega) (by omega)
      have w2:IntKind.i64.wrap ((decs (b.sorts.take i):Int)+1)=(decs (b.sorts.take i):Int)+1:=zad (by omega) (by omega)
      cases hxd:x.dec <;> simp -dsimp [hxd,hlt,h1,h2,h3,h4,w1,w2,zyr _ _ _ hx]
    · have e:i=m:=by omega
      subst e
      simp -dsimp [h1,h2,h3,h4]
def zHr (b:Bl):Int:=w64 (w64 (w64 (2*b.sorts.length)+decs b.sorts)+b.cons.length)
def zHz (b:Bl) (base k:Int):Int:=ziw base 0 k b.sorts.length
def zDj (b:Bl) (base k:Int):Int :=
  if k<0 then -1 else match b.sorts[k.toNat]? with
    | none=>-1
    | some s=>if s.dec then ziw base b.sorts.length (decs (b.sorts.take k.toNat)) b.sorts.length else -1
def zrz (b:Bl) (base k:Int):Int:=ziw base (w64 (b.sorts.length+decs b.sorts)) k b.cons.length
def zbe (b:Bl) (base k:Int):Int:=ziw base (w64 (w64 (b.sorts.length+decs b.sorts)+b.cons.length)) k b.sorts.length
theorem zv6 (b:Bl) (base k:Int):Pure Tryz.prog zf0 [eBl b,.int .i64 base,.int .i64 k] [.int .i64 (zbe b base k)]:=by
  refine zqh rfl fun hs=>?_
  simp -dsimp [zgd,eBl,cBl,eSos,eCos]
  refine zaa (zLn b b.sorts.length (by omega) (by omega)) ?_
  simp -dsimp
  refine zaa (zGh _ _ _ _) ?_
  simp -dsimp [zbe,w64]
end
section
attribute [local simp] zaf zai tk tn tks zde zee
theorem zok (t:T):Pure Tryz.prog zar [.sl 3 [.agg (cT t)]] [.bool (zc8 [t])]:=by
  have h:=zhq [t]
  simp only [eTs,yaV,ycG,zb4] at h
  exact h
theorem zv1 {α:Type} {p:α→Bool} {l:List α} {i:Nat} (hlt:i<l.length) (h:(l.take i).any p=false) (hx:p l[i]=false):(l.take (i+1)).any p=false:=by
  rw [zcd (yar hlt),List.any_append,h]
  simp [hx]
theorem zt2 {α:Type} {p:α→Bool} {l:List α} {i:Nat} (hlt:i<l.length) (hx:p l[i]=true):l.any p=true:=List.any_eq_true.2 ⟨l[i],yaf _,hx⟩
def pArg (a:Ar):Bool:=zc8 [a.ty] || zc8 a.dom || zc8 a.idx
def zgu (l:List Ar):Bool:=decide ((20:Int)<(l.length:Int)) || l.any pArg
theorem zr6 (l:List Ar):Pure Tryz.prog zcg [eArs l] [.bool (zgu l)]:=by
  refine zkc rfl fun hs=>?_
  simp -dsimp [zdl,eArs]
  (first | refine zah ?_ ?_ | refine zag ?_ ?_) <;> intro h1 <;> (try simp only [nrm] at h1) <;> simp -dsimp [h1,zgu]
  have hl:l.length≤20:=by omega
  refine zaj l.length (fun i st=>st.s 0 = .d (.sl 7 (l.map eAr))∧st.s 3 = .d (.int .i64 i)∧(l.take i).any pArg=false) ?_ ?_
  · simp -dsimp
  · rintro i ⟨s,hp⟩ hi ⟨h2,h3,h5⟩
    dsimp only at h2 h3 h5
    rcases ybm i l.length with hlt | hge
    · have w1:IntKind.i64.wrap ((i:Int)+1)=(i:Int)+1:=zad (by omega) (by omega)
      have ht:∀ b,pArg l[i]=b→zc8 [l[i].ty]=true∨zc8 l[i].dom=true∨zc8 l[i].idx=true→b=true:=by
        rintro b rfl h
        simp only [pArg,ybM]
        rcases h with h | h | h <;> simp [h]
      have fin:pArg l[i]=true→zgu l=true:=fun h=>by simp only [zgu,zt2 hlt h,ycH]
      simp -dsimp [h2,h3,hlt,eAr,cAr,cT,eTs]
      refine zaa (zok l[i].ty) ?_
      simp -dsimp [h2,h3,hlt]
      (first | refine zah ?_ ?_ | refine zag ?_ ?_) <;> intro h6 <;> (try simp only [nrm] at h6) <;> simp -dsimp [h6,h2,h3,hlt]
      · exact fin (ht _ rfl (.inl h6))
      · simp -dsimp [h2,h3,hlt,h6,eAr,cAr,cT,eTs]
        refine zaa (zhq l[i].dom) ?_
        simp -dsimp [h2,h3,hlt,h6]
        (first | refine zah ?_ ?_ | refine zag ?_ ?_) <;> intro h7 <;> (try simp only [nrm] at h7) <;> simp -dsimp [h7,h2,h3,hlt,h6]
        · exact fin (ht _ rfl (.inr (.inl h7)))
        · simp -dsimp [h2,h3,hlt,h6,h7,eAr,cAr,cT,eTs]
          refine zaa (zhq l[i].idx) ?_
          simp -dsimp [h2,h3,hlt,h6,h7]
          (first | refine zah ?_ ?_ | refine zag ?_ ?_) <;> intro h8 <;> (try simp only [nrm] at h8) <;> simp -dsimp [h8,h2,h3,hlt,h6,h7]
          · exact fin (ht _ rfl (.inr (.inr h8)))
          · simp -dsimp [h2,h3,hlt,h6,h7,h8,w1]
            have:=zv1 hlt h5 (by simp [pArg,h6,h7,h8])
            simpa using this
    · have e:i=l.length:=by omega
      subst e
      simp -dsimp [h2,h3,zgu]
      rw [ycf] at h5
      exact ⟨by omega,by simpa using h5⟩
def pSo (s:So):Bool:=zgu s.idx || zc8 [s.dty]
def pCo (c:Co):Bool:=zgu c.args || zc8 c.idx || zc8 [c.dec]
def zho (b:Bl):Bool:=decide ((10:Int)<(b.sorts.length:Int)) || decide ((20:Int)<(b.cons.length:Int)) || b.sorts.any pSo || b.cons.any pCo
theorem zCe (b:Bl):Pure Tryz.prog zfl [eBl b] [.bool (zho b)]:=by
  refine zoe rfl fun hs=>?_
  simp -dsimp [zfg,eBl,cBl,eSos,eCos]
  (first | refine zah ?_ ?_ | refine zag ?_ ?_) <;> intro h1 <;> (try simp only [nrm] at h1) <;> simp -dsimp [h1,zho]
  (first | refine zah ?_ ?_ | refine zag ?_ ?_) <;> intro h2 <;> (try simp only [nrm] at h2) <;> simp -dsimp [h2,zho,h1]
  have hl:b.sorts.length≤10:=by omega
  have hl2:b.cons.length≤20:=by omega
  refine zaj b.sorts.length (fun i st=>st.s 1 = .ptr 1 1 0∧st.h 1=⟨1,.box [.d (.sl 6 (b.sorts.map eSo)),.d (.sl 6 (b.cons.map eCo)),.d (.int .i64 b.elim)] false⟩∧st.s 3 = .d (.int .i64 i)∧(b.sorts.take i).any pSo=false) ?_ ?_
  · simp -dsimp
  · rintro i ⟨s,hp⟩ hi ⟨h3,h4,h5,h6⟩
    dsimp only at h3 h4 h5 h6
    rcases ybm i b.sorts.length with hlt | hge
    · have w1:IntKind.i64.wrap ((i:Int)+1)=(i:Int)+1:=zad (by omega) (by omega)
      have fin:pSo b.sorts[i]=true→zho b=true:=fun h=>by simp only [zho,zt2 hlt h,ycH,Bool.true_or]
      simp -dsimp [h3,h4,h5,hlt,eSo,cSo,cT,eArs]
      refine zaa (zr6 b.sorts[i].idx) ?_
      simp -dsimp [h3,h4,h5,hlt]
      (first | refine zah ?_ ?_ | refine zag ?_ ?_) <;> intro h7 <;> (try simp only [nrm] at h7) <;> simp -dsimp [h7,h3,h4,h5,hlt]
      · exact fin (by simp [pSo,h7])
      · simp -dsimp [h3,h4,h5,hlt,h7,eSo,cSo,cT,eArs]
        refine zaa (zok b.sorts[i].dty) ?_
        simp -dsimp [h3,h4,h5,hlt,h7]
        (first | refine zah ?_ ?_ | refine zag ?_ ?_) <;> intro h8 <;> (try simp only [nrm] at h8) <;> simp -dsimp [h8,h3,h4,h5,hlt,h7]
        · exact fin (by simp [pSo,h8])
        · simp -dsimp [h3,h4,h5,hlt,h7,h8,w1]
          simpa using zv1 hlt h6 (by simp [pSo,h7,h8])
    · have e:i=b.sorts.length:=by omega
      subst e
      rw [ycf] at h6
      simp -dsimp [h3,h4,h5]
      refine zaj b.cons.length (fun i st=>st.s 1 = .ptr 1 1 0∧st.h 1=⟨1,.box [.d (.sl 6 (b.sorts.map eSo)),.d (.sl 6 (b.cons.map eCo)),.d (.int .i64 b.elim)] false⟩∧st.s 4 = .d (.int .i64 i)∧(b.cons.take i).any pCo=false) ?_ ?_
      · simp -dsimp [h3,h4,h5]
      · rintro i ⟨s,hp⟩ hi ⟨h3,h4,h5,h10⟩
        dsimp only at h3 h4 h5 h10
        rcases ybm i b.cons.length with hlt | hge
        · have w1:IntKind.i64.wrap ((i:Int)+1)=(i:Int)+1:=zad (by omega) (by omega)
          have fin:pCo b.cons[i]=true→zho b=true:=fun h=>by simp only [zho,zt2 hlt h,ycH,Bool.true_or]
          simp -dsimp [h3,h4,h5,hlt,eCo,cCo,cT,eArs,eTs]
          refine zaa (zr6 b.cons[i].args) ?_
          simp -dsimp [h3,h4,h5,hlt]
          (first | refine zah ?_ ?_ | refine zag ?_ ?_) <;> intro h7 <;> (try simp only [nrm] at h7) <;> simp -dsimp [h7,h3,h4,h5,hlt]
          · exact fin (by simp [pCo,h7])
          · simp -dsimp [h3,h4,h5,hlt,h7,eCo,cCo,cT,eArs,eTs]
            refine zaa (zhq b.cons[i].idx) ?_
            simp -dsimp [h3,h4,h5,hlt,h7]
            (first | refine zah ?_ ?_ | refine zag ?_ ?_) <;> intro h8 <;> (try simp only [nrm] at h8) <;> simp -dsimp [h8,h3,h4,h5,hlt,h7]
            · exact fin (by simp [pCo,h8])
            · simp -dsimp [h3,h4,h5,hlt,h7,h8,eCo,cCo,cT,eArs,eTs]
              refine zaa (zok b.cons[i].dec) ?_
              simp -dsimp [h3,h4,h5,hlt,h7,h8]
              (first | refine zah ?_ ?_ | refine zag ?_ ?_) <;> intro h9 <;> (try simp only [nrm] at h9) <;> simp -dsimp [h9,h3,h4,h5,hlt,h7,h8]
              · exact fin (by simp [pCo,h9])
              · simp -dsimp [h3,h4,h5,hlt,h7,h8,h9,w1]
                simpa using zv1 hlt h10 (by simp [pCo,h7,h8,h9])
        · have e:i=b.cons.length:=by omega
          subst e
          rw [ycf] at h10
          simp -dsimp [h3,h4,h5,zho,h6,h10]
          exact ⟨by omega,by omega⟩
end
section
attribute [local simp] zaf zai tk tn tks zde zee
structure En where
  kind:Int
  many:Nat
  f:Nat
  of:Int→Int
end
section
attribute [local simp] zaf zai tk tn tks zde zee
theorem zws (l:List Ar) (g:FuncId) (caps:List D) (p:Ar→Bool) (hp:∀ x ∈ l,Pure Tryz.prog g (.agg (cAr x) :: caps) [.bool (p x)]) :
    Pure Tryz.prog zdx [.sl 7 (l.map eAr),.clo g caps] [.int .i64 (idxF l p)]:=by
  refine zlh rfl fun hs=>?_
  have hl:=hs (.sl 7 (l.map eAr)) (by simp)
  simp [small] at hl
  replace hl:=hl.1
  simp -dsimp [zd1]
  refine zaj l.length (fun i st=>st.s 0 = .d (.sl 7 (l.map eAr))∧st.s 1 = .d (.clo g caps)∧st.s 7 = .d (.int .i64 l.length)∧st.s 8 = .d (.int .i64 i) ∧ ∀ x ∈ l.take i,p x=false) ?_ ?_
  · simp -dsimp
  · rintro i ⟨s,hp'⟩ hi ⟨h1,h2,h3,h4,h5⟩
    dsimp only at h1 h2 h3 h4 h5
    rcases ybm i l.length with hlt | hge
    · have w1:IntKind.i64.wrap ((i:Int)+1)=(i:Int)+1:=zad (by omega) (by omega)
      have hc:(cAr l[i]).length=7:=rfl
      simp -dsimp [h1,h2,h3,h4,hlt,hc]
      have ht:(cAr l[i]).take 7=cAr l[i]:=yce (by omega)
      refine zaa (by rw [ht]; exact hp l[i] (yaf _)) ?_
      simp -dsimp [h1,h2,h3,h4,hlt]
      (first | refine zah ?_ ?_ | refine zag ?_ ?_) <;> intro h6 <;> (try simp only [nrm] at h6) <;> simp -dsimp [h6,h1,h2,h3,h4,hlt,w1]
      · have:l.findIdx? p=some i:=by
          rw [ych]
          refine ⟨hlt,h6,fun j hj=>?_⟩
          have:=h5 l[j] (by rw [yci]; exact ⟨j,by omega,rfl⟩)
          simpa using this
        simp only [idxF,this]
      · intro x hx
        rw [zcd (yar hlt),yaY] at hx
        rcases hx with hx | hx
        · simpa using h5 x hx
        · simp at hx; subst hx; exact h6
    · have e:i=l.length:=by omega
      subst e
      rw [ycf] at h5
      have:l.findIdx? p=none:=by
        rw [ycj]; exact h5
      simp -dsimp [h1,h2,h3,h4,idxF,this]
theorem zsi (l:List Ar) (g:FuncId) (caps:List D) (p:Ar→Bool) (hp:∀ x ∈ l,Pure Tryz.prog g (.agg (cAr x) :: caps) [.bool (p x)]) :
    Pure Tryz.prog zcz [.sl 7 (l.map eAr),.clo g caps] [.bool (l.any p)]:=by
  refine zjr rfl fun hs=>?_
  simp -dsimp [zc5]
  refine zaa (zws l g caps p hp) ?_
  simp -dsimp [zza]
theorem zv4 (l:List Co) (g:FuncId) (caps:List D) (p:Co→Bool) (hp:∀ x ∈ l,Pure Tryz.prog g (.agg (cCo x) :: caps) [.bool (p x)]) :
    Pure Tryz.prog zd0 [.sl 6 (l.map eCo),.clo g caps] [.int .i64 (idxF l p)]:=by
  refine zli rfl fun hs=>?_
  have hl:=hs (.sl 6 (l.map eCo)) (by simp)
  simp [small] at hl
  replace hl:=hl.1
  simp -dsimp [zdy]
  refine zaj l.length (fun i st=>st.s 0 = .d (.sl 6 (l.map eCo))∧st.s 1 = .d (.clo g caps)∧st.s 7 = .d (.int .i64 l.length)∧st.s 8 = .d (.int .i64 i) ∧ ∀ x ∈ l.take i,p x=false) ?_ ?_
  · simp -dsimp
  · rintro i ⟨s,hp'⟩ hi ⟨h1,h2,h3,h4,h5⟩
    dsimp only at h1 h2 h3 h4 h5
    rcases ybm i l.length with hlt | hge
    · have w1:IntKind.i64.wrap ((i:Int)+1)=(i:Int)+1:=zad (by omega) (by omega)
      have hc:(cCo l[i]).length=6:=rfl
      simp -dsimp [h1,h2,h3,h4,hlt,hc]
      have ht:(cCo l[i]).take 6=cCo l[i]:=yce (by omega)
      refine zaa (by rw [ht]; exact hp l[i] (yaf _)) ?_
      simp -dsimp [h1,h2,h3,h4,hlt]
      (first | refine zah ?_ ?_ | refine zag ?_ ?_) <;> intro h6 <;> (try simp only [nrm] at h6) <;> simp -dsimp [h6,h1,h2,h3,h4,hlt,w1]
      · have:l.findIdx? p=some i:=by
          rw [ych]
          refine ⟨hlt,h6,fun j hj=>?_⟩
          have:=h5 l[j] (by rw [yci]; exact ⟨j,by omega,rfl⟩)
          simpa using this
        simp only [idxF,this]
      · intro x hx
        rw [zcd (yar hlt),yaY] at hx
        rcases hx with hx | hx
        · simpa using h5 x hx
        · simp at hx; subst hx; exact h6
    · have e:i=l.length:=by omega
      subst e
      rw [ycf] at h5
      have:l.findIdx? p=none:=by
        rw [ycj]; exact h5
      simp -dsimp [h1,h2,h3,h4,idxF,this]
theorem zsm (l:List Co) (g:FuncId) (caps:List D) (p:Co→Bool) (hp:∀ x ∈ l,Pure Tryz.prog g (.agg (cCo x) :: caps) [.bool (p x)]) :
    Pure Tryz.prog zc4 [.sl 6 (l.map eCo),.clo g caps] [.bool (l.any p)]:=by
  refine zjw rfl fun hs=>?_
  simp -dsimp [zc2]
  refine zaa (zv4 l g caps p hp) ?_
  simp -dsimp [zza]
end
section
attribute [local simp] zaf zai w64 tk tn tks zde zee
def zyp (t:T):Bool:=if t.kind=0 then if t.num=0 then decide ((t.kids.length:Int)=0) else false else false
theorem zFc (t:T):Pure Tryz.prog zko [.agg (cT t)] [.bool (zyp t)]:=by
  refine zzf rfl fun hs=>?_
  simp -dsimp [znr,cT]
  (first | refine zah ?_ ?_ | refine zag ?_ ?_) <;> intro h1 <;> (try simp only [nrm] at h1) <;> simp -dsimp [h1,zyp]
  (first | refine zah ?_ ?_ | refine zag ?_ ?_) <;> intro h2 <;> (try simp only [nrm] at h2) <;> simp -dsimp [h2,zyp,h1]
def inM (t:T) (v:Int):Bool:=zp3 t v 65536
theorem zGn (t:T) (v:Int):Pure Tryz.prog zik [.agg (cT t),.int .i64 v] [.bool (inM t v)]:=by
  refine zB9 rfl fun hs=>?_
  simp -dsimp [zq1,cT]
  refine zaa (zGq t v 65536) ?_
  simp -dsimp [inM]
theorem zKv (t:T) (v:Int):Pure Tryz.prog zid [.agg (cT t),.rp [.int .i64 v]] [.bool (!inM t v)]:=by
  refine zvu rfl fun hs=>?_
  simp -dsimp [zk4,cT]
  refine zaa (zGn t v) ?_
  simp -dsimp
def allM (l:List T) (v:Int):Bool:=!l.any fun t=>!inM t v
theorem zIf (l:List T) (v:Int):Pure Tryz.prog zk6 [eTs l,.int .i64 v] [.bool (allM l v)]:=by
  refine zy1 rfl fun hs=>?_
  simp -dsimp [zov,eTs]
  refine zaa (zhk l zid [.rp [.int .i64 v]] (fun t=>!inM t v) (fun x _=>zKv x v)) ?_
  simp -dsimp [allM]
def zgy (is:Bool) (t:T) (v:Int):Bool:=if is then inM t v else zyp t
theorem zAn (is:Bool) (t:T) (v:Int):Pure Tryz.prog zia [.bool is,.agg (cT t),.int .i64 v] [.bool (zgy is t v)]:=by
  refine zvs rfl fun hs=>?_
  cases is with
  | false =>
    simp -dsimp [zh9,cT]
    refine zaa (zFc t) ?_
    simp -dsimp [zgy]
  | true =>
    simp -dsimp [zh9,cT]
    refine zaa (zGn t v) ?_
    simp -dsimp [zgy]
def allI {α:Type} (p:Nat→α→Bool):Nat→List α→Bool
  | _,[]=>true
  | i,x :: xs=>p i x && allI p (i+1) xs
theorem zs1 {α:Type} (p:Nat→α→Bool):∀ (l:List α) (i:Nat),allI p i l=true ↔ ∀ (j:Nat) (hj:j<l.length),p (i+j) l[j]=true
  | [],i=>by simp [allI]
  | x :: xs,i=>by
    rw [allI,ybJ,zs1 p xs (i+1)]
    constructor
    · rintro ⟨h1,h2⟩ j hj
      cases j with
      | zero=>simpa using h1
      | succ j =>
        have:=h2 j (by simpa using hj)
        have e:i+1+j=i+(j+1):=by omega
        rw [e] at this
        simpa using this
    · intro h
      refine ⟨h 0 (by simp),fun j hj=>?_⟩
      have:=h (j+1) (by simpa using hj)
      have e:i+1+j=i+(j+1):=by omega
      rw [e]
      simpa using this
theorem zm8 {α:Type} {p:Nat→α→Bool} {l:List α} {j:Nat} (hj:j<l.length) (h:p j l[j]=false):allI p 0 l=false:=by
  cases hw:allI p 0 l with
  | false=>rfl
  | true =>
    have:=(zs1 p l 0).1 hw j hj
    rw [ybj,h] at this
    cases this
theorem zhx {α:Type} {p:Nat→α→Bool} {l:List α} {i:Nat} (hi:i<l.length) (h:∀ (j:Nat) (hj:j<l.length),j<i→p j l[j]=true) (hx:p i l[i]=true) :
    ∀ (j:Nat) (hj:j<l.length),j<i+1→p j l[j]=true:=by
  intro j hj hji
  rcases ybm j i with h' | h'
  · exact h j hj h'
  · have:j=i:=by omega
    subst this
    exact hx
theorem zmw {α:Type} {p:Nat→α→Bool} {l:List α} (h:∀ (j:Nat) (hj:j<l.length),j<l.length→p j l[j]=true):allI p 0 l=true :=
  (zs1 p l 0).2 fun j hj=>by rw [ybj]; exact h j hj hj
def domM (i:Int) (l:List T):Bool:=allI (fun j t=>inM t (w64 (i+j))) 0 l
def argM (b:Bl) (a:Ar) (i:Int):Bool :=
  if a.rc then
    if zyp a.ty then
      if 12<(a.dom.length:Int) then false else if a.sort<0 then false else match b.sorts[a.sort.toNat]? with
      | none=>false
      | some s=>if (a.idx.length:Int)=(s.idx.length:Int) then domM i a.dom && allM a.idx (w64 (i+a.dom.length)) else false
    else false
  else if inM a.ty i then if w64 (a.dom.length+a.idx.length)=0 then decide (a.sort=0) else false else false
theorem zM6 (b:Bl) (a:Ar) (i:Int):Pure Tryz.prog zos [eBl b,.agg (cAr a),.int .i64 i] [.bool (argM b a i)]:=by
  refine zzu rfl fun hs=>?_
  simp -dsimp [znu,eBl,cBl,eSos,eCos,cAr,cT,eTs]
  cases hr:a.rc with
  | false =>
    simp -dsimp [hr]
    refine zaa (zGn a.ty i) ?_
    simp -dsimp
    (first | refine zah ?_ ?_ | refine zag ?_ ?_) <;> intro h1 <;> (try simp only [nrm] at h1) <;> simp -dsimp [h1,argM,hr]
    · (first | refine zah ?_ ?_ | refine zag ?_ ?_) <;> intro h2 <;> (try simp only [nrm] at h2) <;> simp -dsimp [h2,argM,hr,h1]
  | true =>
    simp -dsimp [hr]
    refine zaa (zFc a.ty) ?_
    simp -dsimp
    (first | refine zah ?_ ?_ | refine zag ?_ ?_) <;> intro h1 <;> (try simp only [nrm] at h1) <;> simp -dsimp [h1,argM,hr]
    (first | refine zah ?_ ?_ | refine zag ?_ ?_) <;> intro h2 <;> (try simp only [nrm] at h2) <;> simp -dsimp [h2,argM,hr,h1]
    (first | refine zah ?_ ?_ | refine zag ?_ ?_) <;> intro h3 <;> (try simp only [nrm] at h3) <;> simp -dsimp [h3,argM,hr,h1,h2]
    (first | refine zah ?_ ?_ | refine zag ?_ ?_) <;> intro h4 <;> (try simp only [nrm] at h4) <;> simp -dsimp [h4,argM,hr,h1,h2,h3]
    · have:b.sorts[a.sort.toNat]? = none:=ybB (by omega)
      simp [this]
    have hlt:a.sort.toNat<b.sorts.length:=by omega
    have h0:0≤a.sort:=by omega
    have hA:argM b a i=if (a.idx.length:Int)=(b.sorts[a.sort.toNat].idx.length:Int) then domM i a.dom && allM a.idx (w64 (i+a.dom.length)) else false:=by
      simp [argM,hr,h1,h2,h3,hlt]
    simp -dsimp [hr,h1,h2,h3,h4,hlt,h0,eSo,cSo,eArs,cT]
    (first | refine zah ?_ ?_ | refine zag ?_ ?_) <;> intro h5 <;> (try simp only [nrm] at h5) <;> simp -dsimp [h5,hr,h1,h2,h3,h4,hlt,h0,eSo,cSo,eArs,cT]
    · rw [hA,if_neg h5]
    rw [hA,if_pos h5]
    have hd:a.dom.length≤12:=by omega
    refine zaj a.dom.length (fun j st=>st.s 2 = .d (.int .i64 i)∧st.s 4 = .ptr 4 1 0∧st.h 4=⟨1,.box [.d (.bool true),.d (.int .i64 a.ty.kind),.d (.int .i64 a.ty.num),.d (.sl 3 (a.ty.kids.map eT)),.d (.sl 3 (a.dom.map eT)),.d (.int .i64 a.sort),.d (.sl 3 (a.idx.map eT))] false⟩ ∧
      st.s 69 = .d (.sl 3 (a.dom.map eT))∧st.s 70 = .d (.int .i64 a.dom.length)∧st.s 71 = .d (.int .i64 j) ∧ ∀ (k:Nat) (hk:k<a.dom.length),k<j→inM a.dom[k] (w64 (i+k))=true) ?_ ?_
    · simp -dsimp [hr]
    · rintro j ⟨s,hp⟩ hj ⟨g1,g2,g3,g4,g5,g6,g7⟩
      dsimp only at g1 g2 g3 g4 g5 g6
      rcases ybm j a.dom.length with hlt | hge
      · have w1:IntKind.i64.wrap ((j:Int)+1)=(j:Int)+1:=zad (by omega) (by omega)
        simp -dsimp [g1,g2,g3,g4,g5,g6,hlt,cT]
        refine zaa (zGn a.dom[j] _) ?_
        simp -dsimp [g1,g2,g3,g4,g5,g6,hlt]
        (first | refine zah ?_ ?_ | refine zag ?_ ?_) <;> intro h6 <;> (try simp only [nrm] at h6) <;> simp -dsimp [h6,g1,g2,g3,g4,g5,g6,hlt,w1]
        · have:domM i a.dom=false:=zm8 hlt h6
          simp [this]
        · exact zhx (p:=fun j t=>inM t (w64 (i+j))) hlt g7 h6
      · have e:j=a.dom.length:=by omega
        subst e
        have:domM i a.dom=true:=zmw g7
        simp -dsimp [g1,g2,g3,g4,g5,g6]
        refine zaa (zIf a.idx _) ?_
        simp -dsimp [this]
def rowM (b:Bl) (l:List Ar):Bool:=if 12<(l.length:Int) then false else allI (fun i a=>argM b a i) 0 l
theorem zIa (b:Bl) (l:List Ar):Pure Tryz.prog zkp [eBl b,eArs l] [.bool (rowM b l)]:=by
  refine zzj rfl fun hs=>?_
  simp -dsimp [znw,eBl,cBl,eSos,eCos,eArs]
  (first | refine zah ?_ ?_ | refine zag ?_ ?_) <;> intro h1 <;> (try simp only [nrm] at h1) <;> simp -dsimp [h1,rowM]
  have hl:l.length≤12:=by omega
  have hR:rowM b l=allI (fun i a=>argM b a i) 0 l:=by rw [rowM,if_neg h1]
  rw [hR]
  refine zaj l.length (fun i st=>st.s 2 = .ptr 2 1 0∧st.h 2=⟨1,.box [.d (.sl 6 (b.sorts.map eSo)),.d (.sl 6 (b.cons.map eCo)),.d (.int .i64 b.elim)] false⟩∧st.s 10 = .d (.sl 7 (l.map eAr))∧st.s 11 = .d (.int .i64 l.length)∧st.s 12 = .d (.int .i64 i) ∧
    ∀ (j:Nat) (hj:j<l.length),j<i→argM b l[j] j=true) ?_ ?_
  · simp -dsimp
  · rintro i ⟨s,hp⟩ hi ⟨g1,g2,g3,g4,g5,g6⟩
    dsimp only at g1 g2 g3 g4 g5
    rcases ybm i l.length with hlt | hge
    · have w1:IntKind.i64.wrap ((i:Int)+1)=(i:Int)+1:=zad (by omega) (by omega)
      simp -dsimp [g1,g2,g3,g4,g5,hlt,eAr,cAr,cT,eTs]
      refine zaa (zM6 b l[i] i) ?_
      simp -dsimp [g1,g2,g3,g4,g5,hlt]
      (first | refine zah ?_ ?_ | refine zag ?_ ?_) <;> intro h6 <;> (try simp only [nrm] at h6) <;> simp -dsimp [h6,g1,g2,g3,g4,g5,hlt,w1]
      · exact zm8 (p:=fun i a=>argM b a i) hlt h6
      · exact zhx (p:=fun i a=>argM b a i) hlt g6 h6
    · have e:i=l.length:=by omega
      subst e
      simp -dsimp [g1,g2,g3,g4,g5,zmw (p:=fun i a=>argM b a i) g6]
def zgz (k:Int) (s:So) (a:Ar):Bool:=if a.rc then if 0<(a.dom.length:Int) then true else if k≤a.sort then true else s.dec else false
theorem zGb (k:Int) (s:So) (a:Ar):Pure Tryz.prog zhv [.agg (cAr a),.rp [.int .i64 k],.rp (cSo s)] [.bool (zgz k s a)]:=by
  refine zuv rfl fun hs=>?_
  cases hr:a.rc with
  | false =>
    simp -dsimp [zht,cAr,cSo,cT,eTs,eArs,hr,zgz]
  | true =>
    simp -dsimp [zht,cAr,cSo,cT,eTs,eArs,hr]
    (first | refine zah ?_ ?_ | refine zag ?_ ?_) <;> intro h1 <;> (try simp only [nrm] at h1) <;> simp -dsimp [h1,zgz,hr]
    (first | refine zah ?_ ?_ | refine zag ?_ ?_) <;> intro h2 <;> (try simp only [nrm] at h2) <;> simp -dsimp [h2,zgz,hr,h1]
def zk9 (n:Int):Bool:=decide (0≤n) && decide (n≤6)
def zhc (b:Bl) (k:Nat) (s:So):Bool :=
  if rowM b s.idx then if zk9 s.level then if zgy s.dec s.dty s.idx.length then !s.idx.any (zgz k s) else false else false else false
theorem zI9 (b:Bl) (k:Nat) (hk:k<b.sorts.length):Pure Tryz.prog zmk [eBl b,.int .i64 k] [.bool (zhc b k b.sorts[k])]:=by
  refine zyo rfl fun hs=>?_
  simp -dsimp [zmf,eBl,cBl,eSos,eCos,hk,eSo,cSo,cT,eArs]
  refine zaa (zIa b b.sorts[k].idx) ?_
  simp -dsimp
  (first | refine zah ?_ ?_ | refine zag ?_ ?_) <;> intro h1 <;> (try simp only [nrm] at h1) <;> simp -dsimp [h1,zhc]
  refine zaa (rs:=[.bool (zk9 b.sorts[k].level)]) (zA3 b.sorts[k].level) ?_
  simp -dsimp [h1]
  (first | refine zah ?_ ?_ | refine zag ?_ ?_) <;> intro h2 <;> (try simp only [nrm] at h2) <;> simp -dsimp [h2,zhc,h1]
  refine zaa (zAn b.sorts[k].dec b.sorts[k].dty b.sorts[k].idx.length) ?_
  simp -dsimp [h1,h2]
  (first | refine zah ?_ ?_ | refine zag ?_ ?_) <;> intro h3 <;> (try simp only [nrm] at h3) <;> simp -dsimp [h3,zhc,h1,h2]
  refine zaa (zsi b.sorts[k].idx zhv [.rp [.int .i64 k],.rp (cSo b.sorts[k])] (zgz k b.sorts[k]) (fun x _=>zGb k _ x)) ?_
  simp -dsimp [zhc,h1,h2,h3]
def conM (b:Bl) (c:Co):Bool :=
  if c.sort<0 then false else if rowM b c.args then match b.sorts[c.sort.toNat]? with
  | none=>false
  | some s=>if (c.idx.length:Int)=(s.idx.length:Int) then if allM c.idx c.args.length then zgy s.dec c.dec c.args.length else false else false
  else false
theorem zNc (b:Bl) (c:Co):Pure Tryz.prog zn2 [eBl b,eCo c] [.bool (conM b c)]:=by
  refine zy3 rfl fun hs=>?_
  simp -dsimp [zof,eBl,cBl,eSos,eCos,eCo,cCo,cT,eArs,eTs]
  (first | refine zah ?_ ?_ | refine zag ?_ ?_) <;> intro h1 <;> (try simp only [nrm] at h1) <;> simp -dsimp [h1,conM]
  (first | refine zah ?_ ?_ | refine zag ?_ ?_) <;> intro h2 <;> (try simp only [nrm] at h2) <;> simp -dsimp [h2,conM,h1]
  · have:b.sorts[c.sort.toNat]? = none:=ybB (by omega)
    simp [this]
  refine zaa (zIa b c.args) ?_
  have hlt:c.sort.toNat<b.sorts.length:=by omega
  have h0:0≤c.sort:=by omega
  simp -dsimp [h1,h2]
  (first | refine zah ?_ ?_ | refine zag ?_ ?_) <;> intro h3 <;> (try simp only [nrm] at h3) <;> simp -dsimp [h3,conM,h1,h2]
  have hA:conM b c=if (c.idx.length:Int)=(b.sorts[c.sort.toNat].idx.length:Int) then if allM c.idx c.args.length then zgy b.sorts[c.sort.toNat].dec c.dec c.args.length else false else false:=by
    simp [conM,h1,h3,hlt]
  simp -dsimp [h1,h2,h3,hlt,h0,eSo,cSo,eArs,cT,eTs]
  (first | refine zah ?_ ?_ | refine zag ?_ ?_) <;> intro h4 <;> (try simp only [nrm] at h4) <;> simp -dsimp [h4,h1,h2,h3,hlt,h0,eSo,cSo,eArs,cT]
  · refine zaa (zIf c.idx _) ?_
    simp -dsimp [h4]
    (first | refine zah ?_ ?_ | refine zag ?_ ?_) <;> intro h5 <;> (try simp only [nrm] at h5) <;> simp -dsimp [h5,h4]
    · refine zaa (zAn _ c.dec _) ?_
      simp -dsimp [h4,h5,hA]
    · rw [hA,if_pos h4,h5]; rfl
  · rw [hA,if_neg h4]
theorem zDt (b:Bl) (c:Co):Pure Tryz.prog zf5 [eCo c,.rp (cBl b)] [.bool (!conM b c)]:=by
  refine ztc rfl fun hs=>?_
  simp -dsimp [zi7,cBl,eSos,eCos,eCo,cCo,cT,eArs,eTs]
  refine zaa (zNc b c) ?_
  simp -dsimp
def zct (b:Bl):Int :=
  if (b.sorts.length:Int)<1 then 12 else if 4<(b.sorts.length:Int) then 12 else if 8<(b.cons.length:Int) then 12 else if zk9 b.elim then
    if allI (fun k s=>zhc b k s) 0 b.sorts then if b.cons.any fun c=>!conM b c then 12 else 0 else 12
  else 12
theorem zte (b:Bl):Pure Tryz.prog zii [eBl b] [.int .i64 (zct b)]:=by
  refine zwv rfl fun hs=>?_
  simp -dsimp [zkk,eBl,cBl,eSos,eCos]
  (first | refine zah ?_ ?_ | refine zag ?_ ?_) <;> intro h1 <;> (try simp only [nrm] at h1) <;> simp -dsimp [h1,zct]
  (first | refine zah ?_ ?_ | refine zag ?_ ?_) <;> intro h2 <;> (try simp only [nrm] at h2) <;> simp -dsimp [h2,zct,h1]
  (first | refine zah ?_ ?_ | refine zag ?_ ?_) <;> intro h3 <;> (try simp only [nrm] at h3) <;> simp -dsimp [h3,zct,h1,h2]
  refine zaa (rs:=[.bool (zk9 b.elim)]) (zA3 b.elim) ?_
  simp -dsimp [h1,h2,h3]
  (first | refine zah ?_ ?_ | refine zag ?_ ?_) <;> intro h4 <;> (try simp only [nrm] at h4) <;> simp -dsimp [h4,zct,h1,h2,h3]
  have hl:b.sorts.length≤4:=by omega
  have hC:zct b=if allI (fun k s=>zhc b k s) 0 b.sorts then if b.cons.any fun c=>!conM b c then 12 else 0 else 12:=by
    rw [zct,if_neg h1,if_neg h2,if_neg h3,if_pos h4]
  rw [hC]
  refine zaj b.sorts.length (fun i st=>st.s 1 = .ptr 1 1 0∧st.h 1=⟨1,.box [.d (.sl 6 (b.sorts.map eSo)),.d (.sl 6 (b.cons.map eCo)),.d (.int .i64 b.elim)] false⟩∧st.s 28 = .d (.int .i64 b.sorts.length)∧st.s 29 = .d (.int .i64 i) ∧
    ∀ (j:Nat) (hj:j<b.sorts.length),j<i→zhc b j b.sorts[j]=true) ?_ ?_
  · simp -dsimp
  · rintro i ⟨s,hp⟩ hi ⟨g1,g2,g3,g4,g5⟩
    dsimp only at g1 g2 g3 g4
    rcases ybm i b.sorts.length with hlt | hge
    · have w1:IntKind.i64.wrap ((i:Int)+1)=(i:Int)+1:=zad (by omega) (by omega)
      simp -dsimp [g1,g2,g3,g4,hlt]
      refine zaa (zI9 b i hlt) ?_
      simp -dsimp [g1,g2,g3,g4,hlt]
      (first | refine zah ?_ ?_ | refine zag ?_ ?_) <;> intro h6 <;> (try simp only [nrm] at h6) <;> simp -dsimp [h6,g1,g2,g3,g4,hlt,w1]
      · intro h
        rw [zm8 (p:=fun k s=>zhc b k s) hlt h6] at h
        cases h
      · exact zhx (p:=fun k s=>zhc b k s) hlt g5 h6
    · have e:i=b.sorts.length:=by omega
      subst e
      have hA:allI (fun k s=>zhc b k s) 0 b.sorts=true:=zmw (p:=fun k s=>zhc b k s) g5
      simp -dsimp [g1,g2,g3,g4,hA]
      refine zaa (zsm b.cons zf5 [.rp (cBl b)] (fun c=>!conM b c) (fun x _=>zDt b x)) ?_
      simp -dsimp [g1,g2,g3,g4]
      (first | refine zah ?_ ?_ | refine zag ?_ ?_) <;> intro h7 <;> (try simp only [nrm] at h7) <;> simp -dsimp [h7,g1,g2,g3,g4,hA]
end
section
attribute [local simp] zaf zai w64 tk tn tks zde zee
def recA (n:Int) (l:List T):Ar:=⟨true,zT,[],n,l⟩
theorem zMw (n:Int) (l:List T) (hl:l.length*40≤zae):Pure Tryz.prog zhb [.int .i64 n,eTs l] [.agg (cAr (recA n l))]:=by
  refine zrp rfl fun hs=>?_
  simp -dsimp [hl,zha,eTs,cAr,recA,zT,cT,T.kind,T.num,T.kids]
def zC0 (b:Bl):List D:=[.int .i64 3,.int .i64 0,.int .i64 0,.sl 3 [],.int .i64 0,.int .i64 0,.sl 3 []] ++ cBl b
theorem zIl (b:Bl):Pure Tryz.prog zf2 [eBl b] [.agg (zC0 b)]:=by
  refine zp7 rfl fun hs=>?_
  simp -dsimp [zgn,eBl,cBl,eSos,eCos,zC0]
def natB:Bl:=⟨[⟨[],0,false,zT⟩],[⟨0,[],[],zT⟩,⟨0,[recA 0 []],[],zT⟩],0⟩
theorem zMy:Pure Tryz.prog zhi [] [.agg (zC0 natB)]:=by
  refine zq7 rfl fun hs=>?_
  simp -dsimp [zhn]
  refine zaa (zMw 0 [] (by decide)) ?_
  simp -dsimp [cAr,recA,zT,cT,T.kind,T.num,T.kids,eTs]
  refine zaa (zIl natB) ?_
  simp -dsimp [zC0,cBl,eSos,eCos]
end
section
attribute [local simp] zaf zai tk tn tks zde zee
structure Fit (b:Bl):Prop where
  s:b.sorts.length≤10
  c:b.cons.length≤20
theorem zId {b:Bl} (h:zho b=false):Fit b:=by
  simp only [zho,ycx,decide_eq_false_iff_not] at h
  exact ⟨by omega,by omega⟩
theorem zF9 {base ahead k many:Int} (h0:0≤base) (h1:base≤65535) (h2:0≤ahead) (h3:ahead≤1000) (h4:many≤1000) :
    ziw base ahead k many=if 0≤k∧k<many then base+ahead+k else -1:=by
  by_cases h:0≤k∧k<many
  · rw [ziw,if_neg (by omega),if_pos h,zd8,zd8] <;> (try rw [zd8]) <;> omega
  · rw [ziw,if_pos (by omega),if_neg h]
theorem zw5 {b:Bl} (hf:Fit b) {base:Int} (h0:0≤base) (h1:base≤65535) (k:Int):zbe b base k=if 0≤k∧k<b.sorts.length then base+(b.sorts.length+decs b.sorts+b.cons.length)+k else -1:=by
  have hs:=hf.s
  have hc:=hf.c
  have h3:=zw3 b.sorts
  rw [zbe,zd8 (n:=(b.sorts.length:Int)+decs b.sorts) (by omega) (by omega),zd8 (by omega) (by omega),zF9 h0 h1 (by omega) (by omega) (by omega)]
end
section
attribute [local simp] zaf zai tk tn tks zde zee
theorem off {b:Bl} {base:Int} (h:¬(0≤base∧base≤65535)) (k:Int):zHz b base k = -1∧zDj b base k = -1∧zrz b base k = -1∧zbe b base k = -1:=by
  refine ⟨?_,?_,?_,?_⟩
  · rw [zHz,ziw,if_pos (by omega)]
  · rw [zDj]
    split
    · rfl
    · split
      · rfl
      · split
        · rw [ziw,if_pos (by omega)]
        · rfl
  · rw [zrz,ziw,if_pos (by omega)]
  · rw [zbe,ziw,if_pos (by omega)]
end
section
attribute [local simp] zaf zai tk tn tks zde zee
end
end
section
def SI (j:Nat) (q:D→AV) (b:Bl) (st:S):Prop:=st.s j = .ptr j 1 0∧st.h j=⟨1,.box [q (eSos b.sorts),q (eCos b.cons),.d (.int .i64 b.elim)] false⟩
theorem SI.old {j:Nat} {b:Bl} {st:S} (h:SI j .d b st):SI j (.n false) b (oldS st):=by
  obtain ⟨g7,g8⟩:=h
  simp [SI,oldS,oldE,oldA,Ev.D.flat,g7,g8,eSos,eCos]
theorem SI.aft {lim j:Nat} {b:Bl} {st:S} (hj:j<lim) (h:SI j (.n false) b st):SI j .d b (aftS lim st):=by
  obtain ⟨g7,g8⟩:=h
  simp [SI,aftS,aftE,zzo,Ev.D.flat,g7,g8,eSos,eCos,hj]
end
section
attribute [local simp] zaf zai tk tn tks zde zee
theorem zIj (n:Int):Pure Tryz.prog zkg [.int .i64 n] [.bool (inB n 0 65535)]:=by
  refine zzq rfl fun hs=>?_
  simp -dsimp [zn5,inB]
  (first | refine zah ?_ ?_ | refine zag ?_ ?_) <;> intro h1 <;> (try simp only [nrm] at h1) <;> simp -dsimp [h1]
def shF (fr y n b:Int):T:=.mk 1 (if n<fr+b then n else n+y) []
def shO (fr y n b e:Int):Int:=if n<fr+b then e else if 65535<n+y then 6 else e
def shH (fr y e:Int):Nat→Ent:=fun q=>if q=8 then ⟨1,.box [.d (.int .i64 e)] false⟩ else if q=5 then ⟨1,.box [.d (.int .i64 fr)] false⟩ else if q=4 then ⟨1,.box [.d (.int .i64 y)] false⟩ else ⟨0,.dead⟩
theorem zAt (fr y e:Int):∀ k ∈ [5,4,8],zvz [5,4,8] (shH fr y e k).body:=by
  intro q hq
  simp only [yaZ,ycD,or_false] at hq
  rcases hq with rfl | rfl | rfl <;> simp only [shH] <;> intro c hc <;> simp at hc <;> subst hc <;> exact .d _
theorem zBt (fr y n b e:Int) (hf:0≤fr∧fr≤65535) (hy:0≤y∧y≤65535) (hn:0≤n) (hn':n≤65535) (hb:0≤b) (hb':b≤1099511627776) :
    MutC Tryz.prog zck [.d (.int .i64 n),.d (.int .i64 b),.ptr 5 1 0,.ptr 4 1 0,.ptr 8 1 0] [5,4,8] (shH fr y e) [.agg (cT (shF fr y n b))] (shH fr y (shO fr y n b e)):=by
  refine zAy hm Tryz.func125 zto rfl (zAt _ _ _) fun G h w vs hk hlen hr=>?_
  have e8:h 8=⟨1,.box [.d (.int .i64 e)] false⟩:=by rw [hk 8 (by simp)]; simp [shH]
  have e5:h 5=⟨1,.box [.d (.int .i64 fr)] false⟩:=by rw [hk 5 (by simp)]; simp [shH]
  have e4:h 4=⟨1,.box [.d (.int .i64 y)] false⟩:=by rw [hk 4 (by simp)]; simp [shH]
  have w1:IntKind.i64.wrap (fr+b)=fr+b:=zad (by omega) (by omega)
  have w2:IntKind.i64.wrap (n+y)=n+y:=zad (by omega) (by omega)
  simp -dsimp [zl9,e8,e5,e4,w1]
  (first | refine zah ?_ ?_ | refine zag ?_ ?_) <;> intro h1 <;> (try simp only [nrm] at h1) <;> simp -dsimp [h1,e8,e5,e4,w1]
  · have hO:shO fr y n b e=e:=by rw [shO,if_pos h1]
    have hF:shF fr y n b = .mk 1 n []:=by rw [shF,if_pos h1]
    rw [hO,hF]
    refine zaa (v_ok _) ?_
    simp -dsimp [e8,e5,e4,cT,shH]
  have hF:shF fr y n b = .mk 1 (n+y) []:=by rw [shF,if_neg h1]
  simp -dsimp [e8,e5,e4,w2,h1]
  (first | refine zah ?_ ?_ | refine zag ?_ ?_) <;> intro h2 <;> (try simp only [nrm] at h2) <;> simp -dsimp [h2,e8,e5,e4,w2,h1]
  · have hO:shO fr y n b e=6:=by rw [shO,if_neg h1,if_pos h2]
    rw [hO,hF]
    refine zaa (v_ok _) ?_
    simp -dsimp [e8,e5,e4,cT,shH]
  · have hO:shO fr y n b e=e:=by rw [shO,if_neg h1,if_neg h2]
    rw [hO,hF]
    refine zaa (v_ok _) ?_
    simp -dsimp [e8,e5,e4,cT,shH]
mutual
def shE (fr y:Int):T→Int→Int→Int
  | .mk k n ks,b,e=>if k=1 then shO fr y n b e else shEL fr y k b 0 e ks
def shEL (fr y k b:Int):Nat→Int→List T→Int
  | _,e,[]=>e
  | i,e,x :: xs=>shEL fr y k b (i+1) (shE fr y x (b+zal k i) e) xs
end
theorem zyd (fr y k b:Int):∀ (l:List T) (i:Nat) (e:Int) (j:Nat) (h:j<l.length),shEL fr y k b i e (l.take (j+1))=shE fr y l[j] (b+zal k (i+j:Nat)) (shEL fr y k b i e (l.take j))
  | x :: xs,i,e,0,h=>by simp [shEL]
  | x :: xs,i,e,j+1,h=>by
    simp only [ycC,shEL,ycB]
    rw [zyd fr y k b xs (i+1) _ j (by simpa using h)]
    congr 3
    omega
theorem m_map {aa:List AV} {K:List Nat} {h0 h1:Nat→Ent} {rs:List D} (hl:aa.length=3) (hov:∀ k ∈ K,zvz K (h1 k).body)
    (hw:∀ (h:Nat→Ent),(∀ k ∈ K,h k=h0 k)→(∀ d,AV.d d ∈ aa→small 8 d)→wpX Tryz.prog zg9.code (zee zg9.res rs K h1) ⟨zde aa,h⟩):MutC Tryz.prog zcj aa K h0 rs h1 :=
  zAy hm Tryz.func124 zqw hl hov fun G h w vs hk hlen hr=>hw h hk fun d hd=>by
    obtain ⟨j,hj⟩:=ybD.1 hd
    exact zso (hr j _ hj)
theorem zKq (fr y:Int) (hf:0≤fr∧fr≤65535) (hy:0≤y∧y≤65535) (t:T):∀ b e:Int,zab t=true→0≤b→b+zac t≤1099511627776 →
    MutC Tryz.prog zcj [.d (.agg (cT t)),.d (.int .i64 b),.clo zck [.ptr 5 1 0,.ptr 4 1 0,.ptr 8 1 0]] [5,4,8] (shH fr y e) [.agg (cT (mapT (shF fr y) t b))] (shH fr y (shE fr y t b e)):=by
  refine T.ind (p:=fun t=>∀ b e:Int,zab t=true→0≤b→b+zac t≤1099511627776 →
    MutC Tryz.prog zcj [.d (.agg (cT t)),.d (.int .i64 b),.clo zck [.ptr 5 1 0,.ptr 4 1 0,.ptr 8 1 0]] [5,4,8] (shH fr y e) [.agg (cT (mapT (shF fr y) t b))] (shH fr y (shE fr y t b e))) ?_ t
  intro k n ks ih b e hfm h0 hb
  obtain ⟨hl,_⟩:=(zvq _ hfm).kids
  have hsk:=za9 hfm
  refine m_map rfl (zAt _ _ _) fun h hk hs=>?_
  have e8:h 8=⟨1,.box [.d (.int .i64 e)] false⟩:=by rw [hk 8 (by simp)]; simp [shH]
  have e5:h 5=⟨1,.box [.d (.int .i64 fr)] false⟩:=by rw [hk 5 (by simp)]; simp [shH]
  have e4:h 4=⟨1,.box [.d (.int .i64 y)] false⟩:=by rw [hk 4 (by simp)]; simp [shH]
  have hsm:=hs (.agg (cT (.mk k n ks))) (by simp)
  simp -dsimp [cT,small] at hsm
  simp -dsimp [zg9,cT]
  (first | refine zah ?_ ?_ | refine zag ?_ ?_) <;> intro h1 <;> (try simp only [nrm] at h1) <;> simp -dsimp [h1,e8,e5,e4]
  · have hn:=zc7 h1 hfm
    have hE:shE fr y (.mk k n ks) b e=shO fr y n b e:=by rw [shE,if_pos h1]
    rw [hE,mapT,if_pos h1]
    refine zdo (zBt fr y n b e hf hy hn.1 hn.2 h0 (by omega)) ?_ ?_
    · simp [shH,e8,e5,e4]
    simp -dsimp [h1,cT,za8,zbm,shH]
  have hE:shE fr y (.mk k n ks) b e=shEL fr y k b 0 e ks:=by rw [shE,if_neg h1]
  have hM:mapT (shF fr y) (.mk k n ks) b = .mk k n (mapL (shF fr y) k b 0 ks):=by rw [mapT,if_neg h1]
  rw [hM,hE]
  by_cases hz:ks=[]
  · subst hz
    simp -dsimp [h1,mapL,shEL,e8,e5,e4,shH,cT]
  simp -dsimp [h1,hz,e8,e5,e4]
  have r1:(ks.length:Int)*40≤(zae:Int):=by simp only [zae]; omega
  have r2:ks.length≤zae:=by simp only [zae]; omega
  have hll:(mapL (shF fr y) k b 0 ks).length=ks.length:=zhu (shF fr y) k b ks 0
  simp -dsimp [h1,hz,r1,r2,e8,e5,e4]
  generalize (h 3).ver+1=v3
  generalize (h 6).ver+1=v6
  generalize (h 27).ver+1=v27
  refine zaj ks.length (fun i st=>st.s 3 = .ptr 3 v3 0∧st.h 3=⟨v3,.box [.d (.int .i64 k),.d (.int .i64 n),.d (.sl 3 (ks.map eT))] false⟩∧st.s 1 = .d (.int .i64 b)∧st.s 2 = .clo zck [.ptr 5 1 0,.ptr 4 1 0,.ptr 8 1 0] ∧
    st.s 6 = .ptr 6 v6 0∧st.h 6=⟨v6,.box [.d (.int .i64 0),.d (.int .i64 0),.fsl 3 []] false⟩∧st.s 7 = .rsl 27 v27∧st.s 29 = .d (.sl 3 (ks.map eT))∧st.s 30 = .d (.int .i64 ks.length)∧st.s 31 = .d (.int .i64 i) ∧
    st.h 27=⟨v27,.row 3 (((mapL (shF fr y) k b 0 ks).map eT).take i ++ yaa (ks.length - i) (D.agg [.int .i64 0,.int .i64 0,.sl 3 []])) false⟩ ∧
    st.h 8=⟨1,.box [.d (.int .i64 (shEL fr y k b 0 e (ks.take i)))] false⟩∧st.h 5=⟨1,.box [.d (.int .i64 fr)] false⟩∧st.h 4=⟨1,.box [.d (.int .i64 y)] false⟩) ?_ ?_
  · simp -dsimp [e8,e5,e4,shEL]
  · rintro i ⟨s,hp⟩ hi ⟨g1,g2,g3,g4,g5,g6,g7,g8,g9,g10,g11,g12,g13,g14⟩
    dsimp only at g1 g2 g3 g4 g5 g6 g7 g8 g9 g10 g11 g12 g13 g14
    rcases ybm i ks.length with hlt | hge
    · have w1:IntKind.i64.wrap ((i:Int)+1)=(i:Int)+1:=zad (by omega) (by omega)
      have hbl:=zcv k i
      have hnk:=zb7 (k:=k) (n:=n) (yaf hlt:ks[i] ∈ ks)
      have w2:IntKind.i64.wrap (b+zal k i)=b+zal k i:=zad (by omega) (by omega)
      simp -dsimp [g1,g2,g3,g4,g5,g6,g7,g8,g9,g10,g11,g12,g13,g14,hlt,cT]
      refine zqp (zk3 k i) (by simp [D.flat]) ?_
      simp -dsimp [g1,g2,g3,g4,g5,g6,g7,g8,g9,g10,g11,g12,g13,g14,hlt,w2]
      generalize hX:shEL fr y k b 0 e (ks.take i)=X at g12
      have hrec:=ih ks[i] (yaf _) (b+zal k i) X (hsk _ (yaf _)) (by omega) (by omega)
      have hrec2:=zjx (pre:=[]) (post:=[.d (.int .i64 (b+zal k i)),.clo zck [.ptr 5 1 0,.ptr 4 1 0,.ptr 8 1 0]]) hrec
      refine zdo hrec2 ?_ ?_
      · simp [shH,g12,g13,g14,upd]
      have hsn:=zyd fr y k b ks 0 e i hlt
      rw [ybj,hX] at hsn
      have q1:(i:Int)<((min i ks.length:Nat):Int)+((ks.length - i:Nat):Int):=by omega
      have q2:i<min i ks.length+(ks.length - i):=by omega
      have hle:((mapL (shF fr y) k b 0 ks).map eT).length=ks.length:=by rw [ycn,hll]
      have hfn:=zj4 (l:=(mapL (shF fr y) k b 0 ks).map eT) (z:=D.agg [.int .i64 0,.int .i64 0,.sl 3 []]) (i:=i) (by rw [hle]; exact hlt)
      have hel:((mapL (shF fr y) k b 0 ks).map eT)[i]'(by rw [hle]; exact hlt) = .agg (cT (mapT (shF fr y) ks[i] (b+zal k i))):=by
        rw [yco,zjh (shF fr y) k b ks 0 i hlt,zb4,ybj]
      rw [hel,hle] at hfn
      simp only [cT] at hfn
      simp -dsimp [za8,zbm,shH,g1,g2,g3,g4,g5,g6,g7,g8,g9,g10,g11,g13,g14,hlt,w1,w2,hll,q1,q2,cT,hfn,hsn]
    · have e:i=ks.length:=by omega
      subst e
      have ht:((mapL (shF fr y) k b 0 ks).map eT).take ks.length=(mapL (shF fr y) k b 0 ks).map eT:=yce (by rw [ycn,hll]; exact yab _)
      rw [ht,ycy,ycp,ybp] at g11
      rw [ycf] at g12
      simp -dsimp [g1,g2,g3,g4,g5,g6,g7,g8,g9,g10,g11,g12,g13,g14]
      simp [shH]
def zbi (t:T) (y fr:Int):Int:=if zam t=0 then if inB y 0 65535=true then if inB fr 0 65535=true then shE fr y t 0 0 else 1 else 1 else zam t
def za4 (t:T) (y fr:Int):T:=if zbi t y fr=0 then mapT (shF fr y) t 0 else zT
theorem zwl (t:T) (y fr:Int) (ht:zac t≤1048576):Pure Tryz.prog zif [.agg (cT t),.int .i64 y,.int .i64 fr] [.agg (cT (za4 t y fr)),.int .i64 (zbi t y fr)]:=by
  refine zwz rfl fun hs=>?_
  simp -dsimp [zky,cT]
  refine zaa (zk2 t) ?_
  simp -dsimp
  (first | refine zah ?_ ?_ | refine zag ?_ ?_) <;> intro h1 <;> (try simp only [nrm] at h1) <;> simp -dsimp [h1]
  · have hE:zbi t y fr=zam t:=by rw [zbi,if_neg h1]
    have hT:za4 t y fr=zT:=by rw [za4,hE,if_neg h1]
    simp -dsimp [hE,hT,zT,cT]
  refine zaa (zIj y) ?_
  simp -dsimp [h1]
  (first | refine zah ?_ ?_ | refine zag ?_ ?_) <;> intro h2 <;> (try simp only [nrm] at h2) <;> simp -dsimp [h2,h1]
  · have hE:zbi t y fr=1:=by rw [zbi,if_pos h1,if_neg (by simp [h2])]
    have hT:za4 t y fr=zT:=by rw [za4,hE]; rfl
    simp -dsimp [hE,hT,zT,cT]
  refine zaa (zIj fr) ?_
  simp -dsimp [h1,h2]
  (first | refine zah ?_ ?_ | refine zag ?_ ?_) <;> intro h3 <;> (try simp only [nrm] at h3) <;> simp -dsimp [h3,h1,h2]
  · have hE:zbi t y fr=1:=by rw [zbi,if_pos h1,if_pos h2,if_neg (by simp [h3])]
    have hT:za4 t y fr=zT:=by rw [za4,hE]; rfl
    simp -dsimp [hE,hT,zT,cT]
  have hE:zbi t y fr=shE fr y t 0 0:=by rw [zbi,if_pos h1,if_pos h2,if_pos h3]
  refine zdo (zjx (pre:=[]) (post:=[.d (.int .i64 0),.clo zck [.ptr 5 1 0,.ptr 4 1 0,.ptr 8 1 0]]) (zKq fr y ((zb1 _ _ _).1 h3) ((zb1 _ _ _).1 h2) t 0 0 (zj1 h1) (by omega) (by omega))) ?_ ?_
  · simp [shH,h1]
  simp -dsimp [za8,zbm,shH,cT]
  (first | refine zah ?_ ?_ | refine zag ?_ ?_) <;> intro h4 <;> (try simp only [nrm] at h4) <;> simp -dsimp [h4,h1,h2,h3]
  · have hT:za4 t y fr=zT:=by rw [za4,hE,if_neg h4]
    simp -dsimp [hE,hT,zT,cT]
  · have hT:za4 t y fr=mapT (shF fr y) t 0:=by rw [za4,hE,if_pos h4]
    simp -dsimp [hE,h4,hT,cT]
mutual
def shB (fr y:Int):T→Int→Bool
  | .mk k n ks,b=>if k=1 then decide (n<fr+b) || decide (n+y≤65535) else shBL fr y k b 0 ks
def shBL (fr y k b:Int):Nat→List T→Bool
  | _,[]=>true
  | i,x :: xs=>shB fr y x (b+zal k i) && shBL fr y k b (i+1) xs
end
theorem zz9 (fr y k b:Int):∀ (l:List T) (i:Nat),shBL fr y k b i l=true ↔ ∀ (j:Nat) (hj:j<l.length),shB fr y l[j] (b+zal k (i+j:Nat))=true
  | [],i=>by simp [shBL]
  | x :: xs,i=>by
    rw [shBL,ybJ,zz9 fr y k b xs (i+1)]
    constructor
    · rintro ⟨h1,h2⟩ j hj
      cases j with
      | zero=>simpa using h1
      | succ j =>
        have:=h2 j (by simpa using hj)
        simp only [ycB]
        have e:(i+(j+1):Nat)=i+1+j:=by omega
        rw [e]; exact this
    · intro h
      have h0:=h 0 (by simp)
      simp only [ycz,Nat.add_zero] at h0
      refine ⟨h0,fun j hj=>?_⟩
      have:=h (j+1) (by simpa using hj)
      simp only [ycB] at this
      have e:(i+(j+1):Nat)=i+1+j:=by omega
      rw [e] at this; exact this
theorem zIh (fr y:Int) (t:T):∀ b e:Int,(e=0∨e=6)→shE fr y t b e=if shB fr y t b=true then e else 6:=by
  refine T.ind (p:=fun t=>∀ b e:Int,(e=0∨e=6)→shE fr y t b e=if shB fr y t b=true then e else 6) ?_ t
  intro k n ks ih b e he
  rw [shE,shB]
  by_cases h1:k=1
  · rw [if_pos h1,if_pos h1,shO]
    by_cases h2:n<fr+b
    · simp [h2]
    · by_cases h3:65535<n+y
      · have:¬ n+y≤65535:=by omega
        simp [h2,h3,this]
      · have:n+y≤65535:=by omega
        simp [h2,h3,this]
  · rw [if_neg h1,if_neg h1]
    have go:∀ (l:List T) (i:Nat) (e:Int),(∀ x ∈ l,x ∈ ks)→(e=0∨e=6)→shEL fr y k b i e l=if shBL fr y k b i l=true then e else 6:=by
      intro l
      induction l with
      | nil=>intro i e _ _; simp [shEL,shBL]
      | cons x xs ihx =>
        intro i e hm he
        rw [shEL,shBL,ih x (hm x (by simp)) _ e he]
        by_cases h2:shB fr y x (b+zal k i)=true
        · rw [if_pos h2,ihx (i+1) e (fun z hz=>hm z (by simp [hz])) he,h2,Bool.true_and]
        · rw [if_neg h2,ihx (i+1) 6 (fun z hz=>hm z (by simp [hz])) (.inr rfl)]
          simp [h2]
    exact go ks 0 e (fun x hx=>hx) he
theorem zth {t:T} {y fr:Int}:zbi t y fr=0 ↔ zam t=0∧(0≤y∧y≤65535)∧(0≤fr∧fr≤65535)∧shB fr y t 0=true:=by
  rw [zbi,← zb1,← zb1]
  by_cases h1:zam t=0
  · rw [if_pos h1]
    by_cases h2:inB y 0 65535=true
    · rw [if_pos h2]
      by_cases h3:inB fr 0 65535=true
      · rw [if_pos h3,zIh fr y t 0 0 (.inl rfl)]
        by_cases h4:shB fr y t 0=true
        · simp [h1,h2,h3,h4]
        · simp [h4]
      · rw [if_neg h3]; simp [h3]
    · rw [if_neg h2]; simp [h2]
  · rw [if_neg h1]; simp [h1]
theorem zAi {t:T} {y fr:Int} (h:zbi t y fr=0):za4 t y fr=mapT (shF fr y) t 0:=by rw [za4,if_pos h]
theorem sh_lo {fr y n b:Int} (h:n<fr+b):shF fr y n b = .mk 1 n []:=by rw [shF,if_pos h]
theorem sh_hi {fr y n b:Int} (h:fr+b≤n):shF fr y n b = .mk 1 (n+y) []:=by rw [shF,if_neg (by omega)]
theorem zFw {t:T} (h:zab t=true) (fr y b:Int):zac (mapT (shF fr y) t b)=zac t:=zvk _ (fun _ _=>zcs _ _) t h b
theorem zGt {t:T} (h:zab t=true) (fr y b:Int):za7 (mapT (shF fr y) t b)=za7 t:=zu3 _ (fun _ _=>zhj _ _) t h b
theorem zEg (fr y:Int) (hy:0≤y) (t:T):∀ b:Int,zab t=true→shB fr y t b=true→zab (mapT (shF fr y) t b)=true:=by
  refine T.ind (p:=fun t=>∀ b:Int,zab t=true→shB fr y t b=true→zab (mapT (shF fr y) t b)=true) ?_ t
  intro k n ks ih b hfm hB
  rw [mapT]
  rw [shB] at hB
  by_cases h1:k=1
  · have hn:=zc7 h1 hfm
    rw [if_pos h1] at hB ⊢
    simp only [ybM,decide_eq_true_eq] at hB
    by_cases h2:n<fr+b
    · rw [sh_lo h2]; exact zek hn
    · rw [sh_hi (by omega)]; exact zek (by omega)
  · rw [if_neg h1] at hB ⊢
    refine znx h1 hfm fun j hj=>?_
    have:=(zz9 fr y k b ks 0).1 hB j hj
    rw [ybj] at this
    exact ih ks[j] (yaf _) _ (za9 hfm _ (yaf _)) this
theorem zy0 {t:T} {y fr:Int} (hn:zac t≤1048576) (h:zbi t y fr=0):zam (za4 t y fr)=0∧zab (za4 t y fr)=true∧zac (za4 t y fr)=zac t:=by
  obtain ⟨h1,h2,h3,h4⟩:=zth.1 h
  have hf:=zj1 h1
  have hc:=(ztp hn).1 h1
  rw [zAi h]
  have a1:=zFw hf fr y 0
  have a2:=zGt hf fr y 0
  have a3:=zEg fr y h2.1 t 0 hf h4
  exact ⟨(ztp (by omega)).2 ⟨by omega,by omega,a3⟩,a3,a1⟩
end
section
attribute [local simp] zaf zai tk tn tks
theorem zls (f:T) (l:List T) (hl:l.length≤100000000) (hf:okT f) (ho:okTs l):Pure Tryz.prog zbk [.agg (cT f),eTs l] [.agg (cT (spT f l))]:=by
  refine zo3 rfl fun hs=>?_
  simp -dsimp [ze6,cT,eTs]
  refine zaa (zmj f hf) ?_
  simp -dsimp [cT]
  refine zaj l.length (fun i st=>st.s 4 = .ptr 4 1 0∧st.h 4=⟨1,.box [.d (.int .i64 0),.d (.int .i64 0),.fsl 3 []] false⟩∧st.s 1 = .d (.sl 3 (l.map eT))∧st.s 6 = .d (.int .i64 i) ∧
    st.s 5 = .ptr 5 1 0 ∧ ∃ cs,st.h 5=⟨1,.box [.d (.int .i64 (spT f (l.take i)).kind),.d (.int .i64 (spT f (l.take i)).num),cs] false⟩∧(cs = .d (.sl 3 ((spT f (l.take i)).kids.map eT))∨cs = .fsl 3 ((spT f (l.take i)).kids.map eT))) ?_ ?_
  · simp -dsimp [spT]
  · rintro i ⟨s,hp⟩ hi ⟨g1,g2,g3,g4,g5,cs,g6,g7⟩
    dsimp only at g1 g2 g3 g4 g5 g6
    rcases ybm i l.length with hlt | hge
    · have w1:IntKind.i64.wrap ((i:Int)+1)=(i:Int)+1:=zad (by omega) (by omega)
      have hnx:spT f (l.take (i+1)) = .mk 6 0 [spT f (l.take i),l[i]]:=by
        have e:l.take (i+1)=l.take i ++ [l[i]]:=by rw [ycc,yar hlt]; rfl
        rw [spT,e,List.foldl_append]
        rfl
      rw [hnx]
      generalize spT f (l.take i)=Y at g6 g7
      have hnode:=zL7 6 [Y,l[i]] (by simp [zae])
      simp only [eTs,yaV,ycG,zb4,cT,tk,tn,tks] at hnode
      rcases g7 with rfl | rfl
      all_goals
        simp -dsimp [g1,g2,g3,g4,g5,g6,hlt,cT]
        refine zaa (zmj l[i] (ho.2 _ (yaf _))) ?_
        simp -dsimp [g1,g2,g3,g4,g5,g6,hlt,cT]
        refine zaa hnode ?_
        simp -dsimp [g1,g2,g3,g4,g5,g6,hlt,w1,zb4,cT]
    · have e:i=l.length:=by omega
      subst e
      rw [ycf] at g6 g7
      rcases g7 with rfl | rfl
      · simp -dsimp [g1,g2,g3,g4,g5,g6]
      · simp -dsimp [g1,g2,g3,g4,g5,g6]
theorem zG2 (k:Int) (l:List T) (t:T) (hl:l.length≤100000000) (ht:okT t) (ho:okTs l):Pure Tryz.prog zgi [.int .i64 k,eTs l,.agg (cT t)] [.agg (cT (zku k l t))]:=by
  refine zp9 rfl fun hs=>?_
  have w0:IntKind.i64.wrap ((l.length:Int) - 1)=(l.length:Int) - 1:=zad (by omega) (by omega)
  simp -dsimp [zgp,cT,eTs]
  refine zaa (zmj t ht) ?_
  simp -dsimp [cT,w0]
  refine zaj l.length (fun i st=>st.s 6 = .ptr 6 1 0∧st.h 6=⟨1,.box [.d (.int .i64 0),.d (.int .i64 0),.fsl 3 []] false⟩∧st.s 0 = .d (.int .i64 k)∧st.s 1 = .d (.sl 3 (l.map eT))∧st.s 8 = .d (.int .i64 ((l.length:Int) - 1 - i)) ∧
    st.s 7 = .ptr 7 1 0 ∧ ∃ cs,st.h 7=⟨1,.box [.d (.int .i64 (zku k (l.drop (l.length - i)) t).kind),.d (.int .i64 (zku k (l.drop (l.length - i)) t).num),cs] false⟩ ∧
      (cs = .d (.sl 3 ((zku k (l.drop (l.length - i)) t).kids.map eT))∨cs = .fsl 3 ((zku k (l.drop (l.length - i)) t).kids.map eT))) ?_ ?_
  · simp -dsimp [zku]
  · rintro i ⟨s,hp⟩ hi ⟨g1,g2,g3,g4,g5,g6,cs,g7,g8⟩
    dsimp only at g1 g2 g3 g4 g5 g6 g7
    rcases ybm i l.length with hlt | hge
    · obtain ⟨m,hm⟩:∃ m:Nat,l.length=m+1+i:=⟨l.length - 1 - i,by omega⟩
      have hmi:(l.length:Int) - 1 - i=(m:Int):=by omega
      have hml:m<l.length:=by omega
      have w1:IntKind.i64.wrap ((m:Int) - 1)=(l.length:Int) - 1 - ((i+1:Nat):Int):=by rw [zad (by omega) (by omega)]; omega
      have e1:l.length - i=m+1:=by omega
      have e2:l.length - (i+1)=m:=by omega
      have hnx:zku k (l.drop m) t = .mk k 0 [l[m],zku k (l.drop (m+1)) t]:=by
        rw [List.drop_eq_getElem_cons hml]
        rfl
      rw [hmi] at g5
      rw [e1] at g7 g8
      rw [e2,hnx]
      generalize zku k (l.drop (m+1)) t=Y at g7 g8
      have hnode:=zL7 k [l[m],Y] (by simp [zae])
      simp only [eTs,yaV,ycG,zb4,cT,tk,tn,tks] at hnode
      rcases g8 with rfl | rfl
      all_goals
        simp -dsimp [g1,g2,g3,g4,g5,g6,g7,hml,cT]
        refine zaa (zmj l[m] (ho.2 _ (yaf _))) ?_
        simp -dsimp [g1,g2,g3,g4,g5,g6,g7,hml,cT]
        refine zaa hnode ?_
        simp -dsimp [g1,g2,g3,g4,g5,g6,g7,hml,w1,zb4,cT,hlt]
    · have e:i=l.length:=by omega
      subst e
      have e3:(l.length:Int) - 1 - (l.length:Int) = -1:=by omega
      rw [e3] at g5
      rw [ycy,List.drop_zero] at g7 g8
      rcases g8 with rfl | rfl
      · simp -dsimp [g1,g2,g3,g4,g5,g6,g7]
      · simp -dsimp [g1,g2,g3,g4,g5,g6,g7]
theorem zHn (n:Nat) (hn:n≤65536):Pure Tryz.prog zf9 [.int .i64 n] [eTs (zdp n)]:=by
  refine zpd rfl fun hs=>?_
  have w0:IntKind.i64.wrap ((n:Int) - 1)=(n:Int) - 1:=zad (by omega) (by omega)
  simp -dsimp [zgt,w0]
  refine zaj n (fun i st=>st.s 2 = .rsl 2 1∧st.h 2=⟨1,.row 3 [] false⟩∧st.s 0 = .d (.int .i64 n)∧st.s 4 = .d (.int .i64 ((n:Int) - 1 - i))∧st.s 3 = .rsl 3 (1+i)∧st.h 3=⟨1+i,.row 3 (((zdp n).take i).map eT) false⟩) ?_ ?_
  · simp -dsimp
  · rintro i ⟨s,hp⟩ hi ⟨g1,g2,g3,g4,g5,g6⟩
    dsimp only at g1 g2 g3 g4 g5 g6
    have hvl:=zmg n
    rcases ybm i n with hlt | hge
    · have w1:IntKind.i64.wrap ((n:Int) - 1 - i - 1)=(n:Int) - 1 - ((i+1:Nat):Int):=by rw [zad (by omega) (by omega)]; omega
      have q1:(0:Int)≤(n:Int) - 1 - i:=by omega
      have q1':(i:Int)≤(n:Int) - 1:=by omega
      have q2:(n:Int)≤65536:=by omega
      have hg:=zxc n i (by omega)
      have hr:(min i n+1)*40≤zae:=by simp only [zae]; omega
      have htk:((zdp n).take (i+1)).map eT=((zdp n).take i).map eT ++ [.agg (cT (.mk 1 ((n:Int) - 1 - i) []))]:=by
        rw [zcd (yar (by omega:i<(zdp n).length)),hg,ycI]
        simp [zb4,tV]
      rw [htk]
      simp -dsimp [g1,g2,g3,g4,g5,g6,q1,q1',q2]
      refine zaa (zM2 _) ?_
      simp -dsimp [g1,g2,g3,g4,g5,g6,q1,q1',q2,hvl,hr,w1,cT,hlt]
      omega
    · have e:i=n:=by omega
      subst e
      have q1:¬ (0:Int)≤(i:Int) - 1 - i:=by omega
      have q1':¬ (i:Int)≤(i:Int) - 1:=by omega
      have ht:(zdp i).take i=zdp i:=yce (by omega)
      rw [ht] at g6
      simp -dsimp [g1,g2,g3,g4,g5,g6,q1,q1',eTs]
end
section
section
attribute [local simp] zaf zai tk tn tks zde zee
theorem zMx {k n:Int} {ks:List T} (hfm:zab (.mk k n ks)=true):0≤n∧n≤65535:=by
  rw [za5] at hfm
  split at hfm
  · split at hfm
    · rw [ybJ,zb1] at hfm
      exact hfm.1
    · split at hfm
      · omega
      · cases hfm
  · cases hfm
theorem zxg (fr y k b:Int):∀ (l:List T) (i j:Nat) (h:j<l.length),shBL fr y k b i (l.take (j+1))=(shBL fr y k b i (l.take j) && shB fr y l[j] (b+zal k (i+j:Nat)))
  | x :: xs,i,0,h=>by simp [shBL]
  | x :: xs,i,j+1,h=>by
    have:=zxg fr y k b xs (i+1) j (by simpa using h)
    simp only [ycC,shBL,ycB,this,Bool.and_assoc]
    rw [show i+1+j=i+(j+1) by omega]
theorem zAa (y fr:Int) (hy:0≤y∧y≤10000000) (hfr:0≤fr∧fr≤65535) (t:T):∀ b:Int,zab t=true→0≤b→b+zac t≤4194304→Pure Tryz.prog zbu [.agg (cT t),.int .i64 y,.int .i64 (fr+b)] [.agg (cT (mapT (shF fr y) t b)),.bool (!shB fr y t b)]:=by
  refine T.ind (p:=fun t=>∀ b:Int,zab t=true→0≤b→b+zac t≤4194304→Pure Tryz.prog zbu [.agg (cT t),.int .i64 y,.int .i64 (fr+b)] [.agg (cT (mapT (shF fr y) t b)),.bool (!shB fr y t b)]) ?_ t
  intro k n ks ih b hfm h0 hb
  refine zqf rfl fun hs=>?_
  by_cases h1:k=1
  · subst h1
    have hks:=zpy rfl hfm
    subst hks
    obtain ⟨n0,n1⟩:=zc7 rfl hfm
    have w1:IntKind.i64.wrap (n+y)=n+y:=zad (by omega) (by omega)
    have hM:mapT (shF fr y) (.mk 1 n []) b = .mk 1 (if n<fr+b then n else n+y) []:=by rw [zAe,shF]
    have hB:shB fr y (.mk 1 n []) b=(decide (n<fr+b) || decide (n+y≤65535)):=by rw [shB,if_pos rfl]
    rw [hM,hB]
    simp -dsimp [zd6,cT]
    by_cases c:fr+b≤n
    · have c':¬ n<fr+b:=by omega
      simp -dsimp [c,c',w1]
      refine zaj 0 (fun i st=>st.s 3 = .ptr 3 1 0∧st.s 8 = .ptr 8 1 0∧st.s 6 = .ptr 6 1 0∧st.s 9 = .d (.bool (decide (65535<n+y)))∧st.s 10 = .d (.int .i64 i)∧st.h 3=⟨1,.box [.d (.int .i64 1),.d (.int .i64 n),.d (.sl 3 [])] false⟩∧st.h 8=⟨1,.box [.d (.int .i64 1),.d (.int .i64 (n+y)),.fsl 3 []] false⟩∧st.h 6=⟨1,.box [.d (.int .i64 0),.d (.int .i64 0),.fsl 3 []] false⟩) ?_ ?_
      · simp -dsimp
      · rintro i ⟨s,hp⟩ hi ⟨e3,e8,e6,e9,e10,k3,k8,k6⟩
        dsimp only at e3 e8 e6 e9 e10 k3 k8 k6
        have:i=0:=by omega
        subst this
        simp -dsimp [e3,e8,e6,e9,e10,k3,k8,k6]
        exact ⟨fun h=>by omega,by rw [ycJ]; simp; omega⟩
    · have c':n<fr+b:=by omega
      simp -dsimp [c,c',w1]
      refine zaj 0 (fun i st=>st.s 3 = .ptr 3 1 0∧st.s 8 = .ptr 8 1 0∧st.s 6 = .ptr 6 1 0∧st.s 9 = .d (.bool (decide (65535<n)))∧st.s 10 = .d (.int .i64 i)∧st.h 3=⟨1,.box [.d (.int .i64 1),.d (.int .i64 n),.d (.sl 3 [])] false⟩∧st.h 8=⟨1,.box [.d (.int .i64 1),.d (.int .i64 n),.fsl 3 []] false⟩∧st.h 6=⟨1,.box [.d (.int .i64 0),.d (.int .i64 0),.fsl 3 []] false⟩) ?_ ?_
      · simp -dsimp
      · rintro i ⟨s,hp⟩ hi ⟨e3,e8,e6,e9,e10,k3,k8,k6⟩
        dsimp only at e3 e8 e6 e9 e10 k3 k8 k6
        have:i=0:=by omega
        subst this
        simp -dsimp [e3,e8,e6,e9,e10,k3,k8,k6]
        exact ⟨fun h=>by omega,by rw [ycJ]; simp; omega⟩
  · obtain ⟨n0,n1⟩:=zMx hfm
    have hln:=(zvq _ hfm).kids.1
    have hM:mapT (shF fr y) (.mk k n ks) b = .mk k n (mapL (shF fr y) k b 0 ks):=by rw [mapT,if_neg h1]
    have hB:shB fr y (.mk k n ks) b=shBL fr y k b 0 ks:=by rw [shB,if_neg h1]
    have hl:=zhu (shF fr y) k b ks 0
    rw [hM,hB]
    have n2:¬ 65535<n:=by omega
    simp -dsimp [zd6,cT,h1,n2]
    generalize hML:mapL (shF fr y) k b 0 ks=ml at *
    refine zaj ks.length (fun i st=>st.s 1 = .d (.int .i64 y)∧st.s 2 = .d (.int .i64 (fr+b))∧st.s 3 = .ptr 3 1 0∧st.s 8 = .ptr 8 1 0∧st.s 6 = .ptr 6 1 0∧st.s 9 = .d (.bool (!shBL fr y k b 0 (ks.take i)))∧st.s 10 = .d (.int .i64 i)∧st.h 3=⟨1,.box [.d (.int .i64 k),.d (.int .i64 n),.d (.sl 3 (ks.map eT))] false⟩ ∧
      st.h 6=⟨1,.box [.d (.int .i64 0),.d (.int .i64 0),.fsl 3 []] false⟩ ∧ ∃ c,st.h 8=⟨1,.box [.d (.int .i64 k),.d (.int .i64 n),c] false⟩∧((i=0∧c = .fsl 3 [])∨(0<i ∧ ∃ v,c = .rsl 62 v∧st.h 62=⟨v,.row 3 ((ml.map eT).take i) false⟩))) ?_ ?_
    · simp -dsimp [shBL]
    · rintro i ⟨s,hp⟩ hi ⟨e1,e2,e3,e8,e6,e9,e10,k3,k6,c,k8,hc⟩
      dsimp only at e1 e2 e3 e8 e6 e9 e10 k3 k6 k8 hc
      rcases ybm i ks.length with hlt | hge
      · have w1:IntKind.i64.wrap ((i:Int)+1)=(i:Int)+1:=zad (by omega) (by omega)
        have hbl:=zcv k i
        have hkn:=zb7 (k:=k) (n:=n) (yaf hlt)
        have w2:IntKind.i64.wrap (fr+b+zal k i)=fr+(b+zal k i):=by rw [zad (by omega) (by omega)]; omega
        have hrec:=ih ks[i] (yaf _) (b+zal k i) (za9 hfm _ (yaf _)) (by omega) (by omega)
        have hs1:=zxg fr y k b ks 0 i hlt
        rw [ybj] at hs1
        have hg:=zjh (shF fr y) k b ks 0 i hlt
        rw [ybj] at hg
        have hn:=zix eT cT zb4 ml i (by omega)
        simp only [hML] at hg
        rw [hg] at hn
        have hr:(min i ml.length+1)*40≤zae:=by simp only [zae]; omega
        generalize mapT (shF fr y) ks[i] (b+zal k i)=Y at *
        generalize shB fr y ks[i] (b+zal k i)=Z at *
        generalize hX:ks[i]=X at *
        simp only [cT] at hrec hn
        simp -dsimp [e1,e2,e3,e8,e6,e9,e10,k3,k6,k8,hlt,hX,cT]
        refine zaa (zj3 k i) ?_
        simp -dsimp [e1,e2,e3,e8,e6,e9,e10,k3,k6,k8,hlt,hX,cT,w2]
        refine zaa hrec ?_
        simp -dsimp [e1,e2,e3,e8,e6,e9,e10,k3,k6,k8,hlt,hX,cT,w1,w2,hs1]
        have hb2:(!(shBL fr y k b 0 (ks.take i) && Z))=(!shBL fr y k b 0 (ks.take i) || !Z):=by cases shBL fr y k b 0 (ks.take i) <;> cases Z <;> rfl
        rcases hc with ⟨rfl,rfl⟩ | ⟨hi0,v,rfl,hc⟩
        · have hne:¬ ml=[]:=ycK (by omega)
          simp only [ycE,ycu,ybj] at hn
          have hz:shBL fr y k b 0 (ks.take 0)=true:=by simp [shBL]
          rw [hz] at hs1
          rw [ycE] at e9
          have hz2:shBL fr y k b 0 []=true:=by simp [shBL]
          have h40:40≤zae:=by simp only [zae]; omega
          simp at hlt w1
          simp -dsimp [e1,e2,e3,e8,e6,e9,e10,k3,k6,k8,hlt,hX,cT,w1,hs1,hz2,hn,h40]
        · cases hSh:shBL fr y k b 0 (ks.take i) with
          | true =>
            rw [hSh] at hs1 e9
            simp -dsimp [e1,e2,e3,e8,e6,e9,e10,k3,k6,k8,hc,hlt,hX,cT,w1,hs1,hn,hr]
          | false =>
            rw [hSh] at hs1 e9
            simp -dsimp [e1,e2,e3,e8,e6,e9,e10,k3,k6,k8,hc,hlt,hX,cT,w1,hs1,hn,hr]
      · have e:i=ks.length:=by omega
        subst e
        rw [ycf] at e9
        rcases hc with ⟨hz,rfl⟩ | ⟨hi0,v,rfl,hc⟩
        · have hm:ml=[]:=ycF.1 (by omega)
          have hkz:ks=[]:=ycF.1 hz
          simp -dsimp [e1,e2,e3,e8,e6,e9,e10,k3,k6,k8,hm,hkz]
        · rw [yce (by simp; omega)] at hc
          simp -dsimp [e1,e2,e3,e8,e6,e9,e10,k3,k6,k8,hc]
theorem zD0 {t:T} {y fr:Int} (hc:zam t=0) (hy:0≤y∧y≤65535) (hf:0≤fr∧fr≤65535):zbi t y fr=if shB fr y t 0=true then 0 else 6:=by
  rw [zbi,if_pos hc,if_pos ((zb1 _ _ _).2 hy),if_pos ((zb1 _ _ _).2 hf),zIh fr y t 0 0 (.inl rfl)]
theorem zxl (t:T) (y fr:Int) (hn:zac t≤1048576):Pure Tryz.prog zdj [.agg (cT t),.int .i64 y,.int .i64 fr] [.agg (cT (za4 t y fr)),.int .i64 (zbi t y fr)]:=by
  refine zn4 rfl fun hs=>?_
  have hC:=zfz t
  simp only [cT] at hC
  simp -dsimp [zfk,cT]
  refine zaa hC ?_
  by_cases hc:zam t=0
  case neg =>
    have hE:zbi t y fr=zam t:=by rw [zbi,if_neg hc]
    have hT:za4 t y fr=zT:=by rw [za4,hE,if_neg hc]
    simp -dsimp [hc,hE,hT,zT,cT]
  simp -dsimp [hc]
  refine zaa (zxt y 0 65535) ?_
  by_cases hy:inB y 0 65535=true
  case neg =>
    have hy':inB y 0 65535=false:=by simpa using hy
    have hE:zbi t y fr=1:=by rw [zbi,if_pos hc,if_neg hy]
    have hT:za4 t y fr=zT:=by rw [za4,hE,if_neg (by omega)]
    simp -dsimp [hc,hy',hE,hT,zT,cT]
  simp -dsimp [hc,hy]
  refine zaa (zxt fr 0 65535) ?_
  by_cases hf:inB fr 0 65535=true
  case neg =>
    have hf':inB fr 0 65535=false:=by simpa using hf
    have hE:zbi t y fr=1:=by rw [zbi,if_pos hc,if_pos hy,if_neg hf]
    have hT:za4 t y fr=zT:=by rw [za4,hE,if_neg (by omega)]
    simp -dsimp [hc,hy,hf',hE,hT,zT,cT]
  have hE:=zD0 hc ((zb1 _ _ _).1 hy) ((zb1 _ _ _).1 hf)
  have hM:=zAa y fr (by have:=(zb1 _ _ _).1 hy; omega) ((zb1 _ _ _).1 hf) t 0 (zj1 hc) (by omega) (by omega)
  rw [ycL] at hM
  simp only [cT] at hM
  simp -dsimp [hc,hy,hf]
  refine zaa hM ?_
  cases hB:shB fr y t 0 with
  | true =>
    rw [hB,if_pos rfl] at hE
    have hT:za4 t y fr=mapT (shF fr y) t 0:=zAi hE
    simp -dsimp [hc,hy,hf,hB,hE,hT,cT]
  | false =>
    rw [hB,if_neg (by simp)] at hE
    have hT:za4 t y fr=zT:=by rw [za4,hE,if_neg (by omega)]
    simp -dsimp [hc,hy,hf,hB,hE,hT,cT,zT]
end
end
section
section
attribute [local simp] zaf zai tk tn tks zde zee
theorem zAo (k b m:Int):∀ (l:List T) (i:Nat) (a:Int),zjs k b i a l<m ↔ a<m ∧ ∀ (j:Nat) (hj:j<l.length),zep l[j] (b+zal k (i+j:Nat))<m
  | [],i,a=>by simp [zjs]
  | x :: xs,i,a=>by
    rw [zjs,zAo k b m xs (i+1) _]
    have hm:mx a (zep x (b+zal k i))<m ↔ a<m∧zep x (b+zal k i)<m:=by rw [mx]; split <;> omega
    rw [hm]
    constructor
    · rintro ⟨⟨h1,h2⟩,h3⟩
      refine ⟨h1,fun j hj=>?_⟩
      match j,hj with
      | 0,_=>simpa using h2
      | j+1,hj =>
        have:=h3 j (by simpa using hj)
        simp only [ycB]
        rwa [show i+(j+1)=i+1+j by omega]
    · rintro ⟨h1,h2⟩
      refine ⟨⟨h1,by have:=h2 0 (by simp); simpa using this⟩,fun j hj=>?_⟩
      have:=h2 (j+1) (by simpa using hj)
      simp only [ycB] at this
      rwa [show i+(j+1)=i+1+j by omega] at this
def upTo (y:Int):Int:=if 65536 - y<0 then 0 else 65536 - y
theorem zLg (y:Int) (t:T):∀ b:Int,zab t=true→0≤b→(shB 0 y t b=true ↔ zep t b<upTo y):=by
  refine T.ind (p:=fun t=>∀ b:Int,zab t=true→0≤b→(shB 0 y t b=true ↔ zep t b<upTo y)) ?_ t
  intro k n ks ih b hf hb
  rw [shB,zep]
  by_cases h1:k=1
  · have hn:=zc7 h1 hf
    have hz:=zpy h1 hf
    subst hz
    rw [if_pos h1,zjs]
    simp only [h1,true_and,ybM,decide_eq_true_eq,upTo]
    split <;> split <;> omega
  · rw [if_neg h1,zAo,zz9]
    simp only [h1,false_and,if_false]
    constructor
    · intro h
      refine ⟨by rw [upTo]; split <;> omega,fun j hj=>(ih _ (yaf hj) _ (za9 hf _ (yaf hj)) ?_).1 (h j hj)⟩
      have:=zcv k (0+j:Nat)
      omega
    · rintro ⟨_,h⟩ j hj
      refine (ih _ (yaf hj) _ (za9 hf _ (yaf hj)) ?_).2 (h j hj)
      have:=zcv k (0+j:Nat)
      omega
theorem zFd {a:T} (hf:zab a=true) {y:Int} (hy:0≤y):(!shB 0 y a 0)=zvr a y:=by
  have h:=zLg y a 0 hf (by omega)
  have h2:=zzc a hf 0
  rw [zvr,ycJ,Bool.not_eq_true',← Bool.not_eq_true,h,upTo]
  simp only [ybJ,decide_eq_true_eq]
  split <;> omega
theorem zNb {y:Int} (hy:0≤y) (hy':y≤10000000) (t:T) (hf:zab t=true) (b:Int) (hb:0≤b) (hb':b+zac t≤4194304):mapT (shF 0 y) t b=mapT (mv y) t b :=
  zD2 _ _ (fun n c a1 a2 a3 a4=>by
    rw [shF]
    by_cases h:n<0+c
    · rw [if_pos h,zM3 (by omega)]
    · rw [if_neg h,zMq (by omega) a1 (by omega) hy hy']) t b hf hb hb'
theorem zwo (l:List T) (u k b:Int):∀ (xs:List T) (i j:Nat) (h:j<xs.length),scL l u k b i (xs.take (j+1))=(scL l u k b i (xs.take j) || scI l u xs[j] (b+zal k (i+j:Nat)))
  | x :: xs,i,0,h=>by simp [scL]
  | x :: xs,i,j+1,h=>by
    have:=zwo l u k b xs (i+1) j (by simpa using h)
    simp only [ycC,scL,ycB,this,Bool.or_assoc]
    rw [show i+1+j=i+(j+1) by omega]
theorem zIo (l:List T) (hl:l.length≤1000000) (hf:∀ x ∈ l,zab x=true∧zac x≤4194304) (u:Int) (hu:0≤u∧u≤65535) (t:T):∀ b:Int,VokT t→0≤b→b+zac t≤4194304 →
    Pure Tryz.prog zdc [.agg (cT t),eTs l,.int .i64 (u+b)] [.agg (cT (mapT (zbb l u) t b)),.bool (scI l u t b)]:=by
  refine T.ind (p:=fun t=>∀ b:Int,VokT t→0≤b→b+zac t≤4194304→Pure Tryz.prog zdc [.agg (cT t),eTs l,.int .i64 (u+b)] [.agg (cT (mapT (zbb l u) t b)),.bool (scI l u t b)]) ?_ t
  intro k n ks ih b hv h0 hb
  obtain ⟨hvn,hln,hsk⟩:=hv.out
  refine zrh rfl fun hs=>?_
  by_cases h1:k=1
  · subst h1
    obtain ⟨⟨n0,n1⟩,hks⟩:=hvn rfl
    subst hks
    have w1:IntKind.i64.wrap (u+b+(l.length:Int))=u+b+l.length:=zad (by omega) (by omega)
    have hI:∀ W:Int,zbt l.length u n b=W→(mapT (zbb l u) (.mk 1 n []) b=(if 0≤W then match l[W.toNat]? with | some a=>zit (w64 (u+b)) a | none=>zT else .mk 1 (if u+b≤n then w64 (n - l.length) else n) [])) ∧
        scI l u (.mk 1 n []) b=(match (if 0≤W then l[W.toNat]? else none) with | some a=>zvr a (u+b) | none=>false):=fun W hW=>by
      rw [zAe,scI,if_pos rfl,zbb,hW]
      exact ⟨rfl,rfl⟩
    by_cases c1:u+b+(l.length:Int)≤n
    · have w2:IntKind.i64.wrap (n - (l.length:Int))=n - l.length:=zad (by omega) (by omega)
      obtain ⟨hI1,hI2⟩:=hI (-1) (by rw [zbt,if_pos (by omega)])
      have c2:u+b≤n:=by omega
      have w2':w64 (n - (l.length:Int))=n - l.length:=w2
      rw [if_neg (by omega)] at hI1 hI2
      rw [if_pos c2,w2'] at hI1
      rw [hI1,hI2]
      simp -dsimp [zci,cT,eTs,w1,c1,w2]
    · by_cases c2:u+b≤n
      · obtain ⟨j,hj⟩:∃ j:Nat,(l.length:Int) - 1 - (n - (u+b))=j:=⟨((l.length:Int) - 1 - (n - (u+b))).toNat,by omega⟩
        have hjl:j<l.length:=by omega
        have hge:l[j]? = some l[j]:=yar hjl
        obtain ⟨hI1,hI2⟩:=hI j (by rw [zbt,if_neg (by omega)]; exact hj)
        have w2:IntKind.i64.wrap ((l.length:Int) - 1)=l.length - 1:=zad (by omega) (by omega)
        have w3:IntKind.i64.wrap (n - (u+b))=n - (u+b):=zad (by omega) (by omega)
        have w4:IntKind.i64.wrap ((l.length:Int) - 1 - (n - (u+b)))=j:=by rw [zad (by omega) (by omega),hj]
        have w5:w64 (u+b)=u+b:=zd8 (by omega) (by omega)
        obtain ⟨fj,nj⟩:=hf _ (yaf hjl)
        have hM:=zAa (u+b) 0 (by omega) (by omega) l[j] 0 fj (by omega) (by omega)
        rw [zNb (by omega) (by omega) _ fj 0 (by omega) (by omega),zFd fj (by omega)] at hM
        rw [if_pos (by omega),ycM,hge] at hI1 hI2
        simp only [w5,zA2] at hI1 hI2
        simp only [ycL] at hM
        rw [hI1,hI2]
        generalize mapT (mv (u+b)) l[j] 0=Y at *
        generalize zvr l[j] (u+b)=Z at *
        generalize hX:l[j]=X at *
        simp only [cT] at hM
        simp -dsimp [zci,cT,eTs,w1,c1,c2,w2,w3,w4,hjl,hge,hX]
        refine zaa hM ?_
        simp -dsimp [cT]
      · obtain ⟨hI1,hI2⟩:=hI (-1) (by rw [zbt,if_pos (by omega)])
        rw [if_neg (by omega)] at hI1 hI2
        rw [if_neg c2] at hI1
        rw [hI1,hI2]
        simp -dsimp [zci,cT,eTs,w1,c1,c2]
        refine zaj 0 (fun i st=>st.s 3 = .ptr 3 1 0∧st.s 9 = .ptr 9 1 0∧st.s 6 = .ptr 6 1 0∧st.s 10 = .d (.bool false)∧st.s 11 = .d (.int .i64 i)∧st.h 3=⟨1,.box [.d (.int .i64 1),.d (.int .i64 n),.d (.sl 3 [])] false⟩∧st.h 9=⟨1,.box [.d (.int .i64 1),.d (.int .i64 n),.fsl 3 []] false⟩∧st.h 6=⟨1,.box [.d (.int .i64 0),.d (.int .i64 0),.fsl 3 []] false⟩) ?_ ?_
        · simp -dsimp
        · rintro i ⟨s,hp⟩ hi ⟨e3,e9,e6,e10,e11,k3,k9,k6⟩
          dsimp only at e3 e9 e6 e10 e11 k3 k9 k6
          have:i=0:=by omega
          subst this
          simp -dsimp [e3,e9,e6,e10,e11,k3,k9,k6]
  · have hM:mapT (zbb l u) (.mk k n ks) b = .mk k n (mapL (zbb l u) k b 0 ks):=by rw [mapT,if_neg h1]
    have hB:scI l u (.mk k n ks) b=scL l u k b 0 ks:=by rw [scI,if_neg h1]
    have hml:=zhu (zbb l u) k b ks 0
    rw [hM,hB]
    simp -dsimp [zci,cT,eTs,h1]
    generalize hML:mapL (zbb l u) k b 0 ks=ml at *
    refine zaj ks.length (fun i st=>st.s 1 = .d (.sl 3 (l.map eT))∧st.s 2 = .d (.int .i64 (u+b))∧st.s 3 = .ptr 3 1 0∧st.s 9 = .ptr 9 1 0∧st.s 6 = .ptr 6 1 0∧st.s 10 = .d (.bool (scL l u k b 0 (ks.take i)))∧st.s 11 = .d (.int .i64 i)∧st.h 3=⟨1,.box [.d (.int .i64 k),.d (.int .i64 n),.d (.sl 3 (ks.map eT))] false⟩ ∧
      st.h 6=⟨1,.box [.d (.int .i64 0),.d (.int .i64 0),.fsl 3 []] false⟩ ∧ ∃ c,st.h 9=⟨1,.box [.d (.int .i64 k),.d (.int .i64 n),c] false⟩∧((i=0∧c = .fsl 3 [])∨(0<i ∧ ∃ v,c = .rsl 80 v∧st.h 80=⟨v,.row 3 ((ml.map eT).take i) false⟩))) ?_ ?_
    · simp -dsimp [scL]
    · rintro i ⟨s,hp⟩ hi ⟨e1,e2,e3,e9,e6,e10,e11,k3,k6,c,k9,hc⟩
      dsimp only at e1 e2 e3 e9 e6 e10 e11 k3 k6 k9 hc
      rcases ybm i ks.length with hlt | hge
      · have w1:IntKind.i64.wrap ((i:Int)+1)=(i:Int)+1:=zad (by omega) (by omega)
        have hbl:=zcv k i
        have hkn:=zb7 (k:=k) (n:=n) (yaf hlt)
        have w2:IntKind.i64.wrap (u+b+zal k i)=u+(b+zal k i):=by rw [zad (by omega) (by omega)]; omega
        have hrec:=ih ks[i] (yaf _) (b+zal k i) (hsk _ (yaf _)) (by omega) (by omega)
        have hs1:=zwo l u k b ks 0 i hlt
        rw [ybj] at hs1
        have hg:=zjh (zbb l u) k b ks 0 i hlt
        rw [ybj] at hg
        have hn:=zix eT cT zb4 ml i (by omega)
        simp only [hML] at hg
        rw [hg] at hn
        have hr:(min i ml.length+1)*40≤zae:=by simp only [zae]; omega
        generalize mapT (zbb l u) ks[i] (b+zal k i)=Y at *
        generalize scI l u ks[i] (b+zal k i)=Z at *
        generalize hX:ks[i]=X at *
        simp only [cT,eTs] at hrec hn
        simp -dsimp [e1,e2,e3,e9,e6,e10,e11,k3,k6,k9,hlt,hX,cT]
        refine zaa (zj3 k i) ?_
        simp -dsimp [e1,e2,e3,e9,e6,e10,e11,k3,k6,k9,hlt,hX,cT,w2]
        refine zaa hrec ?_
        simp -dsimp [e1,e2,e3,e9,e6,e10,e11,k3,k6,k9,hlt,hX,cT,w1,w2,hs1]
        rcases hc with ⟨rfl,rfl⟩ | ⟨hi0,v,rfl,hc⟩
        · have hne:¬ ml=[]:=ycK (by omega)
          simp only [ycE,ycu,ybj] at hn
          have hz2:scL l u k b 0 []=false:=by simp [scL]
          rw [ycE,hz2] at hs1
          rw [ycE,hz2] at e10
          have h40:40≤zae:=by simp only [zae]; omega
          simp at hlt w1
          simp -dsimp [e1,e2,e3,e9,e6,e10,e11,k3,k6,k9,hlt,hX,cT,w1,hs1,hz2,hn,h40]
        · cases hSh:scL l u k b 0 (ks.take i) with
          | true =>
            rw [hSh] at hs1 e10
            simp -dsimp [e1,e2,e3,e9,e6,e10,e11,k3,k6,k9,hc,hlt,hX,cT,w1,hs1,hn,hr]
          | false =>
            rw [hSh] at hs1 e10
            simp -dsimp [e1,e2,e3,e9,e6,e10,e11,k3,k6,k9,hc,hlt,hX,cT,w1,hs1,hn,hr]
      · have e:i=ks.length:=by omega
        subst e
        rw [ycf] at e10
        rcases hc with ⟨hz,rfl⟩ | ⟨hi0,v,rfl,hc⟩
        · have hm:ml=[]:=ycF.1 (by omega)
          have hkz:ks=[]:=ycF.1 hz
          simp -dsimp [e1,e2,e3,e9,e6,e10,e11,k3,k6,k9,hm,hkz]
        · rw [yce (by simp; omega)] at hc
          simp -dsimp [e1,e2,e3,e9,e6,e10,e11,k3,k6,k9,hc]
end
end
section
section
attribute [local simp] zaf zai tk tn tks zde zee
theorem zBn (l:List T) (hl:l.length≤1000000) (hf:∀ x ∈ l,zab x=true∧zac x≤4194304) (u:Int) (hu:0≤u∧u≤65535) (t:T):∀ b:Int,zab t=true→0≤b→b+zac t≤4194304 →
    Pure Tryz.prog zcf [.agg (cT t),eTs l,.int .i64 (u+b)] [.bool (scI l u t b)]:=by
  refine T.ind (p:=fun t=>∀ b:Int,zab t=true→0≤b→b+zac t≤4194304→Pure Tryz.prog zcf [.agg (cT t),eTs l,.int .i64 (u+b)] [.bool (scI l u t b)]) ?_ t
  intro k n ks ih b hv h0 hb
  obtain ⟨hvn,hln,hsk⟩:=(zve _ hv).out
  refine znh rfl fun hs=>?_
  by_cases h1:k=1
  · subst h1
    obtain ⟨⟨n0,n1⟩,hks⟩:=hvn rfl
    subst hks
    have hI:∀ W:Int,zbt l.length u n b=W→scI l u (.mk 1 n []) b=(match (if 0≤W then l[W.toNat]? else none) with | some a=>zvr a (u+b) | none=>false):=fun W hW=>by
      rw [scI,if_pos rfl,hW] <;> rfl
    have w3:IntKind.i64.wrap (n - (u+b))=n - (u+b):=zad (by omega) (by omega)
    by_cases c2:u+b≤n
    · by_cases c1:n - (u+b)<(l.length:Int)
      · obtain ⟨j,hj⟩:∃ j:Nat,(l.length:Int) - 1 - (n - (u+b))=j:=⟨((l.length:Int) - 1 - (n - (u+b))).toNat,by omega⟩
        have hjl:j<l.length:=by omega
        have hge:l[j]? = some l[j]:=yar hjl
        have hI2:=hI j (by rw [zbt,if_neg (by omega)]; exact hj)
        have w2:IntKind.i64.wrap ((l.length:Int) - 1)=l.length - 1:=zad (by omega) (by omega)
        have w4:IntKind.i64.wrap ((l.length:Int) - 1 - (n - (u+b)))=j:=by rw [zad (by omega) (by omega),hj]
        obtain ⟨fj,nj⟩:=hf _ (yaf hjl)
        have hM:=zAa (u+b) 0 (by omega) (by omega) l[j] 0 fj (by omega) (by omega)
        rw [zFd fj (by omega)] at hM
        rw [if_pos (by omega),ycM,hge] at hI2
        simp only [ycL] at hM
        rw [hI2]
        simp only
        generalize mapT (shF 0 (u+b)) l[j] 0=Y at *
        generalize zvr l[j] (u+b)=Z at *
        generalize hX:l[j]=X at *
        simp only [cT] at hM
        simp -dsimp [zbw,cT,eTs,c1,c2,w2,w3,w4,hjl,hge,hX]
        refine zaa hM ?_
        simp -dsimp [cT]
      · have hI2:=hI (-1) (by rw [zbt,if_pos (by omega)])
        rw [if_neg (by omega)] at hI2
        rw [hI2]
        simp -dsimp [zbw,cT,eTs,c1,c2,w3]
        refine zaj 0 (fun i st=>st.s 3 = .ptr 3 1 0∧st.s 9 = .d (.int .i64 i)∧st.h 3=⟨1,.box [.d (.int .i64 1),.d (.int .i64 n),.d (.sl 3 [])] false⟩) ?_ ?_
        · simp -dsimp
        · rintro i ⟨s,hp⟩ hi ⟨e3,e9,k3⟩
          dsimp only at e3 e9 k3
          have:i=0:=by omega
          subst this
          simp -dsimp [e3,e9,k3]
    · have hI2:=hI (-1) (by rw [zbt,if_pos (by omega)])
      rw [if_neg (by omega)] at hI2
      rw [hI2]
      simp -dsimp [zbw,cT,eTs,c2]
      refine zaj 0 (fun i st=>st.s 3 = .ptr 3 1 0∧st.s 9 = .d (.int .i64 i)∧st.h 3=⟨1,.box [.d (.int .i64 1),.d (.int .i64 n),.d (.sl 3 [])] false⟩) ?_ ?_
      · simp -dsimp
      · rintro i ⟨s,hp⟩ hi ⟨e3,e9,k3⟩
        dsimp only at e3 e9 k3
        have:i=0:=by omega
        subst this
        simp -dsimp [e3,e9,k3]
  · have hB:scI l u (.mk k n ks) b=scL l u k b 0 ks:=by rw [scI,if_neg h1]
    rw [hB]
    simp -dsimp [zbw,cT,eTs,h1]
    refine zaj ks.length (fun i st=>st.s 1 = .d (.sl 3 (l.map eT))∧st.s 2 = .d (.int .i64 (u+b))∧st.s 3 = .ptr 3 1 0∧st.s 9 = .d (.int .i64 i)∧st.h 3=⟨1,.box [.d (.int .i64 k),.d (.int .i64 n),.d (.sl 3 (ks.map eT))] false⟩∧scL l u k b 0 (ks.take i)=false) ?_ ?_
    · simp -dsimp [scL]
    · rintro i ⟨s,hp⟩ hi ⟨e1,e2,e3,e9,k3,hsc⟩
      dsimp only at e1 e2 e3 e9 k3
      rcases ybm i ks.length with hlt | hge
      · have w1:IntKind.i64.wrap ((i:Int)+1)=(i:Int)+1:=zad (by omega) (by omega)
        have hbl:=zcv k i
        have hkn:=zb7 (k:=k) (n:=n) (yaf hlt)
        have w2:IntKind.i64.wrap (u+b+zal k i)=u+(b+zal k i):=by rw [zad (by omega) (by omega)]; omega
        have hrec:=ih ks[i] (yaf _) (b+zal k i) (za9 hv _ (yaf _)) (by omega) (by omega)
        have hs1:=zwo l u k b ks 0 i hlt
        rw [ybj,hsc,Bool.false_or] at hs1
        cases hZ:scI l u ks[i] (b+zal k i) with
        | true =>
          have hall:scL l u k b 0 ks=true:=by
            cases hq:scL l u k b 0 ks with
            | true=>rfl
            | false =>
              have:=zC2 l u k b ks 0 i hlt hq
              rw [ybj,hZ] at this
              cases this
          rw [hZ] at hrec
          rw [hall]
          generalize hX:ks[i]=X at *
          simp only [cT,eTs] at hrec
          simp -dsimp [e1,e2,e3,e9,k3,hlt,hX,cT]
          refine zaa (zj3 k i) ?_
          simp -dsimp [e1,e2,e3,e9,k3,hlt,hX,cT,w2]
          refine zaa hrec ?_
          simp -dsimp [e1,e2,e3,e9,k3,hlt,hX,cT]
        | false =>
          rw [hZ] at hrec hs1
          generalize hX:ks[i]=X at *
          simp only [cT,eTs] at hrec
          simp -dsimp [e1,e2,e3,e9,k3,hlt,hX,cT]
          refine zaa (zj3 k i) ?_
          simp -dsimp [e1,e2,e3,e9,k3,hlt,hX,cT,w2]
          refine zaa hrec ?_
          simp -dsimp [e1,e2,e3,e9,k3,hlt,hX,cT,w1,hs1]
      · have e:i=ks.length:=by omega
        subst e
        rw [ycf] at hsc
        simp -dsimp [e1,e2,e3,e9,k3,hsc]
theorem zBv (l:List T) (hl:l.length≤1000000) (hf:∀ x ∈ l,zab x=true∧zac x≤1048576) (u:Int) (hu:0≤u∧u≤65535) (t:T):∀ b:Int,zab t=true→0≤b→b+zac t≤4194304 →
    Pure Tryz.prog zb9 [.agg (cT t),.sl 1 (l.map fun x=>.int .i64 (zac x)),.int .i64 (u+b)] [.int .i64 (min (zac (mapT (zbb l u) t b):Int) 2199023255552)]:=by
  refine T.ind (p:=fun t=>∀ b:Int,zab t=true→0≤b→b+zac t≤4194304→Pure Tryz.prog zb9 [.agg (cT t),.sl 1 (l.map fun x=>.int .i64 (zac x)),.int .i64 (u+b)] [.int .i64 (min (zac (mapT (zbb l u) t b):Int) 2199023255552)]) ?_ t
  intro k n ks ih b hv h0 hb
  obtain ⟨hvn,hln,hsk⟩:=(zve _ hv).out
  refine zng rfl fun hs=>?_
  by_cases h1:k=1
  · subst h1
    obtain ⟨⟨n0,n1⟩,hks⟩:=hvn rfl
    subst hks
    have hI:∀ W:Int,zbt l.length u n b=W→mapT (zbb l u) (.mk 1 n []) b=(if 0≤W then match l[W.toNat]? with | some a=>zit (w64 (u+b)) a | none=>zT else .mk 1 (if u+b≤n then w64 (n - l.length) else n) []):=fun W hW=>by
      rw [zAe,zbb,hW] <;> rfl
    have w3:IntKind.i64.wrap (n - (u+b))=n - (u+b):=zad (by omega) (by omega)
    have leaf:∀ (st:S) (x:Int),st.s 3 = .ptr 3 1 0→st.s 7 = .d (.int .i64 x)→st.h 3=⟨1,.box [.d (.int .i64 1),.d (.int .i64 n),.d (.sl 3 [])] false⟩→True:=fun _ _ _ _ _=>trivial
    by_cases c2:u+b≤n
    · by_cases c1:n - (u+b)<(l.length:Int)
      · obtain ⟨j,hj⟩:∃ j:Nat,(l.length:Int) - 1 - (n - (u+b))=j:=⟨((l.length:Int) - 1 - (n - (u+b))).toNat,by omega⟩
        have hjl:j<l.length:=by omega
        have hge:l[j]? = some l[j]:=yar hjl
        have hI2:=hI j (by rw [zbt,if_neg (by omega)]; exact hj)
        have w2:IntKind.i64.wrap ((l.length:Int) - 1)=l.length - 1:=zad (by omega) (by omega)
        have w4:IntKind.i64.wrap ((l.length:Int) - 1 - (n - (u+b)))=j:=by rw [zad (by omega) (by omega),hj]
        obtain ⟨fj,nj⟩:=hf _ (yaf hjl)
        rw [if_pos (by omega),ycM,hge] at hI2
        simp only at hI2
        rw [hI2,zs5 fj]
        have hm:min (zac l[j]:Int) 2199023255552=zac l[j]:=by omega
        rw [hm]
        generalize hX:l[j]=X at *
        simp -dsimp [zbv,cT,c1,c2,w2,w3,w4,hjl,hge,hX]
        refine zaj 0 (fun i st=>st.s 3 = .ptr 3 1 0∧st.s 7 = .d (.int .i64 (zac X))∧st.s 8 = .d (.int .i64 i)∧st.h 3=⟨1,.box [.d (.int .i64 1),.d (.int .i64 n),.d (.sl 3 [])] false⟩) ?_ ?_
        · simp -dsimp
        · rintro i ⟨s,hp⟩ hi ⟨e3,e7,e8,k3⟩
          dsimp only at e3 e7 e8 k3
          have:i=0:=by omega
          subst this
          simp -dsimp [e3,e7,e8,k3]
      · have hI2:=hI (-1) (by rw [zbt,if_pos (by omega)])
        rw [if_neg (by omega)] at hI2
        rw [hI2,zcs]
        simp -dsimp [zbv,cT,c1,c2,w3]
        refine zaj 0 (fun i st=>st.s 3 = .ptr 3 1 0∧st.s 7 = .d (.int .i64 1)∧st.s 8 = .d (.int .i64 i)∧st.h 3=⟨1,.box [.d (.int .i64 1),.d (.int .i64 n),.d (.sl 3 [])] false⟩) ?_ ?_
        · simp -dsimp
        · rintro i ⟨s,hp⟩ hi ⟨e3,e7,e8,k3⟩
          dsimp only at e3 e7 e8 k3
          have:i=0:=by omega
          subst this
          simp -dsimp [e3,e7,e8,k3]
          rfl
    · have hI2:=hI (-1) (by rw [zbt,if_pos (by omega)])
      rw [if_neg (by omega)] at hI2
      rw [hI2,zcs]
      simp -dsimp [zbv,cT,c2]
      refine zaj 0 (fun i st=>st.s 3 = .ptr 3 1 0∧st.s 7 = .d (.int .i64 1)∧st.s 8 = .d (.int .i64 i)∧st.h 3=⟨1,.box [.d (.int .i64 1),.d (.int .i64 n),.d (.sl 3 [])] false⟩) ?_ ?_
      · simp -dsimp
      · rintro i ⟨s,hp⟩ hi ⟨e3,e7,e8,k3⟩
        dsimp only at e3 e7 e8 k3
        have:i=0:=by omega
        subst this
        simp -dsimp [e3,e7,e8,k3]
        rfl
  · have hM:mapT (zbb l u) (.mk k n ks) b = .mk k n (mapL (zbb l u) k b 0 ks):=by rw [mapT,if_neg h1]
    rw [hM]
    have hml:=zhu (zbb l u) k b ks 0
    have hN:zac (.mk k n (mapL (zbb l u) k b 0 ks))=1+((mapL (zbb l u) k b 0 ks).map zac).sum:=by rw [zac]; omega
    rw [hN]
    generalize hML:mapL (zbb l u) k b 0 ks=ml at *
    simp -dsimp [zbv,cT,h1]
    refine zaj ks.length (fun i st=>st.s 1 = .d (.sl 1 (l.map fun x=>.int .i64 (zac x)))∧st.s 2 = .d (.int .i64 (u+b))∧st.s 3 = .ptr 3 1 0∧st.s 8 = .d (.int .i64 i)∧st.h 3=⟨1,.box [.d (.int .i64 k),.d (.int .i64 n),.d (.sl 3 (ks.map eT))] false⟩ ∧
      st.s 7 = .d (.int .i64 (min ((1+((ml.take i).map zac).sum:Nat):Int) 2199023255552))) ?_ ?_
    · simp -dsimp
      omega
    · rintro i ⟨s,hp⟩ hi ⟨e1,e2,e3,e8,k3,e7⟩
      dsimp only at e1 e2 e3 e8 k3 e7
      rcases ybm i ks.length with hlt | hge
      · have w1:IntKind.i64.wrap ((i:Int)+1)=(i:Int)+1:=zad (by omega) (by omega)
        have hbl:=zcv k i
        have hkn:=zb7 (k:=k) (n:=n) (yaf hlt)
        have w2:IntKind.i64.wrap (u+b+zal k i)=u+(b+zal k i):=by rw [zad (by omega) (by omega)]; omega
        have hrec:=ih ks[i] (yaf _) (b+zal k i) (za9 hv _ (yaf _)) (by omega) (by omega)
        have hg:=zjh (zbb l u) k b ks 0 i hlt
        rw [ybj] at hg
        simp only [hML] at hg
        have hsn:((ml.take (i+1)).map zac).sum=((ml.take i).map zac).sum+zac (mapT (zbb l u) ks[i] (b+zal k i)):=by
          rw [zcd (yar (by omega:i<ml.length)),hg,ycI,List.sum_append]
          simp
        rw [hsn]
        generalize ((ml.take i).map zac).sum=A at *
        generalize zac (mapT (zbb l u) ks[i] (b+zal k i))=B at *
        generalize hX:ks[i]=X at *
        simp only [cT] at hrec
        simp -dsimp [e1,e2,e3,e8,k3,e7,hlt,hX,cT]
        refine zaa (zj3 k i) ?_
        simp -dsimp [e1,e2,e3,e8,k3,e7,hlt,hX,cT,w2]
        refine zaa hrec ?_
        simp -dsimp [e1,e2,e3,e8,k3,e7,hlt,hX,cT,w1,w2]
        rw [zad (by omega) (by omega)]
        split <;> omega
      · have e:i=ks.length:=by omega
        subst e
        rw [yce (by omega)] at e7
        simp -dsimp [e1,e2,e3,e8,k3,e7]
theorem zBp (t:T) (l:List T) (u:Int) (ht:zac t≤1048576) (hl:∀ x ∈ l,zac x≤1048576) (hn:l.length≤1000000) :
    Pure Tryz.prog zeu [.agg (cT t),eTs l,.int .i64 u] [.int .i64 (if zes t l u=0 then (zc6 t l u).sz else 0)]:=by
  refine znl rfl fun hs=>?_
  have hC:=zfz t
  have hin:=zxt u 0 65535
  simp only [cT] at hC
  have hO:=zDk t l u
  by_cases h1:zam t=0
  case neg =>
    rw [if_neg (fun h=>h1 (hO.1 h).1)]
    simp -dsimp [zce,cT,eTs]
    refine zaa hC ?_
    simp -dsimp [h1]
  by_cases h2:inB u 0 65535=true
  case neg =>
    have h2':inB u 0 65535=false:=by simpa using h2
    rw [if_neg (fun h=>h2 ((zb1 _ _ _).2 (hO.1 h).2.2))]
    simp -dsimp [zce,cT,eTs]
    refine zaa hC ?_
    simp -dsimp [h1]
    refine zaa hin ?_
    simp -dsimp [h2']
  simp -dsimp [zce,cT,eTs]
  refine zaa hC ?_
  simp -dsimp [h1]
  refine zaa hin ?_
  simp -dsimp [h2]
  refine zaj l.length (fun i st=>st.s 1 = .d (.sl 3 (l.map eT))∧st.s 2 = .d (.int .i64 u)∧(st.s 3 = .ptr 3 1 0∧st.h 3=⟨1,.box [.d (.int .i64 t.kind),.d (.int .i64 t.num),.d (.sl 3 (t.kids.map eT))] false⟩)∧st.s 8 = .d (.int .i64 i) ∧
    (∃ v,st.s 7 = .rsl 7 v∧st.h 7=⟨v,.row 1 ((l.map fun x=>D.int .i64 (zac x)).take i) false⟩) ∧ ∀ x ∈ l.take i,zam x=0) ?_ ?_
  · simp -dsimp
  rintro i ⟨s,hp⟩ hi ⟨g1,g2,⟨g3,k3⟩,g8,⟨v,g7,k7⟩,hall⟩
  dsimp only at g1 g2 g3 k3 g8 g7 k7
  rcases ybm i l.length with hlt | hge
  · have w1:IntKind.i64.wrap ((i:Int)+1)=(i:Int)+1:=zad (by omega) (by omega)
    have hCi:=zfz l[i]
    have hSi:=zz2 l[i]
    have hxm:=yaf hlt
    have hni:=hl _ hxm
    rw [ztw _ (by omega)] at hSi
    by_cases h3:zam l[i]=0
    case neg =>
      rw [if_neg (fun h=>h3 ((hO.1 h).2.1 _ hxm))]
      generalize hX:l[i]=X at *
      simp only [cT] at hCi
      simp -dsimp [g1,g2,g3,k3,g8,g7,k7,hlt,hX,cT]
      refine zaa hCi ?_
      simp -dsimp [g1,g2,g3,k3,g8,g7,k7,hlt,hX,cT,h3]
    have hall':∀ x ∈ l.take (i+1),zam x=0:=fun x hx=>by
      rw [zcd (yar hlt)] at hx
      rcases yaY.1 hx with hx | hx
      · exact hall x hx
      · rw [List.mem_singleton] at hx; subst hx; exact h3
    have hr:(min i l.length+1)*8≤zae:=by simp only [zae]; omega
    have hnx:(l.map fun x=>D.int .i64 (zac x)).take (i+1)=(l.map fun x=>D.int .i64 (zac x)).take i ++ [.int .i64 (zac l[i])]:=by
      rw [zcd (yar (by simpa using hlt))]
      simp
    rw [hnx]
    generalize hX:l[i]=X at *
    simp only [cT] at hCi hSi
    simp -dsimp [g1,g2,g3,k3,g8,g7,k7,hlt,hX,cT]
    refine zaa hCi ?_
    simp -dsimp [g1,g2,g3,k3,g8,g7,k7,hlt,hX,cT,h3]
    refine zaa hSi ?_
    simp -dsimp [g1,g2,g3,k3,g8,g7,k7,hlt,hX,cT,hr,w1]
    exact hall'
  have e:i=l.length:=by omega
  subst e
  rw [ycf] at hall
  rw [yce (by simp)] at k7
  have hz:=hO.2 ⟨h1,hall,(zb1 _ _ _).1 h2⟩
  rw [if_pos hz,zp5 hz ht hl]
  obtain ⟨f1,f2,f3⟩:=zhh hz
  have hS:=zBv l hn (fun x hx=>⟨f2 x hx,hl x hx⟩) u f3 t 0 f1 (by omega) (by omega)
  rw [ycL] at hS
  simp only [ze0]
  generalize zac (mapT (zbb l u) t 0)=N at *
  simp only [cT] at hS
  simp -dsimp [g1,g2,g3,k3,g8,g7,k7]
  refine zaa hS ?_
  simp -dsimp [g1,g2,g3,k3,g8,g7,k7]
  split <;> omega
theorem zwi (t:T) (l:List T) (u:Int) (ht:zac t≤1048576) (hl:∀ x ∈ l,zac x≤1048576) (hn:l.length≤1000000) :
    Pure Tryz.prog zcx [.agg (cT t),eTs l,.int .i64 u] [.agg (cT (zb0 t l u)),.int .i64 (zbh t l u)]:=by
  refine zpe rfl fun hs=>?_
  have hC:=zfz t
  have hin:=zxt u 0 65535
  simp only [cT] at hC
  have bad:zbh t l u ≠ 0→zb0 t l u=zT:=fun h=>by rw [zb0,if_neg h]
  by_cases h1:zam t=0
  case neg =>
    have e0:zes t l u=zam t:=by rw [zes,if_neg h1]
    have e1:zbh t l u=zam t:=by rw [zbh,if_neg (by rw [e0]; exact h1),e0]
    rw [bad (by rw [e1]; exact h1),e1]
    simp -dsimp [zd5,cT,eTs]
    refine zaa hC ?_
    simp -dsimp [h1,zT,cT]
  simp -dsimp [zd5,cT,eTs]
  refine zaa hC ?_
  simp -dsimp [h1]
  refine zaj l.length (fun i st=>st.s 1 = .d (.sl 3 (l.map eT))∧st.s 2 = .d (.int .i64 u)∧(st.s 3 = .ptr 3 1 0∧st.h 3=⟨1,.box [.d (.int .i64 t.kind),.d (.int .i64 t.num),.d (.sl 3 (t.kids.map eT))] false⟩)∧(st.s 6 = .ptr 6 1 0∧st.h 6=⟨1,.box [.d (.int .i64 0),.d (.int .i64 0),.fsl 3 []] false⟩)∧st.s 9 = .d (.int .i64 i)∧(st.h 12).ver=0 ∧
    ∀ (j:Nat) (hj:j<l.length),j<i→zam l[j]=0) ?_ ?_
  · simp -dsimp
  rintro i ⟨s,hp⟩ hi ⟨g1,g2,⟨g3,k3⟩,⟨g6,k6⟩,g9,v12,hall⟩
  dsimp only at g1 g2 g3 k3 g6 k6 g9 v12
  rcases ybm i l.length with hlt | hge
  · have w1:IntKind.i64.wrap ((i:Int)+1)=(i:Int)+1:=zad (by omega) (by omega)
    have hCi:=zfz l[i]
    by_cases h3:zam l[i]=0
    case neg =>
      have ea:=zv7 l i hlt hall h3
      have e0:zes t l u=zam l[i]:=by rw [zes,if_pos h1,if_neg (by rw [ea]; exact h3),ea]
      have e1:zbh t l u=zam l[i]:=by rw [zbh,if_neg (by rw [e0]; exact h3),e0]
      rw [bad (by rw [e1]; exact h3),e1]
      generalize hX:l[i]=X at *
      simp only [cT] at hCi
      simp -dsimp [g1,g2,g3,k3,g6,k6,g9,hlt,hX,cT]
      refine zaa hCi ?_
      simp -dsimp [g1,g2,g3,k3,g6,k6,g9,hlt,hX,cT,h3,zT]
    have hall':∀ (j:Nat) (hj:j<l.length),j<i+1→zam l[j]=0:=fun j hj hji=>by
      rcases ybm j i with h | h
      · exact hall j hj h
      · have:j=i:=by omega
        subst this; exact h3
    generalize hX:l[i]=X at *
    simp only [cT] at hCi
    simp -dsimp [g1,g2,g3,k3,g6,k6,g9,hlt,hX,cT]
    refine zaa hCi ?_
    simp -dsimp [g1,g2,g3,k3,g6,k6,g9,hlt,hX,cT,h3,w1,v12]
    exact hall'
  have e:i=l.length:=by omega
  subst e
  have ea:zoy l=0:=ztg l hall
  simp -dsimp [g1,g2,g3,k3,g6,k6,g9]
  refine zaa hin ?_
  by_cases h2:inB u 0 65535=true
  case neg =>
    have h2':inB u 0 65535=false:=by simpa using h2
    have hu:u<0∨65535<u:=by
      by_cases q:u<0∨65535<u
      · exact q
      · exact absurd ((zb1 _ _ _).2 (by omega)) h2
    have e0:zes t l u=1:=by rw [zes,if_pos h1,if_pos ea,if_pos hu]
    have e1:zbh t l u=1:=by rw [zbh,if_neg (by rw [e0]; decide),e0]
    rw [bad (by rw [e1]; decide),e1]
    simp -dsimp [g1,g2,g3,k3,g6,k6,g9,h2',zT,cT]
  have hu:=(zb1 _ _ _).1 h2
  have hz:zes t l u=0:=by rw [zes,if_pos h1,if_pos ea,if_neg (by omega)]
  obtain ⟨f1,f2,f3⟩:=zhh hz
  have hS:=zBp t l u ht hl hn
  rw [if_pos hz,zp5 hz ht hl] at hS
  have hBy:=zBn l hn (fun x hx=>⟨f2 x hx,by have:=hl x hx; omega⟩) u f3 t 0 f1 (by omega) (by omega)
  have hPu:=zIo l hn (fun x hx=>⟨f2 x hx,by have:=hl x hx; omega⟩) u f3 t 0 (zve _ f1) (by omega) (by omega)
  rw [ycL] at hBy hPu
  have hE:zbh t l u=if scI l u t 0 then 6 else if 6000<min (zac (mapT (zbb l u) t 0):Int) ze0 then 4 else if 200<(za7 (mapT (zbb l u) t 0):Int) then 5 else 0:=by
    rw [zbh,if_pos hz,zp5 hz ht hl]
  have hT:zbh t l u=0→zb0 t l u=mapT (zbb l u) t 0:=zE7
  have hD:=zvv (mapT (zbb l u) t 0)
  have hDn:∀ h:zac (mapT (zbb l u) t 0)≤6000,zco (mapT (zbb l u) t 0)=za7 (mapT (zbb l u) t 0):=fun h=>zqq _ (by omega)
  simp only [ze0] at hE hS
  generalize zb0 t l u=IT at *
  generalize zbh t l u=IE at *
  generalize mapT (zbb l u) t 0=MT at *
  generalize hZ:scI l u t 0=Z at *
  simp only [cT,eTs] at hS hBy hPu hD
  simp -dsimp [g1,g2,g3,k3,g6,k6,g9,h2]
  refine zaa hS ?_
  by_cases h4:6000<min (zac MT:Int) 1099511627776
  · simp -dsimp [g1,g2,g3,k3,g6,k6,g9,h4]
    refine zaa hBy ?_
    cases Z with
    | true =>
      have:IE=6:=by rw [hE]; rfl
      rw [bad (by omega),this]
      simp -dsimp [g1,g2,g3,k3,g6,k6,g9,zT,cT]
    | false =>
      have:IE=4:=by rw [hE]; simp [h4]
      rw [bad (by omega),this]
      simp -dsimp [g1,g2,g3,k3,g6,k6,g9,zT,cT]
  · simp -dsimp [g1,g2,g3,k3,g6,k6,g9,h4]
    refine zaa hPu ?_
    cases Z with
    | true =>
      have:IE=6:=by rw [hE]; rfl
      rw [bad (by omega),this]
      simp -dsimp [g1,g2,g3,k3,g6,k6,g9,v12,zT,cT]
    | false =>
      have hn6:zac MT≤6000:=by omega
      rw [hDn hn6] at hD
      simp -dsimp [g1,g2,g3,k3,g6,k6,g9,v12]
      refine zaa hD ?_
      by_cases h5:200<(za7 MT:Int)
      · have:IE=5:=by rw [hE]; simp [h4]; omega
        rw [bad (by omega),this]
        simp -dsimp [g1,g2,g3,k3,g6,k6,g9,v12,h5,zT,cT]
      · have h0:IE=0:=by rw [hE]; simp [h4]; omega
        rw [hT h0,h0]
        simp -dsimp [g1,g2,g3,k3,g6,k6,g9,v12,h5,cT]
end
end
end Ev
end Go.Proofs.YtncmainjcffanaaGreat
