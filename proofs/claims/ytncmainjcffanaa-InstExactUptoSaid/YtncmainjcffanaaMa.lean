/- Texts of this claim, in one. -/
import Derived.Test.YtncmainjcffanaaSA
import Derived.WalkKit
import Derived.Deep.Heap
import Derived.Test.YtncmainjcffanaaRA
set_option maxRecDepth 100000
set_option linter.unusedSimpArgs false
set_option linter.unusedVariables false
open List renaming all_eq_true→yaC,append_nil→ybp,foldr_cons→yck,getElem?_append_right→ybX,getElem?_eq_getElem→yar,getElem?_eq_some_iff→yae,getElem?_map→yau,getElem_cons_succ→ycp,getElem_cons_zero→ycm,getElem_map→ycq,getElem_mem→yaf,length_eq_zero_iff→ycw,length_map→ycn,map_cons→yaV,map_nil→ycx,mem_cons→yaZ,mem_of_getElem?→yas,ne_nil_of_length_pos→ycA,nil_append→ycv,not_mem_nil→yct,replicate_zero→ycr,take_length→ycd,take_of_length_le→ycc,take_succ_cons→ycs,take_zero→ycu
open Nat renaming decEq→yco,eq_zero_of_not_pos→ybV,eq_zero_or_pos→yaj,le_refl→yab,le_trans→yac,lt_of_lt_of_le→yad,lt_or_ge→ybm,sub_self→ycl,zero_add→ybj,zero_le→yaR
open Int renaming add_zero→ycC,toNat_natCast→ycB
open Option renaming getD_some→ybG,map_eq_some_iff→yaG,map_some→yak
open Bool renaming and_eq_true→ybJ,eq_iff_iff→ycz,false_eq_true→yao,or_eq_false_iff→ycy
open Array renaming getD_eq_getD_getElem?→yaw,getElem?_eq_some_iff→yay,getElem?_toList→yav,replicate→ybQ
namespace Go.Proofs.Ytncmainjcffanaa
namespace Ev
open Go
section
attribute [local simp] zah zai tk tn tks
end
section
structure Chg (St:Nat→Nat) (w w':World):Prop where
  os:w'.os=w.os
  tape:w'.tape=w.tape
  output:w'.output=w.output
  size:w.heap.size≤w'.heap.size
  block:∀ b,b<w.heap.size→St b=0→w'.heap[b]? = w.heap[b]?
  free:∀ b,zd0 w b→zd0 w' b
  cell:∀ b i v,b<w.heap.size→w.cell? ⟨b,i,none⟩=some v → ∃ v',w'.cell? ⟨b,i,none⟩=some v'∧(v'=v ∨ ∃ k n n',v = .int k n∧v' = .int k n')
theorem Chg.refl (St:Nat→Nat) (w:World):Chg St w w:=⟨rfl,rfl,rfl,yab _,fun _ _ _=>rfl,fun _ h=>h,fun b i v _ h=>⟨v,h,.inl rfl⟩⟩
theorem Chg.trans {St:Nat→Nat} {w w' w'':World} (h:Chg St w w') (k:Chg St w' w''):Chg St w w'' :=
  ⟨k.os.trans h.os,k.tape.trans h.tape,k.output.trans h.output,yac h.size k.size,fun b hb h0=>(k.block b (yad hb h.size) h0).trans (h.block b hb h0),fun b hb=>k.free b (h.free b hb),fun b i v hb hv=>by
    obtain ⟨v1,h1,h2⟩:=h.cell b i v hb hv
    obtain ⟨v2,k1,k2⟩:=k.cell b i v1 (yad hb h.size) h1
    refine ⟨v2,k1,?_⟩
    rcases h2 with rfl | ⟨q,n,n',rfl,rfl⟩
    · exact k2
    · rcases k2 with rfl | ⟨q',m,m',e,rfl⟩
      · exact .inr ⟨q,n,n',rfl,rfl⟩
      · cases e
        exact .inr ⟨q,n,m',rfl,rfl⟩⟩
theorem Chg.of_below {St:Nat→Nat} {w w':World} (h:RowKit.Below w.heap.size w w'):Chg St w w' :=
  ⟨h.os,h.tape,h.output,h.size,fun b hb _=>h.block b hb,fun b hf=>hf.eq (h.block b (by obtain ⟨_,_,hh⟩:=hf; exact (yay.1 hh).1)),fun b i v hb hv=>⟨v,(World.cell?_of_block (w:=w) (a:=⟨b,i,none⟩) (h.block b hb)).trans hv,.inl rfl⟩⟩
theorem zkb {α:Type} {Q:Nat→α→Prop}:∀ n,(∀ i,i<n → ∃ x,Q i x) → ∃ l:List α,l.length=n ∧ ∀ i (h:i<l.length),Q i l[i]
  | 0,_=>⟨[],rfl,fun i h=>by simp at h⟩
  | n+1,h=>by
    obtain ⟨l,hl,hq⟩:=zkb n fun i hi=>h i (by omega)
    obtain ⟨x,hx⟩:=h n (by omega)
    refine ⟨l ++ [x],by simp [hl],fun i hi=>?_⟩
    simp only [List.length_append,List.length_singleton] at hi
    rcases ybm i l.length with hlt | hge
    · rw [List.getElem_append_left hlt]; exact hq i hlt
    · have e:i=l.length:=by omega
      subst e
      rw [List.getElem_append_right (yab _)]
      simp only [ycl,ycm]
      rw [hl]; exact hx
def zq2 (l:List T):Prop:=∀ (St S0:Nat→Nat) (w w':World) (v:Value),(∀ b,0<St b→b<w.heap.size)→Rel St w v (.sl 3 (l.map eT))→Chg S0 w w' → ∃ l':List T,l'.map zac=l.map zac∧Rel St w' v (.sl 3 (l'.map eT))
theorem zn4 (l:List T) (ih:∀ x ∈ l,zq2 x.kids):zq2 l:=by
  intro St S0 w w' v hst hr hc
  generalize hm:l.map eT=ml at hr
  have hll:ml.length=l.length:=by rw [← hm]; exact ycn ..
  cases hr with
  | sl A cap _ b off _ hcp hmx hs ha val hv h1 hr =>
    have hget:∀ i,(hi:i<l.length)→ml[i]? = some (.agg (cT l[i])):=fun i hi=>by rw [← hm,yau,yar hi,yak,zfg]
    have hblk:0<l.length→b<w.heap.size:=fun hp=>hst b (by have:=(ha (by omega)).2; omega)
    have hone:∀ i,i<l.length → ∃ t':T,zac t'=zac (l[i]?.getD (.mk 0 0 [])) ∧ ∀ j c,(cT t')[j]? = some c → ∃ u,w'.cell? ⟨b,off+i*3+j,none⟩=some u∧u.oneCell'=true∧Rel St w' u c:=by
      intro i hi
      have hx:=hget i hi
      obtain ⟨x,hxe⟩:∃ x,l[i]=x:=⟨_,rfl⟩
      have hxm:x ∈ l:=by rw [← hxe]; exact yaf _
      rw [hxe] at hx
      rw [yar hi,hxe,ybG]
      have ihx:=ih x hxm
      obtain ⟨k,n,ks⟩:=x
      simp only [T.kids] at ihx
      have c0:=hv i _ hx 0 (.int .i64 k) rfl
      have c1:=hv i _ hx 1 (.int .i64 n) rfl
      have c2:=hv i _ hx 2 (.sl 3 (ks.map eT)) rfl
      have r0:=hr i _ hx 0 (.int .i64 k) rfl
      have r1:=hr i _ hx 1 (.int .i64 n) rfl
      have r2:=hr i _ hx 2 (.sl 3 (ks.map eT)) rfl
      have hb:=hblk (by omega)
      generalize val i 0=v0 at c0 r0
      generalize val i 1=v1 at c1 r1
      generalize val i 2=v2 at c2 r2
      cases r0
      cases r1
      obtain ⟨u0,d0,e0⟩:=hc.cell b _ _ hb c0
      obtain ⟨u1,d1,e1⟩:=hc.cell b _ _ hb c1
      obtain ⟨u2,d2,e2⟩:=hc.cell b _ _ hb c2
      obtain ⟨k',rfl⟩:∃ k',u0 = .int .i64 k':=by
        rcases e0 with rfl | ⟨_,_,n',h,rfl⟩
        · exact ⟨_,rfl⟩
        · cases h; exact ⟨n',rfl⟩
      obtain ⟨n',rfl⟩:∃ n',u1 = .int .i64 n':=by
        rcases e1 with rfl | ⟨_,_,n',h,rfl⟩
        · exact ⟨_,rfl⟩
        · cases h; exact ⟨n',rfl⟩
      have hu2:u2=v2:=by
        rcases e2 with rfl | ⟨_,_,_,h,_⟩
        · rfl
        · rw [h] at r2; cases r2
      subst hu2
      obtain ⟨ks',hk',rk⟩:=ihx St S0 w w' u2 hst r2 hc
      refine ⟨.mk k' n' ks',?_,fun j c hj=>?_⟩
      · rw [zac,zac,hk']
      · match j,hj with
        | 0,hj=>cases hj; exact ⟨_,d0,rfl,.int _ _⟩
        | 1,hj=>cases hj; exact ⟨_,d1,rfl,.int _ _⟩
        | 2,hj=>cases hj; exact ⟨_,d2,by cases rk; rfl,rk⟩
    obtain ⟨l',hl',hq⟩:=zkb l.length hone
    refine ⟨l',?_,?_⟩
    · refine List.ext_getElem (by simp [hl']) fun i h1 h2=>?_
      simp only [ycn] at h1 h2
      have:=(hq i h1).1
      rw [yar (by omega),ybG] at this
      simpa using this
    · have hl2:(l'.map eT).length=ml.length:=by rw [ycn,hl',hll]
      have hgl:∀ i,(hi:i<l'.length)→(l'.map eT)[i]? = some (.agg (cT l'[i])):=fun i hi=>by rw [yau,yar hi,yak,zfg]
      have hcell:∀ i x,(l'.map eT)[i]? = some x → ∀ j c,x.cells[j]? = some c → ∃ u,w'.cell? ⟨b,off+i*3+j,none⟩=some u∧u.oneCell'=true∧Rel St w' u c:=by
        intro i x hx j c hj
        have hi:i<l'.length:=by have:=(yae.1 hx).1; simpa using this
        rw [hgl i hi] at hx
        cases hx
        exact (hq i hi).2 j c hj
      rw [← hl2]
      refine .sl A cap 3 b off _ (by omega) (by omega) (fun x hx=>?_) (fun hp=>by rw [hl2] at hp ⊢; exact ha hp) (fun i j=>(w'.cell? ⟨b,off+i*3+j,none⟩).getD undef) (fun i x hx j c hj=>?_) (fun i x hx j c hj=>?_) (fun i x hx j c hj=>?_)
      · obtain ⟨y,_,rfl⟩:=List.mem_map.1 hx
        rw [zs5]; rfl
      · obtain ⟨u,h1,_⟩:=hcell i x hx j c hj
        rw [h1]; rfl
      · obtain ⟨u,h1,h2,_⟩:=hcell i x hx j c hj
        rw [h1]; exact h2
      · obtain ⟨u,h1,_,h3⟩:=hcell i x hx j c hj
        rw [h1]; exact h3
theorem zi9 (l:List T):zq2 l:=zn4 l fun x _=>by
  have key:∀ t:T,zq2 t.kids:=fun t=>by
    refine T.ind (p:=fun t=>zq2 t.kids) ?_ t
    intro k n ks ih
    exact zn4 ks ih
  exact key x
end
section
open Go.RowKit (Hid)
def zlv (t:T):Prop:=∀ (St:Nat→Nat) (w:World) (v:Value),(∀ b,0<St b→b<w.heap.size∧zd0 w b)→Rel St w v (.agg (cT t))→Calls Try.prog zcf #[v] w fun e w'=>e = .returned (.tuple #[])∧Chg St w w'
theorem ztu {St:Nat→Nat} {w:World} {b off len cap q:Nat} {l:List T} (h:Rel St w (.slice (some ⟨b,off,none⟩) len cap) (.sl 3 (l.map eT))) (hl:l.length=len) (hq:q<len) :
    ∃ k1 n1 v1 t1,l[q]? = some t1∧w.cell? ⟨b,off+q*3,none⟩=some (.int .i64 k1)∧w.cell? ⟨b,off+q*3+1,none⟩=some (.int .i64 n1)∧w.cell? ⟨b,off+q*3+2,none⟩=some v1∧Rel St w (.agg #[.int .i64 k1,.int .i64 n1,v1]) (.agg (cT t1)):=by
  generalize hm:l.map eT=ml at h
  have hll:ml.length=l.length:=by rw [← hm]; exact ycn ..
  cases h with
  | sl _ _ _ b' off' _ hc hm' hs ha val hv h1 hr =>
    obtain ⟨hA,_⟩:=ha (by omega)
    simp only [Option.some.injEq,Addr.mk.injEq,and_true] at hA
    obtain ⟨rfl,rfl⟩:=hA
    have hql:q<l.length:=by rw [hl]; exact hq
    have hx:ml[q]? = some (.agg (cT (l[q]'hql))):=by rw [← hm,yau,yar hql,yak,zfg]
    have c0:=hv q _ hx 0 _ rfl
    have c1:=hv q _ hx 1 _ rfl
    have c2:=hv q _ hx 2 _ rfl
    have r0:=hr q _ hx 0 _ rfl
    have r1:=hr q _ hx 1 _ rfl
    have r2:=hr q _ hx 2 _ rfl
    generalize val q 0=u0 at c0 r0
    generalize val q 1=u1 at c1 r1
    cases r0
    cases r1
    refine ⟨_,_,_,l[q]'hql,yar hql,by simpa using c0,c1,c2,.agg _ _ rfl fun j c hj=>?_⟩
    match j,hj with
    | 0,hj=>cases hj; exact .int _ _
    | 1,hj=>cases hj; exact .int _ _
    | 2,hj=>cases hj; exact r2
theorem Chg.set {St:Nat→Nat} {w:World} {b i:Nat} {k:IntKind} {n n':Int} (h0:0<St b) (hf:zd0 w b) (hv:w.cell? ⟨b,i,none⟩=some (.int k n)):Chg St w (w.setCell ⟨b,i,none⟩ (.int k n')).drew:=by
  have ho:∀ c,c ≠ b→(w.setCell ⟨b,i,none⟩ (.int k n')).heap[c]? = w.heap[c]?:=fun c hc=>Go.Deep.blk_setCell_other _ _ _ _ hc
  refine ⟨rfl,rfl,rfl,Nat.le_of_eq (Go.Deep.nblk_setCell _ _ _).symm,fun c _ h=>ho c (fun e=>by subst e; omega),fun c hc=>?_,fun c j v _ hj=>?_⟩
  · rcases yco c b with hne | rfl
    · exact hc.eq (ho c hne)
    · obtain ⟨arr,el,hh⟩:=hf
      refine ⟨arr.setIfInBounds i (.int k n'),el,?_⟩
      show (w.heap.modify c _)[c]? = _
      rw [Array.getElem?_modify,if_pos rfl,hh]
      rfl
  · show ∃ v',(w.setCell ⟨b,i,none⟩ (.int k n')).cell? ⟨c,j,none⟩=some v'∧_
    rcases yco c b with hne | rfl
    · exact ⟨v,(World.cell?_of_block (w:=w) (a:=⟨c,j,none⟩) (ho c hne)).trans hj,.inl rfl⟩
    · rcases yco j i with hne | rfl
      · exact ⟨v,(World.cell?_setCell_other w _ _ _ (by simp only [ne_eq,Addr.mk.injEq,true_and,and_true]; omega)).trans hj,.inl rfl⟩
      · rw [hv] at hj; cases hj
        exact ⟨_,World.cell?_setCell_same w _ _ hv,.inr ⟨_,_,_,rfl,rfl⟩⟩
theorem zk4:∀ {l:List Nat} {x:Nat},x ∈ l→x≤l.sum
  | a :: l,x,h=>by
    rcases yaZ.1 h with rfl | h
    · simp
    · have:=zk4 h
      simp; omega
theorem zsh {k n:Int} {ks ks':List T} {q:Nat} {t1:T} (h:ks'[q]? = some t1) (hk:ks'.map zac=ks.map zac):zac t1<zac (.mk k n ks):=by
  rw [zac,← hk]
  have:=zk4 (List.mem_map_of_mem (f:=zac) (yas h))
  omega
theorem zrm (t:T) (ih:∀ t',zac t'<zac t→zlv t'):zlv t:=by
  intro St w v hst hr
  obtain ⟨k,n,ks⟩:=t
  obtain ⟨v2,rfl,r2⟩:∃ v2,v = .agg #[.int .i64 k,.int .i64 n,v2]∧Rel St w v2 (.sl 3 (ks.map eT)):=by
    cases hr with
    | agg vs _ hn hr =>
      refine ⟨vs.getD 2 undef,?_,hr 2 _ rfl⟩
      have h0:=hr 0 _ rfl
      have h1:=hr 1 _ rfl
      have hs:vs = #[vs.getD 0 undef,vs.getD 1 undef,vs.getD 2 undef]:=by
        have hn3:vs.size=3:=by simpa [cT] using hn
        apply Array.ext
        · simp [hn3]
        · intro i h1 h2
          have:i=0∨i=1∨i=2:=by omega
          rcases this with rfl | rfl | rfl <;> simp [Array.getD,hn3]
      generalize vs.getD 0 undef=u0 at hs h0
      generalize vs.getD 1 undef=u1 at hs h1
      cases h0
      cases h1
      exact congrArg Value.agg hs
  obtain ⟨len,hlen⟩:∃ len,len=ks.length:=⟨_,rfl⟩
  obtain ⟨A,cap,rfl⟩:∃ A cap,v2 = .slice A len cap:=by
    generalize hm:ks.map eT=ml at r2
    have hll:ml.length=ks.length:=by rw [← hm]; exact ycn ..
    cases r2
    exact ⟨_,_,by rw [hll,hlen]⟩
  have hmx:len≤9223372036854775807:=by
    generalize hm:ks.map eT=ml at r2
    have hll:ml.length=ks.length:=by rw [← hm]; exact ycn ..
    cases r2 with
    | sl _ _ _ b off _ hc hm'=>omega
  rcases yaj len with h0 | hpos
  · subst h0
    clear hlen
    go_enter Try.func24,Try.ntmps24
    go_wp2
    refine wp_loop_rounds 1 ?_
    rw [rounds_succ]
    go_wp2
    go_end0
    exact ⟨rfl,.of_below ((RowKit.Below.refl _ _).alloc (yab _) _)⟩
  obtain ⟨b,off,rfl,hroom⟩:∃ b off,A=some ⟨b,off,none⟩∧off+len*3≤St b:=by
    generalize hm:ks.map eT=ml at r2
    have hll:ml.length=ks.length:=by rw [← hm]; exact ycn ..
    cases r2 with
    | sl _ _ _ b off _ hc hm' hs ha =>
      obtain ⟨h1,h2⟩:=ha (by omega)
      exact ⟨b,off,h1,by rw [hlen,← hll]; exact h2⟩
  have hks:Hid (len=ks.length):=hlen
  clear hlen
  go_enter Try.func24,Try.ntmps24
  go_wp2
  go_loopw [2] (fun iv wr=>∃ (q:Nat),q≤len∧iv = .int .i64 q∧Hid (Chg St w wr)∧wr.heap[w.heap.size]? = some (.cells #[.int .i64 k,.int .i64 n,.slice (some ⟨b,off,none⟩) len cap] 24 (0,0))) (fun iv _=>len - (RowKit.intOf iv).toNat)
  case atStart=>exact ⟨0,yaR _,rfl,Chg.of_below ((RowKit.Below.refl _ _).alloc (yab _) _),heap_alloc_new w _⟩
  case round =>
    obtain ⟨q,hq,rfl,hc,hbox⟩:=hrel
    have g2:wr.cell? ⟨w.heap.size,2,none⟩=some (.slice (some ⟨b,off,none⟩) len cap):=by simp [World.cell?,hbox]
    have hst0:St w.heap.size=0:=ybV fun hp=>by have:=(hst _ hp).1; omega
    rcases ybm q len with hlt | hge
    · obtain ⟨ks',hk',rk⟩:=zi9 ks St St w wr _ (fun b hb=>(hst b hb).1) r2 hc.out
      have hkl:ks'.length=len:=by
        have:=congrArg List.length hk'
        simp only [ycn] at this
        rw [this,hks.out]
      obtain ⟨k1,n1,v1,t1,hn1,c0,c1,c2,rt⟩:=ztu rk hkl hlt
      have hbw:b<wr.heap.size:=yad (hst b (by omega)).1 hc.out.size
      have hnt:zac t1<zac (T.mk k n ks):=zsh hn1 hk'
      have hcall:=ih t1 hnt St wr _ (fun b hb=>⟨yad (hst b hb).1 hc.out.size,hc.out.free b (hst b hb).2⟩) rt
      go_wp2_with (go_at_call 24; refine hcall.mono ?_; rintro e w1 ⟨rfl,hc1⟩)
      have hc2:=hc.out.trans hc1
      obtain ⟨n2,hn2⟩:∃ n2,w1.cell? ⟨b,off+q*3+1,none⟩=some (.int .i64 n2):=by
        obtain ⟨u,h1,h2⟩:=hc1.cell b _ _ hbw c1
        rcases h2 with rfl | ⟨_,_,n',he,rfl⟩
        · exact ⟨_,h1⟩
        · cases he; exact ⟨n',h1⟩
      have hbox1:w1.heap[w.heap.size]? = some (.cells #[.int .i64 k,.int .i64 n,.slice (some ⟨b,off,none⟩) len cap] 24 (0,0)):=(hc1.block _ (yay.1 hbox).1 hst0).trans hbox
      have g3:w1.cell? ⟨w.heap.size,2,none⟩=some (.slice (some ⟨b,off,none⟩) len cap):=by simp [World.cell?,hbox1]
      have hfz:w1.frozen? ⟨b,off+q*3+1,none⟩=false:=by
        obtain ⟨arr,el,hh⟩:=hc2.free b (hst b (by omega)).2
        simp [World.frozen?,hh]
      clear c0 c1 c2 rt hcall hbox g2 rk hr r2
      have hcH:Hid (Chg St w w1):=hc2
      have hbH:Hid (w1.heap[w.heap.size]? = some (.cells #[.int .i64 k,.int .i64 n,.slice (some ⟨b,off,none⟩) len cap] 24 (0,0))):=hbox1
      clear hc1 hc2 hbox1
      go_region
      all_goals (try go_wp2)
      have hneb:w.heap.size ≠ b:=fun e=>by rw [← e] at hroom; omega
      refine ⟨⟨q+1,hlt,by simp,hcH.out.trans (Chg.set (by omega) (hcH.out.free b (hst b (by omega)).2) hn2),?_⟩,by simp [RowKit.intOf]; omega⟩
      exact (Go.Deep.blk_setCell_other _ _ _ _ hneb).trans hbH.out
    · go_wp2
      go_end0
      exact ⟨rfl,hc.out⟩
theorem zof (t:T):zlv t:=by
  have key:∀ n,∀ t,zac t<n→zlv t:=fun n=>by
    induction n with
    | zero=>intro t h; omega
    | succ n ih=>exact fun t h=>zrm t fun t' h'=>ih t' (by omega)
  exact key _ t (Nat.lt_succ_self _)
end
section
open Go.RowKit (Hid)
theorem Chg.undrew {St:Nat→Nat} {w w':World} (h:Chg St w w'.drew):Chg St w w':=⟨h.os,h.tape,h.output,h.size,h.block,h.free,h.cell⟩
def zte (ks:List T):Prop:=∀ (St:Nat→Nat) (w:World) (v:Value),(∀ b,0<St b→b<w.heap.size∧zd0 w b)→Rel St w v (.sl 3 (ks.map eT))→Calls Try.prog zcz #[v] w fun e w'=>e = .returned (.tuple #[])∧Chg St w w'
theorem zq4 (ks:List T):zte ks:=by
  intro St w v2 hst r2
  obtain ⟨len,hlen⟩:∃ len,len=ks.length:=⟨_,rfl⟩
  obtain ⟨A,cap,rfl⟩:∃ A cap,v2 = .slice A len cap:=by
    generalize hm:ks.map eT=ml at r2
    have hll:ml.length=ks.length:=by rw [← hm]; exact ycn ..
    cases r2
    exact ⟨_,_,by rw [hll,hlen]⟩
  have hmx:len≤9223372036854775807:=by
    generalize hm:ks.map eT=ml at r2
    have hll:ml.length=ks.length:=by rw [← hm]; exact ycn ..
    cases r2 with
    | sl _ _ _ b off _ hc hm'=>omega
  rcases yaj len with h0 | hpos
  · subst h0
    clear hlen
    go_enter Try.func25,Try.ntmps25
    go_wp2
    refine wp_loop_rounds 1 ?_
    rw [rounds_succ]
    go_wp2
    go_end0
    exact ⟨rfl,.refl _ _⟩
  obtain ⟨b,off,rfl,hroom⟩:∃ b off,A=some ⟨b,off,none⟩∧off+len*3≤St b:=by
    generalize hm:ks.map eT=ml at r2
    have hll:ml.length=ks.length:=by rw [← hm]; exact ycn ..
    cases r2 with
    | sl _ _ _ b off _ hc hm' hs ha =>
      obtain ⟨h1,h2⟩:=ha (by omega)
      exact ⟨b,off,h1,by rw [hlen,← hll]; exact h2⟩
  have hks:Hid (len=ks.length):=hlen
  clear hlen
  go_enter Try.func25,Try.ntmps25
  go_wp2
  go_loopw [2] (fun iv wr=>∃ (q:Nat),q≤len∧iv = .int .i64 q∧Hid (Chg St w wr)) (fun iv _=>len - (RowKit.intOf iv).toNat)
  case atStart=>exact ⟨0,yaR _,rfl,Chg.refl _ _⟩
  case round =>
    obtain ⟨q,hq,rfl,hc⟩:=hrel
    rcases ybm q len with hlt | hge
    · obtain ⟨ks',hk',rk⟩:=zi9 ks St St w wr _ (fun b hb=>(hst b hb).1) r2 hc.out
      have hkl:ks'.length=len:=by
        have:=congrArg List.length hk'
        simp only [ycn] at this
        rw [this,hks.out]
      obtain ⟨k1,n1,v1,t1,hn1,c0,c1,c2,rt⟩:=ztu rk hkl hlt
      have hbw:b<wr.heap.size:=yad (hst b (by omega)).1 hc.out.size
      have hcall:=zof t1 St wr _ (fun b hb=>⟨yad (hst b hb).1 hc.out.size,hc.out.free b (hst b hb).2⟩) rt
      have facts:∀ w1:World,Chg St wr w1→Hid (Chg St w w1)∧(∃ n2,w1.cell? ⟨b,off+q*3,none⟩=some (.int .i64 n2))∧w1.frozen? ⟨b,off+q*3,none⟩=false:=fun w1 hc1=>by
        have hc2:=hc.out.trans hc1
        refine ⟨hc2,?_,?_⟩
        · obtain ⟨u,h1,h2⟩:=hc1.cell b _ _ hbw c0
          rcases h2 with rfl | ⟨_,_,n',he,rfl⟩
          · exact ⟨_,h1⟩
          · cases he; exact ⟨n',h1⟩
        · obtain ⟨arr,el,hh⟩:=hc2.free b (hst b (by omega)).2
          simp [World.frozen?,hh]
      go_wp2_with (go_at_call 24; refine hcall.mono ?_; rintro e w1 ⟨rfl,hc1⟩; obtain ⟨hcH,⟨n2,hn2⟩,hfz⟩:=facts w1 hc1; clear hc1)
      have hb0:0<St b:=by omega
      refine ⟨⟨q+1,hlt,by simp,hcH.out.trans (Chg.set hb0 (hcH.out.free b (hst b hb0).2) hn2).undrew⟩,by simp [RowKit.intOf]; omega⟩
    · go_wp2
      go_end0
      exact ⟨rfl,hc.out⟩
end
section
section
variable {P:Program}
theorem zr5 {o:Oper} {f:Opd} {args:List Opd} (hcop:cop P o=some (.call f args)) :
    ∃ (c:Call) (f':Operand) (al:List Operand) (ts:List TypeId),o.op = .call c∧c.callee = .value f'∧c.args.toList=al∧al.length=ts.length∧f=copd P 0 f'∧args=(al.zip ts).map fun p=>copd P p.2 p.1:=by
  unfold cop at hcop
  split at hcop
  case h_21 c ho =>
    obtain ⟨cal,as_,ts⟩:=c
    simp only at hcop
    split at hcop
    · obtain ⟨e,he,hh⟩:=map_some hcop; cases hh
    · split at hcop
      · obtain ⟨e,he,hcop⟩:=bind_some hcop
        obtain ⟨sz,hn,hcop⟩:=bind_some hcop
        obtain ⟨b,hb,hcop⟩:=bind_some hcop
        split at hcop
        · cases hcop
        · cases hcop
      · cases hcop
    · cases hcop
    · cases hcop
    · rename_i f'
      split at hcop
      · rename_i hl
        cases hcop
        exact ⟨_,f',as_.toList,ts.toList,ho,rfl,rfl,hl,rfl,rfl⟩
      · cases hcop
    · cases hcop
  all_goals first
    | (cases hcop; done)
    | (obtain ⟨_,_,hcop⟩:=bind_some hcop; obtain ⟨_,_,hcop⟩:=bind_some hcop; obtain ⟨_,_,hcop⟩:=bind_some hcop; split at hcop <;> cases hcop; done)
    | (obtain ⟨_,_,hcop⟩:=bind_some hcop; obtain ⟨_,_,hcop⟩:=map_some hcop; cases hcop; done)
    | (obtain ⟨_,_,hcop⟩:=map_some hcop; cases hcop; done)
    | (split at hcop <;> first
        | (cases hcop; done)
        | (obtain ⟨_,_,hcop⟩:=map_some hcop; cases hcop; done)
        | (split at hcop <;> first
            | (cases hcop; done)
            | (obtain ⟨_,_,hcop⟩:=bind_some hcop; obtain ⟨_,_,hcop⟩:=map_some hcop; cases hcop; done)
            | (obtain ⟨_,_,hcop⟩:=bind_some hcop; obtain ⟨_,_,hcop⟩:=bind_some hcop; obtain ⟨_,_,hcop⟩:=bind_some hcop; obtain ⟨_,_,hcop⟩:=bind_some hcop; split at hcop <;> cases hcop; done))
        | (obtain ⟨_,_,hcop⟩:=bind_some hcop; obtain ⟨_,_,hcop⟩:=bind_some hcop; split at hcop <;> cases hcop; done)
        | (obtain ⟨_,_,hcop⟩:=bind_some hcop; obtain ⟨_,_,hcop⟩:=bind_some hcop; obtain ⟨_,_,hcop⟩:=map_some hcop; cases hcop; done))
theorem zrs {o:Oper} {n:Nat} {g:Bool} {j:Nat} (hcop:cop P o=some (.load n g (.t j))):∃ t,o.op = .load t (.tmp j)∧sz? P t=some n∧ag? P t=some g:=by
  unfold cop at hcop
  split at hcop
  case h_6 t x ho =>
    obtain ⟨n',hn,hcop⟩:=bind_some hcop
    obtain ⟨g',hg,hcop⟩:=map_some hcop
    cases x <;> cases hcop
    exact ⟨t,ho,hn,hg⟩
  all_goals first
    | (cases hcop; done)
    | (obtain ⟨_,_,hcop⟩:=bind_some hcop; obtain ⟨_,_,hcop⟩:=bind_some hcop; obtain ⟨_,_,hcop⟩:=bind_some hcop; split at hcop <;> cases hcop; done)
    | (obtain ⟨_,_,hcop⟩:=bind_some hcop; obtain ⟨_,_,hcop⟩:=map_some hcop; cases hcop; done)
    | (obtain ⟨_,_,hcop⟩:=map_some hcop; cases hcop; done)
    | (split at hcop <;> first
        | (cases hcop; done)
        | (obtain ⟨_,_,hcop⟩:=map_some hcop; cases hcop; done)
        | (obtain ⟨_,_,hcop⟩:=bind_some hcop; obtain ⟨_,_,hcop⟩:=map_some hcop; cases hcop; done)
        | (split at hcop <;> first
            | (cases hcop; done)
            | (obtain ⟨_,_,hcop⟩:=map_some hcop; cases hcop; done)
            | (obtain ⟨_,_,hcop⟩:=bind_some hcop; obtain ⟨_,_,hcop⟩:=map_some hcop; cases hcop; done)
            | (obtain ⟨_,_,hcop⟩:=bind_some hcop; obtain ⟨_,_,hcop⟩:=bind_some hcop; obtain ⟨_,_,hcop⟩:=bind_some hcop; obtain ⟨_,_,hcop⟩:=bind_some hcop; split at hcop <;> cases hcop; done)
            | (obtain ⟨_,_,hcop⟩:=bind_some hcop; obtain ⟨_,_,hcop⟩:=bind_some hcop; obtain ⟨_,_,hcop⟩:=bind_some hcop; split at hcop <;> cases hcop; done)
            | (split at hcop <;> cases hcop; done))
        | (obtain ⟨_,_,hcop⟩:=bind_some hcop; obtain ⟨_,_,hcop⟩:=bind_some hcop; split at hcop <;> cases hcop; done)
        | (obtain ⟨_,_,hcop⟩:=bind_some hcop; obtain ⟨_,_,hcop⟩:=bind_some hcop; obtain ⟨_,_,hcop⟩:=map_some hcop; cases hcop; done))
theorem zwn {o:Oper} {j:Nat} (hcop:cop P o=some (.mv (.t j))):o.op = .move (.tmp j)∨o.op = .assign (.tmp j):=by
  unfold cop at hcop
  split at hcop
  case h_1 x ho=>cases x <;> cases hcop; exact .inl ho
  case h_2 x ho =>
    split at hcop
    · obtain ⟨_,_,hcop⟩:=map_some hcop; cases hcop
    · cases x <;> cases hcop; exact .inr ho
  all_goals first
    | (cases hcop; done)
    | (obtain ⟨_,_,hcop⟩:=bind_some hcop; obtain ⟨_,_,hcop⟩:=bind_some hcop; obtain ⟨_,_,hcop⟩:=bind_some hcop; split at hcop <;> cases hcop; done)
    | (obtain ⟨_,_,hcop⟩:=bind_some hcop; obtain ⟨_,_,hcop⟩:=map_some hcop; cases hcop; done)
    | (obtain ⟨_,_,hcop⟩:=map_some hcop; cases hcop; done)
    | (split at hcop <;> first
        | (cases hcop; done)
        | (obtain ⟨_,_,hcop⟩:=map_some hcop; cases hcop; done)
        | (obtain ⟨_,_,hcop⟩:=bind_some hcop; obtain ⟨_,_,hcop⟩:=map_some hcop; cases hcop; done)
        | (split at hcop <;> first
            | (cases hcop; done)
            | (obtain ⟨_,_,hcop⟩:=map_some hcop; cases hcop; done)
            | (obtain ⟨_,_,hcop⟩:=bind_some hcop; obtain ⟨_,_,hcop⟩:=map_some hcop; cases hcop; done)
            | (obtain ⟨_,_,hcop⟩:=bind_some hcop; obtain ⟨_,_,hcop⟩:=bind_some hcop; obtain ⟨_,_,hcop⟩:=bind_some hcop; obtain ⟨_,_,hcop⟩:=bind_some hcop; split at hcop <;> cases hcop; done)
            | (obtain ⟨_,_,hcop⟩:=bind_some hcop; obtain ⟨_,_,hcop⟩:=bind_some hcop; obtain ⟨_,_,hcop⟩:=bind_some hcop; split at hcop <;> cases hcop; done)
            | (split at hcop <;> cases hcop; done))
        | (obtain ⟨_,_,hcop⟩:=bind_some hcop; obtain ⟨_,_,hcop⟩:=bind_some hcop; split at hcop <;> cases hcop; done)
        | (obtain ⟨_,_,hcop⟩:=bind_some hcop; obtain ⟨_,_,hcop⟩:=bind_some hcop; obtain ⟨_,_,hcop⟩:=map_some hcop; cases hcop; done))
theorem zq5 {o:Oper} {g e1:Nat} (hcop:cop P o=some (.call (.c (.d (.clo g []))) [.t e1])) (hent:zfl P g) (a:Act) (w:World):(execOp a.eval o).run P w = .ok (.enter g #[a.tmps.getD e1 undef]) w:=by
  obtain ⟨c,f',al,ts,ho,hcc,hal,hl,hf,hargs⟩:=zr5 hcop
  have sl:@zbv i0 ⟨fun _=>0,fun _=>⟨none,0⟩⟩ za3 w a (fun _=>AV.junk):=fun i=>.junk _
  have hfr:=@zam i0 P _ _ _ _ _ sl 0 f'
  rw [← hf] at hfr
  obtain ⟨vs,hfe,hvs⟩:∃ vs:Array Value,a.eval f' = .func (.func g) #[] vs∧vs.size=0:=by
    generalize a.eval f'=v at hfr
    have:=hfr.d_inv
    cases this with
    | clo _ vs _ hn hr=>exact ⟨vs,rfl,by simpa using hn⟩
  obtain ⟨x,t,rfl,rfl,hx⟩:∃ x t,al=[x]∧ts=[t]∧copd P t x = .t e1:=by
    match al,ts,hl,hargs with
    | [x],[t],_,h=>exact ⟨x,t,rfl,rfl,by simpa using h.symm⟩
    | [],[],_,h=>simp at h
    | _ :: _ :: _,_ :: _ :: _,_,h=>simp at h
  have hxe:x = .tmp e1:=by
    cases x <;> simp [copd] at hx
    rw [hx]
  subst hxe
  have hargs':c.args.map a.eval ++ vs = #[a.tmps.getD e1 undef]:=by
    apply Array.ext'
    have:vs.toList=[]:=by simpa using hvs
    simp [hal,this,Act.eval]
  simp only [execOp,ho,resolve,hcc,Deferred.ofValue,hfe,Sem.run_bind,Sem.run_pure,Result.andThen_ok,invoke,Array.empty_append]
  rw [hargs']
  exact zix hent _
theorem zq9 {o:Oper} {t:TypeId} {j:Nat} (ho:o.op = .load t (.tmp j)) {a:Act} {w:World} {ad:Addr} {v:Value} (hu:a.tmps.getD j undef = .pointer (some ad)) (hrun:(loadVar t ad).run P w = .ok v w):(execOp a.eval o).run P w = .ok (.value v) w:=by
  have hu':a.eval (.tmp j) = .pointer (some ad):=hu
  simp [execOp,ho,Instr.loadAt,hu',Instr.sureAddr,Sem.run_bind,Sem.run_pure,hrun]
theorem zuu {o:Oper} {j:Nat} (ho:o.op = .move (.tmp j)∨o.op = .assign (.tmp j)) (a:Act) (w:World):(execOp a.eval o).run P w = .ok (.value (a.tmps.getD j undef)) w:=by
  have e:a.eval (.tmp j)=a.tmps.getD j undef:=rfl
  rcases ho with ho | ho
  · simp [execOp,ho,Sem.run_bind,Sem.run_pure,e]
  · simp [execOp,ho,Sem.run_bind,Sem.run_pure,e]
theorem zmr {a:Act} {d i:Nat} {v:Value} (h:i ≠ d):(a.put (some d) v).tmps.getD i undef=a.tmps.getD i undef:=by
  simp only [Act.put,yaw,Array.getElem?_setIfInBounds]
  rw [if_neg (Ne.symm h)]
theorem zuy {ops:Array Oper} {n:Nat} {l:List Oper} {x y:XOper} (h:zfv P ops n l=some [x,y]):∃ o1 o2,l=[o1,o2]∧zm6 P ops n o1=some x∧zm6 P ops n o2=some y:=by
  obtain ⟨hlen,hget⟩:=zid h
  obtain ⟨o1,o2,rfl⟩:∃ o1 o2,l=[o1,o2]:=by
    cases l with
    | nil=>simp at hlen
    | cons o1 l=>cases l with
      | nil=>simp at hlen
      | cons o2 l=>cases l with
        | nil=>exact ⟨o1,o2,rfl⟩
        | cons=>simp at hlen
  obtain ⟨x',hx,hx'⟩:=hget 0 o1 rfl
  obtain ⟨y',hy,hy'⟩:=hget 1 o2 rfl
  simp only [List.getElem?_cons_zero,List.getElem?_cons_succ,Option.some.injEq] at hx hy
  subst hx
  subst hy
  exact ⟨o1,o2,rfl,hx',hy'⟩
theorem zmh {n:Nat} {c:Code} {xs:List XOper} (hc:zc7 P n c=some (.region xs none)):∃ id ops,c = .region id ops false∧zfv P ops n ops.toList=some xs:=by
  unfold zc7 at hc
  split at hc
  case h_2 id ops dr =>
    split at hc
    · rename_i ys hys
      cases dr with
      | true =>
        simp only [if_true] at hc
        obtain ⟨ds,_,hh⟩:=map_some hc
        cases hh
      | false =>
        simp only [yao,if_false,Option.some.injEq,XCode.region.injEq,and_true] at hc
        subst hc
        exact ⟨id,ops,rfl,hys⟩
    · cases hc
  all_goals first
    | (cases hc; done)
    | (split at hc <;> cases hc; done)
    | (obtain ⟨_,_,hc⟩:=map_some hc; cases hc; done)
theorem zkn {n:Nat} {c:Code} {x y:XCode} (hc:zc7 P n c=some (.seq x y)):∃ a b,c = .seq a b∧zc7 P n a=some x∧zc7 P n b=some y:=by
  unfold zc7 at hc
  split at hc
  case h_3 a b =>
    split at hc
    · rename_i xa xb ha hb
      simp only [Option.some.injEq,XCode.seq.injEq] at hc
      obtain ⟨rfl,rfl⟩:=hc
      exact ⟨a,b,rfl,ha,hb⟩
    · cases hc
  all_goals first
    | (cases hc; done)
    | (split at hc <;> cases hc; done)
    | (split at hc <;> first | (cases hc; done) | (split at hc <;> first | (cases hc; done) | (obtain ⟨_,_,hc⟩:=map_some hc; cases hc; done)))
    | (obtain ⟨_,_,hc⟩:=map_some hc; cases hc; done)
theorem reg2 {n:Nat} {c:Code} {e1 e2 f:Nat} {x1:XOp} (hc:zc7 P n c=some (.region [⟨some e1,x1,none⟩,⟨some e2,.call (.c (.d (.clo f []))) [.t e1],none⟩] none)) (hent:zfl P f) {a:Act} {w:World} (hsz:a.tmps.size=n) {R:World→Prop}
    (hv:∀ o,cop P o=some x1 → ∃ v,(execOp a.eval o).run P w = .ok (.value v) w∧Calls P f #[v] w fun e w'=>e = .returned (.tuple #[])∧R w') :
    c.wp P (fun e a' w'=>e = .normal∧a'.defers=a.defers∧a'.tmps.size=n∧(∀ i,i ≠ e1→i ≠ e2→a'.tmps.getD i undef=a.tmps.getD i undef)∧R w') a w:=by
  obtain ⟨id,ops,rfl,hxs⟩:=zmh hc
  have sl:∀ (a:Act) (w:World),@zbv i0 ⟨fun _=>0,fun _=>⟨none,0⟩⟩ za3 w a (fun _=>AV.junk):=fun a w i=>.junk _
  refine wp_region ?_
  rw [List.range_eq_range',← Array.length_toList]
  generalize hl:ops.toList=l at hxs
  obtain ⟨o1,o2,rfl,h1,h2⟩:=zuy hxs
  have g0:ops[0]? = some o1:=by rw [← yav,hl]; rfl
  have g1:ops[1]? = some o2:=by rw [← yav,hl]; rfl
  obtain ⟨p1,p2,p3,_⟩:=zdp h1
  obtain ⟨q1,q2,q3,_⟩:=zdp h2
  simp only at p1 p2 q1 q2
  simp only [List.length_cons,List.length_nil,List.range'_succ,List.range'_zero,wpOps,g0,g1,ybj]
  rw [@zje i0 P _ _ _ _ _ _ _ _ _ h1 (sl a w) true rfl]
  simp only [if_true]
  refine .inl ?_
  unfold Oper.wp
  obtain ⟨v,hv,hcalls⟩:=hv o1 p2
  rw [hv,Oper.upon_value]
  rw [@zje i0 P _ _ _ _ _ _ _ _ _ h2 (sl _ w) true rfl]
  simp only [if_true]
  refine .inl ?_
  have he:e1<a.tmps.size:=by
    rw [← p1] at p3
    simpa [hsz] using p3
  have hev:(a.put o1.dst v).tmps.getD e1 undef=v:=by
    rw [← p1,zn2 he,if_pos rfl]
  rw [zq5 q2 hent,hev,Oper.upon_enter]
  refine hcalls.mono ?_
  rintro e w' ⟨rfl,hR⟩
  refine ⟨trivial,?_,?_,fun i h1 h2=>?_,hR⟩
  · rw [zbl,zbl]
  · rw [zcm,zcm]; exact hsz
  · rw [← q1,zmr h2,← p1,zmr h1]
end
end
section
def oldA:AV→AV
  | .d (.sl sz xs)=>.n false (.sl sz xs)
  | .d x=>if x.flat=true then .d x else .junk
  | .ptr k v o=>.ptr k v o
  | .rsl k v=>.rsl k v
  | .skip=>.skip
  | _=>.junk
def oldE (e:Ent):Ent:=⟨e.ver,match e.body with | .box cs fz=>.box (cs.map oldA) fz | b=>b⟩
def oldS (st:S):S:=⟨fun i=>oldA (st.s i),fun k=>oldE (st.h k)⟩
def znv:AV→AV
  | .n false x=>.d x
  | .d x=>if x.flat=true then .d x else .junk
  | .ptr k v o=>.ptr k v o
  | .skip=>.skip
  | _=>.junk
def aftE (e:Ent):Ent:=⟨e.ver,match e.body with | .box cs false=>.box (cs.map znv) false | _=>.dead⟩
def aftS (lim:Nat) (st:S):S:=⟨fun i=>if i<lim then znv (st.s i) else .junk,fun k=>aftE (st.h k)⟩
theorem zkr {m:Nat} {St:Nat→Nat} (h:∀ b,0<St b→b<m):cutS false m St=St:=by
  funext b
  unfold cutS
  by_cases hb:m≤b
  · simp only [hb,decide_true,Bool.true_eq_false,if_false]
    rcases yaj (St b) with h0 | h0
    · exact h0.symm
    · have:=h b h0; omega
  · simp [hb]
theorem zrk {G:GS} {h:Nat→Ent} {w:World} {v:Value} {av:AV} {m:Nat} (hst:∀ b,0<G.St b→b<m) (r:@ARel i0 G h w v av):@ARel (i1 m) G (fun k=>oldE (h k)) w v (oldA av):=by
  cases av with
  | d x =>
    have hr:=@ARel.d_inv i0 _ _ _ _ _ r
    cases x with
    | sl sz xs =>
      refine @ARel.n (i1 m) G _ w v false _ (by cases hr; rfl) ?_
      show Rel (cutS false m G.St) w v _
      rw [zkr hst]
      exact hr
    | _ =>
      simp only [oldA]
      split
      · exact @ARel.d (i1 m) _ _ _ _ _ hr
      · exact @ARel.junk (i1 m) _ _ _ _
  | ptr k ver off =>
    cases r with
    | ptr _ _ _ _ h1 hle hv =>
      refine @ARel.ptr (i1 m) _ _ _ _ _ _ _ h1 hle fun hq cs fz hb=>?_
      simp only [oldE] at hb hq
      cases hbk:(h k).body with
      | box cs0 f0=>exact hv hq cs0 f0 hbk
      | _=>rw [hbk] at hb; cases hb
  | rsl k ver =>
    cases r with
    | rsl _ _ _ h1 hle hv =>
      refine @ARel.rsl (i1 m) _ _ _ _ _ _ h1 hle fun hq sz xs fz hb=>?_
      simp only [oldE] at hb hq
      cases hbk:(h k).body with
      | row=>rw [hbk] at hb; exact hv hq sz xs fz (by rw [hbk]; exact hb)
      | _=>rw [hbk] at hb; cases hb
  | skip=>cases r; exact @ARel.skip (i1 m) _ _ _
  | _=>exact @ARel.junk (i1 m) _ _ _ _
theorem zjx {G:GS} {k b:Nat} {e:Ent}:Owns G k b (oldE e).body ↔ Owns G k b e.body:=by
  unfold oldE
  cases hb:e.body <;> simp [Owns]
theorem zww {n:Nat} {G:GS} {st:S} {a:Act} {w:World} (fr:@Fr i0 n G st a w):@Fr (i1 w.heap.size) n G (oldS st) a w:=by
  have hst:=(@Fr.inv i0 _ _ _ _ _ fr).st
  refine @Fr.mk (i1 w.heap.size) _ _ _ _ _ ?_ (fun i=>zrk hst (@Fr.slots i0 _ _ _ _ _ fr i)) (@Fr.size i0 _ _ _ _ _ fr)
  have i:=@Fr.inv i0 _ _ _ _ _ fr
  refine @Inv.mk (i1 w.heap.size) _ _ _ hst (fun k=>?_) (fun k k' b h1 h2=>@Inv.apart i0 _ _ _ i k k' b (zjx.1 h1) (zjx.1 h2)) (yab _)
  have he:=@Inv.ent i0 _ _ _ i k
  show @zfn (i1 w.heap.size) G (fun k=>oldE (st.h k)) w k (oldE (st.h k)).body
  unfold oldE
  cases hb:(st.h k).body with
  | dead=>exact trivial
  | box cs fz =>
    rw [hb] at he
    obtain ⟨b,arr,el,h1,h2,h3,h4,h5⟩:=he
    refine ⟨b,arr,el,h1,h2,by rw [ycn]; exact h3,fun j c hj=>?_,h5⟩
    rw [yau] at hj
    obtain ⟨c0,hc0,rfl⟩:=yaG.1 hj
    exact ⟨zrk hst (h4 j c0 hc0).1,(h4 j c0 hc0).2⟩
  | row sz xs fz =>
    rw [hb] at he
    cases fz with
    | true=>exact he
    | false=>exact he
theorem zn3 {G:GS} {h:Nat→Ent} {w w':World} {v:Value} {av:AV} {m:Nat} (hst:∀ b,0<G.St b→b<w.heap.size) (hc:Chg (cutS true m G.St) w w') (r:@ARel (i1 m) G h w v av):@ARel i0 ⟨cutS false m G.St,G.hd⟩ (fun k=>aftE (h k)) w' v (znv av):=by
  cases av with
  | d x =>
    have hr:=@ARel.d_inv (i1 m) _ _ _ _ _ r
    simp only [znv]
    split
    · rename_i hf
      exact @ARel.d i0 _ _ _ _ _ (hr.flat hf)
    · exact @ARel.junk i0 _ _ _ _
  | n q x =>
    cases r with
    | n _ _ _ h1 hr =>
      cases q with
      | true=>exact @ARel.junk i0 _ _ _ _
      | false =>
        refine @ARel.d i0 _ _ _ _ _ (hr.keeps ⟨fun _=>yab _,fun b i hi=>?_,fun b hb hf=>hc.free b hf⟩)
        have hlt:i<cutS false m G.St b:=hi
        have hb:b<w.heap.size:=hst b (by have:=zdo false m G.St b; omega)
        refine World.cell?_of_block (w:=w) (a:=⟨b,i,none⟩) (hc.block b hb ?_)
        unfold cutS at hlt ⊢
        by_cases hm:m≤b
        · simp [hm] at hlt
        · simp [hm]
  | ptr k ver off =>
    cases r with
    | ptr _ _ _ _ h1 hle hv =>
      refine @ARel.ptr i0 _ _ _ _ _ _ _ h1 hle fun hq cs fz hb=>?_
      simp only [aftE] at hb hq
      split at hb
      · rename_i cs0 hbk
        exact hv hq cs0 false hbk
      · cases hb
  | skip=>cases r; exact @ARel.skip i0 _ _ _
  | _=>exact @ARel.junk i0 _ _ _ _
theorem zjv {G G':GS} {k b:Nat} {e:Ent} (hG:G'.hd=G.hd) (h:Owns G' k b (aftE e).body):Owns G k b e.body:=by
  unfold aftE at h
  cases hb:e.body with
  | dead=>rw [hb] at h; exact h
  | row=>rw [hb] at h; exact h.elim
  | box cs fz =>
    rw [hb] at h
    cases fz with
    | true=>exact h.elim
    | false=>simp only [Owns] at h ⊢; rw [← hG]; exact h
theorem zwe {n m lim:Nat} {G:GS} {st:S} {a a':Act} {w w':World} (fr:@Fr (i1 m) n G st a w) (hc:Chg (cutS true m G.St) w w') (hsz:a'.tmps.size=n) (hs:∀ i,i<lim→a'.tmps.getD i undef=a.tmps.getD i undef):@Fr i0 n ⟨cutS false m G.St,G.hd⟩ (aftS lim st) a' w':=by
  have i:=@Fr.inv (i1 m) _ _ _ _ _ fr
  have hst:=@Inv.st (i1 m) _ _ _ i
  refine @Fr.mk i0 _ _ _ _ _ ?_ (fun j=>?_) hsz
  · refine @Inv.mk i0 _ _ _ (fun b hb=>yad (hst b (yad hb (zdo false m G.St b))) hc.size) (fun k=>?_) (fun k k' b h1 h2=>@Inv.apart (i1 m) _ _ _ i k k' b (zjv rfl h1) (zjv rfl h2)) (yaR _)
    have he:=@Inv.ent (i1 m) _ _ _ i k
    show @zfn i0 ⟨cutS false m G.St,G.hd⟩ (fun k=>aftE (st.h k)) w' k (aftE (st.h k)).body
    unfold aftE
    cases hb:(st.h k).body with
    | dead=>exact trivial
    | row=>exact trivial
    | box cs fz =>
      cases fz with
      | true=>exact trivial
      | false =>
        rw [hb] at he
        obtain ⟨b,arr,el,h1,h2,h3,h4,h5⟩:=he
        have h50:G.St b=0:=h5
        have hbw:=(yay.1 h2).1
        have hz:∀ q,cutS q m G.St b=0:=fun q=>ybV fun hp=>by have:=zdo q m G.St b; omega
        refine ⟨b,arr,el,h1,(hc.block b hbw (hz true)).trans h2,by rw [ycn]; exact h3,fun j c hj=>?_,hz false⟩
        rw [yau] at hj
        obtain ⟨c0,hc0,rfl⟩:=yaG.1 hj
        exact ⟨zn3 hst hc (h4 j c0 hc0).1,(h4 j c0 hc0).2⟩
  · show @ARel i0 _ _ _ _ (if j<lim then znv (st.s j) else .junk)
    split
    · rename_i hj
      rw [hs j hj]
      exact zn3 hst hc (@Fr.slots (i1 m) _ _ _ _ _ fr j)
    · exact @ARel.junk i0 _ _ _ _
end
section
structure Jn [Nw] (w0:World) (G:GS) (h:Nat→Ent) (w:World):Prop where
  below:RowKit.Below w0.heap.size w0 w
  own:∀ k b,Owns G k b (h k).body→w0.heap.size≤b
  low:Nw.on=true→w0.heap.size≤Nw.n ∧ ∀ b,Nw.n≤b→0<G.St b→zd0 w b
theorem Jn.step [Nw] {w0:World} {G G':GS} {h h':Nat→Ent} {w w':World} (j:Jn w0 G h w) (s:Step G h w G' h' w'):Jn w0 G' h' w':=by
  refine ⟨⟨s.left.os.trans j.below.os,s.left.tape.trans j.below.tape,s.left.output.trans j.below.output,yac j.below.size s.left.size,fun b hb=>?_⟩,fun k b hk=>?_,fun hon=>⟨(j.low hon).1,fun b hb h0=>?_⟩⟩
  · exact (s.left.block b (yad hb j.below.size) (fun k hk=>by have:=j.own k b hk; omega)).1.trans (j.below.block b hb)
  · rcases s.grow k b hk with ⟨k',hk'⟩ | hle
    · exact j.own k' b hk'
    · exact yac j.below.size hle
  · rcases yaj (G.St b) with hz | hp
    · exact s.fresh b hz h0
    · exact s.ext.keeps.free b hp ((j.low hon).2 b hb hp)
def FinB (P:Program) (fn:Func) (w0:World):Exit→Act→World→Prop:=fun e a' w'=>(e = .normal∨e = .ret)∧a'.defers=[]∧(results fn a'.tmps).run P w' = .ok (.bool true) w'∧RowKit.Below w0.heap.size w0 w'
def Snd [Nw] (P:Program) (fn:Func) (res:List XRes) (w0:World) (x:XCode) (st:S):Prop:=cres P fn.results.toList=some res→P.follows .mixedOrders=true → ∀ (c:Code) (G:GS) (a:Act) (w:World),zc7 P fn.ntmps c=some x→Fr fn.ntmps G st a w→Jn w0 G st.h w→a.defers=[]→c.wp P (FinB P fn w0) a w
def Spd [Nw] (lim:Nat) (P:Program) (fn:Func) (res:List XRes) (w0:World) (x:XCode) (st:S):Prop:=cres P fn.results.toList=some res→P.follows .mixedOrders=true → ∀ (c:Code) (G:GS) (a a':Act) (w w':World),zc7 P fn.ntmps c=some x→Fr fn.ntmps G st a w→Jn w0 G st.h w→Chg (cutS true Nw.n G.St) w w'→a'.tmps.size=fn.ntmps→(∀ i,i<lim→a'.tmps.getD i undef=a.tmps.getD i undef)→a'.defers=[]→c.wp P (FinB P fn w0) a' w'
section
variable {P:Program} {fn:Func} {res:List XRes} {w0:World}
theorem zra [Nw] (hres:cres P fn.results.toList=some res) {G:GS} {st:S} {a:Act} {w:World} (fr:Fr fn.ntmps G st a w) (j:Jn w0 G st.h w) (hd:a.defers=[]) {e:Ex} (h:Ends res [.bool true] e st):FinB P fn w0 e.real a w:=by
  obtain ⟨he,vs,hrv,hds⟩:=h
  obtain ⟨us,h1,h2,h3⟩:=zed (P:=P) fr.inv fr.slots _ _ _ hres hrv
  have hrel:=zev fr.inv h2 h3 hds
  have hus:us=[.bool true]:=by
    obtain ⟨hl,hr⟩:=hrel
    have h0:=hr 0 (.bool true) rfl
    match us,hl,h0 with
    | [u],_,h0 =>
      simp only [List.getD_cons_zero] at h0
      cases h0
      rfl
  subst hus
  refine ⟨by rcases he with rfl | rfl; exact .inl rfl; exact .inr rfl,hd,zfi h1,j.below⟩
theorem Snd.last {nwI:Nw} {x:XCode} {st:S} (h:wpX P x (Ends res [.bool true]) st):Snd P fn res w0 x st:=fun hres hm c G a w hc fr j hd=>by
  refine wp_mono (zeg hm c x hc _ _ _ _ _ h fr) ?_
  rintro e a' w' ⟨ex,G',st',rfl,fr',hs,hd',hend⟩
  exact zra hres fr' (j.step hs) (hd'.trans hd) hend
theorem Snd.seq {nwI:Nw} {x y:XCode} {st:S} (h:wpX P x (Ex.then (Snd P fn res w0 y) (Ends res [.bool true])) st):Snd P fn res w0 (.seq x y) st:=fun hres hm c G a w hc fr j hd=>by
  obtain ⟨c1,c2,rfl,hc1,hc2⟩:=zkn hc
  refine wp_seq (wp_mono (zeg hm c1 x hc1 _ _ _ _ _ h fr) ?_)
  rintro e a' w' ⟨ex,G',st',rfl,fr',hs,hd',hend⟩
  cases ex with
  | normal=>exact hend hres hm c2 G' a' w' hc2 fr' (j.step hs) (hd'.trans hd)
  | exit id=>exact zra hres fr' (j.step hs) (hd'.trans hd) hend
  | ret=>exact zra hres fr' (j.step hs) (hd'.trans hd) hend
theorem Snd.cut {x:XCode} {st:S} (h:∀ m,@Snd (i1 m) P fn res w0 x (oldS st)):@Snd i0 P fn res w0 x st:=fun hres hm c G a w hc fr j hd=>by
  refine h w.heap.size hres hm c G a w hc (zww fr) ?_ hd
  refine @Jn.mk (i1 w.heap.size) _ _ _ _ (@Jn.below i0 _ _ _ _ j) (fun k b hk=>@Jn.own i0 _ _ _ _ j k b (zjx.1 hk)) fun _=>⟨(@Jn.below i0 _ _ _ _ j).size,fun b hb h0=>?_⟩
  have:=(@Fr.inv i0 _ _ _ _ _ fr).st b h0
  exact absurd hb (Nat.not_le.2 this)
theorem Spd.enter {nwI:Nw} (lim:Nat) {x:XCode} {st:S} (h:Spd lim P fn res w0 x st):Snd P fn res w0 x st:=fun hres hm c G a w hc fr j hd=>h hres hm c G a a w w hc fr j (.refl _ _) fr.size (fun _ _=>rfl) hd
theorem Spd.leave {lim m:Nat} {x:XCode} {st:S} (h:@Snd i0 P fn res w0 x (aftS lim st)):@Spd (i1 m) lim P fn res w0 x st:=fun hres hm c G a a' w w' hc fr j hch hsz hs hd=>by
  refine h hres hm c _ a' w' hc (zwe fr hch hsz hs) ?_ hd
  have jb:=@Jn.below (i1 m) _ _ _ _ j
  have jl:=(@Jn.low (i1 m) _ _ _ _ j rfl).1
  refine @Jn.mk i0 _ _ _ _ ⟨hch.os.trans jb.os,hch.tape.trans jb.tape,hch.output.trans jb.output,yac jb.size hch.size,fun b hb=>?_⟩ (fun k b hk=>@Jn.own (i1 m) _ _ _ _ j k b (zjv rfl hk)) fun h=>by cases h
  refine (hch.block b (yad hb jb.size) ?_).trans (jb.block b hb)
  show cutS true m G.St b=0
  have hm:¬ m≤b:=fun hle=>by have:w0.heap.size≤m:=jl; omega
  simp [cutS,hm]
theorem zwl {f:FuncId} {x:XFn} (hm:P.follows .mixedOrders=true) (hf:P.funcs[f]? = some fn) (hx:cfn P fn=some x) {ds:List D} (hl:ds.length=x.np) (hw:∀ w0,@Snd i0 P fn x.res w0 x.code ⟨zig ds,za3⟩):Pure P f ds [.bool true]:=by
  unfold cfn at hx
  split at hx
  · rename_i c hb
    split at hx
    · cases hx
    · rename_i hname
      split at hx
      · rename_i xc r hcc hres
        split at hx
        · rename_i hnp
          cases hx
          simp only at hl hw
          refine ⟨⟨fn,hf,hname,by rw [hb]; rfl⟩,fun St w vs hst hrel=>?_⟩
          refine calls_of_wp hf hb ?_
          have hvl:vs.length=ds.length:=hrel.1
          have fr:@Fr i0 fn.ntmps ⟨St,fun _=>⟨none,0⟩⟩ ⟨zig ds,za3⟩ { tmps:=vs.toArray ++ ybQ (fn.ntmps - vs.toArray.size) undef,defers:=[] } w:=by
            refine ⟨⟨hst,fun k=>trivial,fun k k' b h=>h.elim,yaR _⟩,fun i=>?_,by simp; omega⟩
            simp only [zig]
            cases hd:ds[i]? with
            | none =>
              have hge:ds.length≤i:=List.getElem?_eq_none_iff.1 hd
              have:(vs.toArray ++ ybQ (fn.ntmps - vs.toArray.size) undef).getD i undef=undef:=by
                rw [yaw,Array.getElem?_append_right (by simp; omega),Array.getElem?_replicate]
                split <;> rfl
              rw [this]
              exact .skip
            | some d =>
              have hlt:=(yae.1 hd).1
              have:(vs.toArray ++ ybQ (fn.ntmps - vs.toArray.size) undef).getD i undef=vs.getD i undef:=by
                rw [yaw,Array.getElem?_append_left (by simp; omega)]
                simp
              rw [this]
              exact .d _ _ (hrel.2 i d hd)
          refine wp_mono (hw w hres hm c _ _ _ hcc fr ⟨RowKit.Below.refl _ _,fun k b h=>h.elim,fun h=>by cases h⟩ rfl) ?_
          rintro e a' w' ⟨he,hd,hpost,hbel⟩
          have hR:∃ St' us',Ending.returned (.bool true) = .returned (za8 us')∧RelL St' w' us' [.bool true]∧RowKit.Below w.heap.size w w'∧(∀ b,b<w.heap.size→St' b=St b)∧(∀ b,0<St' b→b<w'.heap.size)∧(∀ b,w.heap.size≤b→0<St' b→zd0 w' b) :=
            ⟨St,[.bool true],rfl,⟨rfl,fun j d hj=>by
              cases j with
              | zero=>cases hj; exact .bool true
              | succ j=>cases hj⟩,hbel,fun _ _=>rfl,fun b hb=>yad (hst b hb) hbel.size,fun b hb h0=>by have:=hst b h0; omega⟩
          rcases he with rfl | rfl
          · exact ⟨hd,_,hpost,hR⟩
          · exact ⟨hd,_,hpost,hR⟩
        · cases hx
      · cases hx
  · cases hx
end
end
section
section
variable {fn:Func} {res:List XRes} {w0:World}
theorem zmc:zfl Try.prog zcf:=⟨_,Try.func24,by decide,rfl⟩
theorem zlh:zfl Try.prog zcz:=⟨_,Try.func25,by decide,rfl⟩
theorem zl2 {m:Nat} {G:GS} {h:Nat→Ent} {w w':World} (i:@Inv (i1 m) G h w) (j:@Jn (i1 m) w0 G h w) (hc:Chg (cutS true m G.St) w w'):∀ b,0<cutS true m G.St b→b<w'.heap.size∧zd0 w' b:=fun b hb=>by
  have hg:0<G.St b:=yad hb (zdo true m G.St b)
  have hm:m≤b:=by
    unfold cutS at hb
    by_cases hm:m≤b
    · exact hm
    · simp [hm] at hb
  exact ⟨yad (@Inv.st (i1 m) _ _ _ i b hg) hc.size,hc.free b ((@Jn.low (i1 m) _ _ _ _ j rfl).2 b hm hg)⟩
theorem Spd.terms {m lim e1 e2 j:Nat} {y:XCode} {st:S} {ks:List T} (hj:j<lim) (h1:lim≤e1) (h2:lim≤e2) (hs:st.s j = .n true (.sl 3 (ks.map eT))) (h:@Spd (i1 m) lim Try.prog fn res w0 y st) :
    @Spd (i1 m) lim Try.prog fn res w0 (.seq (.region [⟨some e1,.mv (.t j),none⟩,⟨some e2,.call (.c (.d (.clo zcz []))) [.t e1],none⟩] none) y) st:=fun hres hm c G a a' w w' hc fr jn hch hsz hsa hd=>by
  obtain ⟨c1,c2,rfl,hc1,hc2⟩:=zkn hc
  have i:=@Fr.inv (i1 m) _ _ _ _ _ fr
  have hr:=@Fr.slots (i1 m) _ _ _ _ _ fr j
  rw [hs] at hr
  have hch:Chg (cutS true m G.St) w w':=hch
  have hr:Rel (cutS true m G.St) w (a.tmps.getD j undef) (.sl 3 (ks.map eT)):=by
    generalize a.tmps.getD j undef=u at hr
    cases hr with
    | n _ _ _ _ hr=>exact hr
  obtain ⟨ks',_,hr'⟩:=zi9 ks _ _ w w' _ (fun b hb=>@Inv.st (i1 m) _ _ _ i b (yad hb (zdo true m G.St b))) hr hch
  have hcall:=zq4 ks' (cutS true m G.St) w' _ (zl2 i jn hch) hr'
  refine wp_seq (wp_mono (reg2 hc1 zlh hsz (R:=fun w2=>Chg (cutS true m G.St) w' w2) fun o ho=>?_) ?_)
  · exact ⟨a.tmps.getD j undef,by rw [zuu (zwn ho),hsa j hj],hcall⟩
  · rintro e a2 w2 ⟨rfl,hd2,hsz2,hsa2,hch2⟩
    exact h hres hm c2 G a a2 w w2 hc2 fr jn (hch.trans hch2) hsz2 (fun q hq=>(hsa2 q (by omega) (by omega)).trans (hsa q hq)) (hd2.trans hd)
theorem Spd.term {m lim e1 e2 j k v:Nat} {y:XCode} {st:S} {p q:Int} {ks:List T} (hj:j<lim) (h1:lim≤e1) (h2:lim≤e2) (hs:st.s j = .ptr k v 0) (hk:st.h k=⟨v,.box [.d (.int .i64 p),.d (.int .i64 q),.n true (.sl 3 (ks.map eT))] false⟩) (h:@Spd (i1 m) lim Try.prog fn res w0 y st) :
    @Spd (i1 m) lim Try.prog fn res w0 (.seq (.region [⟨some e1,.load 3 true (.t j),none⟩,⟨some e2,.call (.c (.d (.clo zcf []))) [.t e1],none⟩] none) y) st:=fun hres hm c G a a' w w' hc fr jn hch hsz hsa hd=>by
  obtain ⟨c1,c2,rfl,hc1,hc2⟩:=zkn hc
  have i:=@Fr.inv (i1 m) _ _ _ _ _ fr
  have hr:=@Fr.slots (i1 m) _ _ _ _ _ fr j
  rw [hs] at hr
  have he:=@Inv.ent (i1 m) _ _ _ i k
  rw [hk] at he
  obtain ⟨b,arr,el,hA,hh,hasz,hcells,hst0⟩:=he
  have hst0:G.St b=0:=hst0
  have hch:Chg (cutS true m G.St) w w':=hch
  have hp:a.tmps.getD j undef = .pointer (some ⟨b,0,none⟩):=by
    generalize a.tmps.getD j undef=u at hr
    cases hr with
    | ptr _ _ _ _ _ _ hv =>
      obtain ⟨b',hA',hv'⟩:=hv (by rw [hk]) _ _ (by rw [hk])
      rw [hA] at hA'
      cases hA'
      exact hv'
  have hbw:=(yay.1 hh).1
  have hh':w'.heap[b]? = some (.cells arr el (0,0)):=(hch.block b hbw (ybV fun hp=>by have:=zdo true m G.St b; omega)).trans hh
  have hc2':=(hcells 2 _ rfl).1
  have hr2:Rel (cutS true m G.St) w (arr.getD 2 undef) (.sl 3 (ks.map eT)):=by
    generalize arr.getD 2 undef=u at hc2'
    cases hc2' with
    | n _ _ _ _ hr=>exact hr
  obtain ⟨ks',_,hr'⟩:=zi9 ks _ _ w w' _ (fun b hb=>@Inv.st (i1 m) _ _ _ i b (yad hb (zdo true m G.St b))) hr2 hch
  have i':@Inv i0 ⟨cutS true m G.St,fun _=>⟨some ⟨b,0,none⟩,0⟩⟩ (fun q'=>if q'=k then ⟨v,.box [.d (.int .i64 p),.d (.int .i64 q),.d (.sl 3 (ks'.map eT))] false⟩ else ⟨0,.dead⟩) w':=by
    refine @Inv.mk i0 _ _ _ (fun b hb=>(zl2 i jn hch b hb).1) (fun q'=>?_) (fun k1 k2 b' g1 g2=>?_) (yaR _)
    · by_cases hq:q'=k
      · simp only [hq,if_true]
        refine ⟨b,arr,el,rfl,hh',hasz,fun j' c' hj'=>?_,ybV fun hp=>by have:=zdo true m G.St b; have:0<cutS true m G.St b:=hp; omega⟩
        have hone:∀ z,z<3→(arr.getD z undef).oneCell'=true:=fun z hz=>by
          match z,hz with
          | 0,_=>exact (hcells 0 _ rfl).2
          | 1,_=>exact (hcells 1 _ rfl).2
          | 2,_=>exact (hcells 2 _ rfl).2
        match j',hj' with
        | 0,hj' =>
          cases hj'
          exact ⟨@ARel.d i0 _ _ _ _ _ ((@ARel.d_inv (i1 m) _ _ _ _ _ (hcells 0 _ rfl).1).flat rfl),hone 0 (by omega)⟩
        | 1,hj' =>
          cases hj'
          exact ⟨@ARel.d i0 _ _ _ _ _ ((@ARel.d_inv (i1 m) _ _ _ _ _ (hcells 1 _ rfl).1).flat rfl),hone 1 (by omega)⟩
        | 2,hj' =>
          cases hj'
          exact ⟨@ARel.d i0 _ _ _ _ _ hr',hone 2 (by omega)⟩
      · simp only [hq,if_false]
        exact trivial
    · by_cases q1:k1=k
      · by_cases q2:k2=k
        · rw [q1,q2]
        · simp only [q2,if_false] at g2
          exact g2.elim
      · simp only [q1,if_false] at g1
        exact g1.elim
  have hptr:@ARel i0 ⟨cutS true m G.St,fun _=>⟨some ⟨b,0,none⟩,0⟩⟩ (fun q'=>if q'=k then ⟨v,.box [.d (.int .i64 p),.d (.int .i64 q),.d (.sl 3 (ks'.map eT))] false⟩ else ⟨0,.dead⟩) w' (a'.tmps.getD j undef) (.ptr k v 0):=by
    refine @ARel.ptr i0 _ _ _ _ _ _ _ (by rw [hsa j hj,hp]; rfl) (by simp) fun _ cs fz _=>⟨b,rfl,by rw [hsa j hj,hp]⟩
  have hld:∀ t,sz? Try.prog t=some 3→ag? Try.prog t=some true → ∃ ad u,a'.tmps.getD j undef = .pointer (some ad)∧(loadVar t ad).run Try.prog w' = .ok u w'∧Rel (cutS true m G.St) w' u (.agg (cT (.mk p q ks'))):=fun t hn hg=>by
    obtain ⟨ad,u,h1,h2,h3⟩:=@zj0 i0 Try.prog _ _ _ i' t _ _ (.agg [.d (.int .i64 p),.d (.int .i64 q),.d (.sl 3 (ks'.map eT))]) hptr 3 true hn hg (by simp [zi0,cut,zif])
    refine ⟨ad,u,h1,h2,?_⟩
    cases h3 with
    | agg vs _ hn hr =>
      refine .agg vs _ (by simpa [cT] using hn) fun j c hj=>?_
      match j,hj with
      | 0,hj=>cases hj; exact @ARel.d_inv i0 _ _ _ _ _ (hr 0 _ rfl)
      | 1,hj=>cases hj; exact @ARel.d_inv i0 _ _ _ _ _ (hr 1 _ rfl)
      | 2,hj=>cases hj; exact @ARel.d_inv i0 _ _ _ _ _ (hr 2 _ rfl)
  refine wp_seq (wp_mono (reg2 hc1 zmc hsz (R:=fun w2=>Chg (cutS true m G.St) w' w2) fun o ho=>?_) ?_)
  · obtain ⟨t,ho,hn,hg⟩:=zrs ho
    obtain ⟨ad,u,hu1,hu2,hu3⟩:=hld t hn hg
    exact ⟨u,zq9 ho hu1 hu2,zof _ (cutS true m G.St) w' u (zl2 i jn hch) hu3⟩
  · rintro e a2 w2 ⟨rfl,hd2,hsz2,hsa2,hch2⟩
    exact h hres hm c2 G a a2 w w2 hc2 fr jn (hch.trans hch2) hsz2 (fun q hq=>(hsa2 q (by omega) (by omega)).trans (hsa q hq)) (hd2.trans hd)
end
end
section
theorem Snd.seqF {nwI:Nw} {P:Program} {fn:Func} {res:List XRes} {w0:World} {x y:XCode} {st:S} (F:S→Prop) (h:∀ K:S→Prop,(∀ st',F st'→K st')→wpX P x (Ex.then K (Ends res [.bool true])) st) (k:∀ st',F st'→Snd P fn res w0 y st'):Snd P fn res w0 (.seq x y) st:=.seq (h _ k)
def VZ (js:List Nat) (st:S):Prop:=∀ j ∈ js,(st.h j).ver=0
def SO (j e:Nat) (q:D→AV) (t:T) (n:Int) (st:S):Prop:=st.s j = .ptr j 1 0∧st.h j=⟨1,.box [.d (.int .i64 t.kind),.d (.int .i64 t.num),q (.sl 3 (t.kids.map eT))] false⟩∧st.s e = .d (.int .i64 n)
end
section
attribute [local simp] zah zai tk tn tks zi1 zku
mutual
def mapT (f:Int→Int→T):T→Int→T
  | .mk k n ks,b=>if k=1 then f n b else .mk k n (mapL f k b 0 ks)
def mapL (f:Int→Int→T) (k b:Int):Nat→List T→List T
  | _,[]=>[]
  | i,x :: xs=>mapT f x (b+zaf k i) :: mapL f k b (i+1) xs
end
theorem ze9 (f:Int→Int→T) (k b:Int):∀ (l:List T) (i:Nat),(mapL f k b i l).length=l.length
  | [],i=>by simp [mapL]
  | x :: xs,i=>by simp [mapL,ze9 f k b xs (i+1)]
theorem zgf (f:Int→Int→T) (k b:Int):∀ (l:List T) (i j:Nat) (h:j<l.length),(mapL f k b i l)[j]'(by rw [ze9]; exact h)=mapT f l[j] (b+zaf k (i+j:Nat))
  | x :: xs,i,0,h=>by simp [mapL]
  | x :: xs,i,j+1,h=>by
    have:=zgf f k b xs (i+1) j (by simpa using h)
    simp only [mapL,ycp]
    rw [this]
    congr 3
    omega
inductive VokT:T→Prop
  | mk (k n:Int) (ks:List T) (hv:k=1→0≤n∧n≤65535) (hz:k=1∨k=2∨k=3→ks=[]) (hl:ks.length≤1000) (h:∀ x ∈ ks,VokT x):VokT (.mk k n ks)
theorem VokT.out {k n:Int} {ks:List T} (h:VokT (.mk k n ks)):(k=1→(0≤n∧n≤65535)∧ks=[])∧ks.length≤1000 ∧ ∀ x ∈ ks,VokT x:=by
  cases h with
  | mk _ _ _ a z b c=>exact ⟨fun h=>⟨a h,z (.inl h)⟩,b,c⟩
theorem VokT.leaf {k n:Int} {ks:List T} (h:VokT (.mk k n ks)):k=1∨k=2∨k=3→ks=[]:=by
  cases h with
  | mk _ _ _ a z b c=>exact z
theorem zk5 (t:T):zab t=true→VokT t:=by
  refine T.ind (p:=fun t=>zab t=true→VokT t) ?_ t
  intro k n ks ih h
  refine .mk _ _ _ (fun hk=>zdr hk h) (fun hk=>?_) (zqh _ h).kids.1 fun x hx=>ih x hx (zbc h x hx)
  rw [zaq] at h
  have h0:zct k=0:=by rcases hk with rfl | rfl | rfl <;> rfl
  rw [h0] at h
  split at h
  · rename_i hl; simpa using hl
  · cases h
theorem zuv (f:Int→Int→T) (g:FuncId) (caps:List D) (hf:∀ n b:Int,0≤n→n≤65535→0≤b→b≤1099511627776→Pure Try.prog g (.int .i64 n :: .int .i64 b :: caps) [.agg (cT (f n b))]) (t:T):∀ b:Int,VokT t→0≤b→b+zac t≤1099511627776 →
    Pure Try.prog zck [.agg (cT t),.int .i64 b,.clo g caps] [.agg (cT (mapT f t b))]:=by
  refine T.ind (p:=fun t=>∀ b:Int,VokT t→0≤b→b+zac t≤1099511627776→Pure Try.prog zck [.agg (cT t),.int .i64 b,.clo g caps] [.agg (cT (mapT f t b))]) ?_ t
  intro k n ks ih b hvk h0 hb
  obtain ⟨hvn,hl,hsk⟩:=hvk.out
  refine zo2 rfl fun hs=>?_
  simp -dsimp [zga,cT]
  (first | refine zaj ?_ ?_ | refine zak ?_ ?_) <;> intro h1 <;> (try simp only [nrm] at h1) <;> simp -dsimp [h1]
  · have hn:=(hvn h1).1
    refine zaa (hf n b hn.1 hn.2 h0 (by omega)) ?_
    rw [mapT,if_pos h1]
    simp -dsimp [h1,cT]
  have hM:mapT f (.mk k n ks) b = .mk k n (mapL f k b 0 ks):=by rw [mapT,if_neg h1]
  rw [hM]
  by_cases hz:ks=[]
  · subst hz
    simp -dsimp [h1,mapL]
  simp -dsimp [h1,hz]
  have r1:(ks.length:Int)*40≤(zao:Int):=by simp only [zao]; omega
  have r2:ks.length≤zao:=by simp only [zao]; omega
  have hll:(mapL f k b 0 ks).length=ks.length:=ze9 f k b ks 0
  simp -dsimp [h1,hz,r1,r2]
  refine zaw ks.length (fun i st=>st.s 3 = .ptr 3 1 0∧st.h 3=⟨1,.box [.d (.int .i64 k),.d (.int .i64 n),.d (.sl 3 (ks.map eT))] false⟩∧st.s 1 = .d (.int .i64 b)∧st.s 2 = .d (.clo g caps) ∧
    st.s 6 = .ptr 6 1 0∧st.h 6=⟨1,.box [.d (.int .i64 0),.d (.int .i64 0),.fsl 3 []] false⟩∧st.s 7 = .rsl 27 1∧st.s 29 = .d (.sl 3 (ks.map eT))∧st.s 30 = .d (.int .i64 ks.length)∧st.s 31 = .d (.int .i64 i) ∧
    st.h 27=⟨1,.row 3 (((mapL f k b 0 ks).map eT).take i ++ List.replicate (ks.length - i) (D.agg [.int .i64 0,.int .i64 0,.sl 3 []])) false⟩) ?_ ?_
  · simp -dsimp
  · rintro i ⟨s,hp⟩ hi ⟨g1,g2,g3,g4,g5,g6,g7,g8,g9,g10,g11⟩
    dsimp only at g1 g2 g3 g4 g5 g6 g7 g8 g9 g10 g11
    rcases ybm i ks.length with hlt | hge
    · have w1:IntKind.i64.wrap ((i:Int)+1)=(i:Int)+1:=zag (by omega) (by omega)
      have hbl:=zcd k i
      have hnk:=zbs (k:=k) (n:=n) (yaf hlt:ks[i] ∈ ks)
      have w2:IntKind.i64.wrap (b+zaf k i)=b+zaf k i:=zag (by omega) (by omega)
      simp -dsimp [g1,g2,g3,g4,g5,g6,g7,g8,g9,g10,g11,hlt,cT]
      refine zaa (zhr k i) ?_
      simp -dsimp [g1,g2,g3,g4,g5,g6,g7,g8,g9,g10,g11,hlt,w2]
      refine zaa (ih ks[i] (yaf _) (b+zaf k i) (hsk _ (yaf _)) (by omega) (by omega)) ?_
      have q1:(i:Int)<((min i ks.length:Nat):Int)+((ks.length - i:Nat):Int):=by omega
      have q2:i<min i ks.length+(ks.length - i):=by omega
      have hle:((mapL f k b 0 ks).map eT).length=ks.length:=by rw [ycn,hll]
      have hfn:=zmd (l:=(mapL f k b 0 ks).map eT) (z:=D.agg [.int .i64 0,.int .i64 0,.sl 3 []]) (i:=i) (by rw [hle]; exact hlt)
      have hel:((mapL f k b 0 ks).map eT)[i]'(by rw [hle]; exact hlt) = .agg (cT (mapT f ks[i] (b+zaf k i))):=by
        rw [ycq,zgf f k b ks 0 i hlt,zfg,ybj]
      rw [hel,hle] at hfn
      simp only [cT] at hfn
      simp -dsimp [g1,g2,g3,g4,g5,g6,g7,g8,g9,g10,g11,hlt,w1,w2,hll,q1,q2,cT,hfn]
    · have e:i=ks.length:=by omega
      subst e
      have ht:((mapL f k b 0 ks).map eT).take ks.length=(mapL f k b 0 ks).map eT:=ycc (by rw [ycn,hll]; exact yab _)
      rw [ht,ycl,ycr,ybp] at g11
      simp -dsimp [g1,g2,g3,g4,g5,g6,g7,g8,g9,g10,g11]
theorem zts (f:Int→Int→T) (g:FuncId) (caps:List D) (hf:∀ n b:Int,0≤n→n≤65535→0≤b→b≤1099511627776→Pure Try.prog g (.int .i64 n :: .int .i64 b :: caps) [.agg (cT (f n b))]) (t:T) (b:Int) (hfm:zab t=true) (h0:0≤b) (hb:b+zac t≤1099511627776) :
    Pure Try.prog zck [.agg (cT t),.int .i64 b,.clo g caps] [.agg (cT (mapT f t b))]:=zuv f g caps hf t b (zk5 t hfm) h0 hb
def zc6 (y:Int) (t:T):T:=mapT (fun n b=>.mk 1 (if b≤n then w64 (n+y) else n) []) t 0
theorem zpi (n b y:Int):Pure Try.prog zb0 [.int .i64 n,.int .i64 b,.rp [.int .i64 y]] [.agg (cT (.mk 1 (if b≤n then w64 (n+y) else n) []))]:=by
  refine zjt rfl fun hs=>?_
  simp -dsimp [zde]
  (first | refine zaj ?_ ?_ | refine zak ?_ ?_) <;> intro h1 <;> (try simp only [nrm] at h1) <;> simp -dsimp [h1,w64]
  · refine zaa (v_ok _) ?_
    simp -dsimp [h1,w64,cT]
  · refine zaa (v_ok _) ?_
    simp -dsimp [h1,cT]
theorem zsj (t:T) (y:Int) (hs:zab t=true) (hn:zac t≤1099511627776):Pure Try.prog zd9 [.agg (cT t),.int .i64 y] [.agg (cT (zc6 y t))]:=by
  refine zlt rfl fun hs'=>?_
  simp -dsimp [zea,cT]
  refine zaa (zts (fun n b=>.mk 1 (if b≤n then w64 (n+y) else n) []) zb0 [.rp [.int .i64 y]] (fun n b _ _ _ _=>zpi n b y) t 0 hs (by omega) (by omega)) ?_
  simp -dsimp [zc6,cT]
mutual
def zc8:T→Int→Int
  | .mk k n ks,b=>zfo k b 0 (if k=1∧b≤n then n else -1) ks
def zfo (k b:Int):Nat→Int→List T→Int
  | _,a,[]=>a
  | i,a,x :: xs=>zfo k b (i+1) (mx a (zc8 x (b+zaf k i))) xs
end
theorem zla (k b:Int):∀ (l:List T) (i:Nat) (a:Int) (j:Nat) (h:j<l.length),zfo k b i a (l.take (j+1))=mx (zfo k b i a (l.take j)) (zc8 l[j] (b+zaf k (i+j:Nat)))
  | x :: xs,i,a,0,h=>by simp [zfo]
  | x :: xs,i,a,j+1,h=>by
    simp only [ycs,zfo,ycp]
    rw [zla k b xs (i+1) _ j (by simpa using h)]
    congr 4
    omega
theorem zvz (t:T):∀ b:Int,0≤b→b+zac t≤1099511627776→Pure Try.prog zd4 [.agg (cT t),.int .i64 b] [.int .i64 (zc8 t b)]:=by
  refine T.ind (p:=fun t=>∀ b:Int,0≤b→b+zac t≤1099511627776→Pure Try.prog zd4 [.agg (cT t),.int .i64 b] [.int .i64 (zc8 t b)]) ?_ t
  intro k n ks ih b h0 hb
  refine znb rfl fun hs=>?_
  have hl:=zec (t:=.mk k n ks) (fun d hd=>hs d (by simp at hd; simp [hd]))
  simp [T.kids] at hl
  have hF:zc8 (.mk k n ks) b=zfo k b 0 (if k=1∧b≤n then n else -1) ks:=by rw [zc8]
  have c1:k=1→b≤n→n=(if k=1∧b≤n then n else -1):=fun h1 h2=>(if_pos ⟨h1,h2⟩).symm
  have c2:¬(k=1∧b≤n) → -1=(if k=1∧b≤n then n else -1):=fun h=>(if_neg h).symm
  rw [hF]
  generalize (if k=1∧b≤n then n else -1)=A at c1 c2 ⊢
  simp -dsimp [zfx,cT]
  (first | refine zaj ?_ ?_ | refine zak ?_ ?_) <;> intro h1 <;> (try simp only [nrm] at h1) <;> simp -dsimp [h1]
  (first | refine zaj ?_ ?_ | refine zak ?_ ?_) <;> intro h2 <;> (try simp only [nrm] at h2) <;> simp -dsimp [h2,h1]
  all_goals
    refine zaw ks.length (fun i st=>st.s 2 = .ptr 2 1 0∧st.h 2=⟨1,.box [.d (.int .i64 k),.d (.int .i64 n),.d (.sl 3 (ks.map eT))] false⟩∧st.s 1 = .d (.int .i64 b)∧st.s 20 = .d (.sl 3 (ks.map eT))∧st.s 21 = .d (.int .i64 ks.length)∧st.s 22 = .d (.int .i64 i) ∧
      st.s 5 = .d (.int .i64 (zfo k b 0 A (ks.take i)))) ?_ ?_
    · simp -dsimp [zfo]
      first | exact ⟨h1.symm,c1 h1 h2⟩ | exact ⟨h1.symm,c2 (fun h=>h2 h.2)⟩ | exact c2 (fun h=>h1 h.1)
    · rintro i ⟨s,hp⟩ hi ⟨g1,g2,g3,g4,g5,g6,g7⟩
      dsimp only at g1 g2 g3 g4 g5 g6 g7
      rcases ybm i ks.length with hlt | hge
      · have w1:IntKind.i64.wrap ((i:Int)+1)=(i:Int)+1:=zag (by omega) (by omega)
        have hbl:=zcd k i
        have hnk:=zbs (k:=k) (n:=n) (yaf hlt:ks[i] ∈ ks)
        have w2:IntKind.i64.wrap (b+zaf k i)=b+zaf k i:=zag (by omega) (by omega)
        have hsn:=zla k b ks 0 A i hlt
        rw [ybj] at hsn
        simp -dsimp [g1,g2,g3,g4,g5,g6,g7,hlt,cT]
        refine zaa (zhr k i) ?_
        simp -dsimp [g1,g2,g3,g4,g5,g6,g7,hlt,w2]
        refine zaa (ih ks[i] (yaf _) (b+zaf k i) (by omega) (by omega)) ?_
        simp -dsimp [g1,g2,g3,g4,g5,g6,g7,hlt,w1,hsn,mx]
      · have e:i=ks.length:=by omega
        subst e
        rw [ycd] at g7
        simp -dsimp [g1,g2,g3,g4,g5,g6,g7]
structure Ag where
  t:T
  size:Int
  depth:Int
  free:Int
def cAg (a:Ag):List D:=cT a.t ++ [.int .i64 a.size,.int .i64 a.depth,.int .i64 a.free]
def eAg (a:Ag):D:=.agg (cAg a)
@[simp] theorem zxm (a:Ag):(eAg a).cells=cAg a:=rfl
def jobD (l:List Ag) (u:Int) (sc:Bool) (sz dp:Int):D:=.rp [.sl 6 (l.map eAg),.int .i64 u,.bool sc,.int .i64 sz,.int .i64 dp]
def za7 (len:Nat) (u n b:Int):Int:=if n<u+b∨(len:Int)≤n - (u+b) then -1 else len - 1 - (n - (u+b))
theorem zji (l:List Ag) (u:Int) (sc:Bool) (sz dp n b:Int) (hu:0≤u∧u≤65535) (hb:0≤b∧b≤1099511627776) (hn:0≤n∧n≤65535):Pure Try.prog zcl [jobD l u sc sz dp,.int .i64 n,.int .i64 b] [.int .i64 (za7 l.length u n b)]:=by
  refine zic rfl fun hs=>?_
  have hl:((l.length:Int))≤9223372036854775807:=by
    have:=hs (jobD l u sc sz dp) (by simp)
    simp -dsimp [jobD,small] at this
    omega
  have w1:IntKind.i64.wrap (u+b)=u+b:=zag (by omega) (by omega)
  have w2:IntKind.i64.wrap (n - (u+b))=n - (u+b):=zag (by omega) (by omega)
  have w3:IntKind.i64.wrap ((l.length:Int) - 1)=(l.length:Int) - 1:=zag (by omega) (by omega)
  simp -dsimp [zdm,jobD,w1,w2,w3]
  (first | refine zaj ?_ ?_ | refine zak ?_ ?_) <;> intro h1 <;> (try simp only [nrm] at h1) <;> simp -dsimp [h1,za7,w1,w2,w3]
  (first | refine zaj ?_ ?_ | refine zak ?_ ?_) <;> intro h2 <;> (try simp only [nrm] at h2) <;> simp -dsimp [h2,za7,h1,w1,w2,w3]
  have w4:IntKind.i64.wrap ((l.length:Int) - 1 - (n - (u+b)))=(l.length:Int) - 1 - (n - (u+b)):=zag (by omega) (by omega)
  rw [w4]
structure St3 where
  sc:Bool
  sz:Int
  dp:Int
def mn (a b:Int):Int:=if b<a then b else a
def zcv:Int:=1099511627776
mutual
def zfh (l:List Ag) (u:Int):T→Int→Int→St3→St3
  | .mk k n ks,b,d,st =>
    if k=1 then
      if 0≤za7 l.length u n b then match l[(za7 l.length u n b).toNat]? with
        | some a=>⟨if st.sc then true else if 0≤a.free then decide (65535<w64 (w64 (a.free+u)+b)) else false,mn (w64 (st.sz+a.size)) zcv,mx st.dp (w64 (d+a.depth))⟩
        | none=>st
      else ⟨st.sc,mn (w64 (st.sz+1)) zcv,mx st.dp (w64 (d+1))⟩
    else zf7 l u k b d 0 ⟨st.sc,mn (w64 (st.sz+1)) zcv,mx st.dp (w64 (d+1))⟩ ks
def zf7 (l:List Ag) (u k b d:Int):Nat→St3→List T→St3
  | _,st,[]=>st
  | i,st,x :: xs=>zf7 l u k b d (i+1) (zfh l u x (b+zaf k i) (w64 (d+1)) st) xs
end
theorem zis (l:List Ag) (u k b d:Int):∀ (xs:List T) (i:Nat) (st:St3) (j:Nat) (h:j<xs.length),zf7 l u k b d i st (xs.take (j+1))=zfh l u xs[j] (b+zaf k (i+j:Nat)) (w64 (d+1)) (zf7 l u k b d i st (xs.take j))
  | x :: xs,i,st,0,h=>by simp [zf7]
  | x :: xs,i,st,j+1,h=>by
    simp only [ycs,zf7,ycp]
    rw [zis l u k b d xs (i+1) _ j (by simpa using h)]
    congr 3
    omega
def jobC (c0:AV) (u:Int) (st:St3):List AV:=[c0,.d (.int .i64 u),.d (.bool st.sc),.d (.int .i64 st.sz),.d (.int .i64 st.dp)]
def jobH (k v:Nat) (b:Body) (e:Ent):Nat→Ent:=fun q=>if q=k then ⟨v,b⟩ else e
theorem zsu {G:GS} {h:Nat→Ent} {w:World} {v:Value} {d:D} (r:ARel G h w v (.d d)):small 8 d:=r.d_inv.small 8
theorem zlx {P:Program} {g:FuncId} {K:List Nat} {h0 h1:Nat→Ent} {rs:List D} {pre post:List AV} {cs:List D} (hm:MutC P g (pre ++ .d (.agg cs) :: post) K h0 rs h1):MutC P g (pre ++ .agg (cs.map .d) :: post) K h0 rs h1:=by
  obtain ⟨a1,a2,a3⟩:=hm
  refine ⟨a1,a2,fun G h w vs b1 b2 b3 b4 b5=>a3 G h w vs b1 b2 b3 (by simpa using b4) fun j a hj=>?_⟩
  rw [List.getElem?_append] at hj
  split at hj
  · rename_i hlt
    exact b5 j a (by rw [List.getElem?_append_left hlt]; exact hj)
  · rename_i hge
    cases hjj:j - pre.length with
    | zero =>
      rw [hjj] at hj
      simp at hj
      subst hj
      have:=b5 j (.agg (cs.map .d)) (by rw [ybX (by omega),hjj]; rfl)
      generalize hq:vs.getD j undef=q at this ⊢
      generalize hz:cs.map AV.d=zs at this
      cases this with
      | agg vs' _ hn hr =>
        subst hz
        refine .d _ _ (.agg vs' cs (by simpa using hn) fun i c hi=>?_)
        exact (hr i (.d c) (by rw [yau,hi]; rfl)).d_inv
    | succ i =>
      rw [hjj] at hj
      exact b5 j a (by rw [ybX (by omega),hjj]; simpa using hj)
theorem ztm {aa:List AV} {K:List Nat} {h0 h1:Nat→Ent} {rs:List D} (hl:aa.length=4) (hov:∀ k ∈ K,zou K (h1 k).body)
    (hw:∀ (h:Nat→Ent),(∀ k ∈ K,h k=h0 k)→(∀ d,AV.d d ∈ aa→small 8 d)→wpX Try.prog zb8.code (zku zb8.res rs K h1) ⟨zi1 aa,h⟩):MutC Try.prog zbd aa K h0 rs h1 :=
  zw0 hm Try.func95 ziz hl hov fun G h w vs hk hlen hr=>hw h hk fun d hd=>by
    obtain ⟨j,hj⟩:=List.mem_iff_getElem?.1 hd
    exact zsu (hr j _ hj)
theorem zvf (l:List Ag) (u:Int) (hu:0≤u∧u≤65535) (t:T):∀ (k v r rv:Nat) (b d:Int) (st:St3),k ≠ r→k ≠ 5→k ≠ 11→k ≠ 13→r ≠ 5→r ≠ 11→r ≠ 13→zab t=true→0≤b→b+zac t≤1099511627776 →
    MutC Try.prog zbd [.ptr k v 0,.d (.agg (cT t)),.d (.int .i64 b),.d (.int .i64 d)] [k,r] (jobH k v (.box (jobC (.rsl r rv) u st) false) ⟨rv,.row 6 (l.map eAg) false⟩) []
      (jobH k v (.box (jobC (.rsl r rv) u (zfh l u t b d st)) false) ⟨rv,.row 6 (l.map eAg) false⟩):=by
  refine T.ind (p:=fun t=>∀ (k v r rv:Nat) (b d:Int) (st:St3),k ≠ r→k ≠ 5→k ≠ 11→k ≠ 13→r ≠ 5→r ≠ 11→r ≠ 13→zab t=true→0≤b→b+zac t≤1099511627776 →
    MutC Try.prog zbd [.ptr k v 0,.d (.agg (cT t)),.d (.int .i64 b),.d (.int .i64 d)] [k,r] (jobH k v (.box (jobC (.rsl r rv) u st) false) ⟨rv,.row 6 (l.map eAg) false⟩) []
      (jobH k v (.box (jobC (.rsl r rv) u (zfh l u t b d st)) false) ⟨rv,.row 6 (l.map eAg) false⟩)) ?_ t
  intro kd n ks ih k v r rv b d st hkr hk5 hk11 hk13 hr5 hr11 hr13 hfm hb0 hb
  have hrk:r ≠ k:=Ne.symm hkr
  have n1:5 ≠ k:=Ne.symm hk5
  have n2:11 ≠ k:=Ne.symm hk11
  have n3:13 ≠ k:=Ne.symm hk13
  have n4:5 ≠ r:=Ne.symm hr5
  have n5:11 ≠ r:=Ne.symm hr11
  have n6:13 ≠ r:=Ne.symm hr13
  refine ztm rfl ?_ fun h hh hs=>?_
  · intro q hq
    simp only [jobH]
    split
    · intro c hc
      simp only [jobC,yaZ,yct,or_false] at hc
      rcases hc with rfl | rfl | rfl | rfl | rfl
      · exact .rsl _ _ (by simp)
      all_goals exact .d _
    · trivial
  have e1:h k=⟨v,.box (jobC (.rsl r rv) u st) false⟩:=by rw [hh k (by simp)]; simp [jobH]
  have e2:h r=⟨rv,.row 6 (l.map eAg) false⟩:=by rw [hh r (by simp)]; simp [jobH,hrk]
  simp only [jobC] at e1
  have hsm:=hs (.agg (cT (.mk kd n ks))) (by simp)
  simp -dsimp [cT,small] at hsm
  simp -dsimp [zb8,cT,jobC,jobH]
  (first | refine zaj ?_ ?_ | refine zak ?_ ?_) <;> intro g1 <;> (try simp only [nrm] at g1) <;> simp -dsimp [g1,e1,e2,hkr,hrk,hk5,hk11,hk13,hr5,hr11,hr13,n1,n2,n3,n4,n5,n6]
  · have hn:0≤n∧n≤65535:=by
      rw [zaq,g1] at hfm
      have h0:zct 1=0:=rfl
      rw [h0] at hfm
      split at hfm
      · simp only [if_true,ybJ] at hfm
        exact (zd5 _ _ _).1 hfm.1
      · cases hfm
    refine zjc (zji l u st.sc st.sz st.dp n b hu ⟨hb0,by omega⟩ hn) (by simp [D.flat]) ?_
    generalize hw:za7 l.length u n b=W
    have hL:zfh l u (.mk kd n ks) b d st=if 0≤W then match l[W.toNat]? with
        | some a=>⟨if st.sc then true else if 0≤a.free then decide (65535<w64 (w64 (a.free+u)+b)) else false,mn (w64 (st.sz+a.size)) zcv,mx st.dp (w64 (d+a.depth))⟩
        | none=>st
      else ⟨st.sc,mn (w64 (st.sz+1)) zcv,mx st.dp (w64 (d+1))⟩:=by rw [zfh,if_pos g1,hw]
    rw [hL]
    simp -dsimp [e1,e2,hkr,hrk,hk5,hk11,hk13,hr5,hr11,hr13,n1,n2,n3,n4,n5,n6,g1]
    (first | refine zaj ?_ ?_ | refine zak ?_ ?_) <;> intro g2 <;> (try simp only [nrm] at g2) <;> simp -dsimp [g2,e1,e2,hkr,hrk,hk5,hk11,hk13,hr5,hr11,hr13,n1,n2,n3,n4,n5,n6,g1]
    · have hlt:W.toNat<l.length:=by
        rw [za7] at hw
        split at hw <;> omega
      have hget:l[W.toNat]? = some l[W.toNat]:=yar hlt
      have hltI:W<(l.length:Int):=by omega
      simp -dsimp [e1,e2,hkr,hrk,hk5,hk11,hk13,hr5,hr11,hr13,n1,n2,n3,n4,n5,n6,g1,g2,hlt,hltI,hget,eAg,cAg,cT]
      cases hsc:st.sc with
      | true =>
        simp -dsimp [e1,e2,hkr,hrk,hk5,hk11,hk13,hr5,hr11,hr13,n1,n2,n3,n4,n5,n6,g1,g2,hlt,hltI,hget,eAg,cAg,cT,hsc]
        (simp -dsimp [jobH,hrk,jobC,mn,mx,zcv,w64,g2,hget,hsc]) <;> (first | exact ⟨rfl,rfl⟩ | exact ⟨rfl,rfl,rfl⟩)
      | false =>
        simp -dsimp [e1,e2,hkr,hrk,hk5,hk11,hk13,hr5,hr11,hr13,n1,n2,n3,n4,n5,n6,g1,g2,hlt,hltI,hget,eAg,cAg,cT,hsc]
        (first | refine zaj ?_ ?_ | refine zak ?_ ?_) <;> intro g3 <;> (try simp only [nrm] at g3) <;> simp -dsimp [g3,e1,e2,hkr,hrk,hk5,hk11,hk13,hr5,hr11,hr13,n1,n2,n3,n4,n5,n6,g1,g2,hlt,hltI,hget,eAg,cAg,cT,hsc]
        · (simp -dsimp [jobH,hrk,jobC,mn,mx,zcv,w64,g2,hget,hsc,g3]) <;> (first | exact ⟨rfl,rfl⟩ | exact ⟨rfl,rfl,rfl⟩)
        · (simp -dsimp [jobH,hrk,jobC,mn,mx,zcv,w64,g2,hget,hsc,g3]) <;> (first | exact ⟨rfl,rfl⟩ | exact ⟨rfl,rfl,rfl⟩)
    · (simp -dsimp [jobH,hrk,jobC,mn,mx,zcv,w64,g2]) <;> (first | exact ⟨rfl,rfl⟩ | exact ⟨rfl,rfl,rfl⟩)
  · have hL:zfh l u (.mk kd n ks) b d st=zf7 l u kd b d 0 ⟨st.sc,mn (w64 (st.sz+1)) zcv,mx st.dp (w64 (d+1))⟩ ks:=by rw [zfh,if_neg g1]
    rw [hL]
    have hks:ks.all zab=true:=by
      rw [zaq] at hfm
      split at hfm
      · split at hfm
        · rw [ybJ] at hfm; exact hfm.2
        · split at hfm
          · exact hfm
          · cases hfm
      · cases hfm
    generalize hA:(⟨st.sc,mn (w64 (st.sz+1)) zcv,mx st.dp (w64 (d+1))⟩:St3)=A
    refine zaw ks.length (fun i st'=>st'.s 0 = .ptr k v 0∧st'.s 2 = .d (.int .i64 b)∧st'.s 3 = .d (.int .i64 d)∧st'.s 5 = .ptr 5 ((h 5).ver+1) 0∧st'.h 5=⟨(h 5).ver+1,.box [.d (.int .i64 kd),.d (.int .i64 n),.d (.sl 3 (ks.map eT))] false⟩ ∧
      st'.s 100 = .d (.sl 3 (ks.map eT))∧st'.s 101 = .d (.int .i64 ks.length)∧st'.s 102 = .d (.int .i64 i) ∧
      st'.h k=⟨v,.box (jobC (.rsl r rv) u (zf7 l u kd b d 0 A (ks.take i))) false⟩∧st'.h r=⟨rv,.row 6 (l.map eAg) false⟩) ?_ ?_
    · simp -dsimp [e1,e2,hkr,hrk,hk5,hk11,hk13,hr5,hr11,hr13,n1,n2,n3,n4,n5,n6,g1,zf7,jobC]
      simp -dsimp [← hA,mn,mx,zcv,w64] <;> exact ⟨rfl,rfl⟩
    · rintro i ⟨s,hp⟩ hi ⟨f1,f2,f3,f4,f5,f6,f7,f8,f9,f10⟩
      dsimp only at f1 f2 f3 f4 f5 f6 f7 f8 f9 f10
      generalize (h 5).ver+1=v5 at f4 f5
      rcases ybm i ks.length with hlt | hge
      · have w1:IntKind.i64.wrap ((i:Int)+1)=(i:Int)+1:=zag (by omega) (by omega)
        have hbl:=zcd kd i
        have hnk:=zbs (k:=kd) (n:=n) (yaf hlt:ks[i] ∈ ks)
        have w2:IntKind.i64.wrap (b+zaf kd i)=b+zaf kd i:=zag (by omega) (by omega)
        simp only [jobC] at f9
        simp -dsimp [e1,e2,hkr,hrk,hk5,hk11,hk13,hr5,hr11,hr13,n1,n2,n3,n4,n5,n6,g1,f1,f2,f3,f4,f5,f6,f7,f8,f9,f10,hlt,cT]
        refine zjc (zhr kd i) (by simp [D.flat]) ?_
        simp -dsimp [e1,e2,hkr,hrk,hk5,hk11,hk13,hr5,hr11,hr13,n1,n2,n3,n4,n5,n6,g1,f1,f2,f3,f4,f5,f6,f7,f8,f9,f10,hlt,w2]
        generalize hX:zf7 l u kd b d 0 A (ks.take i)=X at f9
        have hrec:=ih ks[i] (yaf _) k v r rv (b+zaf kd i) (w64 (d+1)) X hkr hk5 hk11 hk13 hr5 hr11 hr13 (yaC.1 hks _ (yaf _)) (by omega) (by omega)
        have hrec2:=zlx (pre:=[.ptr k v 0]) (post:=[.d (.int .i64 (b+zaf kd i)),.d (.int .i64 (w64 (d+1)))]) hrec
        refine zjj hrec2 ?_ ?_
        · simp [jobH,jobC,hrk,f9,f10,upd,hkr,hk5,hk11,hk13,hr5,hr11,hr13]
        have hsn:=zis l u kd b d ks 0 A i hlt
        rw [ybj,hX] at hsn
        simp -dsimp [e1,e2,hkr,hrk,hk5,hk11,hk13,hr5,hr11,hr13,n1,n2,n3,n4,n5,n6,g1,zfb,zgb,jobH,f1,f2,f3,f4,f5,f6,f7,f8,f9,f10,hlt,w1,hsn]
      · have e:i=ks.length:=by omega
        subst e
        rw [ycd] at f9
        simp -dsimp [e1,e2,hkr,hrk,hk5,hk11,hk13,hr5,hr11,hr13,n1,n2,n3,n4,n5,n6,g1,f1,f2,f3,f4,f5,f6,f7,f8,f9,f10]
        simp [jobH,jobC,hrk]
theorem zxo (u n b:Int) (h:0≤u) (hb:0≤b):za7 0 u n b = -1:=by
  rw [za7,if_pos]
  omega
theorem zru (u:Int) (hu:0≤u∧u≤65535) (t:T):∀ (k v:Nat) (b d:Int) (st:St3),k ≠ 5→k ≠ 11→k ≠ 13→zab t=true→0≤b→b+zac t≤1099511627776 →
    MutC Try.prog zbd [.ptr k v 0,.d (.agg (cT t)),.d (.int .i64 b),.d (.int .i64 d)] [k] (jobH k v (.box (jobC (.fsl 6 []) u st) false) ⟨0,.dead⟩) []
      (jobH k v (.box (jobC (.fsl 6 []) u (zfh [] u t b d st)) false) ⟨0,.dead⟩):=by
  refine T.ind (p:=fun t=>∀ (k v:Nat) (b d:Int) (st:St3),k ≠ 5→k ≠ 11→k ≠ 13→zab t=true→0≤b→b+zac t≤1099511627776 →
    MutC Try.prog zbd [.ptr k v 0,.d (.agg (cT t)),.d (.int .i64 b),.d (.int .i64 d)] [k] (jobH k v (.box (jobC (.fsl 6 []) u st) false) ⟨0,.dead⟩) []
      (jobH k v (.box (jobC (.fsl 6 []) u (zfh [] u t b d st)) false) ⟨0,.dead⟩)) ?_ t
  intro kd n ks ih k v b d st hk5 hk11 hk13 hfm hb0 hb
  have n1:5 ≠ k:=Ne.symm hk5
  have n2:11 ≠ k:=Ne.symm hk11
  have n3:13 ≠ k:=Ne.symm hk13
  refine ztm rfl ?_ fun h hh hs=>?_
  · intro q hq
    simp only [jobH]
    split
    · intro c hc
      simp only [jobC,yaZ,yct,or_false] at hc
      rcases hc with rfl | rfl | rfl | rfl | rfl
      · exact .fsl _ _
      all_goals exact .d _
    · trivial
  have e1:h k=⟨v,.box (jobC (.fsl 6 []) u st) false⟩:=by rw [hh k (by simp)]; simp [jobH]
  simp only [jobC] at e1
  have hsm:=hs (.agg (cT (.mk kd n ks))) (by simp)
  simp -dsimp [cT,small] at hsm
  simp -dsimp [zb8,cT,jobC,jobH]
  (first | refine zaj ?_ ?_ | refine zak ?_ ?_) <;> intro g1 <;> (try simp only [nrm] at g1) <;> simp -dsimp [g1,e1,hk5,hk11,hk13,n1,n2,n3]
  · have hn:0≤n∧n≤65535:=by
      rw [zaq,g1] at hfm
      have h0:zct 1=0:=rfl
      rw [h0] at hfm
      split at hfm
      · simp only [if_true,ybJ] at hfm
        exact (zd5 _ _ _).1 hfm.1
      · cases hfm
    refine zjc (zji [] u st.sc st.sz st.dp n b hu ⟨hb0,by omega⟩ hn) (by simp [D.flat]) ?_
    have hw:za7 ([]:List Ag).length u n b = -1:=zxo u n b hu.1 hb0
    have hL:zfh [] u (.mk kd n ks) b d st=⟨st.sc,mn (w64 (st.sz+1)) zcv,mx st.dp (w64 (d+1))⟩:=by rw [zfh,if_pos g1,hw,if_neg (by omega)]
    rw [hL,hw]
    simp -dsimp [e1,hk5,hk11,hk13,n1,n2,n3,g1]
    simp -dsimp [jobH,jobC,mn,mx,zcv,w64] <;> (first | exact ⟨rfl,rfl⟩ | exact ⟨rfl,rfl,rfl⟩)
  · have hL:zfh [] u (.mk kd n ks) b d st=zf7 [] u kd b d 0 ⟨st.sc,mn (w64 (st.sz+1)) zcv,mx st.dp (w64 (d+1))⟩ ks:=by rw [zfh,if_neg g1]
    rw [hL]
    have hks:ks.all zab=true:=by
      rw [zaq] at hfm
      split at hfm
      · split at hfm
        · rw [ybJ] at hfm; exact hfm.2
        · split at hfm
          · exact hfm
          · cases hfm
      · cases hfm
    generalize hA:(⟨st.sc,mn (w64 (st.sz+1)) zcv,mx st.dp (w64 (d+1))⟩:St3)=A
    refine zaw ks.length (fun i st'=>st'.s 0 = .ptr k v 0∧st'.s 2 = .d (.int .i64 b)∧st'.s 3 = .d (.int .i64 d)∧st'.s 5 = .ptr 5 ((h 5).ver+1) 0∧st'.h 5=⟨(h 5).ver+1,.box [.d (.int .i64 kd),.d (.int .i64 n),.d (.sl 3 (ks.map eT))] false⟩ ∧
      st'.s 100 = .d (.sl 3 (ks.map eT))∧st'.s 101 = .d (.int .i64 ks.length)∧st'.s 102 = .d (.int .i64 i) ∧
      st'.h k=⟨v,.box (jobC (.fsl 6 []) u (zf7 [] u kd b d 0 A (ks.take i))) false⟩) ?_ ?_
    · simp -dsimp [e1,hk5,hk11,hk13,n1,n2,n3,g1,zf7,jobC]
      simp -dsimp [← hA,mn,mx,zcv,w64] <;> exact ⟨rfl,rfl⟩
    · rintro i ⟨s,hp⟩ hi ⟨f1,f2,f3,f4,f5,f6,f7,f8,f9⟩
      dsimp only at f1 f2 f3 f4 f5 f6 f7 f8 f9
      generalize (h 5).ver+1=v5 at f4 f5
      rcases ybm i ks.length with hlt | hge
      · have w1:IntKind.i64.wrap ((i:Int)+1)=(i:Int)+1:=zag (by omega) (by omega)
        have hbl:=zcd kd i
        have hnk:=zbs (k:=kd) (n:=n) (yaf hlt:ks[i] ∈ ks)
        have w2:IntKind.i64.wrap (b+zaf kd i)=b+zaf kd i:=zag (by omega) (by omega)
        simp only [jobC] at f9
        simp -dsimp [e1,hk5,hk11,hk13,n1,n2,n3,g1,f1,f2,f3,f4,f5,f6,f7,f8,f9,hlt,cT]
        refine zjc (zhr kd i) (by simp [D.flat]) ?_
        simp -dsimp [e1,hk5,hk11,hk13,n1,n2,n3,g1,f1,f2,f3,f4,f5,f6,f7,f8,f9,hlt,w2]
        generalize hX:zf7 [] u kd b d 0 A (ks.take i)=X at f9
        have hrec:=ih ks[i] (yaf _) k v (b+zaf kd i) (w64 (d+1)) X hk5 hk11 hk13 (yaC.1 hks _ (yaf _)) (by omega) (by omega)
        have hrec2:=zlx (pre:=[.ptr k v 0]) (post:=[.d (.int .i64 (b+zaf kd i)),.d (.int .i64 (w64 (d+1)))]) hrec
        refine zjj hrec2 ?_ ?_
        · simp [jobH,jobC,f9,upd,hk5,hk11,hk13]
        have hsn:=zis [] u kd b d ks 0 A i hlt
        rw [ybj,hX] at hsn
        simp -dsimp [e1,hk5,hk11,hk13,n1,n2,n3,g1,zfb,zgb,jobH,f1,f2,f3,f4,f5,f6,f7,f8,f9,hlt,w1,hsn]
      · have e:i=ks.length:=by omega
        subst e
        rw [ycd] at f9
        simp -dsimp [e1,hk5,hk11,hk13,n1,n2,n3,g1,f1,f2,f3,f4,f5,f6,f7,f8,f9]
        simp [jobH,jobC]
def agOf (x:T):Ag:=⟨x,zcr x,zbn x,zc8 x 0⟩
def zg1:List T→Int
  | []=>0
  | x :: xs=>if zat x=0 then zg1 xs else zat x
theorem zlf:∀ (l:List T) (i:Nat) (h:i<l.length),(∀ (j:Nat) (hj:j<l.length),j<i→zat l[j]=0)→zat l[i] ≠ 0→zg1 l=zat l[i]
  | x :: xs,0,h,_,hn=>by simp only [ycm] at hn ⊢; rw [zg1,if_neg hn]
  | x :: xs,i+1,h,ha,hn=>by
    have h0:=ha 0 (by simp) (by omega)
    simp only [ycm] at h0
    rw [zg1,if_pos h0]
    simp only [ycp] at hn ⊢
    exact zlf xs i (by simpa using h) (fun j hj hji=>by have:=ha (j+1) (by simpa using hj) (by omega); simpa using this) hn
theorem zki:∀ (l:List T),(∀ (j:Nat) (hj:j<l.length),j<l.length→zat l[j]=0)→zg1 l=0
  | [],_=>rfl
  | x :: xs,ha=>by
    have h0:=ha 0 (by simp) (by simp)
    simp only [ycm] at h0
    rw [zg1,if_pos h0]
    exact zki xs fun j hj _=>by have:=ha (j+1) (by simpa using hj) (by simpa using hj); simpa using this
def zb9 (t:T) (l:List T) (u:Int):Int:=if zat t=0 then if zg1 l=0 then if u<0∨65535<u then 1 else 0 else zg1 l else zat t
def st0:St3:=⟨false,0,0⟩
def zba (t:T) (l:List T) (u:Int):St3:=zfh (l.map agOf) u t 0 0 st0
def ze5 (t:T) (l:List T) (u:Int):D:=if zb9 t l u=0 then jobD (l.map agOf) u (zba t l u).sc (zba t l u).sz (zba t l u).dp else .nilp
theorem znr (t:T) (l:List T) (u:Int) (ht:zac t≤549755813888) (hl:∀ x ∈ l,zac x≤549755813888) (hn:l.length≤2097152) :
    Pure Try.prog zey [.agg (cT t),eTs l,.int .i64 u] [ze5 t l u,.int .i64 (zb9 t l u)]:=by
  refine zmg rfl fun hs=>?_
  simp -dsimp [zfw,cT,eTs]
  refine zaa (zob t) ?_
  simp -dsimp
  (first | refine zaj ?_ ?_ | refine zak ?_ ?_) <;> intro h1 <;> (try simp only [nrm] at h1) <;> simp -dsimp [h1]
  · have hE:zb9 t l u=zat t:=by rw [zb9,if_neg h1]
    rw [ze5,hE,if_neg h1]
    simp -dsimp
  have hfm:=zke h1
  refine zaw l.length (fun i st=>st.s 2 = .d (.int .i64 u)∧st.s 3 = .ptr 3 1 0∧st.h 3=⟨1,.box [.d (.int .i64 t.kind),.d (.int .i64 t.num),.d (.sl 3 (t.kids.map eT))] false⟩ ∧
    st.s 9 = .ptr 20 1 0∧st.s 21 = .d (.sl 3 (l.map eT))∧st.s 22 = .d (.int .i64 l.length)∧st.s 23 = .d (.int .i64 i) ∧
    (∃ c0,st.h 20=⟨1,.box [c0,.d (.int .i64 u),.d (.bool false),.d (.int .i64 0),.d (.int .i64 0)] false⟩∧((i=0∧c0 = .fsl 6 []) ∨ ∃ v,c0 = .rsl 46 v∧st.h 46=⟨v,.row 6 ((l.map (eAg ∘ agOf)).take i) false⟩)) ∧
    ∀ (j:Nat) (hj:j<l.length),j<i→zat l[j]=0) ?_ ?_
  · simp -dsimp
  · rintro i ⟨s,hp⟩ hi ⟨g1,g2,g3,g4,g5,g6,g7,⟨c0,g8,g9⟩,g10⟩
    dsimp only at g1 g2 g3 g4 g5 g6 g7 g8 g9
    rcases ybm i l.length with hlt | hge
    · have w1:IntKind.i64.wrap ((i:Int)+1)=(i:Int)+1:=zag (by omega) (by omega)
      simp -dsimp [g1,g2,g3,g4,g5,g6,g7,g8,hlt,cT]
      refine zaa (zob l[i]) ?_
      simp -dsimp [g1,g2,g3,g4,g5,g6,g7,g8,hlt,cT]
      (first | refine zaj ?_ ?_ | refine zak ?_ ?_) <;> intro h2 <;> (try simp only [nrm] at h2) <;> simp -dsimp [h2,g1,g2,g3,g4,g5,g6,g7,g8,hlt,cT]
      · have hA:=zlf l i hlt g10 h2
        have hE:zb9 t l u=zat l[i]:=by rw [zb9,if_pos h1,if_neg (by rw [hA]; exact h2),hA]
        have hR:ze5 t l u = .nilp:=by rw [ze5,if_neg (by rw [hE]; exact h2)]
        simp -dsimp [hE,hR]
      refine zaa (zn9 l[i]) ?_
      simp -dsimp [g1,g2,g3,g4,g5,g6,g7,g8,hlt,cT]
      refine zaa (zm7 l[i]) ?_
      simp -dsimp [g1,g2,g3,g4,g5,g6,g7,g8,hlt,cT]
      have hln:=hl l[i] (yaf _)
      refine zaa (zvz l[i] 0 (by omega) (by omega)) ?_
      have hr:(min i l.length+1)*64≤zao:=by simp only [zao]; omega
      have hsn:(l.map (eAg ∘ agOf)).take i ++ [D.agg [.int .i64 l[i].kind,.int .i64 l[i].num,.sl 3 (l[i].kids.map eT),.int .i64 (zcr l[i]),.int .i64 (zbn l[i]),.int .i64 (zc8 l[i] 0)]]=(l.map (eAg ∘ agOf)).take (i+1) :=
        zhn (eAg ∘ agOf) (fun x=>cAg (agOf x)) (fun _=>rfl) l i hlt
      rcases g9 with ⟨rfl,rfl⟩ | ⟨v,rfl,g9⟩
      · have h64:64≤zao:=by decide
        simp only [ycu,ycv,ybj] at hsn
        simp at hlt w1
        simp -dsimp [g1,g2,g3,g4,g5,g6,g7,g8,hlt,cT,h64,w1]
        exact ⟨hsn, fun j hj hji => by have:j=0:=by omega
                                       subst this; exact h2⟩
      · simp -dsimp [g1,g2,g3,g4,g5,g6,g7,g8,g9,hlt,cT,hr,hsn,w1]
        intro j hj hji
        rcases ybm j i with h | h
        · exact g10 j hj h
        · have:j=i:=by omega
          subst this
          exact h2
    · have e:i=l.length:=by omega
      subst e
      have hA:=zki l g10
      simp -dsimp [g1,g2,g3,g4,g5,g6,g7,g8]
      have bad:(u<0∨65535<u)→ze5 t l u = .nilp∧zb9 t l u=1:=fun hu=>by
        have hE:zb9 t l u=1:=by rw [zb9,if_pos h1,if_pos hA,if_pos hu]
        exact ⟨by rw [ze5,hE]; rfl,hE⟩
      (first | refine zaj ?_ ?_ | refine zak ?_ ?_) <;> intro h3 <;> (try simp only [nrm] at h3) <;> simp -dsimp [h3,g1,g2,g3,g4,g5,g6,g7,g8]
      · simp -dsimp [bad (.inl h3)]
      (first | refine zaj ?_ ?_ | refine zak ?_ ?_) <;> intro h4 <;> (try simp only [nrm] at h4) <;> simp -dsimp [h4,g1,g2,g3,g4,g5,g6,g7,g8,h3]
      · simp -dsimp [bad (.inr h4)]
      have hE:zb9 t l u=0:=by rw [zb9,if_pos h1,if_pos hA,if_neg (by omega)]
      have hR:ze5 t l u=jobD (l.map agOf) u (zba t l u).sc (zba t l u).sz (zba t l u).dp:=by rw [ze5,if_pos hE]
      rw [hE,hR]
      have hu:0≤u∧u≤65535:=by omega
      have hnt:(0:Int)+zac t≤1099511627776:=by omega
      rcases g9 with ⟨hz,rfl⟩ | ⟨v,rfl,g9⟩
      · have hl0:l=[]:=ycw.1 hz
        subst hl0
        refine zjj (zlx (pre:=[.ptr 20 1 0]) (post:=[.d (.int .i64 0),.d (.int .i64 0)]) (zru u hu t 20 1 0 0 st0 (by omega) (by omega) (by omega) hfm (by omega) hnt)) ?_ ?_
        · simp [jobH,jobC,g8,st0]
        simp -dsimp [zfb,zgb,jobH,jobC,g1,g2,g3,g4,jobD,zba]
      · rw [ycc (by simp)] at g9
        rw [zf5]
        refine zjj (zlx (pre:=[.ptr 20 1 0]) (post:=[.d (.int .i64 0),.d (.int .i64 0)]) (zvf (l.map agOf) u hu t 20 1 46 v 0 0 st0 (by omega) (by omega) (by omega) (by omega) (by omega) (by omega) (by omega) hfm (by omega) hnt)) ?_ ?_
        · simp [jobH,jobC,g8,g9,st0]
        simp -dsimp [zfb,zgb,jobH,jobC,g1,g2,g3,g4,jobD,zba]
def zT:T:=.mk 0 0 []
def zas (l:List T) (u n b:Int):T :=
  if 0≤za7 l.length u n b then match l[(za7 l.length u n b).toNat]? with
    | some a=>zc6 (w64 (u+b)) a
    | none=>zT
  else .mk 1 (if u+b≤n then w64 (n - l.length) else n) []
theorem zr8 (l:List T) (u:Int) (sc:Bool) (sz dp:Int) (hu:0≤u∧u≤65535) (hl:∀ x ∈ l,zab x=true∧zac x≤549755813888) (n b:Int) (hn:0≤n) (hn':n≤65535) (hb:0≤b) (hb':b≤1099511627776) :
    Pure Try.prog zcb [.int .i64 n,.int .i64 b,.rp [jobD (l.map agOf) u sc sz dp],.rp [.int .i64 u],.rp [eTs l]] [.agg (cT (zas l u n b))]:=by
  refine zks rfl fun hs=>?_
  have w1:IntKind.i64.wrap (u+b)=u+b:=zag (by omega) (by omega)
  have w1':w64 (u+b)=u+b:=w1
  simp -dsimp [zdx,eTs]
  have hw:=zji (l.map agOf) u sc sz dp n b hu ⟨hb,hb'⟩ ⟨hn,hn'⟩
  rw [ycn] at hw
  refine zaa hw ?_
  generalize hW:za7 l.length u n b=W
  have hI:zas l u n b=if 0≤W then match l[W.toNat]? with
    | some a=>zc6 (w64 (u+b)) a
    | none=>zT
    else .mk 1 (if u+b≤n then w64 (n - l.length) else n) []:=by rw [zas,hW]
  simp -dsimp
  (first | refine zaj ?_ ?_ | refine zak ?_ ?_) <;> intro g1 <;> (try simp only [nrm] at g1) <;> simp -dsimp [g1]
  · have hlt:W.toNat<l.length:=by
      rw [za7] at hW
      split at hW <;> omega
    have hget:l[W.toNat]? = some l[W.toNat]:=yar hlt
    have hI2:zas l u n b=zc6 (w64 (u+b)) l[W.toNat]:=by rw [hI,if_pos g1,hget]
    rw [hI2,w1']
    simp -dsimp [jobD,g1,hlt,w1,agOf,cAg,eAg,cT]
    obtain ⟨hf,hnn⟩:=hl l[W.toNat] (yaf _)
    refine zaa (zsj l[W.toNat] (u+b) hf (by omega)) ?_
    simp -dsimp [cT]
  · have hI2:zas l u n b = .mk 1 (if u+b≤n then w64 (n - l.length) else n) []:=by rw [hI,if_neg g1]
    rw [hI2]
    simp -dsimp [g1,w1]
    (first | refine zaj ?_ ?_ | refine zak ?_ ?_) <;> intro g2 <;> (try simp only [nrm] at g2) <;> simp -dsimp [g2,g1,w1]
    · refine zaa (v_ok _) ?_
      simp -dsimp [g2,cT,w64]
    · refine zaa (v_ok _) ?_
      simp -dsimp [g2,cT,w64]
def zb3 (t:T) (l:List T) (u:Int):Int :=
  if zb9 t l u=0 then if (zba t l u).sc then 6 else if 6000<(zba t l u).sz then 4 else if 200<(zba t l u).dp then 5 else 0 else zb9 t l u
def zd8 (t:T) (l:List T) (u:Int):T:=if zb3 t l u=0 then mapT (zas l u) t 0 else zT
theorem zeh {t:T} {l:List T} {u:Int} (h:zb9 t l u=0):zab t=true∧(∀ x ∈ l,zab x=true)∧0≤u∧u≤65535:=by
  rw [zb9] at h
  by_cases h1:zat t=0
  · rw [if_pos h1] at h
    by_cases h2:zg1 l=0
    · rw [if_pos h2] at h
      refine ⟨zke h1,?_,?_⟩
      · clear h h1
        induction l with
        | nil=>simp
        | cons x xs ih =>
          rw [zg1] at h2
          by_cases h3:zat x=0
          · rw [if_pos h3] at h2
            intro y hy
            rcases yaZ.1 hy with rfl | hy
            · exact zke h3
            · exact ih h2 y hy
          · rw [if_neg h3] at h2; exact absurd h2 h3
      · by_cases h3:u<0∨65535<u
        · rw [if_pos h3] at h; cases h
        · omega
    · rw [if_neg h2] at h; exact absurd h h2
  · rw [if_neg h1] at h; exact absurd h h1
theorem zvx (t:T) (l:List T) (u:Int) (ht:zac t≤549755813888) (hl:∀ x ∈ l,zac x≤549755813888) (hn:l.length≤2097152) :
    Pure Try.prog zd1 [.agg (cT t),eTs l,.int .i64 u] [.agg (cT (zd8 t l u)),.int .i64 (zb3 t l u)]:=by
  refine zm3 rfl fun hs=>?_
  simp -dsimp [zes,cT,eTs]
  refine zaa (znr t l u ht hl hn) ?_
  by_cases h1:zb9 t l u=0
  · have hR:ze5 t l u=jobD (l.map agOf) u (zba t l u).sc (zba t l u).sz (zba t l u).dp:=by rw [ze5,if_pos h1]
    obtain ⟨f1,f2,f3⟩:=zeh h1
    have hE:zb3 t l u=if (zba t l u).sc then 6 else if 6000<(zba t l u).sz then 4 else if 200<(zba t l u).dp then 5 else 0:=by rw [zb3,if_pos h1]
    generalize zba t l u=st at hR hE
    obtain ⟨sc,sz,dp⟩:=st
    have bad:zb3 t l u ≠ 0→zd8 t l u=zT:=fun h=>by rw [zd8,if_neg h]
    rw [hR,h1]
    cases sc with
    | true =>
      have hE1:zb3 t l u=6:=by rw [hE]; rfl
      have hT:=bad (by omega)
      simp -dsimp [jobD,hE1,hT,zT,cT]
    | false =>
      simp -dsimp [jobD]
      (first | refine zaj ?_ ?_ | refine zak ?_ ?_) <;> intro h2 <;> (try simp only [nrm] at h2) <;> simp -dsimp [h2]
      · have hE1:zb3 t l u=4:=by rw [hE]; simp [h2]
        have hT:=bad (by omega)
        simp -dsimp [hE1,hT,zT,cT]
      (first | refine zaj ?_ ?_ | refine zak ?_ ?_) <;> intro h3 <;> (try simp only [nrm] at h3) <;> simp -dsimp [h3,h2]
      · have hE1:zb3 t l u=5:=by rw [hE]; simp [h2,h3]
        have hT:=bad (by omega)
        simp -dsimp [hE1,hT,zT,cT]
      have hE1:zb3 t l u=0:=by rw [hE]; simp [h2,h3]
      have hT:zd8 t l u=mapT (zas l u) t 0:=by rw [zd8,if_pos hE1]
      rw [hE1,hT]
      have hmap:=zts (zas l u) zcb [.rp [jobD (l.map agOf) u false sz dp],.rp [.int .i64 u],.rp [eTs l]] (fun n b a1 a2 a3 a4=>zr8 l u false sz dp f3 (fun x hx=>⟨f2 x hx,hl x hx⟩) n b a1 a2 a3 a4) t 0 f1 (by omega) (show (0:Int)+zac t≤1099511627776 by omega)
      have hj:jobD (l.map agOf) u false sz dp = .rp [.sl 6 (l.map (eAg ∘ agOf)),.int .i64 u,.bool false,.int .i64 sz,.int .i64 dp]:=by simp [jobD]
      rw [hj] at hmap
      refine zaa hmap ?_
      simp -dsimp [h2,h3,cT]
  · have hR:ze5 t l u = .nilp:=by rw [ze5,if_neg h1]
    have hE:zb3 t l u=zb9 t l u:=by rw [zb3,if_neg h1]
    have hT:zd8 t l u=zT:=by rw [zd8,hE,if_neg h1]
    rw [hR,hE,hT]
    simp -dsimp [h1,zT,cT]
theorem zmj (t:T) (l:List T) (u:Int) (ht:zac t≤549755813888) (hl:∀ x ∈ l,zac x≤549755813888) (hn:l.length≤2097152) :
    Pure Try.prog zdy [.agg (cT t),eTs l,.int .i64 u] [.int .i64 (if zb9 t l u=0 then (zba t l u).sz else 0)]:=by
  refine zkq rfl fun hs=>?_
  simp -dsimp [zez,cT,eTs]
  refine zaa (znr t l u ht hl hn) ?_
  by_cases h1:zb9 t l u=0
  · have hR:ze5 t l u=jobD (l.map agOf) u (zba t l u).sc (zba t l u).sz (zba t l u).dp:=by rw [ze5,if_pos h1]
    rw [hR,h1,if_pos rfl]
    simp -dsimp [jobD]
  · have hR:ze5 t l u = .nilp:=by rw [ze5,if_neg h1]
    rw [hR,if_neg h1]
    simp -dsimp [h1]
theorem zph (a b:Int):mn a b=min a b:=by rw [mn]; split <;> omega
theorem zls (f:Int→Int→T) (k b:Int) (g:T→Nat):∀ (l:List T) (i:Nat),(∀ x ∈ l,∀ c,g (mapT f x c)=g x)→(mapL f k b i l).map g=l.map g
  | [],i,_=>by simp [mapL]
  | x :: xs,i,h=>by
    simp only [mapL,yaV]
    rw [h x (by simp) _,zls f k b g xs (i+1) fun y hy=>h y (by simp [hy])]
theorem zo5 (f:Int→Int→T) (hf:∀ n b,zac (f n b)=1) (t:T):zab t=true → ∀ b,zac (mapT f t b)=zac t:=by
  refine T.ind (p:=fun t=>zab t=true → ∀ b,zac (mapT f t b)=zac t) ?_ t
  intro k n ks ih hfm b
  rw [mapT]
  by_cases h1:k=1
  · rw [if_pos h1,hf,zhz h1 hfm,zdv]
  · rw [if_neg h1,zac,zac,zls f k b zac ks 0 fun x hx c=>ih x hx (zbc hfm x hx) c]
theorem zpe (f:Int→Int→T) (hf:∀ n b,zal (f n b)=1) (t:T):zab t=true → ∀ b,zal (mapT f t b)=zal t:=by
  refine T.ind (p:=fun t=>zab t=true → ∀ b,zal (mapT f t b)=zal t) ?_ t
  intro k n ks ih hfm b
  rw [mapT]
  by_cases h1:k=1
  · rw [if_pos h1,hf,zhz h1 hfm,zdu]
  · rw [if_neg h1,zal,zal,zls f k b zal ks 0 fun x hx c=>ih x hx (zbc hfm x hx) c]
theorem zha {a:T} (h:zab a=true) (y:Int):zac (zc6 y a)=zac a:=zo5 _ (fun _ _=>zdv _ _) a h 0
theorem zkm {a:T} (h:zab a=true) (y:Int):zal (zc6 y a)=zal a:=zpe _ (fun _ _=>zdu _ _) a h 0
def zlu (a:T) (c:Int):Bool:=decide (0≤zc8 a 0) && decide (65535<zc8 a 0+c)
mutual
def scI (l:List T) (u:Int):T→Int→Bool
  | .mk k n ks,b=>if k=1 then (match (if 0≤za7 l.length u n b then l[(za7 l.length u n b).toNat]? else none) with | some a=>zlu a (u+b) | none=>false) else scL l u k b 0 ks
def scL (l:List T) (u k b:Int):Nat→List T→Bool
  | _,[]=>false
  | i,x :: xs=>scI l u x (b+zaf k i) || scL l u k b (i+1) xs
end
theorem zlg (t:T):zab t=true → ∀ b,-1≤zc8 t b∧zc8 t b≤65535:=by
  refine T.ind (p:=fun t=>zab t=true → ∀ b,-1≤zc8 t b∧zc8 t b≤65535) ?_ t
  intro k n ks ih hfm b
  rw [zc8]
  have h0:-1≤(if k=1∧b≤n then n else -1)∧(if k=1∧b≤n then n else -1)≤65535:=by
    split
    · rename_i h
      have:=zdr h.1 hfm
      omega
    · omega
  have hk:=zbc hfm
  generalize (if k=1∧b≤n then n else -1)=a at h0
  have go:∀ (l:List T) (i:Nat) (a:Int),(∀ x ∈ l,zab x=true → ∀ b,-1≤zc8 x b∧zc8 x b≤65535)→(∀ x ∈ l,zab x=true) → -1≤a∧a≤65535 → -1≤zfo k b i a l∧zfo k b i a l≤65535:=by
    intro l
    induction l with
    | nil=>intro i a _ _ h; simpa [zfo] using h
    | cons x xs ihx =>
      intro i a h1 h2 h3
      rw [zfo]
      have hx:=h1 x (by simp) (h2 x (by simp)) (b+zaf k i)
      refine ihx (i+1) _ (fun y hy=>h1 y (by simp [hy])) (fun y hy=>h2 y (by simp [hy])) ?_
      rw [zne]
      omega
  exact go ks 0 a ih hk h0
theorem zor (l:List T) (u:Int) (hl:∀ x ∈ l,zab x=true∧zac x≤1048576) (t:T):∀ b,zal (mapT (zas l u) t b)≤zal t+1048576:=by
  refine T.ind (p:=fun t=>∀ b,zal (mapT (zas l u) t b)≤zal t+1048576) ?_ t
  intro k n ks ih b
  rw [mapT]
  by_cases h1:k=1
  · rw [if_pos h1,zas]
    have hz:zal zT=1:=zdu 0 0
    split
    · split
      · rename_i a ha
        obtain ⟨h2,h3⟩:=hl a (yas ha)
        rw [zkm h2]
        have:=zjk a
        omega
      · rw [hz]; omega
    · rw [zdu]; omega
  · rw [if_neg h1,zal,zal]
    have go:∀ (xs:List T) (i:Nat),(∀ x ∈ xs,x ∈ ks)→dmax ((mapL (zas l u) k b i xs).map zal)≤dmax (xs.map zal)+1048576:=by
      intro xs
      induction xs with
      | nil=>intro i _; simp [mapL,dmax]
      | cons x xs ihx =>
        intro i hm
        have h2:=ih x (hm x (by simp)) (b+zaf k i)
        have h3:=ihx (i+1) fun y hy=>hm y (by simp [hy])
        simp only [mapL,yaV,dmax,yck] at h3 ⊢
        omega
    have:=go ks 0 fun x hx=>hx
    omega
theorem zty (l:List T) (u:Int) (hu:0≤u∧u≤65535) (hl:∀ x ∈ l,zab x=true∧zac x≤1048576) (t:T):∀ (b d:Int) (st:St3),zab t=true→0≤b→b+zac t≤2097152→0≤d→d+zac t≤2097152 →
    0≤st.sz→st.sz≤zcv→0≤st.dp→st.dp≤1099511627776 →
    zfh (l.map agOf) u t b d st=⟨st.sc || scI l u t b,min (st.sz+zac (mapT (zas l u) t b)) zcv,max st.dp (d+zal (mapT (zas l u) t b))⟩:=by
  refine T.ind (p:=fun t=>∀ (b d:Int) (st:St3),zab t=true→0≤b→b+zac t≤2097152→0≤d→d+zac t≤2097152 →
    0≤st.sz→st.sz≤zcv→0≤st.dp→st.dp≤1099511627776 →
    zfh (l.map agOf) u t b d st=⟨st.sc || scI l u t b,min (st.sz+zac (mapT (zas l u) t b)) zcv,max st.dp (d+zal (mapT (zas l u) t b))⟩) ?_ t
  intro k n ks ih b d st hfm hb0 hb hd0 hd hs0 hs1 hp0 hp1
  have hM:zcv=1099511627776:=rfl
  have hn1:1≤zac (.mk k n ks):=by rw [zac]; omega
  by_cases h1:k=1
  · have hks:=zhz h1 hfm
    have hn:=zdr h1 hfm
    subst h1 hks
    rw [zfh,if_pos rfl,scI,if_pos rfl,mapT,if_pos rfl,zas,ycn]
    by_cases hW:0≤za7 l.length u n b
    · have hlt:(za7 l.length u n b).toNat<l.length:=by
        have h2:=hW
        rw [za7] at h2 ⊢
        split at h2
        · omega
        · rename_i h3
          rw [if_neg h3]
          omega
      have hx:=hl _ (yaf hlt)
      generalize hw:(za7 l.length u n b).toNat=m at hlt hx
      have hfr:=zlg l[m] hx.1 0
      rw [if_pos hW,if_pos hW,if_pos hW,yau,yar hlt]
      simp only [yak,agOf]
      rw [znw _ (by omega),zlz _ (by omega),zha hx.1,zkm hx.1]
      have hdl:=zjk l[m]
      rw [zd7 (n:=st.sz+_) (by omega) (by omega),zd7 (n:=d+_) (by omega) (by omega),zph,zne,hM,zd7 (n:=zc8 l[m] 0+u) (by omega) (by omega),zd7 (n:=zc8 l[m] 0+u+b) (by omega) (by omega)]
      congr 1
      rw [zlu]
      have e:zc8 l[m] 0+u+b=zc8 l[m] 0+(u+b):=by omega
      rw [e]
      cases st.sc
      · by_cases h4:0≤zc8 l[m] 0 <;> simp [h4]
      · simp
    · rw [if_neg hW,if_neg hW,if_neg hW]
      simp only [zdv,zdu]
      rw [zd7 (by omega) (by omega),zd7 (by omega) (by omega),zph,zne,hM]
      simp
  · have hkf:=zbc hfm
    rw [zfh,if_neg h1,scI,if_neg h1,mapT,if_neg h1,zac,zal]
    have hnn:zac (.mk k n ks)=(ks.map zac).sum+1:=by rw [zac]
    have go:∀ (xs:List T) (i:Nat) (st:St3),(∀ x ∈ xs,x ∈ ks)→0≤st.sz→st.sz≤zcv→d+1≤st.dp→st.dp≤1099511627776 →
        zf7 (l.map agOf) u k b d i st xs=⟨st.sc || scL l u k b i xs,min (st.sz+((mapL (zas l u) k b i xs).map zac).sum) zcv,max st.dp (d+1+dmax ((mapL (zas l u) k b i xs).map zal))⟩:=by
      intro xs
      induction xs with
      | nil =>
        intro i st _ a0 a1 a2 a3
        simp only [zf7,scL,mapL,ycx,List.sum_nil,dmax,List.foldr_nil]
        obtain ⟨sc,sz,dp⟩:=st
        simp only [Bool.or_false,St3.mk.injEq,true_and]
        simp only at a0 a1 a2 a3
        omega
      | cons x xs ihx =>
        intro i st hmem a0 a1 a2 a3
        have hxk:=hmem x (by simp)
        have hxn:=zbs (k:=k) (n:=n) hxk
        have hbl:=zcd k i
        rw [zf7,zd7 (n:=d+1) (by omega) (by omega),ih x hxk (b+zaf k i) (d+1) st (hkf x hxk) (by omega) (by omega) (by omega) (by omega) a0 a1 (by omega) a3]
        have hdx:=zjk x
        rw [ihx (i+1) _ (fun y hy=>hmem y (by simp [hy])) (by simp only; omega) (by simp only; omega) (by simp only; omega) ?_]
        · simp only [scL,mapL,yaV,List.sum_cons,dmax,yck,Bool.or_assoc,St3.mk.injEq,true_and]
          omega
        · simp only
          have:=zor l u hl x (b+zaf k i)
          omega
    have hg:=go ks 0 ⟨st.sc,mn (w64 (st.sz+1)) zcv,mx st.dp (w64 (d+1))⟩ (fun x hx=>hx) (by simp only; rw [zd7 (by omega) (by omega),zph]; omega) (by simp only; rw [zph]; omega) (by simp only; rw [zd7 (by omega) (by omega),zne]; omega)
      (by simp only; rw [zd7 (by omega) (by omega),zne]; omega)
    rw [hg]
    simp only [St3.mk.injEq,true_and]
    rw [zd7 (n:=st.sz+1) (by omega) (by omega),zd7 (n:=d+1) (by omega) (by omega),zph,zne]
    omega
theorem zft {t:T} {l:List T} {u:Int} (h:zb9 t l u=0) (ht:zac t≤1048576) (hl:∀ x ∈ l,zac x≤1048576) :
    zba t l u=⟨scI l u t 0,min (zac (mapT (zas l u) t 0):Int) zcv,zal (mapT (zas l u) t 0)⟩:=by
  obtain ⟨f1,f2,f3⟩:=zeh h
  rw [zba,zty l u f3 (fun x hx=>⟨f2 x hx,hl x hx⟩) t 0 0 st0 f1 (by omega) (by omega) (by omega) (by omega) (by simp [st0]) (by simp [st0,zcv]) (by simp [st0]) (by simp [st0])]
  simp only [st0,Bool.false_or,St3.mk.injEq,true_and]
  omega
theorem zrw {t:T} {l:List T} {u:Int} (ht:zac t≤1048576) (hl:∀ x ∈ l,zac x≤1048576) :
    zb3 t l u=0 ↔ zb9 t l u=0∧scI l u t 0=false∧zac (mapT (zas l u) t 0)≤6000∧zal (mapT (zas l u) t 0)≤200:=by
  have hM:zcv=1099511627776:=rfl
  rw [zb3]
  by_cases h:zb9 t l u=0
  · rw [if_pos h,zft h ht hl]
    simp only
    cases scI l u t 0 with
    | true=>simp
    | false =>
      simp only [yao,if_false,true_and,h]
      by_cases h1:(6000:Int)<min (zac (mapT (zas l u) t 0):Int) zcv
      · rw [if_pos h1]
        constructor
        · intro h; cases h
        · omega
      · rw [if_neg h1]
        by_cases h2:(200:Int)<zal (mapT (zas l u) t 0)
        · rw [if_pos h2]
          constructor
          · intro h; cases h
          · omega
        · rw [if_neg h2]
          constructor
          · intro _; omega
          · intro _; rfl
  · rw [if_neg h]
    constructor
    · intro h'; exact absurd h' h
    · rintro ⟨h',_⟩; exact absurd h' h
theorem zrl {t:T} {l:List T} {u:Int} (h:zb3 t l u=0):zd8 t l u=mapT (zas l u) t 0:=by rw [zd8,if_pos h]
theorem zwi (k:Int) (l:List T) (hl:l.length*40≤zao):Pure Try.prog zdd [.int .i64 k,eTs l] [.agg (cT (.mk k 0 l))]:=by
  refine zjn rfl fun hs=>?_
  simp -dsimp [zef,cT,eTs,hl]
theorem zjw (t:T) (l:List T) (u:Int):zb9 t l u=0 ↔ zat t=0∧(∀ x ∈ l,zat x=0)∧0≤u∧u≤65535:=by
  have ha:zg1 l=0 ↔ ∀ x ∈ l,zat x=0:=by
    induction l with
    | nil=>simp [zg1]
    | cons x xs ih =>
      rw [zg1]
      by_cases h:zat x=0
      · simp [h,ih]
      · simp [h]
  rw [zb9,← ha]
  by_cases h1:zat t=0
  · rw [if_pos h1]
    by_cases h2:zg1 l=0
    · rw [if_pos h2]
      by_cases h3:u<0∨65535<u
      · rw [if_pos h3]
        constructor
        · intro h; cases h
        · omega
      · rw [if_neg h3]
        constructor
        · intro _; exact ⟨h1,h2,by omega⟩
        · intro _; rfl
    · rw [if_neg h2]
      constructor
      · intro h; exact absurd h h2
      · intro h; exact absurd h.2.1 h2
  · rw [if_neg h1]
    constructor
    · intro h; exact absurd h h1
    · intro h; exact absurd h.1 h1
theorem ztr (l:List T) (u k b:Int):∀ (xs:List T) (i j:Nat) (h:j<xs.length),scL l u k b i xs=false→scI l u xs[j] (b+zaf k (i+j:Nat))=false
  | x :: xs,i,0,h,hs=>by
    rw [scL,ycy] at hs
    simpa using hs.1
  | x :: xs,i,j+1,h,hs=>by
    rw [scL,ycy] at hs
    have:=ztr l u k b xs (i+1) j (by simpa using h) hs.2
    simp only [ycp]
    rw [show i+(j+1)=i+1+j by omega]
    exact this
theorem zqw (f g:Int→Int→T) (h:∀ n b:Int,0≤n→n≤65535→0≤b→b≤4194304→f n b=g n b) (t:T):∀ b:Int,zab t=true→0≤b→b+zac t≤4194304→mapT f t b=mapT g t b:=by
  refine T.ind (p:=fun t=>∀ b:Int,zab t=true→0≤b→b+zac t≤4194304→mapT f t b=mapT g t b) ?_ t
  intro k n ks ih b hfm h0 hb
  rw [mapT,mapT]
  by_cases h1:k=1
  · have hn:=zdr h1 hfm
    rw [if_pos h1,if_pos h1,h n b hn.1 hn.2 h0 (by omega)]
  · rw [if_neg h1,if_neg h1]
    congr 1
    have go:∀ (xs:List T) (i:Nat),(∀ x ∈ xs,x ∈ ks)→mapL f k b i xs=mapL g k b i xs:=by
      intro xs
      induction xs with
      | nil=>intro i _; simp [mapL]
      | cons x xs ihx =>
        intro i hm
        have hx:=hm x (by simp)
        have hxn:=zbs (k:=k) (n:=n) hx
        have hbl:=zcd k i
        rw [mapL,mapL,ih x hx _ (zbc hfm x hx) (by omega) (by omega),ihx (i+1) fun y hy=>hm y (by simp [hy])]
    exact go ks 0 fun x hx=>hx
theorem map_map (f g h:Int→Int→T) (e:Int) (hv:∀ n b:Int,0≤n→n≤65535→0≤b→b≤4194304→mapT f (g n b) (b+e)=h n b) (t:T):∀ b:Int,zab t=true→0≤b→b+zac t≤4194304→mapT f (mapT g t b) (b+e)=mapT h t b:=by
  refine T.ind (p:=fun t=>∀ b:Int,zab t=true→0≤b→b+zac t≤4194304→mapT f (mapT g t b) (b+e)=mapT h t b) ?_ t
  intro k n ks ih b hfm h0 hb
  rw [mapT,mapT]
  by_cases h1:k=1
  · have hn:=zdr h1 hfm
    rw [if_pos h1,if_pos h1,hv n b hn.1 hn.2 h0 (by omega)]
  · rw [if_neg h1,if_neg h1,mapT,if_neg h1]
    congr 1
    have go:∀ (xs:List T) (i:Nat),(∀ x ∈ xs,x ∈ ks)→mapL f k (b+e) i (mapL g k b i xs)=mapL h k b i xs:=by
      intro xs
      induction xs with
      | nil=>intro i _; simp [mapL]
      | cons x xs ihx =>
        intro i hm
        have hx:=hm x (by simp)
        have hxn:=zbs (k:=k) (n:=n) hx
        have hbl:=zcd k i
        have e1:b+e+zaf k i=b+zaf k i+e:=by omega
        rw [mapL,mapL,mapL,e1,ih x hx _ (zbc hfm x hx) (by omega) (by omega),ihx (i+1) fun y hy=>hm y (by simp [hy])]
    exact go ks 0 fun x hx=>hx
def mv (y:Int) (n b:Int):T:=.mk 1 (if b≤n then w64 (n+y) else n) []
theorem zry (y:Int) (t:T):zc6 y t=mapT (mv y) t 0:=rfl
theorem znp (f:Int→Int→T) (n b:Int):mapT f (.mk 1 n []) b=f n b:=by rw [mapT,if_pos rfl]
theorem mv_lo {y n b:Int} (h:n<b):mv y n b = .mk 1 n []:=by rw [mv,if_neg (by omega)]
theorem mv_hi {y n b:Int} (h:b≤n) (hn:0≤n) (hn':n≤10000000) (hy:0≤y) (hy':y≤10000000):mv y n b = .mk 1 (n+y) []:=by rw [mv,if_pos h,zd7 (by omega) (by omega)]
end
section
attribute [local simp] zah zai tk tn tks zi1 zku
def shF (fr y n b:Int):T:=.mk 1 (if n<fr+b then n else n+y) []
mutual
def shB (fr y:Int):T→Int→Bool
  | .mk k n ks,b=>if k=1 then decide (n<fr+b) || decide (n+y≤65535) else shBL fr y k b 0 ks
def shBL (fr y k b:Int):Nat→List T→Bool
  | _,[]=>true
  | i,x :: xs=>shB fr y x (b+zaf k i) && shBL fr y k b (i+1) xs
end
theorem zqs (fr y k b:Int):∀ (l:List T) (i:Nat),shBL fr y k b i l=true ↔ ∀ (j:Nat) (hj:j<l.length),shB fr y l[j] (b+zaf k (i+j:Nat))=true
  | [],i=>by simp [shBL]
  | x :: xs,i=>by
    rw [shBL,ybJ,zqs fr y k b xs (i+1)]
    constructor
    · rintro ⟨h1,h2⟩ j hj
      cases j with
      | zero=>simpa using h1
      | succ j =>
        have:=h2 j (by simpa using hj)
        simp only [ycp]
        have e:(i+(j+1):Nat)=i+1+j:=by omega
        rw [e]; exact this
    · intro h
      have h0:=h 0 (by simp)
      simp only [ycm,Nat.add_zero] at h0
      refine ⟨h0,fun j hj=>?_⟩
      have:=h (j+1) (by simpa using hj)
      simp only [ycp] at this
      have e:(i+(j+1):Nat)=i+1+j:=by omega
      rw [e] at this; exact this
end
section
attribute [local simp] zah zai tk tn tks zi1 zku
theorem zog (f:Int→Int→T) (g:FuncId) (caps:List D) (hf:∀ n b:Int,0≤n→n≤65535→0≤b→b≤1099511627776→zg3 Try.prog g (.int .i64 n :: .int .i64 b :: caps) [.agg (cT (f n b))]) (t:T):∀ b:Int,VokT t→0≤b→b+zac t≤1099511627776 →
    zg3 Try.prog zck [.agg (cT t),.int .i64 b,.clo g caps] [.agg (cT (mapT f t b))]:=by
  refine T.ind (p:=fun t=>∀ b:Int,VokT t→0≤b→b+zac t≤1099511627776→zg3 Try.prog zck [.agg (cT t),.int .i64 b,.clo g caps] [.agg (cT (mapT f t b))]) ?_ t
  intro k n ks ih b hvk h0 hb
  obtain ⟨hvn,hl,hsk⟩:=hvk.out
  refine ze4 true hm Try.func56 zk3 rfl fun hs nn=>?_
  simp -dsimp [zga,cT]
  (first | refine zaj ?_ ?_ | refine zak ?_ ?_) <;> intro h1 <;> (try simp only [nrm] at h1) <;> simp -dsimp [h1]
  · have hn:=(hvn h1).1
    refine zdw (hf n b hn.1 hn.2 h0 (by omega)) ?_
    rw [mapT,if_pos h1]
    simp -dsimp [h1,cT]
  have hM:mapT f (.mk k n ks) b = .mk k n (mapL f k b 0 ks):=by rw [mapT,if_neg h1]
  rw [hM]
  by_cases hz:ks=[]
  · subst hz
    simp -dsimp [h1,mapL]
  simp -dsimp [h1,hz]
  have r1:(ks.length:Int)*40≤(zao:Int):=by simp only [zao]; omega
  have r2:ks.length≤zao:=by simp only [zao]; omega
  have hll:(mapL f k b 0 ks).length=ks.length:=ze9 f k b ks 0
  simp -dsimp [h1,hz,r1,r2]
  refine zaw ks.length (fun i st=>st.s 3 = .ptr 3 1 0∧st.h 3=⟨1,.box [.d (.int .i64 k),.d (.int .i64 n),.d (.sl 3 (ks.map eT))] false⟩∧st.s 1 = .d (.int .i64 b)∧st.s 2 = .d (.clo g caps) ∧
    st.s 6 = .ptr 6 1 0∧st.h 6=⟨1,.box [.d (.int .i64 0),.d (.int .i64 0),.fsl 3 []] false⟩∧st.s 7 = .rsl 27 1∧st.s 29 = .d (.sl 3 (ks.map eT))∧st.s 30 = .d (.int .i64 ks.length)∧st.s 31 = .d (.int .i64 i) ∧
    st.h 27=⟨1,.row 3 (((mapL f k b 0 ks).map eT).take i ++ List.replicate (ks.length - i) (D.agg [.int .i64 0,.int .i64 0,.sl 3 []])) false⟩) ?_ ?_
  · simp -dsimp
  · rintro i ⟨s,hp⟩ hi ⟨g1,g2,g3,g4,g5,g6,g7,g8,g9,g10,g11⟩
    dsimp only at g1 g2 g3 g4 g5 g6 g7 g8 g9 g10 g11
    rcases ybm i ks.length with hlt | hge
    · have w1:IntKind.i64.wrap ((i:Int)+1)=(i:Int)+1:=zag (by omega) (by omega)
      have hbl:=zcd k i
      have hnk:=zbs (k:=k) (n:=n) (yaf hlt:ks[i] ∈ ks)
      have w2:IntKind.i64.wrap (b+zaf k i)=b+zaf k i:=zag (by omega) (by omega)
      simp -dsimp [g1,g2,g3,g4,g5,g6,g7,g8,g9,g10,g11,hlt,cT]
      refine zaa (zhr k i) ?_
      simp -dsimp [g1,g2,g3,g4,g5,g6,g7,g8,g9,g10,g11,hlt,w2]
      refine zdw (ih ks[i] (yaf _) (b+zaf k i) (hsk _ (yaf _)) (by omega) (by omega)) ?_
      have q1:(i:Int)<((min i ks.length:Nat):Int)+((ks.length - i:Nat):Int):=by omega
      have q2:i<min i ks.length+(ks.length - i):=by omega
      have hle:((mapL f k b 0 ks).map eT).length=ks.length:=by rw [ycn,hll]
      have hfn:=zmd (l:=(mapL f k b 0 ks).map eT) (z:=D.agg [.int .i64 0,.int .i64 0,.sl 3 []]) (i:=i) (by rw [hle]; exact hlt)
      have hel:((mapL f k b 0 ks).map eT)[i]'(by rw [hle]; exact hlt) = .agg (cT (mapT f ks[i] (b+zaf k i))):=by
        rw [ycq,zgf f k b ks 0 i hlt,zfg,ybj]
      rw [hel,hle] at hfn
      simp only [cT] at hfn
      simp -dsimp [g1,g2,g3,g4,g5,g6,g7,g8,g9,g10,g11,hlt,w1,w2,hll,q1,q2,cT,hfn]
    · have e:i=ks.length:=by omega
      subst e
      have ht:((mapL f k b 0 ks).map eT).take ks.length=(mapL f k b 0 ks).map eT:=ycc (by rw [ycn,hll]; exact yab _)
      rw [ht,ycl,ycr,ybp] at g11
      simp -dsimp [g1,g2,g3,g4,g5,g6,g7,g8,g9,g10,g11]
theorem zsf (n:Int):zg3 Try.prog zht [.int .i64 n] [.agg (cT (.mk 1 n []))]:=by
  refine ze4 false hm Try.func53 zn6 rfl fun hs nn=>?_
  simp -dsimp [zi8,cT]
theorem zpa (n b y:Int):zg3 Try.prog zb0 [.int .i64 n,.int .i64 b,.rp [.int .i64 y]] [.agg (cT (.mk 1 (if b≤n then w64 (n+y) else n) []))]:=by
  refine ze4 false hm Try.func97 zf1 rfl fun hs nn=>?_
  simp -dsimp [zde]
  (first | refine zaj ?_ ?_ | refine zak ?_ ?_) <;> intro h1 <;> (try simp only [nrm] at h1) <;> simp -dsimp [h1,w64]
  · refine zdw (zsf _) ?_
    simp -dsimp [h1,w64,cT]
  · refine zdw (zsf _) ?_
    simp -dsimp [h1,cT]
theorem zqd (t:T) (y:Int) (hs:zab t=true) (hn:zac t≤1099511627776):zg3 Try.prog zd9 [.agg (cT t),.int .i64 y] [.agg (cT (zc6 y t))]:=by
  refine ze4 false hm Try.func59 zhl rfl fun hs' nn=>?_
  simp -dsimp [zea,cT]
  refine zdw (zog (fun n b=>.mk 1 (if b≤n then w64 (n+y) else n) []) zb0 [.rp [.int .i64 y]] (fun n b _ _ _ _=>zpa n b y) t 0 (zk5 _ hs) (by omega) (by omega)) ?_
  simp -dsimp [zc6,cT]
theorem zqj (l:List T) (u:Int) (sc:Bool) (sz dp:Int) (hu:0≤u∧u≤65535) (hl:∀ x ∈ l,zab x=true∧zac x≤549755813888) (n b:Int) (hn:0≤n) (hn':n≤65535) (hb:0≤b) (hb':b≤1099511627776) :
    zg3 Try.prog zcb [.int .i64 n,.int .i64 b,.rp [jobD (l.map agOf) u sc sz dp],.rp [.int .i64 u],.rp [eTs l]] [.agg (cT (zas l u n b))]:=by
  refine ze4 false hm Try.func57 zgp rfl fun hs nn=>?_
  have w1:IntKind.i64.wrap (u+b)=u+b:=zag (by omega) (by omega)
  have w1':w64 (u+b)=u+b:=w1
  simp -dsimp [zdx,eTs]
  have hw:=zji (l.map agOf) u sc sz dp n b hu ⟨hb,hb'⟩ ⟨hn,hn'⟩
  rw [ycn] at hw
  refine zaa hw ?_
  generalize hW:za7 l.length u n b=W
  have hI:zas l u n b=if 0≤W then match l[W.toNat]? with
    | some a=>zc6 (w64 (u+b)) a
    | none=>zT
    else .mk 1 (if u+b≤n then w64 (n - l.length) else n) []:=by rw [zas,hW] <;> rfl
  simp -dsimp
  (first | refine zaj ?_ ?_ | refine zak ?_ ?_) <;> intro g1 <;> (try simp only [nrm] at g1) <;> simp -dsimp [g1]
  · have hlt:W.toNat<l.length:=by
      rw [za7] at hW
      split at hW <;> omega
    have hget:l[W.toNat]? = some l[W.toNat]:=yar hlt
    have hI2:zas l u n b=zc6 (w64 (u+b)) l[W.toNat]:=by rw [hI,if_pos g1,hget]
    rw [hI2,w1']
    simp -dsimp [jobD,g1,hlt,w1,agOf,cAg,eAg,cT]
    obtain ⟨hf,hnn⟩:=hl l[W.toNat] (yaf _)
    refine zdw (zqd l[W.toNat] (u+b) hf (by omega)) ?_
    simp -dsimp [cT]
  · have hI2:zas l u n b = .mk 1 (if u+b≤n then w64 (n - l.length) else n) []:=by rw [hI,if_neg g1]
    rw [hI2]
    simp -dsimp [g1,w1]
    (first | refine zaj ?_ ?_ | refine zak ?_ ?_) <;> intro g2 <;> (try simp only [nrm] at g2) <;> simp -dsimp [g2,g1,w1]
    · refine zdw (zsf _) ?_
      simp -dsimp [g2,cT,w64]
    · refine zdw (zsf _) ?_
      simp -dsimp [g2,cT,w64]
theorem zsm (t:T) (l:List T) (u:Int) (ht:zac t≤549755813888) (hl:∀ x ∈ l,zac x≤549755813888) (hn:l.length≤2097152) :
    zg3 Try.prog zd1 [.agg (cT t),eTs l,.int .i64 u] [.agg (cT (zd8 t l u)),.int .i64 (zb3 t l u)]:=by
  refine ze4 false hm Try.func27 ziu rfl fun hs nn=>?_
  simp -dsimp [zes,cT,eTs]
  refine zaa (znr t l u ht hl hn) ?_
  by_cases h1:zb9 t l u=0
  · have hR:ze5 t l u=jobD (l.map agOf) u (zba t l u).sc (zba t l u).sz (zba t l u).dp:=by rw [ze5,if_pos h1]
    obtain ⟨f1,f2,f3⟩:=zeh h1
    have hE:zb3 t l u=if (zba t l u).sc then 6 else if 6000<(zba t l u).sz then 4 else if 200<(zba t l u).dp then 5 else 0:=by rw [zb3,if_pos h1]
    generalize zba t l u=st at hR hE
    obtain ⟨sc,sz,dp⟩:=st
    have bad:zb3 t l u ≠ 0→zd8 t l u=zT:=fun h=>by rw [zd8,if_neg h]
    rw [hR,h1]
    cases sc with
    | true =>
      have hE1:zb3 t l u=6:=by rw [hE]; rfl
      have hT:=bad (by omega)
      simp -dsimp [jobD,hE1,hT,zT,cT]
    | false =>
      simp -dsimp [jobD]
      (first | refine zaj ?_ ?_ | refine zak ?_ ?_) <;> intro h2 <;> (try simp only [nrm] at h2) <;> simp -dsimp [h2]
      · have hE1:zb3 t l u=4:=by rw [hE]; simp [h2]
        have hT:=bad (by omega)
        simp -dsimp [hE1,hT,zT,cT]
      (first | refine zaj ?_ ?_ | refine zak ?_ ?_) <;> intro h3 <;> (try simp only [nrm] at h3) <;> simp -dsimp [h3,h2]
      · have hE1:zb3 t l u=5:=by rw [hE]; simp [h2,h3]
        have hT:=bad (by omega)
        simp -dsimp [hE1,hT,zT,cT]
      have hE1:zb3 t l u=0:=by rw [hE]; simp [h2,h3]
      have hT:zd8 t l u=mapT (zas l u) t 0:=by rw [zd8,if_pos hE1]
      rw [hE1,hT]
      have hmap:=zog (zas l u) zcb [.rp [jobD (l.map agOf) u false sz dp],.rp [.int .i64 u],.rp [eTs l]] (fun n b a1 a2 a3 a4=>zqj l u false sz dp f3 (fun x hx=>⟨f2 x hx,hl x hx⟩) n b a1 a2 a3 a4) t 0 (zk5 _ f1) (by omega) (show (0:Int)+zac t≤1099511627776 by omega)
      have hj:jobD (l.map agOf) u false sz dp = .rp [.sl 6 (l.map (eAg ∘ agOf)),.int .i64 u,.bool false,.int .i64 sz,.int .i64 dp]:=by simp [jobD]
      rw [hj] at hmap
      refine zdw hmap ?_
      simp -dsimp [h2,h3,cT]
  · have hR:ze5 t l u = .nilp:=by rw [ze5,if_neg h1]
    have hE:zb3 t l u=zb9 t l u:=by rw [zb3,if_neg h1]
    have hT:zd8 t l u=zT:=by rw [zd8,hE,if_neg h1]
    rw [hR,hE,hT]
    simp -dsimp [h1,zT,cT]
end
section
attribute [local simp] zah zai tk tn tks
end
section
section
attribute [local simp] zah zai tk tn tks zi1 zku
theorem zw1 {k n:Int} {ks:List T} (hfm:zab (.mk k n ks)=true):0≤n∧n≤65535:=by
  rw [zaq] at hfm
  split at hfm
  · split at hfm
    · rw [ybJ,zd5] at hfm
      exact hfm.1
    · split at hfm
      · omega
      · cases hfm
  · cases hfm
theorem zl5 (fr y k b:Int):∀ (l:List T) (i j:Nat) (h:j<l.length),shBL fr y k b i (l.take (j+1))=(shBL fr y k b i (l.take j) && shB fr y l[j] (b+zaf k (i+j:Nat)))
  | x :: xs,i,0,h=>by simp [shBL]
  | x :: xs,i,j+1,h=>by
    have:=zl5 fr y k b xs (i+1) j (by simpa using h)
    simp only [ycs,shBL,ycp,this,Bool.and_assoc]
    rw [show i+1+j=i+(j+1) by omega]
theorem zpr (y fr:Int) (hy:0≤y∧y≤10000000) (hfr:0≤fr∧fr≤65535) (t:T):∀ b:Int,zab t=true→0≤b→b+zac t≤4194304→Pure Try.prog za9 [.agg (cT t),.int .i64 y,.int .i64 (fr+b)] [.agg (cT (mapT (shF fr y) t b)),.bool (!shB fr y t b)]:=by
  refine T.ind (p:=fun t=>∀ b:Int,zab t=true→0≤b→b+zac t≤4194304→Pure Try.prog za9 [.agg (cT t),.int .i64 y,.int .i64 (fr+b)] [.agg (cT (mapT (shF fr y) t b)),.bool (!shB fr y t b)]) ?_ t
  intro k n ks ih b hfm h0 hb
  refine zhk rfl fun hs=>?_
  by_cases h1:k=1
  · subst h1
    have hks:=zhz rfl hfm
    subst hks
    obtain ⟨n0,n1⟩:=zdr rfl hfm
    have w1:IntKind.i64.wrap (n+y)=n+y:=zag (by omega) (by omega)
    have hM:mapT (shF fr y) (.mk 1 n []) b = .mk 1 (if n<fr+b then n else n+y) []:=by rw [znp,shF]
    have hB:shB fr y (.mk 1 n []) b=(decide (n<fr+b) || decide (n+y≤65535)):=by rw [shB,if_pos rfl]
    rw [hM,hB]
    simp -dsimp [zce,cT]
    by_cases c:fr+b≤n
    · have c':¬ n<fr+b:=by omega
      simp -dsimp [c,c',w1]
      refine zaw 0 (fun i st=>st.s 3 = .ptr 3 1 0∧st.s 8 = .ptr 8 1 0∧st.s 6 = .ptr 6 1 0∧st.s 9 = .d (.bool (decide (65535<n+y)))∧st.s 10 = .d (.int .i64 i)∧st.h 3=⟨1,.box [.d (.int .i64 1),.d (.int .i64 n),.d (.sl 3 [])] false⟩∧st.h 8=⟨1,.box [.d (.int .i64 1),.d (.int .i64 (n+y)),.fsl 3 []] false⟩∧st.h 6=⟨1,.box [.d (.int .i64 0),.d (.int .i64 0),.fsl 3 []] false⟩) ?_ ?_
      · simp -dsimp
      · rintro i ⟨s,hp⟩ hi ⟨e3,e8,e6,e9,e10,k3,k8,k6⟩
        dsimp only at e3 e8 e6 e9 e10 k3 k8 k6
        have:i=0:=by omega
        subst this
        simp -dsimp [e3,e8,e6,e9,e10,k3,k8,k6]
        exact ⟨fun h=>by omega,by rw [ycz]; simp; omega⟩
    · have c':n<fr+b:=by omega
      simp -dsimp [c,c',w1]
      refine zaw 0 (fun i st=>st.s 3 = .ptr 3 1 0∧st.s 8 = .ptr 8 1 0∧st.s 6 = .ptr 6 1 0∧st.s 9 = .d (.bool (decide (65535<n)))∧st.s 10 = .d (.int .i64 i)∧st.h 3=⟨1,.box [.d (.int .i64 1),.d (.int .i64 n),.d (.sl 3 [])] false⟩∧st.h 8=⟨1,.box [.d (.int .i64 1),.d (.int .i64 n),.fsl 3 []] false⟩∧st.h 6=⟨1,.box [.d (.int .i64 0),.d (.int .i64 0),.fsl 3 []] false⟩) ?_ ?_
      · simp -dsimp
      · rintro i ⟨s,hp⟩ hi ⟨e3,e8,e6,e9,e10,k3,k8,k6⟩
        dsimp only at e3 e8 e6 e9 e10 k3 k8 k6
        have:i=0:=by omega
        subst this
        simp -dsimp [e3,e8,e6,e9,e10,k3,k8,k6]
        exact ⟨fun h=>by omega,by rw [ycz]; simp; omega⟩
  · obtain ⟨n0,n1⟩:=zw1 hfm
    have hln:=(zqh _ hfm).kids.1
    have hM:mapT (shF fr y) (.mk k n ks) b = .mk k n (mapL (shF fr y) k b 0 ks):=by rw [mapT,if_neg h1]
    have hB:shB fr y (.mk k n ks) b=shBL fr y k b 0 ks:=by rw [shB,if_neg h1]
    have hl:=ze9 (shF fr y) k b ks 0
    rw [hM,hB]
    have n2:¬ 65535<n:=by omega
    simp -dsimp [zce,cT,h1,n2]
    generalize hML:mapL (shF fr y) k b 0 ks=ml at *
    refine zaw ks.length (fun i st=>st.s 1 = .d (.int .i64 y)∧st.s 2 = .d (.int .i64 (fr+b))∧st.s 3 = .ptr 3 1 0∧st.s 8 = .ptr 8 1 0∧st.s 6 = .ptr 6 1 0∧st.s 9 = .d (.bool (!shBL fr y k b 0 (ks.take i)))∧st.s 10 = .d (.int .i64 i)∧st.h 3=⟨1,.box [.d (.int .i64 k),.d (.int .i64 n),.d (.sl 3 (ks.map eT))] false⟩ ∧
      st.h 6=⟨1,.box [.d (.int .i64 0),.d (.int .i64 0),.fsl 3 []] false⟩ ∧ ∃ c,st.h 8=⟨1,.box [.d (.int .i64 k),.d (.int .i64 n),c] false⟩∧((i=0∧c = .fsl 3 [])∨(0<i ∧ ∃ v,c = .rsl 62 v∧st.h 62=⟨v,.row 3 ((ml.map eT).take i) false⟩))) ?_ ?_
    · simp -dsimp [shBL]
    · rintro i ⟨s,hp⟩ hi ⟨e1,e2,e3,e8,e6,e9,e10,k3,k6,c,k8,hc⟩
      dsimp only at e1 e2 e3 e8 e6 e9 e10 k3 k6 k8 hc
      rcases ybm i ks.length with hlt | hge
      · have w1:IntKind.i64.wrap ((i:Int)+1)=(i:Int)+1:=zag (by omega) (by omega)
        have hbl:=zcd k i
        have hkn:=zbs (k:=k) (n:=n) (yaf hlt)
        have w2:IntKind.i64.wrap (fr+b+zaf k i)=fr+(b+zaf k i):=by rw [zag (by omega) (by omega)]; omega
        have hrec:=ih ks[i] (yaf _) (b+zaf k i) (zbc hfm _ (yaf _)) (by omega) (by omega)
        have hs1:=zl5 fr y k b ks 0 i hlt
        rw [ybj] at hs1
        have hg:=zgf (shF fr y) k b ks 0 i hlt
        rw [ybj] at hg
        have hn:=zhn eT cT zfg ml i (by omega)
        simp only [hML] at hg
        rw [hg] at hn
        have hr:(min i ml.length+1)*40≤zao:=by simp only [zao]; omega
        generalize mapT (shF fr y) ks[i] (b+zaf k i)=Y at *
        generalize shB fr y ks[i] (b+zaf k i)=Z at *
        generalize hX:ks[i]=X at *
        simp only [cT] at hrec hn
        simp -dsimp [e1,e2,e3,e8,e6,e9,e10,k3,k6,k8,hlt,hX,cT]
        refine zaa (zf6 k i) ?_
        simp -dsimp [e1,e2,e3,e8,e6,e9,e10,k3,k6,k8,hlt,hX,cT,w2]
        refine zaa hrec ?_
        simp -dsimp [e1,e2,e3,e8,e6,e9,e10,k3,k6,k8,hlt,hX,cT,w1,w2,hs1]
        have hb2:(!(shBL fr y k b 0 (ks.take i) && Z))=(!shBL fr y k b 0 (ks.take i) || !Z):=by cases shBL fr y k b 0 (ks.take i) <;> cases Z <;> rfl
        rcases hc with ⟨rfl,rfl⟩ | ⟨hi0,v,rfl,hc⟩
        · have hne:¬ ml=[]:=ycA (by omega)
          simp only [ycu,ycv,ybj] at hn
          have hz:shBL fr y k b 0 (ks.take 0)=true:=by simp [shBL]
          rw [hz] at hs1
          rw [ycu] at e9
          have hz2:shBL fr y k b 0 []=true:=by simp [shBL]
          have h40:40≤zao:=by simp only [zao]; omega
          simp at hlt w1
          simp -dsimp [e1,e2,e3,e8,e6,e9,e10,k3,k6,k8,hlt,hX,cT,w1,hs1,hz2,hn,h40]
        · cases hSh:shBL fr y k b 0 (ks.take i) with
          | true =>
            rw [hSh] at hs1 e9
            simp -dsimp [e1,e2,e3,e8,e6,e9,e10,k3,k6,k8,hc,hlt,hX,cT,w1,hs1,hn,hr]
          | false =>
            rw [hSh] at hs1 e9
            simp -dsimp [e1,e2,e3,e8,e6,e9,e10,k3,k6,k8,hc,hlt,hX,cT,w1,hs1,hn,hr]
      · have e:i=ks.length:=by omega
        subst e
        rw [ycd] at e9
        rcases hc with ⟨hz,rfl⟩ | ⟨hi0,v,rfl,hc⟩
        · have hm:ml=[]:=ycw.1 (by omega)
          have hkz:ks=[]:=ycw.1 hz
          simp -dsimp [e1,e2,e3,e8,e6,e9,e10,k3,k6,k8,hm,hkz]
        · rw [ycc (by simp; omega)] at hc
          simp -dsimp [e1,e2,e3,e8,e6,e9,e10,k3,k6,k8,hc]
end
end
section
section
attribute [local simp] zah zai tk tn tks zi1 zku
theorem zn5 (k b m:Int):∀ (l:List T) (i:Nat) (a:Int),zfo k b i a l<m ↔ a<m ∧ ∀ (j:Nat) (hj:j<l.length),zc8 l[j] (b+zaf k (i+j:Nat))<m
  | [],i,a=>by simp [zfo]
  | x :: xs,i,a=>by
    rw [zfo,zn5 k b m xs (i+1) _]
    have hm:mx a (zc8 x (b+zaf k i))<m ↔ a<m∧zc8 x (b+zaf k i)<m:=by rw [mx]; split <;> omega
    rw [hm]
    constructor
    · rintro ⟨⟨h1,h2⟩,h3⟩
      refine ⟨h1,fun j hj=>?_⟩
      match j,hj with
      | 0,_=>simpa using h2
      | j+1,hj =>
        have:=h3 j (by simpa using hj)
        simp only [ycp]
        rwa [show i+(j+1)=i+1+j by omega]
    · rintro ⟨h1,h2⟩
      refine ⟨⟨h1,by have:=h2 0 (by simp); simpa using this⟩,fun j hj=>?_⟩
      have:=h2 (j+1) (by simpa using hj)
      simp only [ycp] at this
      rwa [show i+(j+1)=i+1+j by omega] at this
def upTo (y:Int):Int:=if 65536 - y<0 then 0 else 65536 - y
theorem zt8 (y:Int) (t:T):∀ b:Int,zab t=true→0≤b→(shB 0 y t b=true ↔ zc8 t b<upTo y):=by
  refine T.ind (p:=fun t=>∀ b:Int,zab t=true→0≤b→(shB 0 y t b=true ↔ zc8 t b<upTo y)) ?_ t
  intro k n ks ih b hf hb
  rw [shB,zc8]
  by_cases h1:k=1
  · have hn:=zdr h1 hf
    have hz:=zhz h1 hf
    subst hz
    rw [if_pos h1,zfo]
    simp only [h1,true_and,Bool.or_eq_true,decide_eq_true_eq,upTo]
    split <;> split <;> omega
  · rw [if_neg h1,zn5,zqs]
    simp only [h1,false_and,if_false]
    constructor
    · intro h
      refine ⟨by rw [upTo]; split <;> omega,fun j hj=>(ih _ (yaf hj) _ (zbc hf _ (yaf hj)) ?_).1 (h j hj)⟩
      have:=zcd k (0+j:Nat)
      omega
    · rintro ⟨_,h⟩ j hj
      refine (ih _ (yaf hj) _ (zbc hf _ (yaf hj)) ?_).2 (h j hj)
      have:=zcd k (0+j:Nat)
      omega
theorem zps {a:T} (hf:zab a=true) {y:Int} (hy:0≤y):(!shB 0 y a 0)=zlu a y:=by
  have h:=zt8 y a 0 hf (by omega)
  have h2:=zlg a hf 0
  rw [zlu,ycz,Bool.not_eq_true',← Bool.not_eq_true,h,upTo]
  simp only [ybJ,decide_eq_true_eq]
  split <;> omega
theorem zwu {y:Int} (hy:0≤y) (hy':y≤10000000) (t:T) (hf:zab t=true) (b:Int) (hb:0≤b) (hb':b+zac t≤4194304):mapT (shF 0 y) t b=mapT (mv y) t b :=
  zqw _ _ (fun n c a1 a2 a3 a4=>by
    rw [shF]
    by_cases h:n<0+c
    · rw [if_pos h,mv_lo (by omega)]
    · rw [if_neg h,mv_hi (by omega) a1 (by omega) hy hy']) t b hf hb hb'
theorem zlw (l:List T) (u k b:Int):∀ (xs:List T) (i j:Nat) (h:j<xs.length),scL l u k b i (xs.take (j+1))=(scL l u k b i (xs.take j) || scI l u xs[j] (b+zaf k (i+j:Nat)))
  | x :: xs,i,0,h=>by simp [scL]
  | x :: xs,i,j+1,h=>by
    have:=zlw l u k b xs (i+1) j (by simpa using h)
    simp only [ycs,scL,ycp,this,Bool.or_assoc]
    rw [show i+1+j=i+(j+1) by omega]
theorem zvn (l:List T) (hl:l.length≤1000000) (hf:∀ x ∈ l,zab x=true∧zac x≤4194304) (u:Int) (hu:0≤u∧u≤65535) (t:T):∀ b:Int,VokT t→0≤b→b+zac t≤4194304 →
    Pure Try.prog zbz [.agg (cT t),eTs l,.int .i64 (u+b)] [.agg (cT (mapT (zas l u) t b)),.bool (scI l u t b)]:=by
  refine T.ind (p:=fun t=>∀ b:Int,VokT t→0≤b→b+zac t≤4194304→Pure Try.prog zbz [.agg (cT t),eTs l,.int .i64 (u+b)] [.agg (cT (mapT (zas l u) t b)),.bool (scI l u t b)]) ?_ t
  intro k n ks ih b hv h0 hb
  obtain ⟨hvn,hln,hsk⟩:=hv.out
  refine zh9 rfl fun hs=>?_
  by_cases h1:k=1
  · subst h1
    obtain ⟨⟨n0,n1⟩,hks⟩:=hvn rfl
    subst hks
    have w1:IntKind.i64.wrap (u+b+(l.length:Int))=u+b+l.length:=zag (by omega) (by omega)
    have hI:∀ W:Int,za7 l.length u n b=W→(mapT (zas l u) (.mk 1 n []) b=(if 0≤W then match l[W.toNat]? with | some a=>zc6 (w64 (u+b)) a | none=>zT else .mk 1 (if u+b≤n then w64 (n - l.length) else n) [])) ∧
        scI l u (.mk 1 n []) b=(match (if 0≤W then l[W.toNat]? else none) with | some a=>zlu a (u+b) | none=>false):=fun W hW=>by
      rw [znp,scI,if_pos rfl,zas,hW]
      exact ⟨rfl,rfl⟩
    by_cases c1:u+b+(l.length:Int)≤n
    · have w2:IntKind.i64.wrap (n - (l.length:Int))=n - l.length:=zag (by omega) (by omega)
      obtain ⟨hI1,hI2⟩:=hI (-1) (by rw [za7,if_pos (by omega)])
      have c2:u+b≤n:=by omega
      have w2':w64 (n - (l.length:Int))=n - l.length:=w2
      rw [if_neg (by omega)] at hI1 hI2
      rw [if_pos c2,w2'] at hI1
      rw [hI1,hI2]
      simp -dsimp [zbj,cT,eTs,w1,c1,w2]
    · by_cases c2:u+b≤n
      · obtain ⟨j,hj⟩:∃ j:Nat,(l.length:Int) - 1 - (n - (u+b))=j:=⟨((l.length:Int) - 1 - (n - (u+b))).toNat,by omega⟩
        have hjl:j<l.length:=by omega
        have hge:l[j]? = some l[j]:=yar hjl
        obtain ⟨hI1,hI2⟩:=hI j (by rw [za7,if_neg (by omega)]; exact hj)
        have w2:IntKind.i64.wrap ((l.length:Int) - 1)=l.length - 1:=zag (by omega) (by omega)
        have w3:IntKind.i64.wrap (n - (u+b))=n - (u+b):=zag (by omega) (by omega)
        have w4:IntKind.i64.wrap ((l.length:Int) - 1 - (n - (u+b)))=j:=by rw [zag (by omega) (by omega),hj]
        have w5:w64 (u+b)=u+b:=zd7 (by omega) (by omega)
        obtain ⟨fj,nj⟩:=hf _ (yaf hjl)
        have hM:=zpr (u+b) 0 (by omega) (by omega) l[j] 0 fj (by omega) (by omega)
        rw [zwu (by omega) (by omega) _ fj 0 (by omega) (by omega),zps fj (by omega)] at hM
        rw [if_pos (by omega),ycB,hge] at hI1 hI2
        simp only [w5,zry] at hI1 hI2
        simp only [ycC] at hM
        rw [hI1,hI2]
        generalize mapT (mv (u+b)) l[j] 0=Y at *
        generalize zlu l[j] (u+b)=Z at *
        generalize hX:l[j]=X at *
        simp only [cT] at hM
        simp -dsimp [zbj,cT,eTs,w1,c1,c2,w2,w3,w4,hjl,hge,hX]
        refine zaa hM ?_
        simp -dsimp [cT]
      · obtain ⟨hI1,hI2⟩:=hI (-1) (by rw [za7,if_pos (by omega)])
        rw [if_neg (by omega)] at hI1 hI2
        rw [if_neg c2] at hI1
        rw [hI1,hI2]
        simp -dsimp [zbj,cT,eTs,w1,c1,c2]
        refine zaw 0 (fun i st=>st.s 3 = .ptr 3 1 0∧st.s 9 = .ptr 9 1 0∧st.s 6 = .ptr 6 1 0∧st.s 10 = .d (.bool false)∧st.s 11 = .d (.int .i64 i)∧st.h 3=⟨1,.box [.d (.int .i64 1),.d (.int .i64 n),.d (.sl 3 [])] false⟩∧st.h 9=⟨1,.box [.d (.int .i64 1),.d (.int .i64 n),.fsl 3 []] false⟩∧st.h 6=⟨1,.box [.d (.int .i64 0),.d (.int .i64 0),.fsl 3 []] false⟩) ?_ ?_
        · simp -dsimp
        · rintro i ⟨s,hp⟩ hi ⟨e3,e9,e6,e10,e11,k3,k9,k6⟩
          dsimp only at e3 e9 e6 e10 e11 k3 k9 k6
          have:i=0:=by omega
          subst this
          simp -dsimp [e3,e9,e6,e10,e11,k3,k9,k6]
  · have hM:mapT (zas l u) (.mk k n ks) b = .mk k n (mapL (zas l u) k b 0 ks):=by rw [mapT,if_neg h1]
    have hB:scI l u (.mk k n ks) b=scL l u k b 0 ks:=by rw [scI,if_neg h1]
    have hml:=ze9 (zas l u) k b ks 0
    rw [hM,hB]
    simp -dsimp [zbj,cT,eTs,h1]
    generalize hML:mapL (zas l u) k b 0 ks=ml at *
    refine zaw ks.length (fun i st=>st.s 1 = .d (.sl 3 (l.map eT))∧st.s 2 = .d (.int .i64 (u+b))∧st.s 3 = .ptr 3 1 0∧st.s 9 = .ptr 9 1 0∧st.s 6 = .ptr 6 1 0∧st.s 10 = .d (.bool (scL l u k b 0 (ks.take i)))∧st.s 11 = .d (.int .i64 i)∧st.h 3=⟨1,.box [.d (.int .i64 k),.d (.int .i64 n),.d (.sl 3 (ks.map eT))] false⟩ ∧
      st.h 6=⟨1,.box [.d (.int .i64 0),.d (.int .i64 0),.fsl 3 []] false⟩ ∧ ∃ c,st.h 9=⟨1,.box [.d (.int .i64 k),.d (.int .i64 n),c] false⟩∧((i=0∧c = .fsl 3 [])∨(0<i ∧ ∃ v,c = .rsl 80 v∧st.h 80=⟨v,.row 3 ((ml.map eT).take i) false⟩))) ?_ ?_
    · simp -dsimp [scL]
    · rintro i ⟨s,hp⟩ hi ⟨e1,e2,e3,e9,e6,e10,e11,k3,k6,c,k9,hc⟩
      dsimp only at e1 e2 e3 e9 e6 e10 e11 k3 k6 k9 hc
      rcases ybm i ks.length with hlt | hge
      · have w1:IntKind.i64.wrap ((i:Int)+1)=(i:Int)+1:=zag (by omega) (by omega)
        have hbl:=zcd k i
        have hkn:=zbs (k:=k) (n:=n) (yaf hlt)
        have w2:IntKind.i64.wrap (u+b+zaf k i)=u+(b+zaf k i):=by rw [zag (by omega) (by omega)]; omega
        have hrec:=ih ks[i] (yaf _) (b+zaf k i) (hsk _ (yaf _)) (by omega) (by omega)
        have hs1:=zlw l u k b ks 0 i hlt
        rw [ybj] at hs1
        have hg:=zgf (zas l u) k b ks 0 i hlt
        rw [ybj] at hg
        have hn:=zhn eT cT zfg ml i (by omega)
        simp only [hML] at hg
        rw [hg] at hn
        have hr:(min i ml.length+1)*40≤zao:=by simp only [zao]; omega
        generalize mapT (zas l u) ks[i] (b+zaf k i)=Y at *
        generalize scI l u ks[i] (b+zaf k i)=Z at *
        generalize hX:ks[i]=X at *
        simp only [cT,eTs] at hrec hn
        simp -dsimp [e1,e2,e3,e9,e6,e10,e11,k3,k6,k9,hlt,hX,cT]
        refine zaa (zf6 k i) ?_
        simp -dsimp [e1,e2,e3,e9,e6,e10,e11,k3,k6,k9,hlt,hX,cT,w2]
        refine zaa hrec ?_
        simp -dsimp [e1,e2,e3,e9,e6,e10,e11,k3,k6,k9,hlt,hX,cT,w1,w2,hs1]
        rcases hc with ⟨rfl,rfl⟩ | ⟨hi0,v,rfl,hc⟩
        · have hne:¬ ml=[]:=ycA (by omega)
          simp only [ycu,ycv,ybj] at hn
          have hz2:scL l u k b 0 []=false:=by simp [scL]
          rw [ycu,hz2] at hs1
          rw [ycu,hz2] at e10
          have h40:40≤zao:=by simp only [zao]; omega
          simp at hlt w1
          simp -dsimp [e1,e2,e3,e9,e6,e10,e11,k3,k6,k9,hlt,hX,cT,w1,hs1,hz2,hn,h40]
        · cases hSh:scL l u k b 0 (ks.take i) with
          | true =>
            rw [hSh] at hs1 e10
            simp -dsimp [e1,e2,e3,e9,e6,e10,e11,k3,k6,k9,hc,hlt,hX,cT,w1,hs1,hn,hr]
          | false =>
            rw [hSh] at hs1 e10
            simp -dsimp [e1,e2,e3,e9,e6,e10,e11,k3,k6,k9,hc,hlt,hX,cT,w1,hs1,hn,hr]
      · have e:i=ks.length:=by omega
        subst e
        rw [ycd] at e10
        rcases hc with ⟨hz,rfl⟩ | ⟨hi0,v,rfl,hc⟩
        · have hm:ml=[]:=ycw.1 (by omega)
          have hkz:ks=[]:=ycw.1 hz
          simp -dsimp [e1,e2,e3,e9,e6,e10,e11,k3,k6,k9,hm,hkz]
        · rw [ycc (by simp; omega)] at hc
          simp -dsimp [e1,e2,e3,e9,e6,e10,e11,k3,k6,k9,hc]
end
end
section
section
attribute [local simp] zah zai tk tn tks zi1 zku
theorem zo8 (l:List T) (hl:l.length≤1000000) (hf:∀ x ∈ l,zab x=true∧zac x≤4194304) (u:Int) (hu:0≤u∧u≤65535) (t:T):∀ b:Int,zab t=true→0≤b→b+zac t≤4194304 →
    Pure Try.prog zbg [.agg (cT t),eTs l,.int .i64 (u+b)] [.bool (scI l u t b)]:=by
  refine T.ind (p:=fun t=>∀ b:Int,zab t=true→0≤b→b+zac t≤4194304→Pure Try.prog zbg [.agg (cT t),eTs l,.int .i64 (u+b)] [.bool (scI l u t b)]) ?_ t
  intro k n ks ih b hv h0 hb
  obtain ⟨hvn,hln,hsk⟩:=(zk5 _ hv).out
  refine zgh rfl fun hs=>?_
  by_cases h1:k=1
  · subst h1
    obtain ⟨⟨n0,n1⟩,hks⟩:=hvn rfl
    subst hks
    have hI:∀ W:Int,za7 l.length u n b=W→scI l u (.mk 1 n []) b=(match (if 0≤W then l[W.toNat]? else none) with | some a=>zlu a (u+b) | none=>false):=fun W hW=>by
      rw [scI,if_pos rfl,hW] <;> rfl
    have w3:IntKind.i64.wrap (n - (u+b))=n - (u+b):=zag (by omega) (by omega)
    by_cases c2:u+b≤n
    · by_cases c1:n - (u+b)<(l.length:Int)
      · obtain ⟨j,hj⟩:∃ j:Nat,(l.length:Int) - 1 - (n - (u+b))=j:=⟨((l.length:Int) - 1 - (n - (u+b))).toNat,by omega⟩
        have hjl:j<l.length:=by omega
        have hge:l[j]? = some l[j]:=yar hjl
        have hI2:=hI j (by rw [za7,if_neg (by omega)]; exact hj)
        have w2:IntKind.i64.wrap ((l.length:Int) - 1)=l.length - 1:=zag (by omega) (by omega)
        have w4:IntKind.i64.wrap ((l.length:Int) - 1 - (n - (u+b)))=j:=by rw [zag (by omega) (by omega),hj]
        obtain ⟨fj,nj⟩:=hf _ (yaf hjl)
        have hM:=zpr (u+b) 0 (by omega) (by omega) l[j] 0 fj (by omega) (by omega)
        rw [zps fj (by omega)] at hM
        rw [if_pos (by omega),ycB,hge] at hI2
        simp only [ycC] at hM
        rw [hI2]
        simp only
        generalize mapT (shF 0 (u+b)) l[j] 0=Y at *
        generalize zlu l[j] (u+b)=Z at *
        generalize hX:l[j]=X at *
        simp only [cT] at hM
        simp -dsimp [za1,cT,eTs,c1,c2,w2,w3,w4,hjl,hge,hX]
        refine zaa hM ?_
        simp -dsimp [cT]
      · have hI2:=hI (-1) (by rw [za7,if_pos (by omega)])
        rw [if_neg (by omega)] at hI2
        rw [hI2]
        simp -dsimp [za1,cT,eTs,c1,c2,w3]
        refine zaw 0 (fun i st=>st.s 3 = .ptr 3 1 0∧st.s 9 = .d (.int .i64 i)∧st.h 3=⟨1,.box [.d (.int .i64 1),.d (.int .i64 n),.d (.sl 3 [])] false⟩) ?_ ?_
        · simp -dsimp
        · rintro i ⟨s,hp⟩ hi ⟨e3,e9,k3⟩
          dsimp only at e3 e9 k3
          have:i=0:=by omega
          subst this
          simp -dsimp [e3,e9,k3]
    · have hI2:=hI (-1) (by rw [za7,if_pos (by omega)])
      rw [if_neg (by omega)] at hI2
      rw [hI2]
      simp -dsimp [za1,cT,eTs,c2]
      refine zaw 0 (fun i st=>st.s 3 = .ptr 3 1 0∧st.s 9 = .d (.int .i64 i)∧st.h 3=⟨1,.box [.d (.int .i64 1),.d (.int .i64 n),.d (.sl 3 [])] false⟩) ?_ ?_
      · simp -dsimp
      · rintro i ⟨s,hp⟩ hi ⟨e3,e9,k3⟩
        dsimp only at e3 e9 k3
        have:i=0:=by omega
        subst this
        simp -dsimp [e3,e9,k3]
  · have hB:scI l u (.mk k n ks) b=scL l u k b 0 ks:=by rw [scI,if_neg h1]
    rw [hB]
    simp -dsimp [za1,cT,eTs,h1]
    refine zaw ks.length (fun i st=>st.s 1 = .d (.sl 3 (l.map eT))∧st.s 2 = .d (.int .i64 (u+b))∧st.s 3 = .ptr 3 1 0∧st.s 9 = .d (.int .i64 i)∧st.h 3=⟨1,.box [.d (.int .i64 k),.d (.int .i64 n),.d (.sl 3 (ks.map eT))] false⟩∧scL l u k b 0 (ks.take i)=false) ?_ ?_
    · simp -dsimp [scL]
    · rintro i ⟨s,hp⟩ hi ⟨e1,e2,e3,e9,k3,hsc⟩
      dsimp only at e1 e2 e3 e9 k3
      rcases ybm i ks.length with hlt | hge
      · have w1:IntKind.i64.wrap ((i:Int)+1)=(i:Int)+1:=zag (by omega) (by omega)
        have hbl:=zcd k i
        have hkn:=zbs (k:=k) (n:=n) (yaf hlt)
        have w2:IntKind.i64.wrap (u+b+zaf k i)=u+(b+zaf k i):=by rw [zag (by omega) (by omega)]; omega
        have hrec:=ih ks[i] (yaf _) (b+zaf k i) (zbc hv _ (yaf _)) (by omega) (by omega)
        have hs1:=zlw l u k b ks 0 i hlt
        rw [ybj,hsc,Bool.false_or] at hs1
        cases hZ:scI l u ks[i] (b+zaf k i) with
        | true =>
          have hall:scL l u k b 0 ks=true:=by
            cases hq:scL l u k b 0 ks with
            | true=>rfl
            | false =>
              have:=ztr l u k b ks 0 i hlt hq
              rw [ybj,hZ] at this
              cases this
          rw [hZ] at hrec
          rw [hall]
          generalize hX:ks[i]=X at *
          simp only [cT,eTs] at hrec
          simp -dsimp [e1,e2,e3,e9,k3,hlt,hX,cT]
          refine zaa (zf6 k i) ?_
          simp -dsimp [e1,e2,e3,e9,k3,hlt,hX,cT,w2]
          refine zaa hrec ?_
          simp -dsimp [e1,e2,e3,e9,k3,hlt,hX,cT]
        | false =>
          rw [hZ] at hrec hs1
          generalize hX:ks[i]=X at *
          simp only [cT,eTs] at hrec
          simp -dsimp [e1,e2,e3,e9,k3,hlt,hX,cT]
          refine zaa (zf6 k i) ?_
          simp -dsimp [e1,e2,e3,e9,k3,hlt,hX,cT,w2]
          refine zaa hrec ?_
          simp -dsimp [e1,e2,e3,e9,k3,hlt,hX,cT,w1,hs1]
      · have e:i=ks.length:=by omega
        subst e
        rw [ycd] at hsc
        simp -dsimp [e1,e2,e3,e9,k3,hsc]
theorem zop (l:List T) (hl:l.length≤1000000) (hf:∀ x ∈ l,zab x=true∧zac x≤1048576) (u:Int) (hu:0≤u∧u≤65535) (t:T):∀ b:Int,zab t=true→0≤b→b+zac t≤4194304 →
    Pure Try.prog zbi [.agg (cT t),.sl 1 (l.map fun x=>.int .i64 (zac x)),.int .i64 (u+b)] [.int .i64 (min (zac (mapT (zas l u) t b):Int) 2199023255552)]:=by
  refine T.ind (p:=fun t=>∀ b:Int,zab t=true→0≤b→b+zac t≤4194304→Pure Try.prog zbi [.agg (cT t),.sl 1 (l.map fun x=>.int .i64 (zac x)),.int .i64 (u+b)] [.int .i64 (min (zac (mapT (zas l u) t b):Int) 2199023255552)]) ?_ t
  intro k n ks ih b hv h0 hb
  obtain ⟨hvn,hln,hsk⟩:=(zk5 _ hv).out
  refine zgm rfl fun hs=>?_
  by_cases h1:k=1
  · subst h1
    obtain ⟨⟨n0,n1⟩,hks⟩:=hvn rfl
    subst hks
    have hI:∀ W:Int,za7 l.length u n b=W→mapT (zas l u) (.mk 1 n []) b=(if 0≤W then match l[W.toNat]? with | some a=>zc6 (w64 (u+b)) a | none=>zT else .mk 1 (if u+b≤n then w64 (n - l.length) else n) []):=fun W hW=>by
      rw [znp,zas,hW] <;> rfl
    have w3:IntKind.i64.wrap (n - (u+b))=n - (u+b):=zag (by omega) (by omega)
    have leaf:∀ (st:S) (x:Int),st.s 3 = .ptr 3 1 0→st.s 7 = .d (.int .i64 x)→st.h 3=⟨1,.box [.d (.int .i64 1),.d (.int .i64 n),.d (.sl 3 [])] false⟩→True:=fun _ _ _ _ _=>trivial
    by_cases c2:u+b≤n
    · by_cases c1:n - (u+b)<(l.length:Int)
      · obtain ⟨j,hj⟩:∃ j:Nat,(l.length:Int) - 1 - (n - (u+b))=j:=⟨((l.length:Int) - 1 - (n - (u+b))).toNat,by omega⟩
        have hjl:j<l.length:=by omega
        have hge:l[j]? = some l[j]:=yar hjl
        have hI2:=hI j (by rw [za7,if_neg (by omega)]; exact hj)
        have w2:IntKind.i64.wrap ((l.length:Int) - 1)=l.length - 1:=zag (by omega) (by omega)
        have w4:IntKind.i64.wrap ((l.length:Int) - 1 - (n - (u+b)))=j:=by rw [zag (by omega) (by omega),hj]
        obtain ⟨fj,nj⟩:=hf _ (yaf hjl)
        rw [if_pos (by omega),ycB,hge] at hI2
        simp only at hI2
        rw [hI2,zha fj]
        have hm:min (zac l[j]:Int) 2199023255552=zac l[j]:=by omega
        rw [hm]
        generalize hX:l[j]=X at *
        simp -dsimp [za0,cT,c1,c2,w2,w3,w4,hjl,hge,hX]
        refine zaw 0 (fun i st=>st.s 3 = .ptr 3 1 0∧st.s 7 = .d (.int .i64 (zac X))∧st.s 8 = .d (.int .i64 i)∧st.h 3=⟨1,.box [.d (.int .i64 1),.d (.int .i64 n),.d (.sl 3 [])] false⟩) ?_ ?_
        · simp -dsimp
        · rintro i ⟨s,hp⟩ hi ⟨e3,e7,e8,k3⟩
          dsimp only at e3 e7 e8 k3
          have:i=0:=by omega
          subst this
          simp -dsimp [e3,e7,e8,k3]
      · have hI2:=hI (-1) (by rw [za7,if_pos (by omega)])
        rw [if_neg (by omega)] at hI2
        rw [hI2,zdv]
        simp -dsimp [za0,cT,c1,c2,w3]
        refine zaw 0 (fun i st=>st.s 3 = .ptr 3 1 0∧st.s 7 = .d (.int .i64 1)∧st.s 8 = .d (.int .i64 i)∧st.h 3=⟨1,.box [.d (.int .i64 1),.d (.int .i64 n),.d (.sl 3 [])] false⟩) ?_ ?_
        · simp -dsimp
        · rintro i ⟨s,hp⟩ hi ⟨e3,e7,e8,k3⟩
          dsimp only at e3 e7 e8 k3
          have:i=0:=by omega
          subst this
          simp -dsimp [e3,e7,e8,k3]
          rfl
    · have hI2:=hI (-1) (by rw [za7,if_pos (by omega)])
      rw [if_neg (by omega)] at hI2
      rw [hI2,zdv]
      simp -dsimp [za0,cT,c2]
      refine zaw 0 (fun i st=>st.s 3 = .ptr 3 1 0∧st.s 7 = .d (.int .i64 1)∧st.s 8 = .d (.int .i64 i)∧st.h 3=⟨1,.box [.d (.int .i64 1),.d (.int .i64 n),.d (.sl 3 [])] false⟩) ?_ ?_
      · simp -dsimp
      · rintro i ⟨s,hp⟩ hi ⟨e3,e7,e8,k3⟩
        dsimp only at e3 e7 e8 k3
        have:i=0:=by omega
        subst this
        simp -dsimp [e3,e7,e8,k3]
        rfl
  · have hM:mapT (zas l u) (.mk k n ks) b = .mk k n (mapL (zas l u) k b 0 ks):=by rw [mapT,if_neg h1]
    rw [hM]
    have hml:=ze9 (zas l u) k b ks 0
    have hN:zac (.mk k n (mapL (zas l u) k b 0 ks))=1+((mapL (zas l u) k b 0 ks).map zac).sum:=by rw [zac]; omega
    rw [hN]
    generalize hML:mapL (zas l u) k b 0 ks=ml at *
    simp -dsimp [za0,cT,h1]
    refine zaw ks.length (fun i st=>st.s 1 = .d (.sl 1 (l.map fun x=>.int .i64 (zac x)))∧st.s 2 = .d (.int .i64 (u+b))∧st.s 3 = .ptr 3 1 0∧st.s 8 = .d (.int .i64 i)∧st.h 3=⟨1,.box [.d (.int .i64 k),.d (.int .i64 n),.d (.sl 3 (ks.map eT))] false⟩ ∧
      st.s 7 = .d (.int .i64 (min ((1+((ml.take i).map zac).sum:Nat):Int) 2199023255552))) ?_ ?_
    · simp -dsimp
      omega
    · rintro i ⟨s,hp⟩ hi ⟨e1,e2,e3,e8,k3,e7⟩
      dsimp only at e1 e2 e3 e8 k3 e7
      rcases ybm i ks.length with hlt | hge
      · have w1:IntKind.i64.wrap ((i:Int)+1)=(i:Int)+1:=zag (by omega) (by omega)
        have hbl:=zcd k i
        have hkn:=zbs (k:=k) (n:=n) (yaf hlt)
        have w2:IntKind.i64.wrap (u+b+zaf k i)=u+(b+zaf k i):=by rw [zag (by omega) (by omega)]; omega
        have hrec:=ih ks[i] (yaf _) (b+zaf k i) (zbc hv _ (yaf _)) (by omega) (by omega)
        have hg:=zgf (zas l u) k b ks 0 i hlt
        rw [ybj] at hg
        simp only [hML] at hg
        have hsn:((ml.take (i+1)).map zac).sum=((ml.take i).map zac).sum+zac (mapT (zas l u) ks[i] (b+zaf k i)):=by
          rw [zek (yar (by omega:i<ml.length)),hg,List.map_append,List.sum_append]
          simp
        rw [hsn]
        generalize ((ml.take i).map zac).sum=A at *
        generalize zac (mapT (zas l u) ks[i] (b+zaf k i))=B at *
        generalize hX:ks[i]=X at *
        simp only [cT] at hrec
        simp -dsimp [e1,e2,e3,e8,k3,e7,hlt,hX,cT]
        refine zaa (zf6 k i) ?_
        simp -dsimp [e1,e2,e3,e8,k3,e7,hlt,hX,cT,w2]
        refine zaa hrec ?_
        simp -dsimp [e1,e2,e3,e8,k3,e7,hlt,hX,cT,w1,w2]
        rw [zag (by omega) (by omega)]
        split <;> omega
      · have e:i=ks.length:=by omega
        subst e
        rw [ycc (by omega)] at e7
        simp -dsimp [e1,e2,e3,e8,k3,e7]
theorem zk0 (t:T) (l:List T) (u:Int) (ht:zac t≤1048576) (hl:∀ x ∈ l,zac x≤1048576) (hn:l.length≤1000000) :
    Pure Try.prog zbx [.agg (cT t),eTs l,.int .i64 u] [.int .i64 (if zb9 t l u=0 then (zba t l u).sz else 0)]:=by
  refine zgi rfl fun hs=>?_
  have hC:=zh5 t
  have hin:=zqn u 0 65535
  simp only [cT] at hC
  have hO:=zjw t l u
  by_cases h1:zat t=0
  case neg =>
    rw [if_neg (fun h=>h1 (hO.1 h).1)]
    simp -dsimp [zbe,cT,eTs]
    refine zaa hC ?_
    simp -dsimp [h1]
  by_cases h2:inB u 0 65535=true
  case neg =>
    have h2':inB u 0 65535=false:=by simpa using h2
    rw [if_neg (fun h=>h2 ((zd5 _ _ _).2 (hO.1 h).2.2))]
    simp -dsimp [zbe,cT,eTs]
    refine zaa hC ?_
    simp -dsimp [h1]
    refine zaa hin ?_
    simp -dsimp [h2']
  simp -dsimp [zbe,cT,eTs]
  refine zaa hC ?_
  simp -dsimp [h1]
  refine zaa hin ?_
  simp -dsimp [h2]
  refine zaw l.length (fun i st=>st.s 1 = .d (.sl 3 (l.map eT))∧st.s 2 = .d (.int .i64 u)∧(st.s 3 = .ptr 3 1 0∧st.h 3=⟨1,.box [.d (.int .i64 t.kind),.d (.int .i64 t.num),.d (.sl 3 (t.kids.map eT))] false⟩)∧st.s 8 = .d (.int .i64 i) ∧
    (∃ v,st.s 7 = .rsl 7 v∧st.h 7=⟨v,.row 1 ((l.map fun x=>D.int .i64 (zac x)).take i) false⟩) ∧ ∀ x ∈ l.take i,zat x=0) ?_ ?_
  · simp -dsimp
  rintro i ⟨s,hp⟩ hi ⟨g1,g2,⟨g3,k3⟩,g8,⟨v,g7,k7⟩,hall⟩
  dsimp only at g1 g2 g3 k3 g8 g7 k7
  rcases ybm i l.length with hlt | hge
  · have w1:IntKind.i64.wrap ((i:Int)+1)=(i:Int)+1:=zag (by omega) (by omega)
    have hCi:=zh5 l[i]
    have hSi:=znf l[i]
    have hxm:=yaf hlt
    have hni:=hl _ hxm
    rw [znw _ (by omega)] at hSi
    by_cases h3:zat l[i]=0
    case neg =>
      rw [if_neg (fun h=>h3 ((hO.1 h).2.1 _ hxm))]
      generalize hX:l[i]=X at *
      simp only [cT] at hCi
      simp -dsimp [g1,g2,g3,k3,g8,g7,k7,hlt,hX,cT]
      refine zaa hCi ?_
      simp -dsimp [g1,g2,g3,k3,g8,g7,k7,hlt,hX,cT,h3]
    have hall':∀ x ∈ l.take (i+1),zat x=0:=fun x hx=>by
      rw [zek (yar hlt)] at hx
      rcases List.mem_append.1 hx with hx | hx
      · exact hall x hx
      · rw [List.mem_singleton] at hx; subst hx; exact h3
    have hr:(min i l.length+1)*8≤zao:=by simp only [zao]; omega
    have hnx:(l.map fun x=>D.int .i64 (zac x)).take (i+1)=(l.map fun x=>D.int .i64 (zac x)).take i ++ [.int .i64 (zac l[i])]:=by
      rw [zek (yar (by simpa using hlt))]
      simp
    rw [hnx]
    generalize hX:l[i]=X at *
    simp only [cT] at hCi hSi
    simp -dsimp [g1,g2,g3,k3,g8,g7,k7,hlt,hX,cT]
    refine zaa hCi ?_
    simp -dsimp [g1,g2,g3,k3,g8,g7,k7,hlt,hX,cT,h3]
    refine zaa hSi ?_
    simp -dsimp [g1,g2,g3,k3,g8,g7,k7,hlt,hX,cT,hr,w1]
    exact hall'
  have e:i=l.length:=by omega
  subst e
  rw [ycd] at hall
  rw [ycc (by simp)] at k7
  have hz:=hO.2 ⟨h1,hall,(zd5 _ _ _).1 h2⟩
  rw [if_pos hz,zft hz ht hl]
  obtain ⟨f1,f2,f3⟩:=zeh hz
  have hS:=zop l hn (fun x hx=>⟨f2 x hx,hl x hx⟩) u f3 t 0 f1 (by omega) (by omega)
  rw [ycC] at hS
  simp only [zcv]
  generalize zac (mapT (zas l u) t 0)=N at *
  simp only [cT] at hS
  simp -dsimp [g1,g2,g3,k3,g8,g7,k7]
  refine zaa hS ?_
  simp -dsimp [g1,g2,g3,k3,g8,g7,k7]
  split <;> omega
theorem zsb (t:T) (l:List T) (u:Int) (ht:zac t≤1048576) (hl:∀ x ∈ l,zac x≤1048576) (hn:l.length≤1000000) :
    Pure Try.prog zda [.agg (cT t),eTs l,.int .i64 u] [.agg (cT (zd8 t l u)),.int .i64 (zb3 t l u)]:=by
  refine zhu rfl fun hs=>?_
  have hC:=zh5 t
  have hin:=zqn u 0 65535
  simp only [cT] at hC
  have bad:zb3 t l u ≠ 0→zd8 t l u=zT:=fun h=>by rw [zd8,if_neg h]
  by_cases h1:zat t=0
  case neg =>
    have e0:zb9 t l u=zat t:=by rw [zb9,if_neg h1]
    have e1:zb3 t l u=zat t:=by rw [zb3,if_neg (by rw [e0]; exact h1),e0]
    rw [bad (by rw [e1]; exact h1),e1]
    simp -dsimp [zcg,cT,eTs]
    refine zaa hC ?_
    simp -dsimp [h1,zT,cT]
  simp -dsimp [zcg,cT,eTs]
  refine zaa hC ?_
  simp -dsimp [h1]
  refine zaw l.length (fun i st=>st.s 1 = .d (.sl 3 (l.map eT))∧st.s 2 = .d (.int .i64 u)∧(st.s 3 = .ptr 3 1 0∧st.h 3=⟨1,.box [.d (.int .i64 t.kind),.d (.int .i64 t.num),.d (.sl 3 (t.kids.map eT))] false⟩)∧(st.s 6 = .ptr 6 1 0∧st.h 6=⟨1,.box [.d (.int .i64 0),.d (.int .i64 0),.fsl 3 []] false⟩)∧st.s 9 = .d (.int .i64 i)∧(st.h 12).ver=0 ∧
    ∀ (j:Nat) (hj:j<l.length),j<i→zat l[j]=0) ?_ ?_
  · simp -dsimp
  rintro i ⟨s,hp⟩ hi ⟨g1,g2,⟨g3,k3⟩,⟨g6,k6⟩,g9,v12,hall⟩
  dsimp only at g1 g2 g3 k3 g6 k6 g9 v12
  rcases ybm i l.length with hlt | hge
  · have w1:IntKind.i64.wrap ((i:Int)+1)=(i:Int)+1:=zag (by omega) (by omega)
    have hCi:=zh5 l[i]
    by_cases h3:zat l[i]=0
    case neg =>
      have ea:=zlf l i hlt hall h3
      have e0:zb9 t l u=zat l[i]:=by rw [zb9,if_pos h1,if_neg (by rw [ea]; exact h3),ea]
      have e1:zb3 t l u=zat l[i]:=by rw [zb3,if_neg (by rw [e0]; exact h3),e0]
      rw [bad (by rw [e1]; exact h3),e1]
      generalize hX:l[i]=X at *
      simp only [cT] at hCi
      simp -dsimp [g1,g2,g3,k3,g6,k6,g9,hlt,hX,cT]
      refine zaa hCi ?_
      simp -dsimp [g1,g2,g3,k3,g6,k6,g9,hlt,hX,cT,h3,zT]
    have hall':∀ (j:Nat) (hj:j<l.length),j<i+1→zat l[j]=0:=fun j hj hji=>by
      rcases ybm j i with h | h
      · exact hall j hj h
      · have:j=i:=by omega
        subst this; exact h3
    generalize hX:l[i]=X at *
    simp only [cT] at hCi
    simp -dsimp [g1,g2,g3,k3,g6,k6,g9,hlt,hX,cT]
    refine zaa hCi ?_
    simp -dsimp [g1,g2,g3,k3,g6,k6,g9,hlt,hX,cT,h3,w1,v12]
    exact hall'
  have e:i=l.length:=by omega
  subst e
  have ea:zg1 l=0:=zki l hall
  simp -dsimp [g1,g2,g3,k3,g6,k6,g9]
  refine zaa hin ?_
  by_cases h2:inB u 0 65535=true
  case neg =>
    have h2':inB u 0 65535=false:=by simpa using h2
    have hu:u<0∨65535<u:=by
      by_cases q:u<0∨65535<u
      · exact q
      · exact absurd ((zd5 _ _ _).2 (by omega)) h2
    have e0:zb9 t l u=1:=by rw [zb9,if_pos h1,if_pos ea,if_pos hu]
    have e1:zb3 t l u=1:=by rw [zb3,if_neg (by rw [e0]; decide),e0]
    rw [bad (by rw [e1]; decide),e1]
    simp -dsimp [g1,g2,g3,k3,g6,k6,g9,h2',zT,cT]
  have hu:=(zd5 _ _ _).1 h2
  have hz:zb9 t l u=0:=by rw [zb9,if_pos h1,if_pos ea,if_neg (by omega)]
  obtain ⟨f1,f2,f3⟩:=zeh hz
  have hS:=zk0 t l u ht hl hn
  rw [if_pos hz,zft hz ht hl] at hS
  have hBy:=zo8 l hn (fun x hx=>⟨f2 x hx,by have:=hl x hx; omega⟩) u f3 t 0 f1 (by omega) (by omega)
  have hPu:=zvn l hn (fun x hx=>⟨f2 x hx,by have:=hl x hx; omega⟩) u f3 t 0 (zk5 _ f1) (by omega) (by omega)
  rw [ycC] at hBy hPu
  have hE:zb3 t l u=if scI l u t 0 then 6 else if 6000<min (zac (mapT (zas l u) t 0):Int) zcv then 4 else if 200<(zal (mapT (zas l u) t 0):Int) then 5 else 0:=by
    rw [zb3,if_pos hz,zft hz ht hl]
  have hT:zb3 t l u=0→zd8 t l u=mapT (zas l u) t 0:=zrl
  have hD:=zlp (mapT (zas l u) t 0)
  have hDn:∀ h:zac (mapT (zas l u) t 0)≤6000,zbn (mapT (zas l u) t 0)=zal (mapT (zas l u) t 0):=fun h=>zlz _ (by omega)
  simp only [zcv] at hE hS
  generalize zd8 t l u=IT at *
  generalize zb3 t l u=IE at *
  generalize mapT (zas l u) t 0=MT at *
  generalize hZ:scI l u t 0=Z at *
  simp only [cT,eTs] at hS hBy hPu hD
  simp -dsimp [g1,g2,g3,k3,g6,k6,g9,h2]
  refine zaa hS ?_
  by_cases h4:6000<min (zac MT:Int) 1099511627776
  · simp -dsimp [g1,g2,g3,k3,g6,k6,g9,h4]
    refine zaa hBy ?_
    cases Z with
    | true =>
      have:IE=6:=by rw [hE]; rfl
      rw [bad (by omega),this]
      simp -dsimp [g1,g2,g3,k3,g6,k6,g9,zT,cT]
    | false =>
      have:IE=4:=by rw [hE]; simp [h4]
      rw [bad (by omega),this]
      simp -dsimp [g1,g2,g3,k3,g6,k6,g9,zT,cT]
  · simp -dsimp [g1,g2,g3,k3,g6,k6,g9,h4]
    refine zaa hPu ?_
    cases Z with
    | true =>
      have:IE=6:=by rw [hE]; rfl
      rw [bad (by omega),this]
      simp -dsimp [g1,g2,g3,k3,g6,k6,g9,v12,zT,cT]
    | false =>
      have hn6:zac MT≤6000:=by omega
      rw [hDn hn6] at hD
      simp -dsimp [g1,g2,g3,k3,g6,k6,g9,v12]
      refine zaa hD ?_
      by_cases h5:200<(zal MT:Int)
      · have:IE=5:=by rw [hE]; simp [h4]; omega
        rw [bad (by omega),this]
        simp -dsimp [g1,g2,g3,k3,g6,k6,g9,v12,h5,zT,cT]
      · have h0:IE=0:=by rw [hE]; simp [h4]; omega
        rw [hT h0,h0]
        simp -dsimp [g1,g2,g3,k3,g6,k6,g9,v12,h5,cT]
end
end
section
attribute [local simp] zah zai tk tn tks zi1 zku
def tA5 (a b:T):T:=.mk 6 0 [a,b]
def tU5 (n:Int):T:=.mk 2 n []
theorem nU (n:Int):zac (tU5 n)=1∧zal (tU5 n)=1∧(0≤n∧n≤65535→zab (tU5 n)=true):=by
  refine ⟨zdv _ _,zdu _ _,fun h=>?_⟩
  simp [tU5,zaq,zct,(zd5 n 0 65535).2 h]
theorem nV (n:Int):zac (tV n)=1∧zal (tV n)=1∧(0≤n∧n≤65535→zab (tV n)=true):=by
  refine ⟨zdv _ _,zdu _ _,fun h=>?_⟩
  simp [tV,zaq,zct,(zd5 n 0 65535).2 h]
theorem nA {a b:T} (ha:zab a=true) (hb:zab b=true):zac (tA5 a b)=zac a+zac b+1∧zal (tA5 a b)=max (zal a) (zal b)+1∧zab (tA5 a b)=true:=by
  refine ⟨zto _ _ _ _,by rw [tA5,zal]; simp [dmax],?_⟩
  simp [tA5,zaq,zct,isM,ha,hb]
def wT:T:=tA5 (tV 1) (tV 0)
theorem zjf:zac wT=3∧zal wT=2∧zab wT=true:=by
  have h1:=nV 1
  have h0:=nV 0
  have:=nA (h1.2.2 (by omega)) (h0.2.2 (by omega))
  refine ⟨by rw [wT,this.1,h1.1,h0.1],by rw [wT,this.2.1,h1.2.1,h0.2.1]; rfl,this.2.2⟩
theorem wU (n:Int) (h:0≤n∧n≤65535):zat (tU5 n)=0:=by
  have:=nU n
  exact (zml (by omega)).2 ⟨by omega,by omega,this.2.2 h⟩
theorem zrb:zat wT=0:=by
  have:=zjf
  exact (zml (by omega)).2 ⟨by omega,by omega,this.2.2⟩
theorem wMap (a b:T):mapT (zas [a,b] 0) wT 0=tA5 (zc6 (w64 (0+0)) a) (zc6 (w64 (0+0)) b):=by
  simp [wT,tA5,tV,mapT,mapL,zas,za7,zaf]
theorem wSc (a b:T) (ha:zc8 a 0≤65535) (hb:zc8 b 0≤65535):scI [a,b] 0 wT 0=false:=by
  simp [wT,tA5,tV,scI,scL,za7,zaf,zlu]
  omega
theorem ztk (y n:Int):zc6 y (tU5 n)=tU5 n:=by simp [zc6,tU5,mapT,mapL]
theorem zxf:zd8 wT [tU5 0,tU5 1] 0=tA5 (tU5 0) (tU5 1)∧zb3 wT [tU5 0,tU5 1] 0=0:=by
  have h0:=nU 0
  have h1:=nU 1
  have hw:=zjf
  have hmap:mapT (zas [tU5 0,tU5 1] 0) wT 0=tA5 (tU5 0) (tU5 1):=by rw [wMap,ztk,ztk]
  have hA:=nA (h0.2.2 (by omega)) (h1.2.2 (by omega))
  have hE:zb3 wT [tU5 0,tU5 1] 0=0:=by
    rw [zrw (by omega) (by intro x hx; simp at hx; rcases hx with rfl | rfl <;> omega),hmap]
    refine ⟨(zjw _ _ _).2 ⟨zrb,?_,by omega⟩,wSc _ _ ?_ ?_,by omega,by omega⟩
    · intro x hx
      simp at hx
      rcases hx with rfl | rfl
      · exact wU 0 (by omega)
      · exact wU 1 (by omega)
    · exact (zlg _ (h0.2.2 (by omega)) 0).2
    · exact (zlg _ (h1.2.2 (by omega)) 0).2
  exact ⟨by rw [zrl hE,hmap],hE⟩
theorem wake2:(if zb9 wT [wT,wT] 0=0 then (zba wT [wT,wT] 0).sz else 0)=7:=by
  have hw:=zjf
  have hO:zb9 wT [wT,wT] 0=0:=(zjw _ _ _).2 ⟨zrb,by intro x hx; simp at hx; subst hx; exact zrb,by omega⟩
  rw [if_pos hO,zft hO (by omega) (by intro x hx; simp at hx; subst hx; omega),wMap]
  have h1:zac (tA5 (zc6 (w64 (0+0)) wT) (zc6 (w64 (0+0)) wT))=7:=by
    rw [tA5,zto,zha hw.2.2,hw.1]
  simp only [h1]
  rfl
theorem zoy:Pure Try.prog zcy [] [.bool true]:=by
  refine zgr rfl fun hs=>?_
  have hw:=zjf
  have h0:=nU 0
  have h1:=nU 1
  simp -dsimp [zc1]
  refine zaa (zwz 1) ?_
  simp -dsimp [cT]
  refine zaa (zwz 0) ?_
  simp -dsimp [cT]
  have r1:=zwi 6 [tV 1,tV 0] (by decide)
  simp only [eTs,yaV,ycx,tV,tU5,tA5,wT,zfg,cT,tk,tn,tks] at r1
  refine zaa r1 ?_
  simp -dsimp [cT]
  refine zaa (zs2 0) ?_
  simp -dsimp [cT]
  refine zaa (zs2 1) ?_
  simp -dsimp [cT]
  have hi:=zvx wT [tU5 0,tU5 1] 0 (by omega) (by intro x hx; simp at hx; rcases hx with rfl | rfl <;> omega) (by simp)
  rw [zxf.1,zxf.2] at hi
  simp only [eTs,yaV,ycx,tV,tU5,tA5,wT,zfg,cT,tk,tn,tks] at hi
  refine zaa hi ?_
  simp -dsimp [cT]
  refine zaa (zs2 0) ?_
  simp -dsimp [cT]
  refine zaa (zs2 1) ?_
  simp -dsimp [cT]
  have r2:=zwi 6 [tU5 0,tU5 1] (by decide)
  simp only [eTs,yaV,ycx,tV,tU5,tA5,wT,zfg,cT,tk,tn,tks] at r2
  refine zaa r2 ?_
  simp -dsimp [cT]
  have hk:=ze8 (tA5 (tU5 0) (tU5 1))
  simp only [eTs,yaV,ycx,tV,tU5,tA5,wT,zfg,cT,tk,tn,tks] at hk
  refine zaa hk ?_
  simp -dsimp [cT]
  have hz:=zmj wT [wT,wT] 0 (by omega) (by intro x hx; simp at hx; subst hx; omega) (by simp)
  rw [wake2] at hz
  simp only [eTs,yaV,ycx,tV,tU5,tA5,wT,zfg,cT,tk,tn,tks] at hz
  refine zaa hz ?_
  simp -dsimp [cT]
end
section
attribute [local simp] zah zai tk tn tks
def TI (q:D→AV) (l:List T) (t:T) (u:Int) (st:S):Prop:=st.s 1=q (.sl 3 (l.map eT))∧st.s 2 = .d (.int .i64 u)∧st.s 3 = .ptr 3 1 0∧st.h 3=⟨1,.box [.d (.int .i64 t.kind),.d (.int .i64 t.num),q (.sl 3 (t.kids.map eT))] false⟩
def TJ (q:D→AV) (l:List T) (t:T) (st:S):Prop:=st.s 8=q (.sl 3 (l.map eT))∧st.s 7 = .ptr 7 1 0∧st.h 7=⟨1,.box [.d (.int .i64 t.kind),.d (.int .i64 t.num),q (.sl 3 (t.kids.map eT))] false⟩
theorem zln (t:T) (l:List T) (u:Int) (hn:zac t≤1048576) (hm':∀ x ∈ l,zac x≤1048576) (ho:okT t) (hl:okTs l):Pure Try.prog ze7 [.agg (cT t),eTs l,.int .i64 u] [.bool true]:=by
  refine zwl hm Try.func4 zfc rfl fun w0=>?_
  have hres:zdg.res=[XRes.tmp 6]:=rfl
  rw [hres]
  have hh:=zk1 [t]
  have hh2:=zk1 l
  simp only [eTs,yaV,ycx,zfg,cT] at hh
  simp only [eTs] at hh2
  refine Snd.seqF (fun st=>TI .d l t u st∧VZ [7,9,11] st) (fun K hK=>?_) ?_
  · simp -dsimp [cT]
    refine hK _ ?_
    simp -dsimp [TI,VZ,eTs]
  rintro ⟨s,hp⟩ ⟨⟨g1,g2,g3,g4⟩,hv⟩
  dsimp only at g1 g2 g3 g4
  have hv':=hv
  simp only [VZ,yaZ,yct,or_false,forall_eq_or_imp,forall_eq] at hv'
  obtain ⟨v1,v2,v3⟩:=hv'
  refine Snd.seqF (fun st=>TI .d l t u st∧VZ [7,9,11] st∧zij l=false) (fun K hK=>?_) ?_
  · simp -dsimp [g1,g2,g3,g4]
    refine zaa hh ?_
    simp -dsimp [g1,g2,g3,g4]
    (first | refine zaj ?_ ?_ | refine zak ?_ ?_) <;> intro h1 <;> (try simp only [nrm] at h1) <;> simp -dsimp [h1,g1,g2,g3,g4]
    refine zaa hh2 ?_
    simp -dsimp [h1,g1,g2,g3,g4]
    (first | refine zaj ?_ ?_ | refine zak ?_ ?_) <;> intro h2 <;> (try simp only [nrm] at h2) <;> simp -dsimp [h2,h1,g1,g2,g3,g4]
    refine hK _ ?_
    simp -dsimp [TI,VZ,h1,h2,g1,g2,g3,g4,v1,v2,v3]
  clear v1 v2 v3 g1 g2 g3 g4 hv
  rintro ⟨s,hp⟩ ⟨⟨g1,g2,g3,g4⟩,hv,h2⟩
  dsimp only at g1 g2 g3 g4
  have hln:l.length≤1000000:=by
    simp only [zij,ycy,decide_eq_false_iff_not] at h2
    have:=h2.1.1
    omega
  have hv':=hv
  simp only [VZ,yaZ,yct,or_false,forall_eq_or_imp,forall_eq] at hv'
  obtain ⟨v1,v2,v3⟩:=hv'
  have tw:=zri t ho
  have tws:=zs9 l hl
  simp only [cT,eTs] at tw tws
  refine Snd.seqF (fun st=>TI .d l t u st∧TJ .d l t st∧VZ [9,11] st) (fun K hK=>?_) ?_
  · simp -dsimp [g1,g2,g3,g4]
    refine zaa tw ?_
    simp -dsimp [g1,g2,g3,g4]
    refine zaa tws ?_
    simp -dsimp [g1,g2,g3,g4,v1]
    refine hK _ ?_
    simp -dsimp [TI,TJ,VZ,g1,g2,g3,g4,v1,v2,v3]
  clear v1 v2 v3 g1 g2 g3 g4 hv
  rintro ⟨s,hp⟩ ⟨⟨g1,g2,g3,g4⟩,⟨g5,g6,g7⟩,hv⟩
  dsimp only at g1 g2 g3 g4 g5 g6 g7
  refine Snd.cut fun m=>?_
  have hF:TI (.n false) l t u (oldS ⟨s,hp⟩)∧TJ (.n false) l t (oldS ⟨s,hp⟩)∧VZ [9,11] (oldS ⟨s,hp⟩):=by
    refine ⟨?_,?_,fun j hj=>hv j hj⟩
    · simp [TI,oldS,oldE,oldA,D.flat,g1,g2,g3,g4]
    · simp [TJ,oldS,oldE,oldA,D.flat,g5,g6,g7]
  revert hF
  generalize oldS ⟨s,hp⟩=st
  clear g1 g2 g3 g4 g5 g6 g7 hv
  obtain ⟨s,hp⟩:=st
  rintro ⟨⟨g1,g2,g3,g4⟩,⟨g5,g6,g7⟩,hv⟩
  dsimp only at g1 g2 g3 g4 g5 g6 g7
  have hv':=hv
  simp only [VZ,yaZ,yct,or_false,forall_eq_or_imp,forall_eq] at hv'
  obtain ⟨v2,v3⟩:=hv'
  have nI:=zsm t l u (by omega) (fun x hx=>by have:=hm' x hx; omega) (by omega)
  have rI:=zsb t l u hn hm' hln
  have sI:=zmj t l u (by omega) (fun x hx=>by have:=hm' x hx; omega) (by omega)
  have rS:=zk0 t l u hn hm' hln
  have kI:=ze8 (zd8 t l u)
  have kT:=ze8 t
  have kL:=zmw l
  generalize (if zb9 t l u=0 then (zba t l u).sz else 0)=SZ at *
  generalize zd8 t l u=IT at *
  generalize zb3 t l u=IE at *
  simp only [cT,eTs] at nI rI sI rS kI kT kL
  refine Snd.seqF (fun st=>TI (.n false) l t u st∧TJ (.n false) l t st∧SO 9 10 (.n true) IT IE st∧VZ [11] st) (fun K hK=>?_) ?_
  · simp -dsimp [g1,g2,g3,g4,g5,g6,g7]
    refine zdw nI ?_
    simp -dsimp [g1,g2,g3,g4,g5,g6,g7,v2]
    refine hK _ ?_
    simp -dsimp [TI,TJ,SO,VZ,g1,g2,g3,g4,g5,g6,g7,v2,v3]
  clear g1 g2 g3 g4 g5 g6 g7 hv v2 v3
  rintro ⟨s,hp⟩ ⟨⟨g1,g2,g3,g4⟩,⟨g5,g6,g7⟩,⟨a1,a2,a3⟩,hv⟩
  dsimp only at g1 g2 g3 g4 g5 g6 g7 a1 a2 a3
  have v3:(hp 11).ver=0:=hv 11 (by simp)
  refine Snd.seqF (fun st=>TI (.n false) l t u st∧TJ (.n false) l t st∧SO 9 10 (.n true) IT IE st∧SO 11 12 .d IT IE st) (fun K hK=>?_) ?_
  · simp -dsimp [g1,g2,g3,g4,g5,g6,g7,a1,a2,a3]
    refine zaa rI ?_
    simp -dsimp [g1,g2,g3,g4,g5,g6,g7,a1,a2,a3,v3]
    refine hK _ ?_
    simp -dsimp [TI,TJ,SO,VZ,g1,g2,g3,g4,g5,g6,g7,a1,a2,a3,v3]
  clear g1 g2 g3 g4 g5 g6 g7 a1 a2 a3 hv v3
  rintro ⟨s,hp⟩ ⟨⟨g1,g2,g3,g4⟩,⟨g5,g6,g7⟩,⟨a1,a2,a3⟩,b1,b2,b3⟩
  dsimp only at g1 g2 g3 g4 g5 g6 g7 a1 a2 a3 b1 b2 b3
  refine Snd.seqF (fun st=>TI (.n false) l t u st∧TJ (.n false) l t st∧SO 9 10 (.n true) IT IE st) (fun K hK=>?_) ?_
  · simp -dsimp [g1,g2,g3,g4,g5,g6,g7,a1,a2,a3,b1,b2,b3]
    refine zaa kI ?_
    simp -dsimp [g1,g2,g3,g4,g5,g6,g7,a1,a2,a3,b1,b2,b3]
    refine zaa sI ?_
    simp -dsimp [g1,g2,g3,g4,g5,g6,g7,a1,a2,a3,b1,b2,b3]
    refine zaa rS ?_
    simp -dsimp [g1,g2,g3,g4,g5,g6,g7,a1,a2,a3,b1,b2,b3]
    refine zaa kT ?_
    simp -dsimp [g1,g2,g3,g4,g5,g6,g7,a1,a2,a3,b1,b2,b3]
    refine zaa kL ?_
    simp -dsimp [g1,g2,g3,g4,g5,g6,g7,a1,a2,a3,b1,b2,b3]
    refine hK _ ?_
    simp -dsimp [TI,TJ,SO,g1,g2,g3,g4,g5,g6,g7,a1,a2,a3]
  clear g1 g2 g3 g4 g5 g6 g7 a1 a2 a3 b1 b2 b3
  rintro ⟨s,hp⟩ ⟨⟨g1,g2,g3,g4⟩,⟨g5,g6,g7⟩,a1,a2,-⟩
  dsimp only at g1 g2 g3 g4 g5 g6 g7 a1 a2
  refine Spd.enter 70 ?_
  refine Spd.term (by omega) (by omega) (by omega) a1 a2 ?_
  refine Spd.leave ?_
  have hF:TI .d l t u (aftS 70 ⟨s,hp⟩)∧TJ .d l t (aftS 70 ⟨s,hp⟩):=by
    refine ⟨?_,?_⟩
    · simp [TI,aftS,aftE,znv,D.flat,g1,g2,g3,g4]
    · simp [TJ,aftS,aftE,znv,D.flat,g5,g6,g7]
  revert hF
  generalize aftS 70 ⟨s,hp⟩=st
  clear g1 g2 g3 g4 g5 g6 g7 a1 a2
  obtain ⟨s,hp⟩:=st
  rintro ⟨⟨g1,g2,g3,g4⟩,g5,g6,g7⟩
  dsimp only at g1 g2 g3 g4 g5 g6 g7
  refine Snd.last ?_
  simp -dsimp [g1,g2,g3,g4,g5,g6,g7]
  refine zaa kT ?_
  simp -dsimp [g1,g2,g3,g4,g5,g6,g7]
  refine zaa kL ?_
  simp -dsimp [g1,g2,g3,g4,g5,g6,g7]
  refine zaa zoy ?_
  simp -dsimp [g1,g2,g3,g4,g5,g6,g7]
end
end Ev
end Go.Proofs.Ytncmainjcffanaa
