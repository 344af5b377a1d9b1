/- Several texts in one. -/
import Derived.Test.YtncmainjcffanaaGreatEB
set_option maxRecDepth 100000
set_option linter.unusedSimpArgs false
set_option linter.unusedVariables false
open List renaming all_eq_true→yaC,flatMap_cons→ybv,getElem?_append→ybk,getElem?_append_left→ybs,getElem?_append_right→ybW,getElem?_cons_succ→ybu,getElem?_cons_zero→yaz,getElem?_eq_getElem→yar,getElem?_eq_none_iff→ybS,getElem?_eq_some_iff→yae,getElem?_inj→ybX,getElem?_map→yau,getElem?_range→ybF,getElem_mem→yaf,head?_cons→ybY,length_append→yaF,length_cons→yaS,lookup→ybZ,map_cons→yaV,mem_append→yaY,mem_filter→ybH,mem_filterMap→ybN,mem_flatMap→yaA,mem_iff_getElem?→ybD,mem_of_getElem?→yas,mem_range→ybE,range→yai,replicate→yaa
open Nat renaming eq_zero_of_not_pos→ybV,le_refl→yab,strongRecOn→ybP,zero_add→ybj,zero_le→yaR
open Option renaming getD_none→ybI,getD_some→ybG,map_some→yak
open Bool renaming and_eq_true→ybJ,false_eq_true→yao,not_eq_true'→ybK,or_eq_true→ybM
open Array renaming all_eq_true_iff_forall_mem→ybL,getD→yap,getD_eq_getD_getElem?→yaw,getElem?_append_left→ybU,getElem?_append_right→ybT,getElem?_eq_getElem→yal,getElem?_replicate→ybR,mem_toList_iff→ybO,replicate→ybQ
/- Regions at the machine. -/
namespace Go.Proofs.YtncmainjcffanaaGreat
namespace Ev
open Go
set_option linter.unusedSectionVars false
variable [Nw]
theorem zm3 {P:Program} {ops:Array Oper} {n:Nat}:∀ {l:List Oper} {xs:List XOper},zi2 P ops n l=some xs→l.length=xs.length ∧ ∀ (i:Nat) o,l[i]? = some o → ∃ x,xs[i]? = some x∧zuw P ops n o=some x
  | [],xs,h=>by simp [zi2] at h; subst h; simp
  | o :: l,xs,h=>by
    simp only [zi2] at h
    split at h
    · rename_i x ys hx hys
      cases h
      obtain ⟨h1,h2⟩:=zm3 hys
      refine ⟨by simp [h1],fun i o' hi=>?_⟩
      cases i with
      | zero=>simp at hi; subst hi; exact ⟨x,rfl,hx⟩
      | succ i=>simpa using h2 i o' (by simpa using hi)
    · cases h
section
variable {P:Program} {G:GS} {w:World} {a:Act}
theorem Fr.drew {n:Nat} {st:S} (fr:Fr n G st a w):Fr n G st a { w with drawn:=w.drawn+1 } ∧ Step G st.h w G st.h { w with drawn:=w.drawn+1 }:=by
  have hb:RowKit.Below w.heap.size w { w with drawn:=w.drawn+1 }:=⟨rfl,rfl,rfl,yab _,fun _ _=>rfl⟩
  have hs:=zgh fr.inv (St':=G.St) hb (fun _ _=>rfl) fr.inv.st (fun b hb h0=>by have:=fr.inv.st b h0; omega)
  exact ⟨⟨hs.inv,fr.slots.ext hs.ext,fr.size⟩,hs⟩
theorem zz0 {ops:Array Oper} {n:Nat} {K:S→Prop} {Q:Exit→Act→World→Prop}:∀ (l:List Oper) (xs:List XOper) (k:Nat) {G:GS} {st:S} {a:Act} {w:World},zi2 P ops n l=some xs→(∀ j,l[j]? = ops[k+j]?)→Fr n G st a w→wpO P xs st K →
    (∀ a' w' G' st',Fr n G' st' a' w'→Step G st.h w G' st'.h w'→a'.defers=a.defers→K st'→Q .normal a' w')→wpOps P ops Q (List.range' k l.length) a w
  | [],xs,k,G,st,a,w,hc,hl,fr,hw,hQ=>by
    simp [zi2] at hc
    subst hc
    simp only [List.length_nil,List.range'_zero,wpOps]
    exact hQ a w G st fr (.refl fr.inv) rfl hw
  | o :: l,xs,k,G,st,a,w,hc,hl,fr,hw,hQ=>by
    simp only [zi2] at hc
    split at hc
    · rename_i x ys hx hys
      cases hc
      have h0:ops[k]? = some o:=by simpa using (hl 0).symm
      have hl':∀ j,l[j]? = ops[k+1+j]?:=fun j=>by have:=hl (j+1); simpa [Nat.add_assoc,Nat.add_comm 1 j] using this
      simp only [yaS,List.range'_succ,wpOps,h0]
      simp only [wpO] at hw
      cases hwt:zjy x st.s with
      | none=>rw [hwt] at hw; exact hw.elim
      | some b =>
        rw [hwt] at hw
        have hwo:=zmv hx fr.slots hwt
        rw [hwo]
        cases b with
        | true =>
          simp only [if_true]
          refine .inl (Oper.wp_mono ?_ (zE4 hx fr hw))
          rintro a' w' ⟨G',st',fr',hs,hd,hK⟩
          exact zz0 l ys (k+1) hys hl' fr' hK fun a'' w'' G'' st'' fr'' hs' hd' hK'=>hQ a'' w'' G'' st'' fr'' (hs.trans hs') (hd'.trans hd) hK'
        | false =>
          simp only [yao,if_false]
          obtain ⟨hd1,_,hd2,_⟩:=zc1 hx
          refine zz0 l ys (k+1) (G:=G) (st:=⟨putS st.s x.dst .skip,st.h⟩) hys hl' ⟨fr.inv,?_,by rw [zbq]; exact fr.size⟩ hw fun a'' w'' G'' st'' fr'' hs' hd' hK'=>hQ a'' w'' G'' st'' fr'' hs' (hd'.trans zax) hK'
          rw [hd1]
          exact fr.slots.put .skip fr.size hd2
    · cases hc
theorem zg6 {x y:XOper} (h:zvj x y=true):(∀ d,x.dst=some d→d ∉ zuf y)∧(∀ d,x.dst=some d→y.dst ≠ some d)∧(∀ d,y.dst=some d→d ∉ zuf x):=by
  refine ⟨fun d hd=>?_,fun d hd=>?_,fun d hd=>?_⟩ <;> simp [zvj,hd] at h
  · exact h.1.1
  · exact h.1.2
  · exact h.2
theorem zkw {o:XOper} {st:S} (h:zye o.op=true):zbx o st=[]:=by
  unfold zbx
  split
  · cases hop:o.op <;> first | rfl | (rw [hop] at h; simp [zye] at h)
  · rfl
theorem zvd {l:List Oper} {xs:List XOper} {ds:List (Bool × List Nat)} (hp:zEw l xs=some ds):l.length=xs.length∧(∀ (i:Nat) o,l[i]? = some o → ∀ j ∈ zcn o,j<i) ∧
    (∀ i j,i<j→j<xs.length→zjq (befs l []) i j=true → ∃ a b,xs[i]? = some a∧xs[j]? = some b∧zvj a b=true∧(zye a.op=true∨zye b.op=true ∨ ∃ d,ds[j]? = some d∧i ∈ d.2)):=by
  unfold zEw at hp
  simp only at hp
  split at hp
  · rename_i hc
    obtain ⟨h1,h2,h3⟩:=hc
    cases hp
    refine ⟨h1,fun i o hi j hj=>?_,fun i j hij hj hlo=>?_⟩
    · rw [yaC] at h3
      have:=h3 (o,i) (by rw [ybD]; exact ⟨i,by simp [List.getElem?_zipIdx,hi]⟩)
      rw [yaC] at this
      simpa using this j hj
    · rw [yaC] at h2
      have:=h2 j (ybE.2 hj)
      rw [yaC] at this
      have:=this i (ybE.2 hij)
      simp only [hlo,Bool.not_true,Bool.false_or] at this
      split at this
      · rename_i a b ha hb
        refine ⟨a,b,ha,hb,this,?_⟩
        cases hsa:zye a.op with
        | true=>exact .inl rfl
        | false =>
          cases hsb:zye b.op with
          | true=>exact .inr (.inl rfl)
          | false =>
            refine .inr (.inr ?_)
            simp only [yau,ybF hj,yak,Option.some.injEq,exists_eq_left']
            simp only [List.getD_eq_getElem?_getD,yau,ybF hj,yak,ybG,ybH,ybE]
            refine ⟨hij,?_⟩
            simp [hlo,ha,hb,hsa,hsb]
      · cases this
  · cases hp
theorem zg3 {a b:List (Nat × Bool)} (h:zjf a b=true) {k:Nat} {x y:Bool} (ha:(k,x) ∈ a) (hb:(k,y) ∈ b):x=false∧y=false:=by
  unfold zjf at h
  rw [yaC] at h
  have:=h _ ha
  rw [yaC] at this
  have:=this _ hb
  simp at this
  exact this
theorem zK0 {ops:Array Oper} {n id:Nat} {K:S→Prop} {Q:Exit→Act→World→Prop} {xs:List XOper} {ds:List (Bool × List Nat)} {st:S} (hm:P.follows .mixedOrders=true) (hc:zi2 P ops n ops.toList=some xs) (hp:zEw ops.toList xs=some ds)
    (fr:Fr n G st a w) (hw:wpT P xs ds 0 [] st K) (hQ:∀ a' w' G' st',Fr n G' st' a' w'→Step G st.h w G' st'.h w'→a'.defers=a.defers→K st'→Q .normal a' w'):(Code.region id ops true).wp P Q a w:=by
  obtain ⟨sts,hs0,hs1,hs2,hs3⟩:=zt3 (ops:=xs) (ds:=ds) xs ds 0 [] (fun _=>st) rfl rfl (fun j hj=>by omega) (fun a t h=>by simp at h) (fun j hj=>by omega) hw (yaR _)
  obtain ⟨hlen,hget⟩:=zm3 hc
  obtain ⟨hl1,haft,hloose⟩:=zvd hp
  have hN:ops.size=xs.length:=by rw [← hlen]; simp
  subst hs0
  let fs:Nat→Nat→Option AV:=fun t i=>match xs[i]? with | some o=>(if o.dst=some t then some ((sts (i+1)).s t) else none) | none=>none
  let fh:Nat→Nat→Option Ent:=fun k i=>match xs[i]? with | some o=>(if (k,true) ∈ zbx o (sts i) then some ((sts (i+1)).h k) else none) | none=>none
  have hloc:∀ i o,xs[i]? = some o → ∃ v,(sts (i+1)).s=putS (sts i).s o.dst v ∧ ∀ k,(k,true) ∉ zbx o (sts i)→(sts (i+1)).h k=(sts i).h k:=by
    intro i o ho
    obtain ⟨v,h1,h2,_⟩:=zk7 (st2:=sts i) (fun _ _=>rfl) (fun _ _ _=>rfl) (hs1 i o ho)
    exact ⟨v,h1,h2⟩
  have hTs:∀ t j,j≤xs.length→ov (fun _=>true) (fs t) ((sts 0).s t) j=(sts j).s t:=by
    intro t j
    induction j with
    | zero=>intro _; rfl
    | succ j ih =>
      intro hj
      have ho:=yar (l:=xs) (i:=j) (by omega)
      obtain ⟨v,h1,_⟩:=hloc j _ ho
      simp only [ov,if_true,ih (by omega),fs,ho]
      by_cases hd:xs[j].dst=some t
      · simp [hd]
      · simp only [hd,if_false,ybI,h1]
        cases hdd:xs[j].dst with
        | none=>rfl
        | some d =>
          have:t ≠ d:=fun e=>hd (by rw [hdd,e])
          simp [putS,upd,this]
  have hTh:∀ k j,j≤xs.length→ov (fun _=>true) (fh k) ((sts 0).h k) j=(sts j).h k:=by
    intro k j
    induction j with
    | zero=>intro _; rfl
    | succ j ih =>
      intro hj
      have ho:=yar (l:=xs) (i:=j) (by omega)
      obtain ⟨v,_,h2⟩:=hloc j _ ho
      simp only [ov,if_true,ih (by omega),fh,ho]
      by_cases hd:(k,true) ∈ zbx xs[j] (sts j)
      · simp [hd]
      · simp only [hd,if_false,ybI]
        exact (h2 k hd).symm
  let C:(Nat→Bool)→S:=fun gone=>⟨fun t=>ov gone (fs t) ((sts 0).s t) xs.length,fun k=>ov gone (fh k) ((sts 0).h k) xs.length⟩
  have hord:∀ (gone:Nat→Bool),(∀ (i:Nat) o,ops.toList[i]? = some o→gone i=true → ∀ j ∈ zcn o,gone j=true) → ∀ i j,i<j→j<xs.length→zjq (befs ops.toList []) i j=false→(gone j=true→gone i=true)∧(∀ o,ops.toList[j]? = some o→(∀ q ∈ zcn o,gone q=true)→gone i=true):=by
    intro gone hd i j hij hj hlo
    have hr:Reach ops.toList j i:=by
      refine zrd ops.toList [] rfl (fun _ _ h=>by simp at h) j i ?_
      simpa [zjq] using hlo
    exact ⟨fun h=>zrs hd hr h,fun o ho ha=>ztq hd ho ha hr⟩
  have hconf:∀ i j (x y:XOper),i<j→j<xs.length→xs[i]? = some x→xs[j]? = some y→zjq (befs ops.toList []) i j=true→zvj x y=true∧zjf (zbx x (sts i)) (zbx y (sts j))=true:=by
    intro i j x y hij hj hx hy hlo
    obtain ⟨x',y',hx',hy',hap,hst⟩:=hloose i j hij hj hlo
    rw [hx] at hx'
    rw [hy] at hy'
    cases hx'
    cases hy'
    refine ⟨hap,?_⟩
    rcases hst with h | h | ⟨d,hd,hi⟩
    · rw [zkw h]; rfl
    · rw [zkw h]
      unfold zjf
      rw [yaC]
      intro _ _
      rfl
    · obtain ⟨_,o',ho',hcc⟩:=hs3 j y hy d hd i hi
      rw [hx] at ho'
      cases ho'
      exact hcc
  have stepC:∀ (gone:Nat→Bool) (j:Nat) (o:Oper) (x:XOper),(∀ (i:Nat) o,ops.toList[i]? = some o→gone i=true → ∀ j ∈ zcn o,gone j=true)→gone j=false→ops.toList[j]? = some o→(∀ q ∈ zcn o,gone q=true)→xs[j]? = some x →
      ∀ gone',(∀ i,gone' i=if i=j then true else gone i)→zrk P x (C gone) (C gone'):=by
    intro gone j o x hd hgj ho ha hx gone' hg'
    have hj:j<xs.length:=(yae.1 hx).1
    have hS:∀ t ∈ zuf x,(C gone).s t=(sts j).s t:=by
      intro t ht
      show ov gone (fs t) _ _=_
      rw [zlw (j:=j) (by omega),hTs t j (by omega)]
      · intro i hi hf
        have hoi:=yar (l:=xs) (i:=i) (by omega)
        have hdst:xs[i].dst=some t:=by
          simp only [fs,hoi] at hf
          by_cases hh:xs[i].dst=some t
          · exact hh
          · simp [hh] at hf
        cases hlo:zjq (befs ops.toList []) i j with
        | false=>exact (hord gone hd i j hi hj hlo).2 o ho ha
        | true=>exact absurd ht ((zg6 (hconf i j _ _ hi hj hoi hx hlo).1).1 t hdst)
      · intro i hi hin hf
        by_cases hij:i=j
        · subst hij; exact hgj
        · have hoi:=yar (l:=xs) (i:=i) (by omega)
          have hdst:xs[i].dst=some t:=by
            simp only [fs,hoi] at hf
            by_cases hh:xs[i].dst=some t
            · exact hh
            · simp [hh] at hf
          cases hlo:zjq (befs ops.toList []) j i with
          | false =>
            cases hgi:gone i with
            | false=>rfl
            | true=>rw [(hord gone hd j i (by omega) hin hlo).1 hgi] at hgj; cases hgj
          | true=>exact absurd ht ((zg6 (hconf j i _ _ (by omega) hin hx hoi hlo).1).2.2 t hdst)
    have hH:∀ k b,(k,b) ∈ zbx x (sts j)→(C gone).h k=(sts j).h k:=by
      intro k b hk
      show ov gone (fh k) _ _=_
      rw [zlw (j:=j) (by omega),hTh k j (by omega)]
      · intro i hi hf
        have hoi:=yar (l:=xs) (i:=i) (by omega)
        have hmem:(k,true) ∈ zbx xs[i] (sts i):=by
          simp only [fh,hoi] at hf
          by_cases hh:(k,true) ∈ zbx xs[i] (sts i)
          · exact hh
          · simp [hh] at hf
        cases hlo:zjq (befs ops.toList []) i j with
        | false=>exact (hord gone hd i j hi hj hlo).2 o ho ha
        | true=>exact absurd (zg3 (hconf i j _ _ hi hj hoi hx hlo).2 hmem hk).1 (by simp)
      · intro i hi hin hf
        by_cases hij:i=j
        · subst hij; exact hgj
        · have hoi:=yar (l:=xs) (i:=i) (by omega)
          have hmem:(k,true) ∈ zbx xs[i] (sts i):=by
            simp only [fh,hoi] at hf
            by_cases hh:(k,true) ∈ zbx xs[i] (sts i)
            · exact hh
            · simp [hh] at hf
          cases hlo:zjq (befs ops.toList []) j i with
          | false =>
            cases hgi:gone i with
            | false=>rfl
            | true=>rw [(hord gone hd j i (by omega) hin hlo).1 hgi] at hgj; cases hgj
          | true=>exact absurd (zg3 (hconf j i _ _ (by omega) hin hx hoi hlo).2 hk hmem).2 (by simp)
    obtain ⟨v,h1,h2,h3⟩:=zk7 (st2:=C gone) hS hH (hs1 j x hx)
    have e:(⟨putS (C gone).s x.dst v,zij (zbx x (sts j)) (sts (j+1)).h (C gone).h⟩:S)=C gone':=by
      have es:putS (C gone).s x.dst v=(C gone').s:=by
        funext t
        show _=ov gone' (fs t) _ _
        rw [zsp (j:=j) hj hgj hg' (fun i hi hin hf hfj=>?_)]
        · show _=(fs t j).getD ((C gone).s t)
          simp only [fs,hx]
          cases hdd:x.dst with
          | none=>simp [putS]
          | some d =>
            by_cases htd:t=d
            · subst htd
              simp [putS,upd,h1,hdd]
            · simp [putS,upd,htd,Ne.symm htd]
        · have hoi:=yar (l:=xs) (i:=i) (by omega)
          have hdi:xs[i].dst=some t:=by
            simp only [fs,hoi] at hf
            by_cases hh:xs[i].dst=some t
            · exact hh
            · simp [hh] at hf
          have hdj:x.dst=some t:=by
            simp only [fs,hx] at hfj
            by_cases hh:x.dst=some t
            · exact hh
            · simp [hh] at hfj
          cases hlo:zjq (befs ops.toList []) j i with
          | false =>
            cases hgi:gone i with
            | false=>rfl
            | true=>rw [(hord gone hd j i hi hin hlo).1 hgi] at hgj; cases hgj
          | true=>exact absurd hdi ((zg6 (hconf j i _ _ hi hin hx hoi hlo).1).2.1 t hdj)
      have eh:zij (zbx x (sts j)) (sts (j+1)).h (C gone).h=(C gone').h:=by
        funext k
        show _=ov gone' (fh k) _ _
        rw [zsp (j:=j) hj hgj hg' (fun i hi hin hf hfj=>?_)]
        · show _=(fh k j).getD ((C gone).h k)
          simp only [fh,hx,zij]
          split <;> rfl
        · have hoi:=yar (l:=xs) (i:=i) (by omega)
          have hdi:(k,true) ∈ zbx xs[i] (sts i):=by
            simp only [fh,hoi] at hf
            by_cases hh:(k,true) ∈ zbx xs[i] (sts i)
            · exact hh
            · simp [hh] at hf
          have hdj:(k,true) ∈ zbx x (sts j):=by
            simp only [fh,hx] at hfj
            by_cases hh:(k,true) ∈ zbx x (sts j)
            · exact hh
            · simp [hh] at hfj
          cases hlo:zjq (befs ops.toList []) j i with
          | false =>
            cases hgi:gone i with
            | false=>rfl
            | true=>rw [(hord gone hd j i hi hin hlo).1 hgi] at hgj; cases hgj
          | true=>exact absurd (zg3 (hconf j i _ _ hi hin hx hoi hlo).2 hdj hdi).1 (by simp)
      rw [es,eh]
    rw [← e]
    exact h3
  have hend:∀ gone:Nat→Bool,(∀ i,i<xs.length→gone i=true)→C gone=sts xs.length:=by
    intro gone hg
    have h1:(C gone).s=(sts xs.length).s:=by
      funext t
      show ov gone (fs t) _ _=_
      rw [zlw (j:=xs.length) (yab _) (fun i hi _=>hg i hi) (fun i h1 h2=>by omega),hTs t _ (yab _)]
    have h2:(C gone).h=(sts xs.length).h:=by
      funext k
      show ov gone (fh k) _ _=_
      rw [zlw (j:=xs.length) (yab _) (fun i hi _=>hg i hi) (fun i h1 h2=>by omega),hTh k _ (yab _)]
    calc C gone=⟨(C gone).s,(C gone).h⟩:=rfl
      _=⟨(sts xs.length).s,(sts xs.length).h⟩:=by rw [h1,h2]
      _=sts xs.length:=rfl
  have hbegin:C (fun _=>false)=sts 0:=by
    have h1:∀ (V:Type) (f:Nat→Option V) (b:V) m,ov (fun _=>false) f b m=b:=by
      intro V f b m
      induction m with
      | zero=>rfl
      | succ m ih=>simp [ov,ih]
    show (⟨_,_⟩:S)=_
    simp only [h1]
  obtain ⟨frd,hsd⟩:=fr.drew
  refine wp_region_any hm ?_
  have ready_spec:∀ (listed:Array Bool) j,j ∈ Region.ready .any ops listed→j<xs.length∧listed.getD j true=false ∧ ∃ o,ops.toList[j]? = some o ∧ ∀ q ∈ zcn o,listed.getD q false=true:=by
    intro listed j hj
    simp only [Region.ready,ybH,ybE,ybJ,ybK] at hj
    obtain ⟨h1,h2,h3⟩:=hj
    refine ⟨by omega,h2,ops[j],by simp [h1],fun q hq=>?_⟩
    simp only [yal h1,yak,ybG,ybL,ybM,ybK] at h3
    simp only [zcn,ybN] at hq
    obtain ⟨e,he,hee⟩:=hq
    split at hee
    · rename_i hb
      cases hee
      rcases h3 e (ybO.1 he) with h | h
      · rw [hb] at h; cases h
      · exact h
    · cases hee
  have all_ready:∀ (listed:Array Bool),listed.size=xs.length→Region.ready .any ops listed=[] → ∀ i,i<xs.length→listed.getD i false=true:=by
    intro listed hsz hr i
    induction i using ybP with
    | _ i ih =>
      intro hi
      cases hg:listed.getD i false with
      | true=>rfl
      | false =>
        have hio:i<ops.size:=by omega
        have hmem:i ∈ Region.ready .any ops listed:=by
          simp only [Region.ready,ybH,ybE,ybJ,ybK]
          refine ⟨hio,?_,?_⟩
          · simp only [yap,hsz,hi,dif_pos] at hg ⊢
            exact hg
          · simp only [yal hio,yak,ybG,ybL,ybM,ybK]
            intro e he
            cases hb:Region.binds .any e with
            | false=>exact .inl rfl
            | true =>
              refine .inr (ih e.on ?_ ?_)
              · exact haft i ops[i] (by simp [hio]) e.on (by simp only [zcn,ybN]; exact ⟨e,ybO.2 he,by simp [hb]⟩)
              · have:=haft i ops[i] (by simp [hio]) e.on (by simp only [zcn,ybN]; exact ⟨e,ybO.2 he,by simp [hb]⟩)
                omega
        rw [hr] at hmem
        cases hmem
  have zHr:∀ (fuel:Nat) (listed:Array Bool) (a':Act) (w':World) (G':GS),listed.size=xs.length→((yai xs.length).filter fun i=>!listed.getD i false).length≤fuel →
      (∀ (i:Nat) o,ops.toList[i]? = some o→listed.getD i false=true → ∀ j ∈ zcn o,listed.getD j false=true)→Fr n G' (C fun i=>listed.getD i false) a' w'→Step G (sts 0).h w G' (C fun i=>listed.getD i false).h w'→a'.defers=a.defers →
      wpAny P .any ops Q fuel listed a' w':=by
    intro fuel
    have fin:∀ (listed:Array Bool) (a':Act) (w':World) (G':GS),(∀ i,i<xs.length→listed.getD i false=true)→Fr n G' (C fun i=>listed.getD i false) a' w'→Step G (sts 0).h w G' (C fun i=>listed.getD i false).h w'→a'.defers=a.defers→Q .normal a' w':=by
      intro listed a' w' G' hall fr' hs' hd'
      have he:=hend _ hall
      rw [he] at fr' hs'
      exact hQ a' w' G' _ fr' hs' hd' hs2
    induction fuel with
    | zero =>
      intro listed a' w' G' hsz hcnt hdc fr' hs' hd'
      have hall:∀ i,i<xs.length→listed.getD i false=true:=by
        intro i hi
        cases hg:listed.getD i false with
        | true=>rfl
        | false =>
          have:i ∈ (yai xs.length).filter fun i=>!listed.getD i false:=by simp [hi]; simpa using hg
          have:=List.length_pos_of_mem this
          omega
      refine ⟨?_,fin listed a' w' G' hall fr' hs' hd'⟩
      refine List.eq_nil_iff_forall_not_mem.2 fun j hj=>?_
      obtain ⟨hj1,hj2,_⟩:=ready_spec listed j hj
      have:=hall j hj1
      simp only [yap,hsz,hj1,dif_pos] at this hj2
      rw [this] at hj2
      cases hj2
    | succ fuel ih =>
      intro listed a' w' G' hsz hcnt hdc fr' hs' hd'
      refine ⟨fun hr=>fin listed a' w' G' (all_ready listed hsz hr) fr' hs' hd',fun j hj=>?_⟩
      obtain ⟨hj1,hj2,o,ho,ha⟩:=ready_spec listed j hj
      obtain ⟨x,hx,hcx⟩:=hget j o ho
      have hgj:listed.getD j false=false:=by
        simp only [yap,hsz,hj1,dif_pos] at hj2 ⊢
        exact hj2
      have hg':∀ i,(listed.setIfInBounds j true).getD i false=if i=j then true else listed.getD i false:=by
        intro i
        simp only [yaw,Array.getElem?_setIfInBounds]
        by_cases hij:i=j
        · subst hij; simp [hsz,hj1]
        · simp [hij,Ne.symm hij]
      have hst:=stepC (fun i=>listed.getD i false) j o x hdc hgj ho ha hx _ hg'
      have hdc':∀ (i:Nat) o,ops.toList[i]? = some o→(listed.setIfInBounds j true).getD i false=true → ∀ q ∈ zcn o,(listed.setIfInBounds j true).getD q false=true:=by
        intro i o' ho' hi q hq
        rw [hg'] at hi ⊢
        split
        · rfl
        · split at hi
          · rename_i hij
            subst hij
            rw [ho] at ho'
            cases ho'
            exact ha q hq
          · exact hdc i o' ho' hi q hq
      have hcnt':((yai xs.length).filter fun i=>!(listed.setIfInBounds j true).getD i false).length≤fuel:=by
        have hsub:((yai xs.length).filter fun i=>!(listed.setIfInBounds j true).getD i false)=((yai xs.length).filter fun i=>!listed.getD i false).filter fun i=>i != j:=by
          rw [List.filter_filter]
          congr 1
          funext i
          rw [hg']
          by_cases hij:i=j
          · simp [hij]
          · simp [hij]
        have hmem:j ∈ (yai xs.length).filter fun i=>!listed.getD i false:=by
          simp only [ybH,ybE,hj1,true_and,ybK]
          exact hgj
        have:(((yai xs.length).filter fun i=>!listed.getD i false).filter fun i=>i != j).length<((yai xs.length).filter fun i=>!listed.getD i false).length:=by
          apply List.length_filter_lt_length_iff_exists.2
          exact ⟨j,hmem,by simp⟩
        rw [hsub]
        omega
      have hoj:ops[j]? = some o:=by rw [Array.getElem?_toList] at ho; exact ho
      unfold wpOp
      simp only [hoj]
      unfold zrk at hst
      cases hwt:zjy x (C fun i=>listed.getD i false).s with
      | none=>rw [hwt] at hst; exact hst.elim
      | some b =>
        rw [hwt] at hst
        have hwo:=zmv hcx fr'.slots hwt
        rw [hwo]
        cases b with
        | true =>
          simp only [if_true]
          refine .inl (Oper.wp_mono ?_ (zE4 hcx fr' hst))
          rintro a'' w'' ⟨G'',st'',fr'',hs'',hd'',he⟩
          subst he
          exact ih (listed.setIfInBounds j true) a'' w'' G'' (by simpa using hsz) hcnt' hdc' fr'' (hs'.trans hs'') (hd''.trans hd')
        | false =>
          simp only [yao,if_false]
          obtain ⟨hd1,_,hd2,_⟩:=zc1 hcx
          simp only at hst
          refine ih (listed.setIfInBounds j true) _ w' G' (by simpa using hsz) hcnt' hdc' ?_ ?_ (zax.trans hd')
          · rw [hst]
            refine ⟨fr'.inv,?_,by rw [zbq]; exact fr'.size⟩
            rw [hd1]
            exact fr'.slots.put .skip fr'.size hd2
          · rw [hst]
            exact hs'
  have hrep:(fun i=>(ybQ ops.size false).getD i false)=fun _=>false:=by
    funext i
    simp only [yaw,ybR]
    split <;> rfl
  refine zHr ops.size (ybQ ops.size false) a _ G (by simp [hN]) ?_ ?_ ?_ ?_ rfl
  · rw [hN]
    have:=List.length_filter_le (fun i=>!(ybQ xs.length false).getD i false) (yai xs.length)
    simpa using this
  · intro i o ho hi
    have:=congrFun hrep i
    rw [this] at hi
    cases hi
  · rw [hrep,hbegin]; exact frd
  · rw [hrep,hbegin]; exact hsd
end
end Ev
end Go.Proofs.YtncmainjcffanaaGreat
/- Code and functions: what is told in the small language the machine does. -/
namespace Go.Proofs.YtncmainjcffanaaGreat
namespace Ev
open Go
set_option linter.unusedSectionVars false
variable [Nw]
inductive Ex where
  | normal
  | exit (id:Nat)
  | ret
def Ex.real:Ex→Exit
  | .normal=>.normal
  | .exit id=>.exit id
  | .ret=>.ret
def Ex.then (next:S→Prop) (Q:Ex→S→Prop):Ex→S→Prop
  | .normal,st=>next st
  | e,st=>Q e st
def Ex.inBlock (id:Nat) (Q:Ex→S→Prop):Ex→S→Prop
  | .exit id',st=>if id'=id then Q .normal st else Q (.exit id') st
  | e,st=>Q e st
def wpX (P:Program):XCode→(Ex→S→Prop)→S→Prop
  | .skip,Q,st=>Q .normal st
  | .region ops none,Q,st=>wpO P ops st (Q .normal)
  | .region ops (some ds),Q,st=>wpT P ops ds 0 [] st (Q .normal)
  | .seq a b,Q,st=>wpX P a (Ex.then (wpX P b Q) Q) st
  | .cond c a b,Q,st=>match c.ev st.s with
    | .d (.bool t)=>if t then wpX P a Q st else wpX P b Q st
    | _=>False
  | .block id a,Q,st=>wpX P a (Ex.inBlock id Q) st
  | .loop a,Q,st=>∃ (I:S→Prop) (μ:S→Nat),I st ∧ ∀ st,I st→wpX P a (Ex.then (fun st'=>I st'∧μ st'<μ st) Q) st
  | .exit id,Q,st=>Q (.exit id) st
  | .ret,Q,st=>Q .ret st
section
variable {P:Program}
theorem zsz {K K':S→Prop} (hk:∀ st,K st→K' st):∀ (ops:List XOper) (st:S),wpO P ops st K→wpO P ops st K'
  | [],st,h=>hk st h
  | o :: os,st,h=>by
    simp only [wpO] at h ⊢
    cases hw:zjy o st.s with
    | none=>rw [hw] at h; exact h
    | some b =>
      rw [hw] at h
      cases b with
      | true =>
        obtain ⟨st',h1,h2⟩:=zoh h
        simp only [runX] at h1 ⊢
        cases hop:o.op with
        | call f args =>
          rw [hop] at h1
          obtain ⟨g,caps,r,h',a1,a2,rfl⟩:=h1
          exact ⟨g,caps,r,h',a1,a2,zsz hk os _ h2⟩
        | _ =>
          rw [hop] at h1
          obtain ⟨av,h',a1,rfl⟩:=h1
          exact ⟨av,h',a1,zsz hk os _ h2⟩
      | false=>exact zsz hk os _ h
theorem zMj {p:Nat→Prop} (h:∃ m,p m):∃ m,p m ∧ ∀ k,p k→m≤k:=by
  obtain ⟨m,hm⟩:=h
  induction m using ybP with
  | _ m ih =>
    by_cases hex:∃ k,k<m∧p k
    · obtain ⟨k,hk,hp⟩:=hex
      exact ih k hk hp
    · exact ⟨m,hm,fun k hk=>Nat.le_of_not_lt fun hlt=>hex ⟨k,hlt,hk⟩⟩
open Classical in
noncomputable def lst (p:Nat→Prop):Nat:=if h:∃ m,p m then Classical.choose (zMj h) else 0
theorem zm0 {p:Nat→Prop} (h:∃ m,p m):p (lst p) ∧ ∀ k,p k→lst p≤k:=by
  unfold lst
  rw [dif_pos h]
  exact Classical.choose_spec (zMj h)
def Post (n:Nat) (G:GS) (st:S) (a:Act) (w:World) (Q:Ex→S→Prop):Exit→Act→World→Prop:=fun e a' w'=>∃ ex G' st',e=ex.real∧Fr n G' st' a' w'∧Step G st.h w G' st'.h w'∧a'.defers=a.defers∧Q ex st'
theorem Post.from {n:Nat} {G G1:GS} {st st1:S} {a a1:Act} {w w1:World} {Q:Ex→S→Prop} (hs:Step G st.h w G1 st1.h w1) (hd:a1.defers=a.defers) {e:Exit} {a':Act} {w':World} (h:Post n G1 st1 a1 w1 Q e a' w'):Post n G st a w Q e a' w':=by
  obtain ⟨ex,G',st',he,fr,hs',hd',hq⟩:=h
  exact ⟨ex,G',st',he,fr,hs.trans hs',hd'.trans hd,hq⟩
theorem Post.mono {n:Nat} {G:GS} {st:S} {a:Act} {w:World} {Q Q':Ex→S→Prop} (hq:∀ e s,Q e s→Q' e s) {e:Exit} {a':Act} {w':World} (h:Post n G st a w Q e a' w'):Post n G st a w Q' e a' w':=by
  obtain ⟨ex,G',st',he,fr,hs',hd',hh⟩:=h
  exact ⟨ex,G',st',he,fr,hs',hd',hq _ _ hh⟩
theorem zg4 {n:Nat} (hm:P.follows .mixedOrders=true):∀ (c:Code) (x:XCode),zca P n c=some x → ∀ (Q:Ex→S→Prop) (G:GS) (st:S) (a:Act) (w:World),wpX P x Q st→Fr n G st a w→c.wp P (Post n G st a w Q) a w
  | .skip,x,hc,Q,G,st,a,w,hw,fr=>by
    simp only [zca,Option.some.injEq] at hc
    subst hc
    exact wp_skip ⟨.normal,G,st,rfl,fr,.refl fr.inv,rfl,hw⟩
  | .region id ops dr,x,hc,Q,G,st,a,w,hw,fr=>by
    simp only [zca] at hc
    split at hc
    · rename_i xs hxs
      cases dr with
      | false =>
        simp only [yao,if_false,Option.some.injEq] at hc
        subst hc
        refine wp_region ?_
        rw [List.range_eq_range',← Array.length_toList]
        exact zz0 ops.toList xs 0 hxs (by simp) fr hw fun a' w' G' st' fr' hs hd hK=>⟨.normal,G',st',rfl,fr',hs,hd,hK⟩
      | true =>
        simp only [if_true] at hc
        obtain ⟨ds,hds,rfl⟩:=map_some hc
        exact zK0 hm hxs hds fr hw fun a' w' G' st' fr' hs hd hK=>⟨.normal,G',st',rfl,fr',hs,hd,hK⟩
    · cases hc
  | .seq c d,x,hc,Q,G,st,a,w,hw,fr=>by
    simp only [zca] at hc
    split at hc
    · rename_i xa xb ha hb
      cases hc
      refine wp_seq (wp_mono (zg4 hm c xa ha _ G st a w hw fr) ?_)
      rintro e a' w' ⟨ex,G',st',rfl,fr',hs,hd,hq⟩
      cases ex with
      | normal=>exact wp_mono (zg4 hm d xb hb Q G' st' a' w' hq fr') fun e a2 w2 h2=>h2.from hs hd
      | exit id=>exact ⟨.exit id,G',st',rfl,fr',hs,hd,hq⟩
      | ret=>exact ⟨.ret,G',st',rfl,fr',hs,hd,hq⟩
    · cases hc
  | .cond c d f,x,hc,Q,G,st,a,w,hw,fr=>by
    simp only [zca] at hc
    split at hc
    · rename_i xa xb ha hb
      cases hc
      simp only [wpX] at hw
      split at hw
      · rename_i t ht
        have hr:=za0 P fr.slots 0 c
        rw [ht] at hr
        refine wp_cond hr.of_bool ?_
        cases t with
        | true=>exact zg4 hm d xa ha Q G st a w (by simpa using hw) fr
        | false=>exact zg4 hm f xb hb Q G st a w (by simpa using hw) fr
      · exact hw.elim
    · cases hc
  | .block id c,x,hc,Q,G,st,a,w,hw,fr=>by
    simp only [zca] at hc
    obtain ⟨xa,ha,rfl⟩:=map_some hc
    refine wp_block (wp_mono (zg4 hm c xa ha _ G st a w hw fr) ?_)
    rintro e a' w' ⟨ex,G',st',rfl,fr',hs,hd,hq⟩
    cases ex with
    | normal=>exact ⟨.normal,G',st',rfl,fr',hs,hd,hq⟩
    | exit id' =>
      simp only [Ex.real,Exit.inBlock]
      simp only [Ex.inBlock] at hq
      by_cases hi:id'=id
      · simp only [hi,if_true] at hq ⊢
        exact ⟨.normal,G',st',rfl,fr',hs,hd,hq⟩
      · simp only [hi,if_false] at hq ⊢
        exact ⟨.exit id',G',st',rfl,fr',hs,hd,hq⟩
    | ret=>exact ⟨.ret,G',st',rfl,fr',hs,hd,hq⟩
  | .loop c,x,hc,Q,G,st,a,w,hw,fr=>by
    simp only [zca] at hc
    obtain ⟨xa,ha,rfl⟩:=map_some hc
    obtain ⟨I,μ,h0,hround⟩:=hw
    let At:Nat→Act→World→Prop:=fun m a1 w1=>∃ G1 st1,Fr n G1 st1 a1 w1∧Step G st.h w G1 st1.h w1∧a1.defers=a.defers∧I st1∧μ st1=m
    refine wp_loop (fun a1 w1=>∃ m,At m a1 w1) (fun a1 w1=>lst fun m=>At m a1 w1) ⟨μ st,G,st,fr,.refl fr.inv,rfl,h0,rfl⟩ ?_
    intro a1 w1 hex
    have hmin:=(zm0 hex).1
    obtain ⟨G1,st1,fr1,hs1,hd1,hI,hμ⟩:=hmin
    refine wp_mono (zg4 hm c xa ha _ G1 st1 a1 w1 (hround st1 hI) fr1) ?_
    rintro e a' w' ⟨ex,G',st',rfl,fr',hs,hd,hq⟩
    cases ex with
    | normal =>
      obtain ⟨hI',hlt⟩:=hq
      have hex':∃ m,At m a' w':=⟨μ st',G',st',fr',hs1.trans hs,hd.trans hd1,hI',rfl⟩
      refine ⟨hex',?_⟩
      show (lst fun m=>At m a' w')<lst fun m=>At m a1 w1
      rw [← hμ]
      exact Nat.lt_of_le_of_lt ((zm0 hex').2 _ ⟨G',st',fr',hs1.trans hs,hd.trans hd1,hI',rfl⟩) hlt
    | exit id=>exact ⟨.exit id,G',st',rfl,fr',hs1.trans hs,hd.trans hd1,hq⟩
    | ret=>exact ⟨.ret,G',st',rfl,fr',hs1.trans hs,hd.trans hd1,hq⟩
  | .exit id,x,hc,Q,G,st,a,w,hw,fr=>by
    simp only [zca,Option.some.injEq] at hc
    subst hc
    exact wp_exit ⟨.exit id,G,st,rfl,fr,.refl fr.inv,rfl,hw⟩
  | .ret,x,hc,Q,G,st,a,w,hw,fr=>by
    simp only [zca,Option.some.injEq] at hc
    subst hc
    exact wp_ret ⟨.ret,G,st,rfl,fr,.refl fr.inv,rfl,hw⟩
  | .rangeFunc _ _ _ _,x,hc,_,_,_,_,_,_,_=>by simp [zca] at hc
  | .scope _,x,hc,_,_,_,_,_,_,_=>by simp [zca] at hc
  | .label _,x,hc,_,_,_,_,_,_,_=>by simp [zca] at hc
  | .goto _,x,hc,_,_,_,_,_,_,_=>by simp [zca] at hc
  | .refuse _,x,hc,_,_,_,_,_,_,_=>by simp [zca] at hc
def zjv (ds:List D):Nat→AV:=fun i=>match ds[i]? with
  | some x=>.d x
  | none=>.skip
def resX (st:S):XRes→Option AV
  | .tmp i=>some (st.s i)
  | .cell i n g=>zsg st.h n g (st.s i)
def resL (st:S):List XRes→Option (List AV)
  | []=>some []
  | r :: rs=>match resX st r,resL st rs with
    | some v,some vs=>some (v :: vs)
    | _,_=>none
def hiC [Nw] (h:Nat→Ent):AV→Prop
  | .rsl k v=>Nw.hm=true∧v=(h k).ver∧(match (h k).body with | .row _ _ false=>True | _=>False)
  | a=>a.hi1=true
def hiV [Nw] (h:Nat→Ent):AV→Prop
  | .d x=>x.bare=true
  | .agg cs=>∀ c ∈ cs,hiC h c
  | a=>hiC h a
def zJv [Nw] (res:List XRes) (rs:List D):Ex→S→Prop:=fun e st=>(e = .normal∨e = .ret) ∧ ∃ vs,resL st res=some vs∧allD (toD st.h deep) vs=some rs ∧ ∀ v ∈ vs,hiV st.h v
def Ends (res:List XRes) (rs:List D):Ex→S→Prop:=fun e st=>(e = .normal∨e = .ret) ∧ ∃ vs,resL st res=some vs∧allD (toD st.h deep) vs=some rs
theorem zej {G:GS} {st:S} {a:Act} {w:World} (i:Inv G st.h w) (sl:zc0 G st.h w a st.s):∀ (rv:List ResultVar) (res:List XRes) (vs:List AV),cres P rv=some res→resL st res=some vs →
    ∃ us:List Value,Sem.run P (rv.mapM (fun (r:ResultVar)=>(match r with | ResultVar.tmp t=>(pure (a.tmps.getD t undef):Sem Value) | ResultVar.cell b t=>asAddr (a.tmps.getD b undef) >>= loadVar t))) w=Result.ok us w∧us.length=vs.length ∧ ∀ (j:Nat) v,vs[j]? = some v→ARel G st.h w (us.getD j undef) v
  | [],res,vs,hc,hr=>by
    simp only [cres,Option.some.injEq] at hc
    subst hc
    simp only [resL,Option.some.injEq] at hr
    subst hr
    exact ⟨[],by simp [Sem.run_pure],rfl,by simp⟩
  | .tmp t :: rv,res,vs,hc,hr=>by
    simp only [cres] at hc
    obtain ⟨res',hc',rfl⟩:=map_some hc
    simp only [resL,resX] at hr
    split at hr
    · rename_i v vs' hv hvs
      cases hr
      cases hv
      obtain ⟨us,h1,h2,h3⟩:=zej i sl rv res' vs' hc' hvs
      refine ⟨a.tmps.getD t undef :: us,?_,by simp [h2],fun j v hj=>?_⟩
      · rw [List.mapM_cons]
        simp only [Sem.run_bind,Sem.run_pure,h1,Result.andThen_ok]
      · cases j with
        | zero=>simp at hj; subst hj; exact sl t
        | succ j=>simpa using h3 j v (by simpa using hj)
    · cases hr
  | .cell b t :: rv,res,vs,hc,hr=>by
    simp only [cres] at hc
    split at hc
    · rename_i n g res' hn hg hc'
      cases hc
      simp only [resL,resX] at hr
      split at hr
      · rename_i v vs' hv hvs
        cases hr
        obtain ⟨us,h1,h2,h3⟩:=zej i sl rv res' vs' hc' hvs
        obtain ⟨ad,u,hu,hrun,har⟩:=ztr (P:=P) i t (sl b) hn hg hv
        refine ⟨u :: us,?_,by simp [h2],fun j v' hj=>?_⟩
        · have hasad:Sem.run P (asAddr (a.tmps.getD b undef) >>= loadVar t) w = .ok u w:=by
            rw [hu]
            simp only [asAddr,Sem.run_bind,Sem.run_pure,Result.andThen_ok,hrun]
          rw [List.mapM_cons,Sem.run_bind,hasad,Result.andThen_ok,Sem.run_bind,h1,Result.andThen_ok,Sem.run_pure]
        · cases j with
          | zero=>simp at hj; subst hj; exact har
          | succ j=>simpa using h3 j v' (by simpa using hj)
      · cases hr
    · cases hc
theorem zEp (us:List Value):(if h:us.toArray.size=1 then us.toArray[0] else Value.tuple us.toArray)=za3 us:=by
  match us with
  | []=>rfl
  | [u]=>rfl
  | u :: v :: us=>simp [za3]
theorem ze7 {fn:Func} {tmps:Array Value} {w:World} {us:List Value} (h:Sem.run P (fn.results.toList.mapM (fun (r:ResultVar)=>(match r with | ResultVar.tmp t=>(pure (tmps.getD t undef):Sem Value) | ResultVar.cell b t=>asAddr (tmps.getD b undef) >>= loadVar t))) w=Result.ok us w) :
    (results fn tmps).run P w = .ok (za3 us) w:=by
  unfold results
  rw [Array.mapM_eq_mapM_toList,← bind_pure_comp,Sem.run_bind,Sem.run_bind]
  have h':=h
  generalize hm:(fn.results.toList.mapM (fun (r:ResultVar)=>(match r with | ResultVar.tmp t=>(pure (tmps.getD t undef):Sem Value) | ResultVar.cell b t=>asAddr (tmps.getD b undef) >>= loadVar t)))=m at h'
  refine Eq.trans (b:=((Sem.run P m w).andThen fun a w'=>Sem.run P (pure a.toArray) w').andThen fun a w'=>Sem.run P (pure (if h:a.size=1 then a[0] else Value.tuple a)) w') ?_ ?_
  · rw [← hm]
  · rw [h']
    simp only [Result.andThen_ok,Sem.run_pure]
    rw [zEp]
omit [Nw] in
theorem zI7 {f:FuncId} {fn:Func} {x:XFn} (hm:P.follows .mixedOrders=true) (hf:P.funcs[f]? = some fn) (hx:cfn P fn=some x) {ds rs:List D} (hl:ds.length=x.np) (hw:@wpX i0 P x.code (Ends x.res rs) ⟨zjv ds,zat⟩):Pure P f ds rs:=by
  unfold cfn at hx
  split at hx
  · rename_i c hb
    split at hx
    · cases hx
    · rename_i hname
      split at hx
      · rename_i xc r hcc hres
        split at hx
        · rename_i hnp
          cases hx
          simp only at hl hw
          refine ⟨⟨fn,hf,hname,by rw [hb]; rfl⟩,fun St w vs hst hrel=>?_⟩
          refine calls_of_wp hf hb ?_
          have hvl:vs.length=ds.length:=hrel.1
          have fr:Fr fn.ntmps ⟨St,fun _=>⟨none,0⟩⟩ ⟨zjv ds,zat⟩ { tmps:=vs.toArray ++ ybQ (fn.ntmps - vs.toArray.size) undef,defers:=[] } w:=by
            refine ⟨⟨hst,fun k=>trivial,fun k k' b h=>h.elim,yaR _⟩,fun i=>?_,by simp; omega⟩
            simp only [zjv]
            cases hd:ds[i]? with
            | none =>
              have hge:ds.length≤i:=ybS.1 hd
              have:(vs.toArray ++ ybQ (fn.ntmps - vs.toArray.size) undef).getD i undef=undef:=by
                rw [yaw,ybT (by simp; omega),ybR]
                split <;> rfl
              rw [this]
              exact .skip
            | some d =>
              have hlt:=(yae.1 hd).1
              have:(vs.toArray ++ ybQ (fn.ntmps - vs.toArray.size) undef).getD i undef=vs.getD i undef:=by
                rw [yaw,ybU (by simp; omega)]
                simp
              rw [this]
              exact .d _ _ (hrel.2 i d hd)
          refine wp_mono (zg4 hm c xc hcc _ _ _ _ _ hw fr) ?_
          rintro e a' w' ⟨ex,G',st',rfl,fr',hs,hd,hend,vs',hrv,hds⟩
          obtain ⟨us,h1,h2,h3⟩:=zej (P:=P) fr'.inv fr'.slots _ _ _ hres hrv
          have hfin:=zed fr'.inv h2 h3 hds
          have hall:=hs.trans (zbp fr'.inv (vs'.flatMap (sk st'.h deep)))
          have hno:∀ b k,¬ Owns (⟨St,fun _=>⟨none,0⟩⟩:GS) k b ((zat:Nat→Ent) k).body:=fun b k h=>h
          have hpost:(results fn a'.tmps).run P w' = .ok (za3 us) w':=ze7 h1
          have hR:∃ St' us',Ending.returned (za3 us) = .returned (za3 us')∧RelL St' w' us' rs∧RowKit.Below w.heap.size w w'∧(∀ b,b<w.heap.size→St' b=St b)∧(∀ b,0<St' b→b<w'.heap.size)∧(∀ b,w.heap.size≤b→0<St' b→zgv w' b) :=
            ⟨_,us,rfl,hfin,⟨hall.left.os,hall.left.tape,hall.left.output,hall.left.size,fun b hb'=>(hall.left.block b hb' (hno b)).1⟩,fun b hb'=>(hall.left.block b hb' (hno b)).2,hall.inv.st,fun b hb' h0=>hall.fresh b (ybV fun hp=>by have:=hst b hp; omega) h0⟩
          rcases hend with rfl | rfl
          · exact ⟨hd,za3 us,hpost,hR⟩
          · exact ⟨hd,za3 us,hpost,hR⟩
        · cases hx
      · cases hx
  · cases hx
theorem zDd {G:GS} {h:Nat→Ent} {w:World} (i:Inv G h w) (hown:∀ k b,Owns G k b (h k).body→Nw.n≤b) (ks:List Nat) {n:Nat} {v:Value} {av:AV} {x:D} (r:ARel G h w v av) (hh:hiC h av) (ht:toD h n av=some x) (hk:∀ k ∈ sk h n av,k ∈ ks) :
    Rel (cutS true Nw.n (zch G h w ks)) w v x:=by
  have other:av.hi1=true→Rel (cutS true Nw.n (zch G h w ks)) w v x:=fun h1=>(zDu r (by
    cases av with
    | d y =>
      simp only [AV.hi1] at h1
      simp only [AV.hi]
      cases y <;> first | exact h1 | simp [D.bare1] at h1
    | agg cs=>simp [AV.hi1] at h1
    | _=>exact h1) ht).le (zjz (zkf G h w ks))
  cases av with
  | rsl k ver =>
    obtain ⟨hm,hv,hb⟩:=hh
    rw [zmm,if_pos hv] at ht
    rw [zll] at hk
    have hk':=hk k (by simp)
    cases hbk:(h k).body with
    | dead=>rw [hbk] at ht; cases ht
    | box=>rw [hbk] at ht; cases ht
    | row sz xs fz =>
      rw [hbk] at hb ht
      cases fz with
      | true=>exact hb.elim
      | false =>
        simp only [Option.some.injEq] at ht
        subst ht
        have he:=i.ent k
        rw [hbk] at he
        cases r with
        | rsl _ _ _ hone hle hvv =>
          rw [hvv hv _ _ _ hbk]
          rcases he with ⟨z1,z2,z3⟩ | ⟨b,arr,el,hA,hheap,hsz,hcap,hmx,hcs,hrel,hst⟩
          · subst z3
            rw [z1,z2]
            exact .sl none 0 sz 0 0 [] (yab _) (by simp) (by simp) (by simp) (fun _ _=>undef) (by simp) (by simp) (by simp)
          · have hown':Owns G k b (h k).body:=by rw [hbk]; exact ⟨hA,fun hf=>by cases hf⟩
            have hst':zch G h w ks b=xs.length*sz:=by
              rw [zv5 i hk' (by rw [hbk]; rfl) hown',hbk,hst]
              simp [Body.cellsN]
            have hcl:xs.length≤(G.hd k).cap:=by rcases hcap with h | h <;> omega
            have hcsz:xs.length*sz≤arr.size:=by rw [hsz]; exact Nat.mul_le_mul_right _ hcl
            have hnb:=hown k b hown'
            refine .sl _ _ sz b 0 xs hcl hmx hcs (fun _=>⟨hA,by
              show 0+_≤cutS true Nw.n (zch G h w ks) b
              unfold cutS
              simp only [hnb,decide_true,if_true]
              rw [hst']; omega⟩) (fun i j=>arr.getD (i*sz+j) undef) (fun i x hi j c hj=>?_) (fun i x hi j c hj=>(hrel i x hi j c hj).2) (fun i x hi j c hj=>?_)
            · have:=(zby hcs hi hj).2.2
              simp only [World.cell?,hheap]
              have hlt:i*sz+j<arr.size:=by omega
              simp [hlt]
            · have:=(hrel i x hi j c hj).1
              unfold rwS at this
              rw [if_pos hm] at this
              exact this.le (zjz (zkf G h w ks))
  | _=>exact other hh
theorem zJi {G:GS} {h:Nat→Ent} {w:World} (i:Inv G h w) (hown:∀ k b,Owns G k b (h k).body→Nw.n≤b) (ks:List Nat) {v:Value} {av:AV} {x:D} (r:ARel G h w v av) (hh:hiV h av) (ht:toD h deep av=some x) (hk:∀ k ∈ sk h deep av,k ∈ ks) :
    Rel (cutS true Nw.n (zch G h w ks)) w v x:=by
  cases av with
  | d y=>exact (zDu r hh ht).le (zjz (zkf G h w ks))
  | agg cs =>
    change (allD (toD h 5) cs).map .agg=some x at ht
    change ∀ k ∈ cs.flatMap (sk h 5),k ∈ ks at hk
    simp only [Option.map_eq_some_iff] at ht
    obtain ⟨ds,hds,rfl⟩:=ht
    obtain ⟨hl,hg⟩:=ze1 hds
    cases r with
    | agg vs _ hn hr =>
      refine .agg vs _ (by omega) fun j c hj=>?_
      have hj':=(yae.1 hj).1
      have hlt:j<cs.length:=by omega
      obtain ⟨d,hd,ht'⟩:=hg j _ (yar hlt)
      rw [hd] at hj
      cases hj
      refine zDd i hown ks (hr j _ (yar hlt)) (hh _ (yaf hlt)) ht' fun q hq=>hk q ?_
      simp only [yaA]
      exact ⟨_,yaf hlt,hq⟩
  | _=>exact zDd i hown ks r hh ht hk
omit [Nw] in
theorem zMg {f:FuncId} {fn:Func} {x:XFn} (hmb:Bool) (hm:P.follows .mixedOrders=true) (hf:P.funcs[f]? = some fn) (hx:cfn P fn=some x) {ds rs:List D} (hl:ds.length=x.np) (hw:∀ n,@wpX ⟨n,true,hmb⟩ P x.code (@zJv ⟨n,true,hmb⟩ x.res rs) ⟨zjv ds,zat⟩):zi0 P f ds rs:=by
  unfold cfn at hx
  split at hx
  · rename_i c hb
    split at hx
    · cases hx
    · rename_i hname
      split at hx
      · rename_i xc r hcc hres
        split at hx
        · rename_i hnp
          cases hx
          simp only at hl hw
          refine ⟨⟨fn,hf,hname,by rw [hb]; rfl⟩,fun St w vs hst hrel=>?_⟩
          letI:Nw:=⟨w.heap.size,true,hmb⟩
          have hw:=hw w.heap.size
          refine calls_of_wp hf hb ?_
          have hvl:vs.length=ds.length:=hrel.1
          have fr:Fr fn.ntmps ⟨St,fun _=>⟨none,0⟩⟩ ⟨zjv ds,zat⟩ { tmps:=vs.toArray ++ ybQ (fn.ntmps - vs.toArray.size) undef,defers:=[] } w:=by
            refine ⟨⟨hst,fun k=>trivial,fun k k' b h=>h.elim,yab _⟩,fun i=>?_,by simp; omega⟩
            simp only [zjv]
            cases hd:ds[i]? with
            | none =>
              have hge:ds.length≤i:=ybS.1 hd
              have:(vs.toArray ++ ybQ (fn.ntmps - vs.toArray.size) undef).getD i undef=undef:=by
                rw [yaw,ybT (by simp; omega),ybR]
                split <;> rfl
              rw [this]
              exact .skip
            | some d =>
              have hlt:=(yae.1 hd).1
              have:(vs.toArray ++ ybQ (fn.ntmps - vs.toArray.size) undef).getD i undef=vs.getD i undef:=by
                rw [yaw,ybU (by simp; omega)]
                simp
              rw [this]
              exact .d _ _ (hrel.2 i d hd)
          refine wp_mono (zg4 hm c xc hcc _ _ _ _ _ hw fr) ?_
          rintro e a' w' ⟨ex,G',st',rfl,fr',hs,hd,hend,vs',hrv,hds,hhi⟩
          obtain ⟨us,h1,h2,h3⟩:=zej (P:=P) fr'.inv fr'.slots _ _ _ hres hrv
          have hno:∀ b k,¬ Owns (⟨St,fun _=>⟨none,0⟩⟩:GS) k b ((zat:Nat→Ent) k).body:=fun b k h=>h
          have hown:∀ k b,Owns G' k b (st'.h k).body→Nw.n≤b:=fun k b ho=>by
            rcases hs.grow k b ho with ⟨k',ho'⟩ | hge
            · exact (hno b k' ho').elim
            · exact hge
          have hfin:RelL (cutS true w.heap.size (zch G' st'.h w' (vs'.flatMap (sk st'.h deep)))) w' us rs:=by
            obtain ⟨q1,q2⟩:=ze1 hds
            refine ⟨by omega,fun j d hj=>?_⟩
            have hlt:j<vs'.length:=by have:=(yae.1 hj).1; omega
            obtain ⟨d',hd',ht⟩:=q2 j _ (yar hlt)
            rw [hd'] at hj
            cases hj
            exact zJi fr'.inv hown _ (h3 j _ (yar hlt)) (hhi _ (yaf hlt)) ht fun k hk=>yaA.2 ⟨_,yaf hlt,hk⟩
          have hall:=hs.trans (zbp fr'.inv (vs'.flatMap (sk st'.h deep)))
          have hpost:(results fn a'.tmps).run P w' = .ok (za3 us) w':=ze7 h1
          have hR:∃ St' us',Ending.returned (za3 us) = .returned (za3 us')∧RelL (cutS true w.heap.size St') w' us' rs∧RowKit.Below w.heap.size w w'∧(∀ b,b<w.heap.size→St' b=St b)∧(∀ b,0<St' b→b<w'.heap.size)∧(∀ b,w.heap.size≤b→0<St' b→zgv w' b) :=
            ⟨_,us,rfl,hfin,⟨hall.left.os,hall.left.tape,hall.left.output,hall.left.size,fun b hb'=>(hall.left.block b hb' (hno b)).1⟩,fun b hb'=>(hall.left.block b hb' (hno b)).2,hall.inv.st,fun b hb' h0=>hall.fresh b (ybV fun hp=>by have:=hst b hp; omega) h0⟩
          rcases hend with rfl | rfl
          · exact ⟨hd,za3 us,hpost,hR⟩
          · exact ⟨hd,za3 us,hpost,hR⟩
        · cases hx
      · cases hx
  · cases hx
def zde (as:List AV):Nat→AV:=fun i=>match as[i]? with
  | some a=>a
  | none=>.skip
def zee (res:List XRes) (rs:List D) (K:List Nat) (h1:Nat→Ent):Ex→S→Prop:=fun e st=>(e = .normal∨e = .ret) ∧ ∃ vs,resL st res=some vs∧allD (toD st.h deep) vs=some rs ∧ ∀ k ∈ K,frz st.h (vs.flatMap (sk st.h deep)) k=h1 k
theorem zAy {f:FuncId} {fn:Func} {x:XFn} (hm:P.follows .mixedOrders=true) (hf:P.funcs[f]? = some fn) (hx:cfn P fn=some x) {as:List AV} {rs:List D} {K:List Nat} {h0 h1:Nat→Ent} (hl:as.length=x.np) (hov:∀ k ∈ K,zvz K (h1 k).body)
    (hw:∀ (G:GS) (h:Nat→Ent) (w:World) (vs:List Value),(∀ k ∈ K,h k=h0 k)→vs.length=as.length→(∀ (j:Nat) a,as[j]? = some a→ARel G h w (vs.getD j undef) a)→wpX P x.code (zee x.res rs K h1) ⟨zde as,h⟩):MutC P f as K h0 rs h1:=by
  unfold cfn at hx
  split at hx
  · rename_i c hb
    split at hx
    · cases hx
    · rename_i hname
      split at hx
      · rename_i xc r hcc hres
        split at hx
        · rename_i hnp
          cases hx
          simp only at hl hw
          refine ⟨⟨fn,hf,hname,by rw [hb]; rfl⟩,hov,fun G h w vs hk _ hi hvl hrel=>?_⟩
          refine calls_of_wp hf hb ?_
          have hw:=hw G h w vs hk hvl hrel
          have fr:Fr fn.ntmps G ⟨zde as,h⟩ { tmps:=vs.toArray ++ ybQ (fn.ntmps - vs.toArray.size) undef,defers:=[] } w:=by
            refine ⟨hi,fun i=>?_,by simp; omega⟩
            simp only [zde]
            cases hd:as[i]? with
            | none =>
              have hge:as.length≤i:=ybS.1 hd
              have:(vs.toArray ++ ybQ (fn.ntmps - vs.toArray.size) undef).getD i undef=undef:=by
                rw [yaw,ybT (by simp; omega),ybR]
                split <;> rfl
              rw [this]
              exact .skip
            | some a =>
              have hlt:=(yae.1 hd).1
              have:(vs.toArray ++ ybQ (fn.ntmps - vs.toArray.size) undef).getD i undef=vs.getD i undef:=by
                rw [yaw,ybU (by simp; omega)]
                simp
              rw [this]
              exact hrel i a hd
          refine wp_mono (zg4 hm c xc hcc _ _ _ _ _ hw fr) ?_
          rintro e a' w' ⟨ex,G',st',rfl,fr',hs,hd,hend,vs',hrv,hds,hK⟩
          obtain ⟨us,h1',h2,h3⟩:=zej (P:=P) fr'.inv fr'.slots _ _ _ hres hrv
          have hfin:=zed fr'.inv h2 h3 hds
          have hall:=hs.trans (zbp fr'.inv (vs'.flatMap (sk st'.h deep)))
          have hkill:=hall.trans (zyw hall.inv K)
          have hpost:(results fn a'.tmps).run P w' = .ok (za3 us) w':=ze7 h1'
          have hR:∃ G2 h2 us',Ending.returned (za3 us) = .returned (za3 us')∧RelL G2.St w' us' rs∧(∀ k ∈ K,h2 k=h1 k)∧(∀ k,k ∉ K→(h2 k).body = .dead)∧Step G h w G2 h2 w' :=
            ⟨_,_,us,rfl,hfin,fun k hm=>by simp only [if_pos hm]; exact hK k hm,fun k hm=>by simp only [if_neg hm],hkill⟩
          rcases hend with rfl | rfl
          · exact ⟨hd,za3 us,hpost,hR⟩
          · exact ⟨hd,za3 us,hpost,hR⟩
        · cases hx
      · cases hx
  · cases hx
def zxy (h:Nat→Ent):List RC→List AV→List Nat→Prop
  | [],[],[]=>True
  | .d x :: cs,v :: vs,ks=>toD h deep v=some x∧zxy h cs vs ks
  | .row sz xs fz :: cs,v :: vs,k :: ks=>v = .rsl k (h k).ver∧(h k).body = .row sz xs fz∧zxy h cs vs ks
  | _,_,_=>False
def skC (h:Nat→Ent):List RC→List AV→List Nat
  | .d _ :: cs,v :: vs=>sk h deep v ++ skC h cs vs
  | _ :: cs,_ :: vs=>skC h cs vs
  | _,_=>[]
def zwq (h:Nat→Ent):List RV→List AV→List Nat→Prop
  | [],[],[]=>True
  | .one c :: rs,v :: vs,ks=>∃ k1 k2,ks=k1 ++ k2∧zxy h [c] [v] k1∧zwq h rs vs k2
  | .agg cs :: rs,v :: vs,ks=>∃ k1 k2 ws,ks=k1 ++ k2∧v = .agg ws∧zxy h cs ws k1∧zwq h rs vs k2
  | _,_,_=>False
def skV (h:Nat→Ent):List RV→List AV→List Nat
  | .one c :: rs,v :: vs=>skC h [c] [v] ++ skV h rs vs
  | .agg cs :: rs,v :: vs=>(match v with | .agg ws=>skC h cs ws | _=>[]) ++ skV h rs vs
  | _,_=>[]
theorem zj8 {h:Nat→Ent}:∀ {cs:List RC} {vs:List AV} {ks:List Nat},zxy h cs vs ks→(zcw cs).length=ks.length ∧ ∀ (q:Nat) b,(zcw cs)[q]? = some b → ∃ k,ks[q]? = some k∧(h k).body=b
  | [],[],[],_=>⟨rfl,by simp [zcw]⟩
  | .d x :: cs,v :: vs,ks,hf=>by
    simp only [zcw]
    exact zj8 hf.2
  | .row sz xs fz :: cs,v :: vs,k :: ks,hf=>by
    obtain ⟨_,h2,h3⟩:=hf
    obtain ⟨h4,h5⟩:=zj8 h3
    refine ⟨by simp only [zcw,yaS,h4],fun q b hq=>?_⟩
    cases q with
    | zero =>
      simp only [zcw,yaz,Option.some.injEq] at hq
      exact ⟨k,rfl,hq ▸ h2⟩
    | succ q =>
      simp only [zcw,ybu] at hq
      obtain ⟨k',h6,h7⟩:=h5 q b hq
      exact ⟨k',by simpa using h6,h7⟩
theorem zqx {h:Nat→Ent}:∀ {rs:List RV} {vs:List AV} {ks:List Nat},zwq h rs vs ks→(zas rs).length=ks.length ∧ ∀ (q:Nat) b,(zas rs)[q]? = some b → ∃ k,ks[q]? = some k∧(h k).body=b
  | [],[],[],_=>⟨rfl,by simp [zas]⟩
  | r :: rs,v :: vs,ks,hf=>by
    have key:∃ k1 k2 us,ks=k1 ++ k2∧zxy h r.cells us k1∧zwq h rs vs k2:=by
      cases r with
      | one c=>obtain ⟨k1,k2,e,h1,h2⟩:=hf; exact ⟨k1,k2,_,e,h1,h2⟩
      | agg cs=>obtain ⟨k1,k2,ws,e,_,h1,h2⟩:=hf; exact ⟨k1,k2,ws,e,h1,h2⟩
    obtain ⟨k1,k2,us,rfl,h1,h2⟩:=key
    obtain ⟨a1,a2⟩:=zj8 h1
    obtain ⟨b1,b2⟩:=zqx h2
    refine ⟨by simp only [zas,yaF,a1,b1],fun q b hq=>?_⟩
    simp only [zas,ybk] at hq
    rw [ybk,← a1]
    split at hq
    · rename_i hlt
      rw [if_pos hlt]
      exact a2 q b hq
    · rename_i hlt
      rw [if_neg hlt]
      exact b2 _ b hq
  | [],[],_ :: _,hf=>hf.elim
  | [],_ :: _,_,hf=>hf.elim
  | .one _ :: _,[],_,hf=>hf.elim
  | .agg _ :: _,[],_,hf=>hf.elim
theorem zEf {G:GS} {h:Nat→Ent} {w:World} {St:Nat→Nat} {hd2:Nat→Hd} {h2:Nat→Ent} {v:Value} {k q:Nat} {b:Body} (hq:h2 (nk 0 q)=⟨1,b⟩) (hb:(h k).body=b) (hd:hd2 (nk 0 q)=G.hd k) (r:ARel G h w v (.rsl k (h k).ver)):ARel ⟨St,hd2⟩ h2 w v (.rsl (nk 0 q) 1):=by
  cases r with
  | rsl _ _ _ hone hle hv =>
    refine .rsl _ _ _ hone (by rw [hq]; exact yab _) fun _ sz xs fz hbd=>?_
    rw [hq] at hbd
    have:=hv rfl sz xs fz (hb.trans hbd)
    rw [this]
    show _=Value.slice (hd2 (nk 0 q)).A _ (hd2 (nk 0 q)).cap
    rw [hd]
theorem zpg {G:GS} {h:Nat→Ent} {w:World} (i:Inv G h w) {hd2:Nat→Hd} {h2:Nat→Ent} {S:List Nat}:∀ (cs:List RC) (vs:List AV) (ks:List Nat) (q:Nat),zxy h cs vs ks→(∀ k ∈ skC h cs vs,k ∈ S) →
    (∀ p k,ks[p]? = some k → ∃ b,h2 (nk 0 (q+p))=⟨1,b⟩∧(h k).body=b∧hd2 (nk 0 (q+p))=G.hd k) →
    cs.length=vs.length ∧ ∀ (j:Nat) c,(zbr zat 0 q cs)[j]? = some c → ∃ a,vs[j]? = some a ∧ ∀ v,ARel G h w v a→ARel ⟨zch G h w S,hd2⟩ h2 w v c
  | [],[],[],q,_,_,_=>⟨rfl,by simp [zbr]⟩
  | .d x :: cs,v :: vs,ks,q,hf,hS,hk=>by
    obtain ⟨h1,h3⟩:=zpg i cs vs ks q hf.2 (fun k hm=>hS k (by simp only [skC,yaY]; exact .inr hm)) hk
    refine ⟨by simp [h1],fun j c hj=>?_⟩
    cases j with
    | zero =>
      simp only [zbr,yaz,Option.some.injEq] at hj
      subst hj
      exact ⟨v,rfl,fun u r=>.d _ _ (zr5 i S deep r hf.1 fun k hm=>hS k (by simp only [skC,yaY]; exact .inl hm))⟩
    | succ j =>
      simp only [zbr,ybu] at hj ⊢
      exact h3 j c hj
  | .row sz xs fz :: cs,v :: vs,k :: ks,q,hf,hS,hk=>by
    obtain ⟨e1,e2,hf'⟩:=hf
    obtain ⟨h1,h3⟩:=zpg i cs vs ks (q+1) hf' (fun k hm=>hS k (by simp only [skC]; exact hm)) (fun p k hp=>by
      have:=hk (p+1) k (by simpa using hp)
      rw [show q+1+p=q+(p+1) by omega]
      exact this)
    refine ⟨by simp [h1],fun j c hj=>?_⟩
    cases j with
    | zero =>
      simp only [zbr,yaz,Option.some.injEq] at hj
      subst hj
      refine ⟨v,rfl,fun u r=>?_⟩
      obtain ⟨b,b1,b2,b3⟩:=hk 0 k rfl
      rw [e1] at r
      exact zEf b1 b2 b3 r
    | succ j =>
      simp only [zbr,ybu] at hj ⊢
      exact h3 j c hj
theorem zpp {G:GS} {h:Nat→Ent} {w:World} (i:Inv G h w) {hd2:Nat→Hd} {h2:Nat→Ent} {S:List Nat}:∀ (rs:List RV) (vs:List AV) (ks:List Nat) (q:Nat),zwq h rs vs ks→(∀ k ∈ skV h rs vs,k ∈ S) →
    (∀ p k,ks[p]? = some k → ∃ b,h2 (nk 0 (q+p))=⟨1,b⟩∧(h k).body=b∧hd2 (nk 0 (q+p))=G.hd k) →
    rs.length=vs.length ∧ ∀ (j:Nat) c,(zbn zat 0 q rs)[j]? = some c → ∃ a,vs[j]? = some a ∧ ∀ v,ARel G h w v a→ARel ⟨zch G h w S,hd2⟩ h2 w v c
  | [],[],[],q,_,_,_=>⟨rfl,by simp [zbn]⟩
  | .one c0 :: rs,v :: vs,ks,q,hf,hS,hk=>by
    obtain ⟨k1,k2,rfl,hf1,hf2⟩:=hf
    obtain ⟨l1,_⟩:=zj8 hf1
    obtain ⟨h1,h3⟩:=zpp i rs vs k2 (q+(zcw [c0]).length) hf2 (fun k hm=>hS k (by simp only [skV,yaY]; exact .inr hm)) (fun p k hp=>by
      have:=hk (k1.length+p) k (by rw [ybW (by omega)]; simpa using hp)
      rw [l1,show q+k1.length+p=q+(k1.length+p) by omega]
      exact this)
    refine ⟨by simp [h1],fun j c hj=>?_⟩
    cases j with
    | zero =>
      simp only [zbn,yaz,Option.some.injEq] at hj
      obtain ⟨_,h4⟩:=zpg i [c0] [v] k1 q hf1 (fun k hm=>hS k (by simp only [skV,yaY]; exact .inl hm)) (fun p k hp=>hk p k (by rw [ybs (yae.1 hp).1]; exact hp))
      have e:(zbr zat 0 q [c0])[0]? = some (oneV zat 0 q c0):=by cases c0 <;> rfl
      obtain ⟨a,ha,hr⟩:=h4 0 _ e
      simp only [yaz,Option.some.injEq] at ha
      subst ha
      subst hj
      exact ⟨v,rfl,hr⟩
    | succ j =>
      simp only [zbn,ybu] at hj ⊢
      exact h3 j c hj
  | .agg cs :: rs,v :: vs,ks,q,hf,hS,hk=>by
    obtain ⟨k1,k2,ws,rfl,rfl,hf1,hf2⟩:=hf
    obtain ⟨l1,_⟩:=zj8 hf1
    obtain ⟨h1,h3⟩:=zpp i rs vs k2 (q+(zcw cs).length) hf2 (fun k hm=>hS k (by simp only [skV,yaY]; exact .inr hm)) (fun p k hp=>by
      have:=hk (k1.length+p) k (by rw [ybW (by omega)]; simpa using hp)
      rw [l1,show q+k1.length+p=q+(k1.length+p) by omega]
      exact this)
    refine ⟨by simp [h1],fun j c hj=>?_⟩
    cases j with
    | zero =>
      simp only [zbn,yaz,Option.some.injEq] at hj
      subst hj
      obtain ⟨hl,h4⟩:=zpg i cs ws k1 q hf1 (fun k hm=>hS k (by simp only [skV,yaY]; exact .inl hm)) (fun p k hp=>hk p k (by rw [ybs (yae.1 hp).1]; exact hp))
      refine ⟨_,rfl,fun v r=>?_⟩
      cases r with
      | agg us _ hn hr =>
        refine .agg _ _ (by rw [hn,zhm,hl]) fun j c hj=>?_
        obtain ⟨a,ha,hr'⟩:=h4 j c hj
        exact hr' _ (hr j a ha)
    | succ j =>
      simp only [zbn,ybu] at hj ⊢
      exact h3 j c hj
def zNp (res:List XRes) (rs:List RV):Ex→S→Prop:=fun e st=>(e = .normal∨e = .ret) ∧ ∃ vs ks,resL st res=some vs∧zwq st.h rs vs ks∧ks.Nodup ∧ ∀ k ∈ ks,k ∉ skV st.h rs vs
omit [Nw] in
theorem zM0 {f:FuncId} {fn:Func} {x:XFn} (hm:P.follows .mixedOrders=true) (hf:P.funcs[f]? = some fn) (hx:cfn P fn=some x) {ds:List D} {rs:List RV} (hl:ds.length=x.np) (hw:@wpX i0 P x.code (zNp x.res rs) ⟨zjv ds,zat⟩):@OwnC i0 P f ds rs:=by
  unfold cfn at hx
  split at hx
  · rename_i c hb
    split at hx
    · cases hx
    · rename_i hname
      split at hx
      · rename_i xc r hcc hres
        split at hx
        · rename_i hnp
          cases hx
          simp only at hl hw
          refine ⟨⟨fn,hf,hname,by rw [hb]; rfl⟩,fun St w vs _ hst hrel=>?_⟩
          refine calls_of_wp hf hb ?_
          have hvl:vs.length=ds.length:=hrel.1
          have fr:Fr fn.ntmps ⟨St,fun _=>⟨none,0⟩⟩ ⟨zjv ds,zat⟩ { tmps:=vs.toArray ++ ybQ (fn.ntmps - vs.toArray.size) undef,defers:=[] } w:=by
            refine ⟨⟨hst,fun k=>trivial,fun k k' b h=>h.elim,yaR _⟩,fun i=>?_,by simp; omega⟩
            simp only [zjv]
            cases hd:ds[i]? with
            | none =>
              have hge:ds.length≤i:=ybS.1 hd
              have:(vs.toArray ++ ybQ (fn.ntmps - vs.toArray.size) undef).getD i undef=undef:=by
                rw [yaw,ybT (by simp; omega),ybR]
                split <;> rfl
              rw [this]
              exact .skip
            | some d =>
              have hlt:=(yae.1 hd).1
              have:(vs.toArray ++ ybQ (fn.ntmps - vs.toArray.size) undef).getD i undef=vs.getD i undef:=by
                rw [yaw,ybU (by simp; omega)]
                simp
              rw [this]
              exact .d _ _ (hrel.2 i d hd)
          refine wp_mono (zg4 hm c xc hcc _ _ _ _ _ hw fr) ?_
          rintro e a' w' ⟨ex,G',st',rfl,fr',hs,hd,hend,vs',ks,hrv,hfit,hnd,hap⟩
          obtain ⟨us,h1,h2,h3⟩:=zej (P:=P) fr'.inv fr'.slots _ _ _ hres hrv
          have hpost:(results fn a'.tmps).run P w' = .ok (za3 us) w':=ze7 h1
          have hfs:=zbp fr'.inv (skV st'.h rs vs')
          have hall:=hs.trans hfs
          have hno:∀ b k,¬ Owns (⟨St,fun _=>⟨none,0⟩⟩:GS) k b ((zat:Nat→Ent) k).body:=fun b k h=>h
          obtain ⟨hlk,hbk⟩:=zqx hfit
          have hrow:=zqi rs
          obtain ⟨hd2,hhd2⟩:∃ hd2:Nat→Hd,∀ p k,ks[p]? = some k→hd2 (nk 0 p)=G'.hd k:=by
            refine ⟨fun n=>match ks[n / 1000]? with | some k=>G'.hd k | none=>⟨none,0⟩,fun p k hp=>?_⟩
            have e:nk 0 p / 1000=p:=by simp only [nk]; omega
            simp only [e,hp]
          have hrows:∀ p k,ks[p]? = some k → ∃ b,zbc zat 0 (zas rs) (nk 0 (0+p))=⟨1,b⟩∧(st'.h k).body=b∧hd2 (nk 0 (0+p))=G'.hd k:=fun p k hp=>by
            have hlt:=(yae.1 hp).1
            obtain ⟨b,hb'⟩:∃ b,(zas rs)[p]? = some b:=⟨_,yar (by omega)⟩
            obtain ⟨k',hk1,hk2⟩:=hbk p b hb'
            rw [hp] at hk1
            cases hk1
            rw [ybj]
            exact ⟨b,by rw [ze4 _ _ _ hb']; rfl,hk2,hhd2 p k hp⟩
          have hfb:∀ k,k ∈ ks→(frz st'.h (skV st'.h rs vs') k)=st'.h k:=fun k hk=>by simp [frz,hap k hk]
          obtain ⟨hlv,hvr⟩:=zpp (hd2:=hd2) fr'.inv rs vs' ks 0 hfit (fun k hk=>hk) hrows
          have hkey:∀ n,(∃ p k b,ks[p]? = some k∧(zas rs)[p]? = some b∧n=nk 0 p∧zbc zat 0 (zas rs) n=⟨1,b⟩∧(st'.h k).body=b∧hd2 n=G'.hd k)∨(zbc zat 0 (zas rs) n).body = .dead:=fun n=>by
            by_cases hex:∃ p,p<(zas rs).length∧n=nk 0 p
            · obtain ⟨p,hp,rfl⟩:=hex
              obtain ⟨k,hk⟩:∃ k,ks[p]? = some k:=⟨_,yar (by omega)⟩
              obtain ⟨b,b1,b2,b3⟩:=hrows p k hk
              rw [ybj] at b1 b3
              refine .inl ⟨p,k,b,hk,?_,rfl,b1,b2,b3⟩
              obtain ⟨b',hb'⟩:∃ b,(zas rs)[p]? = some b:=⟨_,yar hp⟩
              rw [ze4 _ _ _ hb'] at b1
              cases b1
              exact hb'
            · exact .inr (by rw [zd9 _ _ _ fun p hp e=>hex ⟨p,hp,e⟩]; rfl)
          have hOwn:∀ n b,Owns ⟨zch G' st'.h w' (skV st'.h rs vs'),hd2⟩ n b (zbc zat 0 (zas rs) n).body → ∃ p k,ks[p]? = some k∧n=nk 0 p∧Owns (frzG G' st'.h w' (skV st'.h rs vs')) k b (frz st'.h (skV st'.h rs vs') k).body:=fun n b ho=>by
            rcases hkey n with ⟨p,k,bd,hp,hbp,rfl,e1,e2,e3⟩ | hdead
            · refine ⟨p,k,hp,rfl,?_⟩
              rw [e1] at ho
              rw [hfb k (yas hp),e2]
              exact (zmx (G:=frzG G' st'.h w' (skV st'.h rs vs')) (hrow bd (yas hbp)) e3).1 ho
            · rw [hdead] at ho
              exact ho.elim
          have hinv:Inv ⟨zch G' st'.h w' (skV st'.h rs vs'),hd2⟩ (zbc zat 0 (zas rs)) w':=by
            refine ⟨hfs.inv.st,fun n=>?_,fun n n' b o1 o2=>?_,hfs.inv.low⟩
            · rcases hkey n with ⟨p,k,bd,hp,hbp,rfl,e1,e2,e3⟩ | hdead
              · rw [e1]
                have he:=hfs.inv.ent k
                rw [hfb k (yas hp),e2] at he
                exact zpq (G:=frzG G' st'.h w' (skV st'.h rs vs')) (hrow bd (yas hbp)) e3 he
              · rw [hdead]; trivial
            · obtain ⟨p,k,hp,rfl,o3⟩:=hOwn n b o1
              obtain ⟨p',k',hp',rfl,o4⟩:=hOwn n' b o2
              have:=hfs.inv.apart k k' b o3 o4
              subst this
              have l1:=(yae.1 hp).1
              have:=(ybX l1 hnd).1 (hp.trans hp'.symm)
              rw [this]
          have hR:∃ (G2:GS) (us':List Value),Ending.returned (za3 us) = .returned (za3 us')∧us'.length=(zbn zat 0 0 rs).length∧(∀ (j:Nat) v,(zbn zat 0 0 rs)[j]? = some v→ARel G2 (zbc zat 0 (zas rs)) w' (us'.getD j undef) v) ∧
              Inv G2 (zbc zat 0 (zas rs)) w'∧RowKit.Below w.heap.size w w'∧(∀ b,b<w.heap.size→G2.St b=St b)∧(∀ k b,Owns G2 k b (zbc zat 0 (zas rs) k).body→w.heap.size≤b)∧(∀ b,w.heap.size≤b→0<G2.St b→zgv w' b):=by
            refine ⟨⟨zch G' st'.h w' (skV st'.h rs vs'),hd2⟩,us,rfl,by rw [zbo,h2,hlv],fun j v hj=>?_,hinv,⟨hall.left.os,hall.left.tape,hall.left.output,hall.left.size,fun b hb'=>(hall.left.block b hb' (hno b)).1⟩,fun b hb'=>(hall.left.block b hb' (hno b)).2,fun n b ho=>?_,fun b hb' h0=>hall.fresh b (ybV fun hp=>by have:=hst b hp; omega) h0⟩
            · obtain ⟨a,ha,hr⟩:=hvr j v hj
              exact hr _ (h3 j a ha)
            · obtain ⟨p,k,_,_,o3⟩:=hOwn n b ho
              rcases hall.grow k b o3 with ⟨k',hk'⟩ | hge
              · exact (hno b k' hk').elim
              · exact hge
          rcases hend with rfl | rfl
          · exact ⟨hd,za3 us,hpost,hR⟩
          · exact ⟨hd,za3 us,hpost,hR⟩
        · cases hx
      · cases hx
  · cases hx
theorem zB0 {G:GS} {h:Nat→Ent} {w:World} (i:Inv G h w) {rs:List RV} {vs:List AV} {ks:List Nat} (hfit:zwq h rs vs ks) (hnd:ks.Nodup) (hap:∀ k ∈ ks,k ∉ skV h rs vs) :
    ∃ hd2:Nat→Hd,rs.length=vs.length∧(∀ (j:Nat) c,(zbn zat 0 0 rs)[j]? = some c → ∃ a,vs[j]? = some a ∧ ∀ v,ARel G h w v a→ARel ⟨zch G h w (skV h rs vs),hd2⟩ (zbc zat 0 (zas rs)) w v c) ∧
      Inv ⟨zch G h w (skV h rs vs),hd2⟩ (zbc zat 0 (zas rs)) w ∧ ∀ n b,Owns ⟨zch G h w (skV h rs vs),hd2⟩ n b (zbc zat 0 (zas rs) n).body → ∃ k ∈ ks,Owns (frzG G h w (skV h rs vs)) k b (frz h (skV h rs vs) k).body:=by
  have hfs:=zbp i (skV h rs vs)
  obtain ⟨hlk,hbk⟩:=zqx hfit
  have hrow:=zqi rs
  obtain ⟨hd2,hhd2⟩:∃ hd2:Nat→Hd,∀ p k,ks[p]? = some k→hd2 (nk 0 p)=G.hd k:=by
    refine ⟨fun n=>match ks[n / 1000]? with | some k=>G.hd k | none=>⟨none,0⟩,fun p k hp=>?_⟩
    have e:nk 0 p / 1000=p:=by simp only [nk]; omega
    simp only [e,hp]
  have hrows:∀ p k,ks[p]? = some k → ∃ b,zbc zat 0 (zas rs) (nk 0 (0+p))=⟨1,b⟩∧(h k).body=b∧hd2 (nk 0 (0+p))=G.hd k:=fun p k hp=>by
    have hlt:=(yae.1 hp).1
    obtain ⟨b,hb'⟩:∃ b,(zas rs)[p]? = some b:=⟨_,yar (by omega)⟩
    obtain ⟨k',hk1,hk2⟩:=hbk p b hb'
    rw [hp] at hk1
    cases hk1
    rw [ybj]
    exact ⟨b,by rw [ze4 _ _ _ hb']; rfl,hk2,hhd2 p k hp⟩
  have hfb:∀ k,k ∈ ks→(frz h (skV h rs vs) k)=h k:=fun k hk=>by simp [frz,hap k hk]
  obtain ⟨hlv,hvr⟩:=zpp (hd2:=hd2) i rs vs ks 0 hfit (fun k hk=>hk) hrows
  have hkey:∀ n,(∃ p k b,ks[p]? = some k∧(zas rs)[p]? = some b∧n=nk 0 p∧zbc zat 0 (zas rs) n=⟨1,b⟩∧(h k).body=b∧hd2 n=G.hd k)∨(zbc zat 0 (zas rs) n).body = .dead:=fun n=>by
    by_cases hex:∃ p,p<(zas rs).length∧n=nk 0 p
    · obtain ⟨p,hp,rfl⟩:=hex
      obtain ⟨k,hk⟩:∃ k,ks[p]? = some k:=⟨_,yar (by omega)⟩
      obtain ⟨b,b1,b2,b3⟩:=hrows p k hk
      rw [ybj] at b1 b3
      refine .inl ⟨p,k,b,hk,?_,rfl,b1,b2,b3⟩
      obtain ⟨b',hb'⟩:∃ b,(zas rs)[p]? = some b:=⟨_,yar hp⟩
      rw [ze4 _ _ _ hb'] at b1
      cases b1
      exact hb'
    · exact .inr (by rw [zd9 _ _ _ fun p hp e=>hex ⟨p,hp,e⟩]; rfl)
  have hOwn:∀ n b,Owns ⟨zch G h w (skV h rs vs),hd2⟩ n b (zbc zat 0 (zas rs) n).body → ∃ p k,ks[p]? = some k∧n=nk 0 p∧Owns (frzG G h w (skV h rs vs)) k b (frz h (skV h rs vs) k).body:=fun n b ho=>by
    rcases hkey n with ⟨p,k,bd,hp,hbp,rfl,e1,e2,e3⟩ | hdead
    · refine ⟨p,k,hp,rfl,?_⟩
      rw [e1] at ho
      rw [hfb k (yas hp),e2]
      exact (zmx (G:=frzG G h w (skV h rs vs)) (hrow bd (yas hbp)) e3).1 ho
    · rw [hdead] at ho
      exact ho.elim
  have hinv:Inv ⟨zch G h w (skV h rs vs),hd2⟩ (zbc zat 0 (zas rs)) w:=by
    refine ⟨hfs.inv.st,fun n=>?_,fun n n' b o1 o2=>?_,hfs.inv.low⟩
    · rcases hkey n with ⟨p,k,bd,hp,hbp,rfl,e1,e2,e3⟩ | hdead
      · rw [e1]
        have he:=hfs.inv.ent k
        rw [hfb k (yas hp),e2] at he
        exact zpq (G:=frzG G h w (skV h rs vs)) (hrow bd (yas hbp)) e3 he
      · rw [hdead]; trivial
    · obtain ⟨p,k,hp,rfl,o3⟩:=hOwn n b o1
      obtain ⟨p',k',hp',rfl,o4⟩:=hOwn n' b o2
      have:=hfs.inv.apart k k' b o3 o4
      subst this
      have l1:=(yae.1 hp).1
      have:=(ybX l1 hnd).1 (hp.trans hp'.symm)
      rw [this]
  exact ⟨hd2,hlv,hvr,hinv,fun n b ho=>by
    obtain ⟨p,k,hp,_,o3⟩:=hOwn n b ho
    exact ⟨k,yas hp,o3⟩⟩
def zIg (res:List XRes) (rs:List RV) (K:List Nat) (h1:Nat→Ent):Ex→S→Prop:=fun e st=>(e = .normal∨e = .ret) ∧ ∃ vs ks,resL st res=some vs∧zwq st.h rs vs ks∧ks.Nodup∧(∀ k ∈ ks,k ∉ skV st.h rs vs∧k ∉ K) ∧ ∀ k ∈ K,frz st.h (skV st.h rs vs) k=h1 k
theorem zKp {f:FuncId} {fn:Func} {x:XFn} (hm:P.follows .mixedOrders=true) (hf:P.funcs[f]? = some fn) (hx:cfn P fn=some x) {as:List AV} {rs:List RV} {K:List Nat} {h0 h1:Nat→Ent} (hl:as.length=x.np) (hov:∀ k ∈ K,zvz K (h1 k).body)
    (hw:∀ (G:GS) (h:Nat→Ent) (w:World) (vs:List Value),(∀ k ∈ K,h k=h0 k)→vs.length=as.length→(∀ (j:Nat) a,as[j]? = some a→ARel G h w (vs.getD j undef) a)→wpX P x.code (zIg x.res rs K h1) ⟨zde as,h⟩):MutO P f as K h0 rs h1:=by
  unfold cfn at hx
  split at hx
  · rename_i c hb
    split at hx
    · cases hx
    · rename_i hname
      split at hx
      · rename_i xc r hcc hres
        split at hx
        · rename_i hnp
          cases hx
          simp only at hl hw
          refine ⟨⟨fn,hf,hname,by rw [hb]; rfl⟩,hov,fun G h w vs hk _ hi hvl hrel=>?_⟩
          refine calls_of_wp hf hb ?_
          have hw:=hw G h w vs hk hvl hrel
          have fr:Fr fn.ntmps G ⟨zde as,h⟩ { tmps:=vs.toArray ++ ybQ (fn.ntmps - vs.toArray.size) undef,defers:=[] } w:=by
            refine ⟨hi,fun i=>?_,by simp; omega⟩
            simp only [zde]
            cases hd:as[i]? with
            | none =>
              have hge:as.length≤i:=ybS.1 hd
              have:(vs.toArray ++ ybQ (fn.ntmps - vs.toArray.size) undef).getD i undef=undef:=by
                rw [yaw,ybT (by simp; omega),ybR]
                split <;> rfl
              rw [this]
              exact .skip
            | some a =>
              have hlt:=(yae.1 hd).1
              have:(vs.toArray ++ ybQ (fn.ntmps - vs.toArray.size) undef).getD i undef=vs.getD i undef:=by
                rw [yaw,ybU (by simp; omega)]
                simp
              rw [this]
              exact hrel i a hd
          refine wp_mono (zg4 hm c xc hcc _ _ _ _ _ hw fr) ?_
          rintro e a' w' ⟨ex,G',st',rfl,fr',hs,hd,hend,vs',ks,hrv,hfit,hnd,hap,hK⟩
          obtain ⟨us,h1',h2,h3⟩:=zej (P:=P) fr'.inv fr'.slots _ _ _ hres hrv
          obtain ⟨hd2,hlv,hvr,hinv,hOwn⟩:=zB0 fr'.inv hfit hnd fun k hk=>(hap k hk).1
          have hall:=hs.trans (zbp fr'.inv (skV st'.h rs vs'))
          have hkill:=hall.trans (zyw hall.inv K)
          have hpost:(results fn a'.tmps).run P w' = .ok (za3 us) w':=ze7 h1'
          have hR:∃ (G2:GS) (h2:Nat→Ent) (us':List Value) (hd2:Nat→Hd),Ending.returned (za3 us) = .returned (za3 us')∧us'.length=(zbn zat 0 0 rs).length ∧
              (∀ (j:Nat) v,(zbn zat 0 0 rs)[j]? = some v→ARel ⟨G2.St,hd2⟩ (zbc zat 0 (zas rs)) w' (us'.getD j undef) v)∧(∀ k ∈ K,h2 k=h1 k)∧(∀ k,k ∉ K→(h2 k).body = .dead)∧Step G h w G2 h2 w' ∧
              Inv ⟨G2.St,hd2⟩ (zbc zat 0 (zas rs)) w' ∧ ∀ k b,Owns ⟨G2.St,hd2⟩ k b (zbc zat 0 (zas rs) k).body→((∃ q,Owns G q b (h q).body)∨w.heap.size≤b) ∧ ∀ q,¬ Owns G2 q b (h2 q).body:=by
            refine ⟨_,_,us,hd2,rfl,by rw [zbo,h2,hlv],fun j v hj=>?_,fun k hm=>by simp only [if_pos hm]; exact hK k hm,fun k hm=>by simp only [if_neg hm],hkill,hinv,fun n b ho=>?_⟩
            · obtain ⟨a,ha,hr⟩:=hvr j v hj
              exact hr _ (h3 j a ha)
            · obtain ⟨k,hk,o3⟩:=hOwn n b ho
              refine ⟨hall.grow k b o3,fun q hq=>?_⟩
              by_cases hqk:q ∈ K
              · rw [if_pos hqk] at hq
                have:=hall.inv.apart k q b o3 hq
                subst this
                exact (hap k hk).2 hqk
              · rw [if_neg hqk] at hq
                exact hq
          rcases hend with rfl | rfl
          · exact ⟨hd,za3 us,hpost,hR⟩
          · exact ⟨hd,za3 us,hpost,hR⟩
        · cases hx
      · cases hx
  · cases hx
def keyC:RC→AV→List Nat
  | .row _ _ _,.rsl k _=>[k]
  | _,_=>[]
def fitC (h:Nat→Ent):RC→AV→Prop
  | .d x,v=>toD h deep v=some x
  | .row sz xs fz,.rsl k v=>v=(h k).ver∧(h k).body = .row sz xs fz
  | .row _ _ _,_=>False
def zzb:List RC→List AV→List Nat
  | c :: cs,v :: vs=>keyC c v ++ zzb cs vs
  | _,_=>[]
def zCy (h:Nat→Ent):List RC→List AV→Prop
  | [],[]=>True
  | c :: cs,v :: vs=>fitC h c v∧zCy h cs vs
  | _,_=>False
def zv8:AV→List AV
  | .agg ws=>ws
  | _=>[]
def zx8:List RV→List AV→List Nat
  | .one c :: rs,v :: vs=>keyC c v ++ zx8 rs vs
  | .agg cs :: rs,v :: vs=>zzb cs (zv8 v) ++ zx8 rs vs
  | _,_=>[]
def zCg (h:Nat→Ent):List RV→List AV→Prop
  | [],[]=>True
  | .one c :: rs,v :: vs=>fitC h c v∧zCg h rs vs
  | .agg cs :: rs,.agg ws :: vs=>zCy h cs ws∧zCg h rs vs
  | _,_=>False
def skC1 (h:Nat→Ent):RC→AV→List Nat
  | .d _,v=>sk h deep v
  | _,_=>[]
def skCs (h:Nat→Ent):List RC→List AV→List Nat
  | c :: cs,v :: vs=>skC1 h c v ++ skCs h cs vs
  | _,_=>[]
def skVs (h:Nat→Ent):List RV→List AV→List Nat
  | .one c :: rs,v :: vs=>skC1 h c v ++ skVs h rs vs
  | .agg cs :: rs,v :: vs=>skCs h cs (zv8 v) ++ skVs h rs vs
  | _,_=>[]
theorem zAu (h:Nat→Ent):∀ (cs:List RC) (vs:List AV),skC h cs vs=skCs h cs vs
  | [],vs=>by simp [skC,skCs]
  | c :: cs,[]=>by cases c <;> simp [skC,skCs]
  | .d x :: cs,v :: vs=>by simp [skC,skCs,skC1,zAu h cs vs]
  | .row _ _ _ :: cs,v :: vs=>by simp [skC,skCs,skC1,zAu h cs vs]
theorem zx6 (h:Nat→Ent):∀ (rs:List RV) (vs:List AV),skV h rs vs=skVs h rs vs
  | [],vs=>by simp [skV,skVs]
  | .one c :: rs,[]=>by simp [skV,skVs]
  | .agg c :: rs,[]=>by simp [skV,skVs]
  | .one c :: rs,v :: vs=>by simp [skV,skVs,zx6 h rs vs,zAu,skCs]
  | .agg cs :: rs,v :: vs=>by
    cases v <;> simp [skV,skVs,zx6 h rs vs,zAu,zv8] <;> cases cs <;> simp [skCs]
theorem zsq {h:Nat→Ent}:∀ {cs:List RC} {vs:List AV},zCy h cs vs→zxy h cs vs (zzb cs vs)
  | [],[],_=>trivial
  | .d x :: cs,v :: vs,hf=>⟨hf.1,by simpa [zzb,keyC] using zsq hf.2⟩
  | .row sz xs fz :: cs,v :: vs,hf=>by
    obtain ⟨h1,h2⟩:=hf
    cases v with
    | rsl k ver=>exact ⟨by rw [h1.1],h1.2,by simpa [zzb,keyC] using zsq h2⟩
    | _=>exact h1.elim
  | [],_ :: _,hf=>hf.elim
  | _ :: _,[],hf=>by simp [zCy] at hf
theorem zsu {h:Nat→Ent}:∀ {rs:List RV} {vs:List AV},zCg h rs vs→zwq h rs vs (zx8 rs vs)
  | [],[],_=>trivial
  | .one c :: rs,v :: vs,hf=>⟨_,_,rfl,by simpa [zzb] using zsq (cs:=[c]) (vs:=[v]) ⟨hf.1,trivial⟩,zsu hf.2⟩
  | .agg cs :: rs,.agg ws :: vs,hf=>⟨_,_,ws,rfl,rfl,zsq hf.1,zsu hf.2⟩
  | [],_ :: _,hf=>hf.elim
  | .one _ :: _,[],hf=>hf.elim
  | .agg _ :: _,[],hf=>hf.elim
  | .agg _ :: _,.d _ :: _,hf=>hf.elim
  | .agg _ :: _,.fsl _ _ :: _,hf=>hf.elim
  | .agg _ :: _,.rsl _ _ :: _,hf=>hf.elim
  | .agg _ :: _,.ptr _ _ _ :: _,hf=>hf.elim
  | .agg _ :: _,.eptr _ _ _ _ _ :: _,hf=>hf.elim
  | .agg _ :: _,.clo _ _ :: _,hf=>hf.elim
  | .agg _ :: _,.tup _ :: _,hf=>hf.elim
  | .agg _ :: _,.skip :: _,hf=>hf.elim
  | .agg _ :: _,.junk :: _,hf=>hf.elim
def zFz (res:List XRes) (rs:List RV):Ex→S→Prop:=fun e st=>(e = .normal∨e = .ret) ∧ ∃ vs,resL st res=some vs∧zCg st.h rs vs∧(zx8 rs vs).Nodup ∧ ∀ k ∈ zx8 rs vs,k ∉ skVs st.h rs vs
theorem zGf {res:List XRes} {rs:List RV} (e:Ex) (st:S) (h:zFz res rs e st):zNp res rs e st:=by
  obtain ⟨he,vs,h1,h2,h3,h4⟩:=h
  exact ⟨he,vs,_,h1,zsu h2,h3,fun k hk=>by rw [zx6]; exact h4 k hk⟩
def zFb (res:List XRes) (rs:List RV) (K:List Nat) (h1:Nat→Ent):Ex→S→Prop:=fun e st=>(e = .normal∨e = .ret) ∧ ∃ vs,resL st res=some vs∧zCg st.h rs vs∧(zx8 rs vs).Nodup∧(∀ k ∈ zx8 rs vs,k ∉ skVs st.h rs vs∧k ∉ K) ∧ ∀ k ∈ K,frz st.h (skVs st.h rs vs) k=h1 k
theorem zEx {res:List XRes} {rs:List RV} {K:List Nat} {h1:Nat→Ent} (e:Ex) (st:S) (h:zFb res rs K h1 e st):zIg res rs K h1 e st:=by
  obtain ⟨he,vs,h1,h2,h3,h4,h5⟩:=h
  exact ⟨he,vs,_,h1,zsu h2,h3,fun k hk=>by rw [zx6]; exact h4 k hk,fun k hk=>by rw [zx6]; exact h5 k hk⟩
end
end Ev
end Go.Proofs.YtncmainjcffanaaGreat
/- Rules by which a proof steps through code told in the small language. -/
namespace Go.Proofs.YtncmainjcffanaaGreat
namespace Ev
open Go
set_option linter.unusedSectionVars false
variable {nwI:Nw}
def runA (r:Option (AV × (Nat→Ent))) (s:Nat→AV) (dst:Option Nat) (K:S→Prop):Prop:=match r with
  | some p=>K ⟨putS s dst p.1,p.2⟩
  | none=>False
theorem za6 {r:Option (AV × (Nat→Ent))} {s:Nat→AV} {dst:Option Nat} {K:S→Prop}:(∃ av h',r=some (av,h')∧K ⟨putS s dst av,h'⟩)=runA r s dst K:=by
  apply propext
  constructor
  · rintro ⟨av,h',rfl,hk⟩
    exact hk
  · intro h
    unfold runA at h
    split at h
    · exact ⟨_,_,rfl,h⟩
    · exact h.elim
def XOp.norm:XOp→Bool
  | .bslice _ _ _ _=>false
  | .store _ _ _=>false
  | .app _ _ _ _=>false
  | _=>true
theorem zbf (dst:Option Nat) (st:S) (op:XOp) (h:op.norm=true):actW dst st op=act dst st op:=by
  unfold actW
  split
  · cases op <;> first | rfl | cases h
  · rfl
section
variable {P:Program} {dst:Option Nat} {g:Option (Nat × Bool)} {st:S} {K:S→Prop}
theorem zL4 (x:Opd): runX P ⟨dst,.mv x,g⟩ st K=runA (act dst st (.mv x)) st.s dst K:=by
  rw [← zbf dst st (.mv x) rfl]; exact za6
theorem zBl (sz:Nat): runX P ⟨dst,.nilrow sz,g⟩ st K=runA (act dst st (.nilrow sz)) st.s dst K:=by
  rw [← zbf dst st (.nilrow sz) rfl]; exact za6
theorem zHt (c a b:Opd): runX P ⟨dst,.pick c a b,g⟩ st K=runA (act dst st (.pick c a b)) st.s dst K:=by
  rw [← zbf dst st (.pick c a b) rfl]; exact za6
theorem zCr (cs:List AV): runX P ⟨dst,.alloc cs,g⟩ st K=runA (act dst st (.alloc cs)) st.s dst K:=by
  rw [← zbf dst st (.alloc cs) rfl]; exact za6
theorem zJt (x:Opd): runX P ⟨dst,.box x,g⟩ st K=runA (act dst st (.box x)) st.s dst K:=by
  rw [← zbf dst st (.box x) rfl]; exact za6
theorem zF0 (n:Nat) (ag:Bool) (a:Opd): runX P ⟨dst,.load n ag a,g⟩ st K=runA (act dst st (.load n ag a)) st.s dst K:=by
  rw [← zbf dst st (.load n ag a) rfl]; exact za6
theorem zDv (n:Nat) (a x:Opd): @runX i0 P ⟨dst,.store n a x,g⟩ st K=runA (act dst st (.store n a x)) st.s dst K:=za6
theorem zCv (x:Opd): runX P ⟨dst,.nilck x,g⟩ st K=runA (act dst st (.nilck x)) st.s dst K:=by
  rw [← zbf dst st (.nilck x) rfl]; exact za6
theorem zLh (op:BinOp) (x y:Opd): runX P ⟨dst,.bin op x y,g⟩ st K=runA (act dst st (.bin op x y)) st.s dst K:=by
  rw [← zbf dst st (.bin op x y) rfl]; exact za6
theorem zGm (op:BinOp) (x y:Opd): runX P ⟨dst,.binb op x y,g⟩ st K=runA (act dst st (.binb op x y)) st.s dst K:=by
  rw [← zbf dst st (.binb op x y) rfl]; exact za6
theorem zL9 (op:UnOp) (x:Opd): runX P ⟨dst,.un op x,g⟩ st K=runA (act dst st (.un op x)) st.s dst K:=by
  rw [← zbf dst st (.un op x) rfl]; exact za6
theorem zFs (k:IntKind) (x:Opd): runX P ⟨dst,.conv k x,g⟩ st K=runA (act dst st (.conv k x)) st.s dst K:=by
  rw [← zbf dst st (.conv k x) rfl]; exact za6
theorem zI0 (f:FuncId) (cs:List Opd): runX P ⟨dst,.mkf f cs,g⟩ st K=runA (act dst st (.mkf f cs)) st.s dst K:=by
  rw [← zbf dst st (.mkf f cs) rfl]; exact za6
theorem zLl (z:D) (sz b:Nat) (x:Opd): runX P ⟨dst,.mks z sz b x,g⟩ st K=runA (act dst st (.mks z sz b x)) st.s dst K:=by
  rw [← zbf dst st (.mks z sz b x) rfl]; exact za6
theorem zCz (n:Nat) (x:Opd) (lo hi:Option Opd): runX P ⟨dst,.slice n x lo hi,g⟩ st K=runA (act dst st (.slice n x lo hi)) st.s dst K:=by
  rw [← zbf dst st (.slice n x lo hi) rfl]; exact za6
theorem zD7 (o:Nat) (x:Opd): runX P ⟨dst,.faddr o x,g⟩ st K=runA (act dst st (.faddr o x)) st.s dst K:=by
  rw [← zbf dst st (.faddr o x) rfl]; exact za6
theorem zK4 (o n:Nat) (ag:Bool) (x:Opd): runX P ⟨dst,.fld o n ag x,g⟩ st K=runA (act dst st (.fld o n ag x)) st.s dst K:=by
  rw [← zbf dst st (.fld o n ag x) rfl]; exact za6
theorem zFl (n:Nat) (x i:Opd): runX P ⟨dst,.iaddr n x i,g⟩ st K=runA (act dst st (.iaddr n x i)) st.s dst K:=by
  rw [← zbf dst st (.iaddr n x i) rfl]; exact za6
theorem zKk (x:Opd) (i:Nat): runX P ⟨dst,.ext x i,g⟩ st K=runA (act dst st (.ext x i)) st.s dst K:=by
  rw [← zbf dst st (.ext x i) rfl]; exact za6
theorem zIu (x:Opd): runX P ⟨dst,.len x,g⟩ st K=runA (act dst st (.len x)) st.s dst K:=by
  rw [← zbf dst st (.len x) rfl]; exact za6
theorem zJu (s b:Nat) (x y:Opd): @runX i0 P ⟨dst,.app s b x y,g⟩ st K=runA (act dst st (.app s b x y)) st.s dst K:=za6
theorem zM5 (mx:Bool) (x y:Opd): runX P ⟨dst,.mm mx x y,g⟩ st K=runA (act dst st (.mm mx x y)) st.s dst K:=by
  rw [← zbf dst st (.mm mx x y) rfl]; exact za6
theorem zEh (z:List AV) (ps:List (Nat × Nat × Opd)): runX P ⟨dst,.build z ps,g⟩ st K=runA (act dst st (.build z ps)) st.s dst K:=by
  rw [← zbf dst st (.build z ps) rfl]; exact za6
theorem zB3 (z:D) (s n:Nat) (ps:List (Nat × Opd)): @runX i0 P ⟨dst,.bslice z s n ps,g⟩ st K=runA (act dst st (.bslice z s n ps)) st.s dst K:=za6
theorem zCn (m n:Nat) (a x:Opd):@runX (i1 m) P ⟨dst,.store n a x,g⟩ st K=runA (act dst st (.store n a x)) st.s dst K:=za6
theorem zHe (m s b:Nat) (x y:Opd):@runX (i1 m) P ⟨dst,.app s b x y,g⟩ st K=runA (act dst st (.app s b x y)) st.s dst K:=za6
theorem zAc (m:Nat) (z:D) (s n:Nat) (ps:List (Nat × Opd)):@runX (i1 m) P ⟨dst,.bslice z s n ps,g⟩ st K=runA (if z.bare=true∧ps.all (fun p=>(p.2.ev st.s).hi)=true then (ze2 st.h st.s s (yaa n z) ps).map fun xs=>(.n true (.sl s xs),frz st.h (zdf st.h st.s ps)) else act dst st (.bslice z s n ps)) st.s dst K:=za6
theorem zBx (m n:Nat) (a x:Opd):@runX (i2 m) P ⟨dst,.store n a x,g⟩ st K=runA (if (x.ev st.s).hi=false∧(a.ev st.s).isE=true then none else act dst st (.store n a x)) st.s dst K:=by
  have e:@actW (i2 m) dst st (.store n a x)=if (x.ev st.s).hi=false∧(a.ev st.s).isE=true then none else act dst st (.store n a x):=by
    show (if (true || true)=true then (if true=true∧(x.ev st.s).hi=false∧(a.ev st.s).isE=true then none else act dst st (.store n a x)) else act dst st (.store n a x))=_
    simp
  rw [← e]; exact za6
theorem zF6 (m s b:Nat) (x y:Opd):@runX (i2 m) P ⟨dst,.app s b x y,g⟩ st K=runA (if (y.ev st.s).hiY=false then none else act dst st (.app s b x y)) st.s dst K:=by
  have e:@actW (i2 m) dst st (.app s b x y)=if (y.ev st.s).hiY=false then none else act dst st (.app s b x y):=by
    show (if (true || true)=true then (if true=true∧(y.ev st.s).hiY=false then none else act dst st (.app s b x y)) else act dst st (.app s b x y))=_
    simp
  rw [← e]; exact za6
theorem zzm (m:Nat) (z:D) (s n:Nat) (ps:List (Nat × Opd)):@runX (i2 m) P ⟨dst,.bslice z s n ps,g⟩ st K=runA (if z.bare=true∧ps.all (fun p=>(p.2.ev st.s).hi)=true then (ze2 st.h st.s s (yaa n z) ps).map fun xs=>(.n true (.sl s xs),frz st.h (zdf st.h st.s ps)) else act dst st (.bslice z s n ps)) st.s dst K:=za6
end
theorem zF8 {P:Program} {a:XCode} {Q:Ex→S→Prop} {st:S} (I:S→Prop) (μ:S→Nat) (h0:I st) (h:∀ st,I st→wpX P a (Ex.then (fun st'=>I st'∧μ st'<μ st) Q) st):wpX P (.loop a) Q st:=⟨I,μ,h0,h⟩
theorem zKf (h:Nat→Ent):frz h []=h:=by funext k; simp [frz]
end Ev
end Go.Proofs.YtncmainjcffanaaGreat
/- Equations by which code told in the small language is stepped through. What goes on behind a step is kept from the simplifier until the step itself is told. -/
namespace Go.Proofs.YtncmainjcffanaaGreat
namespace Ev
open Go
set_option linter.unusedSectionVars false
variable {nwI:Nw}
def Tg.{u} {α:Sort u} (_:α):Type:=Unit
def Cnd (c:AV) (A B:Prop) (_:Tg A) (_:Tg B):Prop:=match c with
  | .d (.bool t)=>if t then A else B
  | _=>False
theorem Cnd_t {A B:Prop}:Cnd (.d (.bool true)) A B (by exact ()) (by exact ())=A:=of_eq_true (eq_self _)
theorem Cnd_f {A B:Prop}:Cnd (.d (.bool false)) A B (by exact ()) (by exact ())=B:=of_eq_true (eq_self _)
theorem zag {t:Bool} {A B:Prop} (h1:t=true→A) (h2:t=false→B):Cnd (.d (.bool t)) A B (by exact ()) (by exact ()):=by cases t <;> simp_all [Cnd]
def Ask (c:AV) (b:Bool) (A B:Prop) (_:Tg A) (_:Tg B):Prop:=match c with
  | .d (.bool t)=>if t=b then A else B
  | .skip=>B
  | _=>False
section
variable {A B:Prop}
theorem zMl:Ask (.d (.bool true)) true A B (by exact ()) (by exact ())=A:=of_eq_true (eq_self _)
theorem zNd:Ask (.d (.bool false)) false A B (by exact ()) (by exact ())=A:=of_eq_true (eq_self _)
theorem zM4:Ask (.d (.bool true)) false A B (by exact ()) (by exact ())=B:=of_eq_true (eq_self _)
theorem zMb:Ask (.d (.bool false)) true A B (by exact ()) (by exact ())=B:=of_eq_true (eq_self _)
theorem zHi {b:Bool}:Ask .skip b A B (by exact ()) (by exact ())=B:=of_eq_true (eq_self _)
theorem zah {t b:Bool} (h1:t=true→Ask (.d (.bool true)) b A B (by exact ()) (by exact ())) (h2:t=false→Ask (.d (.bool false)) b A B (by exact ()) (by exact ())):Ask (.d (.bool t)) b A B (by exact ()) (by exact ()):=by cases t <;> simp_all
end
def Tch (t:List (Nat × Bool)) (F:List (Nat × Bool)→Prop) (_:Tg F):Prop:=F t
theorem zK6 {F:List (Nat × Bool)→Prop}:Tch [] F (by exact ())=F []:=of_eq_true (eq_self _)
theorem zGc {y:Nat × Bool} {xs:List (Nat × Bool)} {F:List (Nat × Bool)→Prop}:Tch (y :: xs) F (by exact ())=F (y :: xs):=of_eq_true (eq_self _)
def Chk (c:Bool) (A:Prop) (_:Tg A):Prop:=c=true∧A
theorem Chk_t {A:Prop}:Chk true A (by exact ())=A:=by simp [Chk]
def runB (r:Option (AV × (Nat→Ent))) (s:Nat→AV) (d:Option Nat) (K:S→Prop) (_:Tg s) (_:Tg K):Prop:=runA r s d K
section
variable {s:Nat→AV} {K:S→Prop}
theorem zEz {v:AV} {h:Nat→Ent} {i:Nat}:runB (some (v,h)) s (some i) K (by exact ()) (by exact ())=K ⟨upd s i v,h⟩:=of_eq_true (eq_self _)
theorem zDg {v:AV} {h:Nat→Ent}:runB (some (v,h)) s none K (by exact ()) (by exact ())=K ⟨s,h⟩:=of_eq_true (eq_self _)
end
def Lp [Nw] (P:Program) (a:XCode) (Q:Ex→S→Prop) (st:S) (_:Tg Q) (_:Tg a):Prop:=wpX P (.loop a) Q st
def runC [Nw] (P:Program) (g:Option (FuncId × List AV)) (as:List AV) (ds:Option (List D)) (ks:List Nat) (s:Nat→AV) (h:Nat→Ent) (d:Option Nat) (K:S→Prop) (_:Tg s) (_:Tg h) (_:Tg K):Prop :=
  ∃ n caps r h',g=some (n,caps)∧((∃ rs,r=resA rs∧((∃ xs,ds=some xs∧Pure P n xs rs∧h'=frz h ks)∨(∃ h0 h1,MutC P n as ks h0 rs h1∧(∀ k ∈ ks,h k=h0 k)∧h'=zaz ks h1 h)∨(∃ xs,ds=some xs∧Pure P n xs rs∧(∀ r ∈ rs,r.flat=true)∧h'=h))) ∨
    (∃ e xs rs,d=some e∧ds=some xs∧OwnC P n xs rs∧(zas rs).length≤2∧r=resO h e rs∧h'=zbc (frz h ks) e (zas rs)) ∨
    (∃ e rs h0 h1,d=some e∧MutO P n as ks h0 rs h1∧(∀ k ∈ ks,h k=h0 k)∧(zas rs).length≤2∧r=resO (zaz ks h1 h) e rs∧h'=zbc (zaz ks h1 h) e (zas rs)) ∨
    (∃ K rs h0 h1,r=resA rs∧(∀ k ∈ K,k ∈ ks ++ resK d)∧MutC P n as K h0 rs h1∧(∀ k ∈ K,h k=h0 k)∧h'=zaz K h1 h) ∨
    (∃ xs rs,ds=some xs∧zi0 P n xs rs∧r=resN rs∧h'=frz h ks) ∨
    (∃ xs rs,as.all AV.hi=true∧ds=some xs∧Pure P n xs rs∧r=resN rs∧h'=frz h ks))∧K ⟨putS s d r,h'⟩
theorem zaa {P:Program} {n:FuncId} {caps as:List AV} {xs rs:List D} {ks:List Nat} {s:Nat→AV} {h:Nat→Ent} {d:Option Nat} {K:S→Prop} (hp:Pure P n xs rs) (hk:K ⟨putS s d (resA rs),frz h ks⟩):runC P (some (n,caps)) as (some xs) ks s h d K (by exact ()) (by exact ()) (by exact ()):=⟨n,caps,resA rs,_,rfl,.inl ⟨rs,rfl,.inl ⟨xs,rfl,hp,rfl⟩⟩,hk⟩
theorem zdo {P:Program} {n:FuncId} {caps as:List AV} {ds:Option (List D)} {rs:List D} {ks:List Nat} {s:Nat→AV} {h h0 h1:Nat→Ent} {d:Option Nat} {K:S→Prop} (hm:MutC P n as ks h0 rs h1) (he:∀ k ∈ ks,h k=h0 k) (hk:K ⟨putS s d (resA rs),zaz ks h1 h⟩):runC P (some (n,caps)) as ds ks s h d K (by exact ()) (by exact ()) (by exact ()):=⟨n,caps,resA rs,_,rfl,.inl ⟨rs,rfl,.inr (.inl ⟨h0,h1,hm,he,rfl⟩)⟩,hk⟩
theorem zqp {P:Program} {n:FuncId} {caps as:List AV} {xs rs:List D} {ks:List Nat} {s:Nat→AV} {h:Nat→Ent} {d:Option Nat} {K:S→Prop} (hp:Pure P n xs rs) (hf:∀ r ∈ rs,r.flat=true) (hk:K ⟨putS s d (resA rs),h⟩):runC P (some (n,caps)) as (some xs) ks s h d K (by exact ()) (by exact ()) (by exact ()):=⟨n,caps,resA rs,_,rfl,.inl ⟨rs,rfl,.inr (.inr ⟨xs,rfl,hp,hf,rfl⟩)⟩,hk⟩
theorem zG3 {P:Program} {n:FuncId} {caps as:List AV} {xs:List D} {rs:List RV} {ks:List Nat} {s:Nat→AV} {h:Nat→Ent} {e:Nat} {K:S→Prop} (hp:OwnC P n xs rs) (hl:(zas rs).length≤2) (hk:K ⟨upd s e (resO h e rs),zbc (frz h ks) e (zas rs)⟩):runC P (some (n,caps)) as (some xs) ks s h (some e) K (by exact ()) (by exact ()) (by exact ()):=⟨n,caps,_,_,rfl,.inr (.inl ⟨e,xs,rs,rfl,rfl,hp,hl,rfl,rfl⟩),hk⟩
theorem zDs {P:Program} {n:FuncId} {caps as:List AV} {ds:Option (List D)} {rs:List RV} {ks:List Nat} {s:Nat→AV} {h h0 h1:Nat→Ent} {e:Nat} {K:S→Prop} (hm:MutO P n as ks h0 rs h1) (he:∀ k ∈ ks,h k=h0 k) (hl:(zas rs).length≤2) (hk:K ⟨upd s e (resO (zaz ks h1 h) e rs),zbc (zaz ks h1 h) e (zas rs)⟩):runC P (some (n,caps)) as ds ks s h (some e) K (by exact ()) (by exact ()) (by exact ()):=⟨n,caps,_,_,rfl,.inr (.inr (.inl ⟨e,rs,h0,h1,rfl,hm,he,hl,rfl,rfl⟩)),hk⟩
theorem zcm {P:Program} {n:FuncId} {caps as:List AV} {xs rs:List D} {ks:List Nat} {s:Nat→AV} {h:Nat→Ent} {d:Option Nat} {K:S→Prop} (hp:zi0 P n xs rs) (hk:K ⟨putS s d (resN rs),frz h ks⟩):runC P (some (n,caps)) as (some xs) ks s h d K (by exact ()) (by exact ()) (by exact ()):=⟨n,caps,resN rs,_,rfl,.inr (.inr (.inr (.inr (.inl ⟨xs,rs,rfl,hp,rfl,rfl⟩)))),hk⟩
theorem zA1 {P:Program} {n:FuncId} {caps as:List AV} {xs rs:List D} {ks:List Nat} {s:Nat→AV} {h:Nat→Ent} {d:Option Nat} {K:S→Prop} (hh:as.all AV.hi=true) (hp:Pure P n xs rs) (hk:K ⟨putS s d (resN rs),frz h ks⟩):runC P (some (n,caps)) as (some xs) ks s h d K (by exact ()) (by exact ()) (by exact ()):=⟨n,caps,resN rs,_,rfl,.inr (.inr (.inr (.inr (.inr ⟨xs,rs,hh,rfl,hp,rfl,rfl⟩)))),hk⟩
theorem zbm (h1 h:Nat→Ent):zaz [] h1 h=h:=by funext k; simp [zaz]
theorem za8 (k:Nat) (ks:List Nat) (h1 h:Nat→Ent):zaz (k :: ks) h1 h=upd (zaz ks h1 h) k (h1 k):=by
  funext q
  simp only [zaz,upd,List.mem_cons]
  by_cases hq:q=k
  · simp [hq]
  · simp [hq]
def fits (acc:List (Nat × List (Nat × Bool))) (t:List (Nat × Bool)):List Nat→Bool
  | []=>true
  | a :: as=>(match acc.lookup a with | some t'=>zjf t' t | none=>false) && fits acc t as
theorem zFi (acc:List (Nat × List (Nat × Bool))) (t:List (Nat × Bool)) (ls:List Nat):(ls.all fun a=>match acc.lookup a with | some t'=>zjf t' t | none=>false)=fits acc t ls:=by
  induction ls with
  | nil=>rfl
  | cons a as ih=>simp only [List.all_cons,fits,ih]
section
variable {P:Program} {Q:Ex→S→Prop} {st:S} {K:S→Prop}
theorem zJn:wpX P .skip Q st=Q .normal st:=of_eq_true (eq_self _)
theorem zD3 (ops:List XOper):wpX P (.region ops none) Q st=wpO P ops st (Q .normal):=of_eq_true (eq_self _)
theorem zLj (ops:List XOper) (ds:List (Bool × List Nat)):wpX P (.region ops (some ds)) Q st=wpT P ops ds 0 [] st (Q .normal):=of_eq_true (eq_self _)
theorem zNi (a b:XCode):wpX P (.seq a b) Q st=wpX P a (Ex.then (wpX P b Q) Q) st:=of_eq_true (eq_self _)
theorem zHo (id:Nat) (a:XCode):wpX P (.block id a) Q st=wpX P a (Ex.inBlock id Q) st:=of_eq_true (eq_self _)
theorem zKj (id:Nat):wpX P (.exit id) Q st=Q (.exit id) st:=of_eq_true (eq_self _)
theorem zMu:wpX P .ret Q st=Q .ret st:=of_eq_true (eq_self _)
theorem zK3 (c:Opd) (a b:XCode):wpX P (.cond c a b) Q st=Cnd (c.ev st.s) (wpX P a Q st) (wpX P b Q st) (by exact ()) (by exact ()):=of_eq_true (eq_self _)
theorem zKi (a:XCode):wpX P (.loop a) Q st=Lp P a Q st (by exact ()) (by exact ()):=of_eq_true (eq_self _)
theorem zLu:wpO P [] st K=K st:=of_eq_true (eq_self _)
theorem zLt (d:Option Nat) (o:XOp) (os:List XOper):wpO P (⟨d,o,none⟩ :: os) st K=runX P ⟨d,o,none⟩ st fun st'=>wpO P os st' K:=of_eq_true (eq_self _)
theorem zNl (d:Option Nat) (o:XOp) (j:Nat) (b:Bool) (os:List XOper) :
    wpO P (⟨d,o,some (j,b)⟩ :: os) st K=Ask (st.s j) b (runX P ⟨d,o,none⟩ st fun st'=>wpO P os st' K) (wpO P os ⟨putS st.s d .skip,st.h⟩ K) (by exact ()) (by exact ()):=by
  simp only [wpO,zjy,Ask]
  cases h:st.s j with
  | d x => cases x <;> simp only <;> (try rfl)
           rename_i t
           cases t <;> cases b <;> simp [runX]
  | _=>rfl
theorem zLr (ds:List (Bool × List Nat)) (i:Nat) (acc:List (Nat × List (Nat × Bool))):wpT P [] ds i acc st K=K st:=of_eq_true (eq_self _)
theorem zH4 (d:Option Nat) (o:XOp) (os:List XOper) (e:Bool) (ls:List Nat) (ds:List (Bool × List Nat)) (i:Nat) (acc:List (Nat × List (Nat × Bool))) :
    wpT P (⟨d,o,none⟩ :: os) ((e,ls) :: ds) i acc st K=Tch (zak d st o) (fun t=>Chk (fits acc t ls) (runX P ⟨d,o,none⟩ st fun st'=>wpT P os ds (i+1) (match e with | true=>(i,t) :: acc | false=>acc) st' K) (by exact ())) (by exact ()):=by
  simp only [wpT,zjy,zbx,Tch,Chk,ybY,List.tail_cons]
  cases e <;> exact congrArg (· ∧ _) (congrArg (· = true) (zFi acc _ ls))
theorem zIk (d:Option Nat) (o:XOp) (j:Nat) (b:Bool) (os:List XOper) (e:Bool) (ls:List Nat) (ds:List (Bool × List Nat)) (i:Nat) (acc:List (Nat × List (Nat × Bool))) :
    wpT P (⟨d,o,some (j,b)⟩ :: os) ((e,ls) :: ds) i acc st K=Ask (st.s j) b
      (Tch (zak d st o) (fun t=>Chk (fits acc t ls) (runX P ⟨d,o,none⟩ st fun st'=>wpT P os ds (i+1) (match e with | true=>(i,t) :: acc | false=>acc) st' K) (by exact ())) (by exact ()))
      (Chk (fits acc [] ls) (wpT P os ds (i+1) (match e with | true=>(i,[]) :: acc | false=>acc) ⟨putS st.s d .skip,st.h⟩ K) (by exact ())) (by exact ()) (by exact ()):=by
  have key:∀ (t:List (Nat × Bool)) (A B:Prop),A=B→(((ls.all fun a=>match acc.lookup a with | some t'=>zjf t' t | none=>false)=true∧A)=(fits acc t ls=true∧B)):=fun t A B h=>by rw [zFi,h]
  simp only [wpT,zjy,zbx,Tch,Chk,ybY,List.tail_cons,Ask]
  generalize st.s j=c
  cases c with
  | d x => cases x with
           | bool t=>cases t <;> cases b <;> cases e <;> exact key _ _ _ rfl
           | _=>simp
  | skip=>cases e <;> exact key _ _ _ rfl
  | _=>simp
theorem zG9 (d:Option Nat) (o:XOp) (os:List XOper) (ls:List Nat) (ds:List (Bool × List Nat)) (i:Nat) (acc:List (Nat × List (Nat × Bool))) :
    wpT P (⟨d,o,none⟩ :: os) ((true,ls) :: ds) i acc st K=Tch (zak d st o) (fun t=>Chk (fits acc t ls) (runX P ⟨d,o,none⟩ st fun st'=>wpT P os ds (i+1) ((i,t) :: acc) st' K) (by exact ())) (by exact ()):=zH4 d o os true ls ds i acc
theorem zHh (d:Option Nat) (o:XOp) (os:List XOper) (ls:List Nat) (ds:List (Bool × List Nat)) (i:Nat) (acc:List (Nat × List (Nat × Bool))) :
    wpT P (⟨d,o,none⟩ :: os) ((false,ls) :: ds) i acc st K=Tch (zak d st o) (fun t=>Chk (fits acc t ls) (runX P ⟨d,o,none⟩ st fun st'=>wpT P os ds (i+1) acc st' K) (by exact ())) (by exact ()):=zH4 d o os false ls ds i acc
theorem zFm (d:Option Nat) (o:XOp) (j:Nat) (b:Bool) (os:List XOper) (ls:List Nat) (ds:List (Bool × List Nat)) (i:Nat) (acc:List (Nat × List (Nat × Bool))) :
    wpT P (⟨d,o,some (j,b)⟩ :: os) ((true,ls) :: ds) i acc st K=Ask (st.s j) b
      (Tch (zak d st o) (fun t=>Chk (fits acc t ls) (runX P ⟨d,o,none⟩ st fun st'=>wpT P os ds (i+1) ((i,t) :: acc) st' K) (by exact ())) (by exact ()))
      (Chk (fits acc [] ls) (wpT P os ds (i+1) ((i,[]) :: acc) ⟨putS st.s d .skip,st.h⟩ K) (by exact ())) (by exact ()) (by exact ()):=zIk d o j b os true ls ds i acc
theorem zGe (d:Option Nat) (o:XOp) (j:Nat) (b:Bool) (os:List XOper) (ls:List Nat) (ds:List (Bool × List Nat)) (i:Nat) (acc:List (Nat × List (Nat × Bool))) :
    wpT P (⟨d,o,some (j,b)⟩ :: os) ((false,ls) :: ds) i acc st K=Ask (st.s j) b
      (Tch (zak d st o) (fun t=>Chk (fits acc t ls) (runX P ⟨d,o,none⟩ st fun st'=>wpT P os ds (i+1) acc st' K) (by exact ())) (by exact ()))
      (Chk (fits acc [] ls) (wpT P os ds (i+1) acc ⟨putS st.s d .skip,st.h⟩ K) (by exact ())) (by exact ()) (by exact ()):=zIk d o j b os false ls ds i acc
theorem zMh {α:Type} (f:Nat→α) (i:Nat) (v:α):upd f i v i=v:=by simp [upd]
theorem zMr {α:Type} (f:Nat→α) (i j:Nat) (v:α) (h:j ≠ i):upd f i v j=f j:=by simp [upd,h]
theorem ev_t (s:Nat→AV) (i:Nat):Opd.ev s (.t i)=s i:=rfl
theorem ev_c (s:Nat→AV) (v:AV):Opd.ev s (.c v)=v:=rfl
def evs (s:Nat→AV):List Opd→List AV
  | []=>[]
  | x :: xs=>x.ev s :: evs s xs
theorem zDo (s:Nat→AV) (l:List Opd):l.map (·.ev s)=evs s l:=by
  induction l with
  | nil=>rfl
  | cons x xs ih=>simp [evs,ih]
def sks (h:Nat→Ent):List AV→List Nat
  | []=>[]
  | x :: xs=>sk h deep x ++ sks h xs
theorem zH0 (h:Nat→Ent) (l:List AV):l.flatMap (sk h deep)=sks h l:=by
  induction l with
  | nil=>rfl
  | cons x xs ih=>simp [sks,ih]
def zE3:Option (FuncId × List AV)→List AV
  | some c=>c.2
  | none=>[]
theorem zBs {d:Option Nat} (f:Opd) (args:List Opd) (s:Nat→AV) (h:Nat→Ent):zak d ⟨s,h⟩ (.call f args)=wr (sks h (evs s args ++ zE3 (callee (f.ev s))) ++ resK d):=by
  simp only [zak,zDo,zH0]
  cases callee (f.ev s) <;> rfl
theorem zEv (d:Option Nat) (f:Opd) (args:List Opd) (s:Nat→AV) (h:Nat→Ent) :
    runX P ⟨d,.call f args,none⟩ ⟨s,h⟩ K=runC P (callee (f.ev s)) (evs s args ++ zE3 (callee (f.ev s))) (allD (toD h deep) (evs s args ++ zE3 (callee (f.ev s)))) (sks h (evs s args ++ zE3 (callee (f.ev s)))) s h d K (by exact ()) (by exact ()) (by exact ()):=by
  rw [← zDo,← zH0]
  apply propext
  simp only [runX,runC,zKx]
  constructor
  · rintro ⟨g,caps,r,h',h1,h2,h4⟩
    rw [h1]
    exact ⟨g,caps,r,h',rfl,h2,h4⟩
  · rintro ⟨g,caps,r,h',h1,h2,h4⟩
    rw [h1] at h2
    exact ⟨g,caps,r,h',h1,h2,h4⟩
section
variable {d:Option Nat} {s:Nat→AV} {h:Nat→Ent}
theorem rb_mv (x:Opd):runX P ⟨d,.mv x,none⟩ ⟨s,h⟩ K=runB (some (x.ev s,h)) s d K (by exact ()) (by exact ()):=zL4 x
theorem zFp (x:Opd):runX P ⟨d,.nilck x,none⟩ ⟨s,h⟩ K=runB (match x.ev s with
    | .ptr k v o=>if v=(h k).ver then (match (h k).body with | .box _ _=>some (.ptr k v o,h) | _=>none) else none
    | .eptr k v sz j o=>if v=(h k).ver then (match (h k).body with | .row _ _ false=>some (.eptr k v sz j o,h) | _=>none) else none
    | .d (.rp cs)=>some (.d (.rp cs),h)
    | .d (.clo f cs)=>some (.d (.clo f cs),h)
    | _=>none) s d K (by exact ()) (by exact ()):=zCv x
theorem zD8 (sz:Nat):runX P ⟨d,.nilrow sz,none⟩ ⟨s,h⟩ K=runB (d.bind fun k=>some (.rsl k ((h k).ver+1),newE h k (.row sz [] false))) s d K (by exact ()) (by exact ()):=zBl sz
theorem zK5 (c a b:Opd):runX P ⟨d,.pick c a b,none⟩ ⟨s,h⟩ K=runB (match c.ev s with
    | .d (.bool t)=>some (if t then a.ev s else b.ev s,h)
    | _=>none) s d K (by exact ()) (by exact ()):=zHt c a b
theorem zFv (cs:List AV):runX P ⟨d,.alloc cs,none⟩ ⟨s,h⟩ K=runB (d.bind fun k=>some (.ptr k ((h k).ver+1) 0,newE h k (.box cs false))) s d K (by exact ()) (by exact ()):=zCr cs
theorem zL2 (x:Opd):runX P ⟨d,.box x,none⟩ ⟨s,h⟩ K=runB (d.bind fun k=>if (x.ev s).cells.all AV.one=true then some (.ptr k ((h k).ver+1) 0,newE h k (.box (x.ev s).cells false)) else none) s d K (by exact ()) (by exact ()):=zJt x
theorem zKe (n:Nat) (ag:Bool) (a:Opd):runX P ⟨d,.load n ag a,none⟩ ⟨s,h⟩ K=runB ((zsg h n ag (a.ev s)).map fun v=>(v,h)) s d K (by exact ()) (by exact ()):=zF0 n ag a
theorem zFx (n:Nat) (a x:Opd):@runX i0 P ⟨d,.store n a x,none⟩ ⟨s,h⟩ K=runB ((zla h n (a.ev s) (x.ev s)).map fun h=>(.skip,h)) s d K (by exact ()) (by exact ()):=zDv n a x
theorem zNn (op:BinOp) (x y:Opd):runX P ⟨d,.bin op x y,none⟩ ⟨s,h⟩ K=runB ((binI op (x.ev s) (y.ev s)).map fun v=>(.d v,h)) s d K (by exact ()) (by exact ()):=zLh op x y
theorem zIx (op:BinOp) (x y:Opd):runX P ⟨d,.binb op x y,none⟩ ⟨s,h⟩ K=runB ((binB op (x.ev s) (y.ev s)).map fun v=>(.d v,h)) s d K (by exact ()) (by exact ()):=zGm op x y
theorem rb_un (op:UnOp) (x:Opd):runX P ⟨d,.un op x,none⟩ ⟨s,h⟩ K=runB (match op,x.ev s with
    | .not,.d (.bool b)=>some (.d (.bool !b),h)
    | .neg,.d (.int k n)=>some (.d (.int k (k.wrap (0 - n))),h)
    | _,_=>none) s d K (by exact ()) (by exact ()):=zL9 op x
theorem zK1 (k:IntKind) (x:Opd):runX P ⟨d,.conv k x,none⟩ ⟨s,h⟩ K=runB (match x.ev s with
    | .d (.int _ n)=>some (.d (.int k (k.wrap n)),h)
    | _=>none) s d K (by exact ()) (by exact ()):=zFs k x
theorem zLz (f:FuncId) (cs:List Opd):runX P ⟨d,.mkf f cs,none⟩ ⟨s,h⟩ K=runB (some (.clo f (evs s cs),h)) s d K (by exact ()) (by exact ()):=by
  rw [← zDo]; exact zI0 f cs
theorem zMp (z:D) (sz b:Nat) (x:Opd):runX P ⟨d,.mks z sz b x,none⟩ ⟨s,h⟩ K=runB (d.bind fun k=>match x.ev s with
    | .d (.int .i64 n)=>if 0≤n∧n*b≤zae∧n≤zae then some (.rsl k ((h k).ver+1),newE h k (.row sz (yaa n.toNat z) false)) else none
    | _=>none) s d K (by exact ()) (by exact ()):=zLl z sz b x
theorem zGp (n:Nat) (x:Opd) (lo hi:Option Opd):runX P ⟨d,.slice n x lo hi,none⟩ ⟨s,h⟩ K=runB (match toD h deep (x.ev s) with
    | some (.sl sz xs)=>if sz=n then match idx (hi.map (·.ev s)) xs.length xs.length with
      | some e=>match idx (lo.map (·.ev s)) e 0 with
        | some l=>some (.d (.sl sz ((xs.take e).drop l)),frz h (sk h deep (x.ev s)))
        | none=>none
      | none=>none
      else none
    | _=>none) s d K (by exact ()) (by exact ()):=zCz n x lo hi
theorem zGw (o:Nat) (x:Opd):runX P ⟨d,.faddr o x,none⟩ ⟨s,h⟩ K=runB (match x.ev s with
    | .ptr k v off=>if v=(h k).ver then (match (h k).body with | .box _ _=>some (.ptr k v (off+o),h) | _=>none) else none
    | .d (.rp cs)=>if o≤cs.length then some (.d (.rp (cs.drop o)),h) else none
    | .eptr k v sz i p=>if v=(h k).ver then (match (h k).body with | .row _ _ false=>some (.eptr k v sz i (p+o),h) | _=>none) else none
    | _=>none) s d K (by exact ()) (by exact ()):=zD7 o x
theorem zLq (o n:Nat) (ag:Bool) (x:Opd):runX P ⟨d,.fld o n ag x,none⟩ ⟨s,h⟩ K=runB (match x.ev s with
    | .d (.agg cs)=>(cut o n cs).bind fun cs=>(zop ag cs).map fun v=>(.d v,h)
    | .agg cs=>(cut o n cs).bind fun cs=>(zrv ag cs).map fun v=>(v,h)
    | _=>none) s d K (by exact ()) (by exact ()):=zK4 o n ag x
theorem zL3 (x:Opd) (i:Nat):runX P ⟨d,.ext x i,none⟩ ⟨s,h⟩ K=runB (match x.ev s with
    | .tup cs=>(cs[i]?).map fun v=>(v,h)
    | _=>none) s d K (by exact ()) (by exact ()):=zKk x i
theorem zM8 (x:Opd):runX P ⟨d,.len x,none⟩ ⟨s,h⟩ K=runB ((zis h (x.ev s)).map fun p=>(.d (.int .i64 p.2.length),h)) s d K (by exact ()) (by exact ()):=zIu x
theorem rb_mm (mx:Bool) (x y:Opd):runX P ⟨d,.mm mx x y,none⟩ ⟨s,h⟩ K=runB (match x.ev s,y.ev s with
    | .d (.int k a),.d (.int k' b)=>if k=k' then some (.d (.int k (if mx then (if b > a then b else a) else (if b<a then b else a))),h) else none
    | _,_=>none) s d K (by exact ()) (by exact ()):=zM5 mx x y
theorem zFr (z:List AV) (ps:List (Nat × Nat × Opd)):runX P ⟨d,.build z ps,none⟩ ⟨s,h⟩ K=runB ((zl4 h s z ps).map fun cs=>(.agg cs,h)) s d K (by exact ()) (by exact ()):=zEh z ps
theorem zFf (z:D) (sz n:Nat) (ps:List (Nat × Opd)):@runX i0 P ⟨d,.bslice z sz n ps,none⟩ ⟨s,h⟩ K=runB ((ze2 h s sz (yaa n z) ps).map fun xs=>(.fsl sz xs,frz h (zdf h s ps))) s d K (by exact ()) (by exact ()):=zB3 z sz n ps
theorem zDc (m n:Nat) (a x:Opd):@runX (i1 m) P ⟨d,.store n a x,none⟩ ⟨s,h⟩ K=runB ((zla h n (a.ev s) (x.ev s)).map fun h=>(.skip,h)) s d K (by exact ()) (by exact ()):=zCn m n a x
theorem zI1 (m n b:Nat) (x y:Opd):@runX (i1 m) P ⟨d,.app n b x y,none⟩ ⟨s,h⟩ K=runB (act d ⟨s,h⟩ (.app n b x y)) s d K (by exact ()) (by exact ()):=zHe m n b x y
theorem zCi (m:Nat) (z:D) (sz n:Nat) (ps:List (Nat × Opd)):@runX (i1 m) P ⟨d,.bslice z sz n ps,none⟩ ⟨s,h⟩ K=runB (if z.bare=true∧ps.all (fun p=>(p.2.ev s).hi)=true then (ze2 h s sz (yaa n z) ps).map fun xs=>(.n true (.sl sz xs),frz h (zdf h s ps)) else (ze2 h s sz (yaa n z) ps).map fun xs=>(.fsl sz xs,frz h (zdf h s ps))) s d K (by exact ()) (by exact ()):=zAc m z sz n ps
theorem zEa (m n:Nat) (a x:Opd):@runX (i2 m) P ⟨d,.store n a x,none⟩ ⟨s,h⟩ K=runB (if (x.ev s).hi=false∧(a.ev s).isE=true then none else (zla h n (a.ev s) (x.ev s)).map fun h=>(.skip,h)) s d K (by exact ()) (by exact ()):=zBx m n a x
theorem zKm (m n b:Nat) (x y:Opd):@runX (i2 m) P ⟨d,.app n b x y,none⟩ ⟨s,h⟩ K=runB (if (y.ev s).hiY=false then none else act d ⟨s,h⟩ (.app n b x y)) s d K (by exact ()) (by exact ()):=zF6 m n b x y
theorem zCp (m:Nat) (z:D) (sz n:Nat) (ps:List (Nat × Opd)):@runX (i2 m) P ⟨d,.bslice z sz n ps,none⟩ ⟨s,h⟩ K=runB (if z.bare=true∧ps.all (fun p=>(p.2.ev s).hi)=true then (ze2 h s sz (yaa n z) ps).map fun xs=>(.n true (.sl sz xs),frz h (zdf h s ps)) else (ze2 h s sz (yaa n z) ps).map fun xs=>(.fsl sz xs,frz h (zdf h s ps))) s d K (by exact ()) (by exact ()):=zzm m z sz n ps
theorem zFq (n:Nat) (x i:Opd):runX P ⟨d,.iaddr n x i,none⟩ ⟨s,h⟩ K=runB (act d ⟨s,h⟩ (.iaddr n x i)) s d K (by exact ()) (by exact ()):=zFl n x i
theorem zNj (n b:Nat) (x y:Opd):@runX i0 P ⟨d,.app n b x y,none⟩ ⟨s,h⟩ K=runB (act d ⟨s,h⟩ (.app n b x y)) s d K (by exact ()) (by exact ()):=zJu n b x y
end
end
end Ev
end Go.Proofs.YtncmainjcffanaaGreat
/- How long rows can be; loops that go up to a number. -/
namespace Go.Proofs.YtncmainjcffanaaGreat
namespace Ev
open Go
set_option linter.unusedSectionVars false
def small:Nat→D→Prop
  | 0,_=>True
  | n+1,.agg cs=>∀ c ∈ cs,small n c
  | n+1,.sl sz xs=>xs.length≤9223372036854775807 ∧ ∀ x ∈ xs,small n x
  | n+1,.rp cs=>∀ c ∈ cs,small n c
  | n+1,.clo _ cs=>∀ c ∈ cs,small n c
  | _+1,_=>True
theorem Rel.small {St:Nat→Nat} {w:World} {v:Value} {d:D} (h:Rel St w v d):∀ n,small n d:=by
  induction h with
  | int k n=>intro n; cases n <;> trivial
  | bool b=>intro n; cases n <;> trivial
  | str s=>intro n; cases n <;> trivial
  | nilp=>intro n; cases n <;> trivial
  | junk v=>intro n; cases n <;> trivial
  | agg vs cs hn _ ih =>
    intro n
    cases n with
    | zero=>trivial
    | succ n =>
      intro c hc
      obtain ⟨j,hj⟩:=ybD.1 hc
      exact ih j c hj n
  | sl A cap sz b off xs hc hm hs ha val hv h1 hr ih =>
    intro n
    cases n with
    | zero=>trivial
    | succ n =>
      refine ⟨hm,fun x hx=>?_⟩
      obtain ⟨i,hi⟩:=ybD.1 hx
      cases n with
      | zero=>trivial
      | succ n =>
        cases x with
        | agg cs =>
          intro c hc
          obtain ⟨j,hj⟩:=ybD.1 hc
          exact ih i _ hi j c hj n
        | _=>exact ih i _ hi 0 _ rfl (n+1)
  | rp b off cs hb val hv h1 hr ih =>
    intro n
    cases n with
    | zero=>trivial
    | succ n =>
      intro c hc
      obtain ⟨j,hj⟩:=ybD.1 hc
      exact ih j c hj n
  | clo f vs cs hn _ ih =>
    intro n
    cases n with
    | zero=>trivial
    | succ n =>
      intro c hc
      obtain ⟨j,hj⟩:=ybD.1 hc
      exact ih j c hj n
section
variable {P:Program}
theorem enters_of {f:FuncId} {fn:Func} {x:XFn} (hf:P.funcs[f]? = some fn) (hx:cfn P fn=some x):zlb P f:=by
  unfold cfn at hx
  split at hx
  · rename_i c hb
    split at hx
    · cases hx
    · rename_i hname
      exact ⟨fn,hf,hname,by rw [hb]; rfl⟩
  · cases hx
theorem zB5 {f:FuncId} {fn:Func} {x:XFn} (hm:P.follows .mixedOrders=true) (hf:P.funcs[f]? = some fn) (hx:cfn P fn=some x) {ds rs:List D} (hl:ds.length=x.np)
    (hw:(∀ d ∈ ds,small 8 d)→wpX P x.code (Ends x.res rs) ⟨zjv ds,zat⟩):Pure P f ds rs:=by
  by_cases hs:∀ d ∈ ds,small 8 d
  · exact zI7 hm hf hx hl (hw hs)
  · refine ⟨enters_of hf hx,fun St w vs hst hrel=>?_⟩
    refine (hs fun d hd=>?_).elim
    obtain ⟨j,hj⟩:=ybD.1 hd
    exact (hrel.2 j d hj).small 8
theorem zi0.pure {f:FuncId} {ds rs:List D} (h:zi0 P f ds rs):Pure P f ds rs:=by
  refine ⟨h.1,fun St w vs hst hrel=>(h.2 St w vs hst hrel).mono ?_⟩
  rintro e w' ⟨St',us,rfl,hus,h1,h2,h3,h4⟩
  exact ⟨St',us,rfl,⟨hus.1,fun j d hj=>(hus.2 j d hj).uncutS⟩,h1,h2,h3,h4⟩
theorem zds {f:FuncId} {fn:Func} {x:XFn} (hmb:Bool) (hm:P.follows .mixedOrders=true) (hf:P.funcs[f]? = some fn) (hx:cfn P fn=some x) {ds rs:List D} (hl:ds.length=x.np)
    (hw:(∀ d ∈ ds,small 8 d) → ∀ n,@wpX ⟨n,true,hmb⟩ P x.code (@zJv ⟨n,true,hmb⟩ x.res rs) ⟨zjv ds,zat⟩):zi0 P f ds rs:=by
  by_cases hs:∀ d ∈ ds,small 8 d
  · exact zMg hmb hm hf hx hl (hw hs)
  · refine ⟨enters_of hf hx,fun St w vs hst hrel=>?_⟩
    refine (hs fun d hd=>?_).elim
    obtain ⟨j,hj⟩:=ybD.1 hd
    exact (hrel.2 j d hj).small 8
def RC.data:RC→D
  | .d x=>x
  | .row sz xs _=>.sl sz xs
def RV.data:RV→D
  | .one c=>c.data
  | .agg cs=>.agg (cs.map RC.data)
theorem zkq {h:Nat→Ent} (n:Nat):∀ (cs:List RC) (q:Nat),(∀ p b,(zcw cs)[p]? = some b→h (nk 0 (q+p))=⟨1,b⟩)→allD (toD h n) (zbr zat 0 q cs)=some (cs.map RC.data) ∧ ∀ k ∈ (zbr zat 0 q cs).flatMap (sk h n),∃ p,p<(zcw cs).length∧k=nk 0 (q+p)
  | [],q,_=>⟨rfl,by simp [zbr]⟩
  | .d x :: cs,q,hb=>by
    obtain ⟨h1,h2⟩:=zkq n cs q hb
    refine ⟨by simp only [zbr,allD,zv0,h1,yaV,RC.data],fun k hk=>?_⟩
    simp only [zbr,ybv,sk_d,List.nil_append] at hk
    exact h2 k hk
  | .row sz xs fz :: cs,q,hb=>by
    obtain ⟨h1,h2⟩:=zkq n cs (q+1) (fun p b hp=>by
      have:=hb (p+1) b (by simpa [zcw] using hp)
      rw [show q+1+p=q+(p+1) by omega]
      exact this)
    have h0:=hb 0 (.row sz xs fz) (by simp only [zcw,yaz])
    rw [Nat.add_zero] at h0
    refine ⟨?_,fun k hk=>?_⟩
    · have e:toD h n (.rsl (nk 0 q) 1)=some (.sl sz xs):=by rw [zmm,h0]; simp
      have e2:((zat:Nat→Ent) (nk 0 q)).ver+1=1:=rfl
      simp only [zbr,allD,e2,e,h1,yaV,RC.data]
    · simp only [zbr,ybv,zll,yaY,List.mem_singleton] at hk
      rcases hk with rfl | hk
      · exact ⟨0,by simp [zcw],by rw [Nat.add_zero]⟩
      · obtain ⟨p,hp,e⟩:=h2 k hk
        exact ⟨p+1,by simp only [zcw,yaS]; omega,by rw [e]; congr 1; omega⟩
theorem zrf {h:Nat→Ent} (n:Nat):∀ (rs:List RV) (q:Nat),(∀ p b,(zas rs)[p]? = some b→h (nk 0 (q+p))=⟨1,b⟩)→allD (toD h (n+1)) (zbn zat 0 q rs)=some (rs.map RV.data) ∧ ∀ k ∈ (zbn zat 0 q rs).flatMap (sk h (n+1)),∃ p,p<(zas rs).length∧k=nk 0 (q+p)
  | [],q,_=>⟨rfl,by simp [zbn]⟩
  | .one c :: rs,q,hb=>by
    have hc:∀ p b,(zcw [c])[p]? = some b→h (nk 0 (q+p))=⟨1,b⟩:=fun p b hp=>hb p b (by
      simp only [zas,RV.cells]
      rw [ybs (yae.1 hp).1]
      exact hp)
    obtain ⟨h1,h2⟩:=zkq (h:=h) (n+1) [c] q hc
    obtain ⟨h3,h4⟩:=zrf n rs (q+(zcw [c]).length) (fun p b hp=>by
      have:=hb ((zcw [c]).length+p) b (by
        simp only [zas,RV.cells]
        rw [ybW (by omega)]
        simpa using hp)
      rw [show q+(zcw [c]).length+p=q+((zcw [c]).length+p) by omega]
      exact this)
    have e:zbr zat 0 q [c]=[oneV zat 0 q c]:=by cases c <;> rfl
    rw [e] at h1 h2
    refine ⟨?_,fun k hk=>?_⟩
    · simp only [allD] at h1
      simp only [zbn,allD,h3,yaV,RV.data]
      split at h1
      · rename_i x hx
        simp only [yaV,List.map_nil,Option.some.injEq,List.cons.injEq,and_true] at h1
        simp only [h1]
      · cases h1
    · simp only [zbn,ybv,yaY] at hk
      rcases hk with hk | hk
      · obtain ⟨p,hp,e⟩:=h2 k (by simpa using hk)
        exact ⟨p,by simp only [zas,RV.cells,yaF]; omega,e⟩
      · obtain ⟨p,hp,e⟩:=h4 k hk
        exact ⟨(zcw [c]).length+p,by simp only [zas,RV.cells,yaF]; omega,by rw [e]; congr 1; omega⟩
  | .agg cs :: rs,q,hb=>by
    have hc:∀ p b,(zcw cs)[p]? = some b→h (nk 0 (q+p))=⟨1,b⟩:=fun p b hp=>hb p b (by
      simp only [zas,RV.cells]
      rw [ybs (yae.1 hp).1]
      exact hp)
    obtain ⟨h1,h2⟩:=zkq (h:=h) n cs q hc
    obtain ⟨h3,h4⟩:=zrf n rs (q+(zcw cs).length) (fun p b hp=>by
      have:=hb ((zcw cs).length+p) b (by
        simp only [zas,RV.cells]
        rw [ybW (by omega)]
        simpa using hp)
      rw [show q+(zcw cs).length+p=q+((zcw cs).length+p) by omega]
      exact this)
    refine ⟨?_,fun k hk=>?_⟩
    · have e:toD h (n+1) (.agg (zbr zat 0 q cs))=some (.agg (cs.map RC.data)):=by simp only [toD,h1,yak]
      simp only [zbn,allD,e,h3,yaV,RV.data]
    · simp only [zbn,ybv,yaY] at hk
      rcases hk with hk | hk
      · obtain ⟨p,hp,e⟩:=h2 k (by simpa only [sk] using hk)
        exact ⟨p,by simp only [zas,RV.cells,yaF]; omega,e⟩
      · obtain ⟨p,hp,e⟩:=h4 k hk
        exact ⟨(zcw cs).length+p,by simp only [zas,RV.cells,yaF]; omega,by rw [e]; congr 1; omega⟩
theorem OwnC.pure {f:FuncId} {ds:List D} {rs:List RV} (ho:OwnC P f ds rs):Pure P f ds (rs.map RV.data):=by
  refine ⟨ho.1,fun St w vs hst hrel=>(ho.2 St w vs (yaR _) hst hrel).mono ?_⟩
  rintro e w' ⟨G',us,rfl,hul,hus,hinv,hbel,hst',hown,hfr⟩
  obtain ⟨h1,h2⟩:=zrf (h:=zbc zat 0 (zas rs)) 5 rs 0 (fun p b hp=>by rw [ybj,ze4 _ _ _ hp]; rfl)
  have hfs:=zbp hinv ((zbn zat 0 0 rs).flatMap (sk (zbc zat 0 (zas rs)) deep))
  have hrl:=zed hinv (vs:=us) (as:=zbn zat 0 0 rs) hul hus h1
  refine ⟨_,us,rfl,hrl,hbel,fun b hb=>?_,hfs.inv.st,fun b hb h0=>?_⟩
  · rw [← hst' b hb]
    exact (hfs.left.block b (Nat.lt_of_lt_of_le hb hbel.size) fun k hk=>by have:=hown k b hk; omega).2
  rcases Nat.eq_zero_or_pos (G'.St b) with hz | hz
  · exact hfs.fresh b hz h0
  · exact hfs.ext.keeps.free b hz (hfr b hb hz)
section
variable {nwI:Nw}
theorem zs0 {K K':S→Prop} (hk:∀ st,K st→K' st):∀ (os:List XOper) (ds:List (Bool × List Nat)) (i:Nat) (acc:List (Nat × List (Nat × Bool))) (st:S),wpT P os ds i acc st K→wpT P os ds i acc st K'
  | [],_,_,_,st,h=>hk st h
  | o :: os,ds,i,acc,st,h=>by
    simp only [wpT] at h ⊢
    refine ⟨h.1,?_⟩
    have h:=h.2
    cases hw:zjy o st.s with
    | none=>rw [hw] at h; exact h
    | some b =>
      rw [hw] at h
      cases b with
      | true =>
        obtain ⟨st',h1,h2⟩:=zoh h
        simp only [runX] at h1 ⊢
        cases hop:o.op with
        | call f args =>
          rw [hop] at h1
          obtain ⟨g,caps,r,h',a1,a2,rfl⟩:=h1
          exact ⟨g,caps,r,h',a1,a2,zs0 hk os _ _ _ _ h2⟩
        | _ =>
          rw [hop] at h1
          obtain ⟨av,h',a1,rfl⟩:=h1
          exact ⟨av,h',a1,zs0 hk os _ _ _ _ h2⟩
      | false=>exact zs0 hk os _ _ _ _ h
theorem zw2 {Q Q':Ex→S→Prop} (hq:∀ e st,Q e st→Q' e st):∀ (x:XCode) (st:S),wpX P x Q st→wpX P x Q' st:=by
  intro x
  induction x generalizing Q Q' with
  | skip=>intro st h; exact hq _ _ h
  | region ops dr =>
    intro st h
    cases dr with
    | none=>exact zsz (fun st h=>hq _ _ h) ops st h
    | some ds=>exact zs0 (fun st h=>hq _ _ h) ops ds 0 [] st h
  | seq a b iha ihb =>
    intro st h
    refine iha (fun e st h=>?_) st h
    cases e with
    | normal=>exact ihb hq st h
    | exit id=>exact hq _ _ h
    | ret=>exact hq _ _ h
  | cond c a b iha ihb =>
    intro st h
    simp only [wpX] at h ⊢
    split at h
    · rename_i t ht
      cases t with
      | true=>exact iha hq st h
      | false=>exact ihb hq st h
    · exact h.elim
  | block id a iha =>
    intro st h
    refine iha (fun e st h=>?_) st h
    cases e with
    | normal=>exact hq _ _ h
    | exit id' =>
      simp only [Ex.inBlock] at h ⊢
      split
      · rename_i e; rw [if_pos e] at h; exact hq _ _ h
      · rename_i e; rw [if_neg e] at h; exact hq _ _ h
    | ret=>exact hq _ _ h
  | loop a iha =>
    rintro st ⟨I,μ,h0,h⟩
    refine ⟨I,μ,h0,fun st hI=>iha (fun e s hs=>?_) st (h st hI)⟩
    cases e with
    | normal=>exact hs
    | exit id=>exact hq _ _ hs
    | ret=>exact hq _ _ hs
  | exit id=>intro st h; exact hq _ _ h
  | ret=>intro st h; exact hq _ _ h
end
theorem zCu {f:FuncId} {fn:Func} {x:XFn} (hm:P.follows .mixedOrders=true) (hf:P.funcs[f]? = some fn) (hx:cfn P fn=some x) {ds:List D} {rs:List RV} (hl:ds.length=x.np)
    (hw:(∀ d ∈ ds,small 8 d)→wpX P x.code (zFz x.res rs) ⟨zjv ds,zat⟩):OwnC P f ds rs:=by
  by_cases hs:∀ d ∈ ds,small 8 d
  · exact zM0 hm hf hx hl (zw2 (fun e st h=>zGf e st h) _ _ (hw hs))
  · refine ⟨enters_of hf hx,fun St w vs _ hst hrel=>?_⟩
    refine (hs fun d hd=>?_).elim
    obtain ⟨j,hj⟩:=ybD.1 hd
    exact (hrel.2 j d hj).small 8
section
variable {nwI:Nw}
theorem zaj {a:XCode} {Q:Ex→S→Prop} {st:S} (n:Nat) (I:Nat→S→Prop) (h0:I 0 st) (h:∀ i st,i≤n→I i st→wpX P a (Ex.then (fun st'=>i<n∧I (i+1) st') Q) st):Lp P a Q st (by exact ()) (by exact ()):=by
  let p:S→Nat→Prop:=fun st m=>∃ i,i≤n∧I i st∧m=n - i
  refine zF8 (fun st=>∃ i,i≤n∧I i st) (fun st=>lst (p st)) ⟨0,yaR _,h0⟩ ?_
  rintro st ⟨i,hi,hI⟩
  have hex:∃ m,p st m:=⟨n - i,i,hi,hI,rfl⟩
  obtain ⟨⟨j,hj,hIj,e⟩,_⟩:=zm0 hex
  refine zw2 (fun ex s hq=>?_) _ _ (h j st hj hIj)
  cases ex with
  | normal =>
    obtain ⟨hlt,hn⟩:=hq
    refine ⟨⟨j+1,hlt,hn⟩,?_⟩
    have:=(zm0 (p:=p s) ⟨n - (j+1),j+1,hlt,hn,rfl⟩).2 (n - (j+1)) ⟨j+1,hlt,hn,rfl⟩
    rw [e]
    omega
  | exit id=>exact hq
  | ret=>exact hq
end
end
section
theorem avc_n (q:Bool) (x:D):(AV.n q x).cells=[.n q x]:=rfl
theorem on_n (q:Bool) (x:D):(AV.n q x).one=true:=rfl
theorem avc_d (x:D):(AV.d x).cells=x.cells.map .d:=rfl
theorem zLa (cs:List AV):(AV.agg cs).cells=cs:=rfl
theorem zI6 (sz:Nat) (xs:List D):(AV.fsl sz xs).cells=[.fsl sz xs]:=rfl
theorem zJk (k v:Nat):(AV.rsl k v).cells=[.rsl k v]:=rfl
theorem zLk (k v o:Nat):(AV.ptr k v o).cells=[.ptr k v o]:=rfl
theorem zF5 (k v sz i o:Nat):(AV.eptr k v sz i o).cells=[.eptr k v sz i o]:=rfl
theorem zKh (f:FuncId) (cs:List AV):(AV.clo f cs).cells=[.clo f cs]:=rfl
theorem zL1 (cs:List D):(D.agg cs).cells=cs:=rfl
theorem zMe (k:IntKind) (n:Int):(D.int k n).cells=[.int k n]:=rfl
theorem zKc (b:Bool):(D.bool b).cells=[.bool b]:=rfl
theorem zMi (s:ByteArray):(D.str s).cells=[.str s]:=rfl
theorem dc_sl (sz:Nat) (xs:List D):(D.sl sz xs).cells=[.sl sz xs]:=rfl
theorem zIv:D.nilp.cells=[.nilp]:=rfl
theorem dc_rp (cs:List D):(D.rp cs).cells=[.rp cs]:=rfl
theorem zL8 (f:FuncId) (cs:List D):(D.clo f cs).cells=[.clo f cs]:=rfl
theorem zNg (k:IntKind) (n:Int):(AV.d (.int k n)).one=true:=rfl
theorem zIr (b:Bool):(AV.d (.bool b)).one=true:=rfl
theorem zMz (s:ByteArray):(AV.d (.str s)).one=true:=rfl
theorem on_sl (sz:Nat) (xs:List D):(AV.d (.sl sz xs)).one=true:=rfl
theorem zI5:(AV.d .nilp).one=true:=rfl
theorem on_rp (cs:List D):(AV.d (.rp cs)).one=true:=rfl
theorem zMf (f:FuncId) (cs:List D):(AV.d (.clo f cs)).one=true:=rfl
theorem zMd (sz:Nat) (xs:List D):(AV.fsl sz xs).one=true:=rfl
theorem zMk (k v:Nat):(AV.rsl k v).one=true:=rfl
theorem zL0 (k v o:Nat):(AV.ptr k v o).one=true:=rfl
theorem zJh (k v sz i o:Nat):(AV.eptr k v sz i o).one=true:=rfl
theorem zLb (f:FuncId) (cs:List AV):(AV.clo f cs).one=true:=rfl
end
theorem zJ0 (k:IntKind) (x y:Int):intD .add k x y=some (.int k (k.wrap (x+y))):=rfl
theorem zLm (k:IntKind) (x y:Int):intD .sub k x y=some (.int k (k.wrap (x - y))):=rfl
theorem zKl (k:IntKind) (x y:Int):intD .mul k x y=some (.int k (k.wrap (x*y))):=rfl
theorem zJz (k:IntKind) (x y:Int):intD .quo k x y=if y=0 then none else some (.int k (k.wrap (x.tdiv y))):=rfl
theorem zJe (k:IntKind) (x y:Int):intD .rem k x y=if y=0 then none else some (.int k (x.tmod y)):=rfl
theorem zLy (k:IntKind) (x y:Int):intD .or k x y=some (.int k (k.wrap (BitVec.ofInt k.bits x ||| BitVec.ofInt k.bits y).toNat)):=rfl
theorem zKn (k:IntKind) (x y:Int):intD .eql k x y=some (.bool (decide (x=y))):=by
  simp only [intD]; by_cases h:x=y <;> simp [h]
theorem zKd (k:IntKind) (x y:Int):intD .neq k x y=some (.bool (!decide (x=y))):=by
  simp only [intD]; by_cases h:x=y <;> simp [h]
theorem zI3 (k:IntKind) (x y:Int):intD .lss k x y=some (.bool (decide (x<y))):=rfl
theorem zIs (k:IntKind) (x y:Int):intD .leq k x y=some (.bool (decide (x≤y))):=rfl
theorem zIt (k:IntKind) (x y:Int):intD .gtr k x y=some (.bool (decide (y<x))):=rfl
theorem zKy (k:IntKind) (x y:Int):intD .geq k x y=some (.bool (decide (y≤x))):=rfl
theorem zNo {α:Type} (a:Nat) (v:α) (es:List (Nat × α)):ybZ a ((a,v) :: es)=some v:=by simp [ybZ]
theorem zJc {α:Type} {a b:Nat} (v:α) (es:List (Nat × α)) (h:a ≠ b):ybZ a ((b,v) :: es)=ybZ a es:=by
  have:(a == b)=false:=by simpa using h
  simp [ybZ,this]
section
variable (h:Nat→Ent) (cs:List AV) (f:FuncId) (k v off:Nat)
theorem zGv:toD h 6 (.agg cs)=(allD (toD h 5) cs).map .agg:=rfl
theorem zF7:toD h 5 (.agg cs)=(allD (toD h 4) cs).map .agg:=rfl
theorem zF2:toD h 4 (.agg cs)=(allD (toD h 3) cs).map .agg:=rfl
theorem zHf:toD h 6 (.clo f cs)=(allD (toD h 5) cs).map (.clo f):=rfl
theorem zHs:toD h 5 (.clo f cs)=(allD (toD h 4) cs).map (.clo f):=rfl
theorem zFn:toD h 4 (.clo f cs)=(allD (toD h 3) cs).map (.clo f):=rfl
theorem zHm:toD h 6 (.ptr k v off)=if v=(h k).ver then (match (h k).body with | .box cs _=>if off≤cs.length then (allD (toD h 5) (cs.drop off)).map .rp else none | _=>none) else none:=rfl
theorem zHq:toD h 5 (.ptr k v off)=if v=(h k).ver then (match (h k).body with | .box cs _=>if off≤cs.length then (allD (toD h 4) (cs.drop off)).map .rp else none | _=>none) else none:=rfl
theorem zGu:toD h 4 (.ptr k v off)=if v=(h k).ver then (match (h k).body with | .box cs _=>if off≤cs.length then (allD (toD h 3) (cs.drop off)).map .rp else none | _=>none) else none:=rfl
theorem zIn:sk h 6 (.agg cs)=cs.flatMap (sk h 5):=rfl
theorem zJp:sk h 5 (.agg cs)=cs.flatMap (sk h 4):=rfl
theorem zJg:sk h 4 (.agg cs)=cs.flatMap (sk h 3):=rfl
theorem zJy:sk h 6 (.clo f cs)=cs.flatMap (sk h 5):=rfl
theorem zJf:sk h 5 (.clo f cs)=cs.flatMap (sk h 4):=rfl
theorem zJq:sk h 4 (.clo f cs)=cs.flatMap (sk h 3):=rfl
theorem zK2:sk h 6 (.ptr k v off)=k :: (match (h k).body with | .box cs _=>cs.flatMap (sk h 5) | _=>[]):=rfl
theorem zJr:sk h 5 (.ptr k v off)=k :: (match (h k).body with | .box cs _=>cs.flatMap (sk h 4) | _=>[]):=rfl
theorem zLf:sk h 4 (.ptr k v off)=k :: (match (h k).body with | .box cs _=>cs.flatMap (sk h 3) | _=>[]):=rfl
end
theorem zC7 (n:Int):IntKind.i64.wrap n=if 9223372036854775808≤n % 18446744073709551616 then n % 18446744073709551616 - 18446744073709551616 else n % 18446744073709551616:=by
  simp [IntKind.wrap,IntKind.bits,IntKind.signed]
theorem zad {n:Int} (h1:-9223372036854775808≤n) (h2:n≤9223372036854775807):IntKind.i64.wrap n=n:=by
  rw [zC7]; split <;> omega
theorem zJ5 (n:Int):-9223372036854775808≤IntKind.i64.wrap n∧IntKind.i64.wrap n≤9223372036854775807:=by
  rw [zC7]; split <;> omega
end Ev
end Go.Proofs.YtncmainjcffanaaGreat
