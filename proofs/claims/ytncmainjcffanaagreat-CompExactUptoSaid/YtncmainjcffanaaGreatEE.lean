/- Several texts in one. -/
import Derived.Test.YtncmainjcffanaaGreatEC
import Derived.Test.YtncmainjcffanaaGreatRows
import Derived.WalkKit
import Derived.ProofKit
import Derived.OpenShut
import Derived.ShutString
import Derived.ChangeOld
import Derived.Below
import Derived.SizedLaws
import Derived.Deep.CondSized
set_option maxRecDepth 100000
set_option linter.unusedSimpArgs false
set_option linter.unusedVariables false
open List renaming all_append→ycb,all_eq_true→yaC,getD_eq_getElem?_getD→ybi,getElem?_append_left→ybs,getElem?_append_right→ybW,getElem?_eq_some_iff→yae,getElem?_map→yau,map_cons→yaV,mem_of_getElem?→yas,range→yai,sum_cons→yca
open Bool renaming and_eq_true→ybJ
/- From what a row says of its arguments to plain data. -/
namespace Go.Proofs.YtncmainjcffanaaGreat
namespace Ev
open Go
def za1 (P:Program) (t:TypeId):Bool:=match P.underlying t with | some (.struct _)=>true | _=>false
def D.isAgg:D→Bool | .agg _=>true | _=>false
def typ (P:Program):Nat→TypeId→List D→Prop
  | 0,_,_=>False
  | n+1,t,cs=>match P.underlying t with
    | some .bool=>∃ b,cs=[.bool b]
    | some (.int k)=>∃ i,cs=[.int k i]∧(Lit.int k i).wf=true
    | some .string=>∃ s,cs=[.str s]∧s.size≤maxLen
    | some (.slice e)=>∃ xs:List D,cs=[.sl (P.cellsOf e) xs]∧xs.length≤maxLen∧xs.length*P.bytesOf e≤reachBytes ∧ ∀ x ∈ xs,typ P n e x.cells∧x.isAgg=za1 P e
    | some (.struct fs)=>cs.length=P.cellsOf t ∧ ∀ f ∈ fs.toList,typ P n f.type ((cs.drop f.offset).take (P.cellsOf f.type))
    | _=>False
def zwy (P:Program) (ts:List TypeId):Bool:=ts.all fun t=>match P.underlying t with
  | some .bool | some (.int _) | some .string=>P.cellsOf t == 1
  | some (.slice e)=>P.cellsOf t == 1 && ts.contains e && decide (0<P.cellsOf e)
  | some (.struct fs)=>fs.toList.all (fun f=>ts.contains f.type) && P.cellsOf t == (fs.toList.map fun f=>P.cellsOf f.type).sum &&
      (yai fs.toList.length).all fun j=>match fs.toList[j]? with | some f=>f.offset == ((fs.toList.take j).map fun f=>P.cellsOf f.type).sum | none=>true
  | _=>false
def St0 (w:World) (b:Nat):Nat:=match w.heap[b]? with | some (.cells arr _ _)=>arr.size | _=>0
def zsf (w:World) (cs:List Value) (ds:List D):Prop :=
  ds.length=cs.length ∧ ∀ (j:Nat) c,ds[j]? = some c→Rel (St0 w) w (cs.getD j undef) c∧(cs.getD j undef).oneCell'=true
theorem zti {α β:Type} {f:α→Option β}:∀ {l:List α} {r:List β},l.mapM f=some r→r.length=l.length ∧ ∀ (i:Nat) a,l[i]? = some a → ∃ b,r[i]? = some b∧f a=some b:=by
  intro l
  induction l with
  | nil=>intro r h; simp at h; subst h; simp
  | cons a l ih =>
    intro r h
    rw [List.mapM_cons] at h
    cases hf:f a with
    | none=>simp [hf] at h
    | some b =>
      cases hl:l.mapM f with
      | none=>simp [hf,hl] at h
      | some r' =>
        simp [hf,hl] at h
        subst h
        obtain ⟨h1,h2⟩:=ih hl
        refine ⟨by simp [h1],fun i a' hi=>?_⟩
        cases i with
        | zero=>simp at hi; subst hi; exact ⟨b,by simp,hf⟩
        | succ i=>simp at hi; simpa using h2 i a' hi
theorem zG6 (a:Addr) (n m:Nat) (h:a.spot=none):(a.add n).add m=⟨a.block,a.off+n+m,none⟩:=by
  obtain ⟨b,off,sp⟩:=a
  simp at h
  subst h
  simp only [Addr.add]
  split <;> split <;> simp_all
theorem zF1 {w:World} {b o:Nat} {v:Value} (h:w.cell? ⟨b,o,none⟩=some v):o<St0 w b:=by
  simp only [World.cell?] at h
  simp only [St0]
  split at h
  · rename_i arr _ _ he
    rw [he]
    simp at h
    exact (Array.getElem?_eq_some_iff.1 h).1
  · simp at h
theorem zDl {w:World} {a:Addr} {v:Value} (h:w.cell? a=some v):a.spot=none:=by
  simp only [World.cell?] at h
  split at h
  · split at h
    · simp at h
    · rename_i hs; simpa using hs
  · simp at h
theorem zqv {w:World} {a:Addr} {n:Nat} {cs:List Value} (h:w.cells? 0 a n=some cs):cs.length=n ∧ ∀ i,i<n→w.cell? (a.add i)=some (cs.getD i undef):=by
  simp only [World.cells?,Nat.zero_le,if_true] at h
  obtain ⟨h1,h2⟩:=zti h
  simp at h1
  refine ⟨h1,fun i hi=>?_⟩
  obtain ⟨b,hb,hc⟩:=h2 i i (by simp [hi])
  rw [hc,ybi,hb]
  rfl
theorem zmn {w:World} {v:Value} {d:D} (h:Rel (St0 w) w v d) (h1:v.oneCell'=true):zsf w [v] [d]:=by
  refine ⟨rfl,fun j c hj=>?_⟩
  cases j with
  | zero=>simp at hj; subst hj; exact ⟨h,h1⟩
  | succ j=>simp at hj
theorem zsf.append {w:World} {us bs:List Value} {ds es:List D} (h:zsf w us ds) (k:zsf w bs es):zsf w (us ++ bs) (ds ++ es):=by
  refine ⟨by simp [h.1,k.1],fun j c hj=>?_⟩
  by_cases hl:j<ds.length
  · rw [ybs hl] at hj
    have:=h.2 j c hj
    rw [ybi,ybs (by rw [← h.1]; exact hl),← ybi]
    exact this
  · rw [ybW (by omega)] at hj
    have:=k.2 _ c hj
    rw [ybi,ybW (by rw [← h.1]; omega),← ybi,← h.1]
    exact this
theorem zlv {ts:List TypeId} {t:TypeId} (h:ts.contains t=true):t ∈ ts:=by simpa using h
def bulk:D→Nat
  | .agg cs=>(cs.map bulk).sum
  | .sl _ xs=>(xs.map bulk).sum+1
  | _=>1
def zhy (cs:List D):Nat:=(cs.map bulk).sum
theorem zyc (a b:List D):zhy (a ++ b)=zhy a+zhy b:=by simp [zhy]
theorem zBy (x:D):zhy x.cells=bulk x:=by
  cases x <;> simp [D.cells,zhy,bulk]
theorem zu1 {H:Type}:∀ (l:List (DataW H)) (f:Nat→Nat) (k:Nat),(∀ i d,l[i]? = some d→f (k+i)≤Rows.uptoBulk d)→((List.range' k l.length).map f).sum≤Rows.uptoBulkAll l
  | [],f,k,_=>by simp
  | d :: l,f,k,h=>by
    have h0:=h 0 d rfl
    have h1:=zu1 l f (k+1) fun i e hi=>by
      have:=h (i+1) e (by simpa using hi)
      rwa [show k+(i+1)=k+1+i by omega] at this
    simp only [List.length_cons,List.range'_succ,yaV,yca,Rows.uptoBulkAll]
    simp only [Nat.add_zero] at h0
    omega
theorem zx2 {H:Type} {P:Program} {w:World} {R:TypeId→List Value→List D→Prop} (n:Nat) (hR:∀ t vs ds,R t vs ds→typ P n t ds∧zsf w vs ds) :
    ∀ (fs:List Field) (ps:List (DataW H)) (o:Nat) (cs:List Value),ps.length=fs.length→cs.length=(fs.map fun f=>P.cellsOf f.type).sum →
      (∀ (j:Nat) f,fs[j]? = some f→f.offset=o+((fs.take j).map fun f=>P.cellsOf f.type).sum) →
      (∀ (j:Nat) f q,fs[j]? = some f→ps[j]? = some q → ∃ ds,R f.type ((cs.drop (f.offset - o)).take (P.cellsOf f.type)) ds∧zhy ds≤Rows.uptoBulk q) →
      ∃ ds,zsf w cs ds∧zhy ds≤Rows.uptoBulkAll ps ∧ ∀ f ∈ fs,o≤f.offset∧typ P n f.type ((ds.drop (f.offset - o)).take (P.cellsOf f.type)):=by
  intro fs
  induction fs with
  | nil=>intro ps o cs _ hl _ _; simp at hl; subst hl; exact ⟨[],⟨rfl,fun j c hj=>by simp at hj⟩,by simp [zhy],by simp⟩
  | cons f fs ih =>
    intro ps o cs hpl hl ho hr
    cases ps with
    | nil=>simp at hpl
    | cons q ps =>
    simp at hl hpl
    have hf:=ho 0 f (by simp)
    simp at hf
    obtain ⟨d0,h0,hb0⟩:=hr 0 f q (by simp) (by simp)
    rw [hf,Nat.sub_self,List.drop_zero] at h0
    obtain ⟨t0,r0⟩:=hR _ _ _ h0
    have l0:d0.length=P.cellsOf f.type:=by rw [r0.1,List.length_take]; omega
    obtain ⟨ds,rd,bd,td⟩:=ih ps (o+P.cellsOf f.type) (cs.drop (P.cellsOf f.type)) hpl (by simp; omega) (fun j g hj=>by
        have:=ho (j+1) g (by simpa using hj)
        simp only [List.take_succ_cons,yaV,yca] at this
        omega) (fun j g p hj hp=>by
        obtain ⟨dg,hdg,hbg⟩:=hr (j+1) g p (by simpa using hj) (by simpa using hp)
        have:=ho (j+1) g (by simpa using hj)
        simp at this
        refine ⟨dg,?_,hbg⟩
        rw [List.drop_drop]
        have e:P.cellsOf f.type+(g.offset - (o+P.cellsOf f.type))=g.offset - o:=by omega
        rw [e]
        exact hdg)
    refine ⟨d0 ++ ds,?_,by rw [zyc,Rows.uptoBulkAll]; omega,fun g hg=>?_⟩
    · have:=r0.append rd
      rwa [List.take_append_drop] at this
    · rcases List.mem_cons.1 hg with rfl | hg
      · refine ⟨by omega,?_⟩
        rw [hf,Nat.sub_self,List.drop_zero,← l0,List.take_left]
        exact t0
      · obtain ⟨a,b⟩:=td g hg
        refine ⟨by omega,?_⟩
        have e:g.offset - o=d0.length+(g.offset - (o+P.cellsOf f.type)):=by omega
        rw [e,← List.drop_drop,List.drop_left]
        exact b
def zxd {H:Type} (P:Program) (t:TypeId) (d:DataW H):Prop:=(d.weights P t).all (· ≤ reachBytes)=true
theorem zxs {H:Type} {P:Program} {e:TypeId}:∀ {l:List (DataW H)},(DataW.weightsAll P e l).all (· ≤ reachBytes)=true → ∀ d ∈ l,zxd P e d
  | [],_,d,h=>by simp at h
  | x :: l,hl,d,h=>by
    rw [DataW.weightsAll,ycb,ybJ] at hl
    rcases List.mem_cons.1 h with rfl | h
    · exact hl.1
    · exact zxs hl.2 d h
theorem zq8 {H:Type} {P:Program}:∀ {ts:List TypeId} {l:List (DataW H)},(DataW.weightsEach P ts l).all (· ≤ reachBytes)=true → ∀ (j:Nat) t d,ts[j]? = some t→l[j]? = some d→zxd P t d
  | [],l,_,j,t,d,h,_=>by simp at h
  | t :: ts,[],_,j,t',d,_,h=>by simp at h
  | t :: ts,x :: l,hl,j,t',d,h1,h2=>by
    rw [DataW.weightsEach,ycb,ybJ] at hl
    cases j with
    | zero =>
      simp at h1 h2
      subst h1 h2
      exact hl.1
    | succ j=>exact zq8 hl.2 j t' d (by simpa using h1) (by simpa using h2)
theorem zHg {H:Type} {enc:TypeId × Value→H} {P:Program} {w:World} {spare:Nat→Bool} {held:Bool} {ts:List TypeId} (hc:zwy P ts=true) :
    ∀ (fuel:Nat) (t:TypeId) (cs:List Value) x,t ∈ ts→DataW.trod enc P w 0 spare held fuel t cs=some x→zxd P t x.1 → ∃ ds,typ P fuel t ds∧zsf w cs ds∧zhy ds≤Rows.uptoBulk x.1:=by
  intro fuel
  induction fuel with
  | zero=>intro t cs x _ h _; simp [DataW.trod] at h
  | succ fuel ih =>
    intro t cs x ht h hw
    have hg:=(yaC.1 hc) t ht
    simp only [DataW.trod] at h
    simp only [typ]
    generalize hu:P.underlying t=u at h hg ⊢
    split at hg
    · split at h <;> first | (simp_all; done) | skip
      rename_i b _
      cases h
      exact ⟨[.bool b],⟨b,rfl⟩,zmn (.bool b) rfl,by simp [zhy,bulk,Rows.uptoBulk]⟩
    · split at h <;> first | (simp_all; done) | skip
      rename_i k k' n he
      cases he
      split at h
      · rename_i hk
        obtain ⟨rfl,hwf⟩:=hk
        cases h
        exact ⟨[.int k' n],⟨n,rfl,hwf⟩,zmn (.int k' n) rfl,by simp [zhy,bulk,Rows.uptoBulk]⟩
      · simp at h
    · split at h <;> first | (simp_all; done) | skip
      rename_i s _
      split at h
      · rename_i hs
        cases h
        exact ⟨[.str s],⟨s,rfl,hs⟩,zmn (.str s) rfl,by simp [zhy,bulk,Rows.uptoBulk]⟩
      · simp at h
    · rename_i e
      simp only [ybJ,decide_eq_true_eq] at hg
      obtain ⟨⟨_,he⟩,hsz⟩:=hg
      have he:=zlv he
      split at h <;> first | (simp_all; done) | skip
      · cases h
        refine ⟨[.sl (P.cellsOf e) []],⟨[],rfl,by simp [maxLen],by simp,by simp⟩,zmn ?_ rfl,by simp [zhy,bulk,Rows.uptoBulk]⟩
        exact .sl none 0 (P.cellsOf e) 0 0 [] (by simp) (by simp) (by simp) (by simp) (fun _ _=>undef) (by simp) (by simp) (by simp)
      · rename_i e' a len cap he'
        cases he'
        split at h
        · rename_i hb
          obtain ⟨_,hlc,hcm⟩:=hb
          generalize hm:List.mapM (m:=Option) _ (yai len)=em at h
          cases em with
          | none=>simp at h
          | some elems =>
            obtain ⟨h1,h2⟩:=zti hm
            simp at h1
            simp only [Option.bind_some,Option.map_eq_some_iff] at h
            obtain ⟨rest,_,rfl⟩:=h
            simp only [zxd,DataW.weights,hu,List.all_cons,ycb,ybJ,decide_eq_true_eq,List.length_map] at hw
            have hby:len*P.bytesOf e≤reachBytes:=Nat.le_trans (Nat.mul_le_mul_right _ (by omega)) hw.1
            have hel:∀ i,i<len → ∃ ci di,w.cells? 0 (a.add (i*P.cellsOf e)) (P.cellsOf e)=some ci∧typ P fuel e di∧zsf w ci di ∧ ∀ y,(elems.map (·.1))[i]? = some y→zhy di≤Rows.uptoBulk y:=by
              intro i hi
              obtain ⟨y,hye,hy⟩:=h2 i i (by simp [hi])
              have hyl:zxd P e y.1:=zxs hw.2.1 _ (List.mem_map.2 ⟨y,yas hye,rfl⟩)
              cases hci:w.cells? 0 (a.add (i*P.cellsOf e)) (P.cellsOf e) with
              | none=>simp [hci] at hy
              | some ci =>
                simp [hci] at hy
                obtain ⟨di,hd⟩:=ih e ci y he hy hyl
                refine ⟨ci,di,rfl,hd.1,hd.2.1,fun y' hy'=>?_⟩
                rw [yau,hye] at hy'
                cases hy'
                exact hd.2.2
            have ⟨cf,hcf⟩:∃ cf:Nat→List Value,∀ i,i<len → ∃ di,w.cells? 0 (a.add (i*P.cellsOf e)) (P.cellsOf e)=some (cf i)∧typ P fuel e di∧zsf w (cf i) di ∧ ∀ y,(elems.map (·.1))[i]? = some y→zhy di≤Rows.uptoBulk y :=
              ⟨fun i=>if hi:i<len then (hel i hi).choose else [],fun i hi=>by simp only [hi,dite_true]; exact (hel i hi).choose_spec⟩
            have ⟨df,hdf⟩:∃ df:Nat→List D,∀ i,i<len→w.cells? 0 (a.add (i*P.cellsOf e)) (P.cellsOf e)=some (cf i)∧typ P fuel e (df i)∧zsf w (cf i) (df i) ∧ ∀ y,(elems.map (·.1))[i]? = some y→zhy (df i)≤Rows.uptoBulk y :=
              ⟨fun i=>if hi:i<len then (hcf i hi).choose else [],fun i hi=>by simp only [hi,dite_true]; exact (hcf i hi).choose_spec⟩
            have hds:∀ i,i<len→(df i).length=P.cellsOf e:=fun i hi=>by
              obtain ⟨a1,_,a3,_⟩:=hdf i hi
              rw [a3.1,(zqv a1).1]
            have hmk:∀ i,i<len → ∃ x:D,x.cells=df i∧x.isAgg=za1 P e:=by
              intro i hi
              obtain ⟨a1,a2,a3,_⟩:=hdf i hi
              have hl:=hds i hi
              cases hs:za1 P e with
              | true=>exact ⟨.agg (df i),rfl,rfl⟩
              | false =>
                cases fuel with
                | zero=>simp [typ] at a2
                | succ k =>
                  simp only [typ] at a2
                  simp only [za1] at hs
                  split at a2
                  · obtain ⟨b,hb⟩:=a2; exact ⟨.bool b,hb.symm,rfl⟩
                  · obtain ⟨b,hb,_⟩:=a2; exact ⟨.int _ b,hb.symm,rfl⟩
                  · obtain ⟨b,hb,_⟩:=a2; exact ⟨.str b,hb.symm,rfl⟩
                  · obtain ⟨b,hb,_⟩:=a2; exact ⟨.sl _ b,hb.symm,rfl⟩
                  · rename_i hst; rw [hst] at hs; simp at hs
                  · exact a2.elim
            have ⟨xf,hxf⟩:∃ xf:Nat→D,∀ i,i<len→(xf i).cells=df i∧(xf i).isAgg=za1 P e :=
              ⟨fun i=>if hi:i<len then (hmk i hi).choose else .nilp,fun i hi=>by simp only [hi,dite_true]; exact (hmk i hi).choose_spec⟩
            have hget:∀ (i:Nat) x,((yai len).map xf)[i]? = some x→i<len∧x=xf i:=by
              intro i x hx
              obtain ⟨hi,hx⟩:=yae.1 hx
              simp at hi hx
              exact ⟨hi,hx.symm⟩
            have hmem:∀ x ∈ (yai len).map xf,∃ i,i<len∧x=xf i:=by
              intro x hx
              simp at hx
              obtain ⟨i,hi,rfl⟩:=hx
              exact ⟨i,hi,rfl⟩
            have hsp:0<len→a.spot=none:=fun hp=>by
              have:=(zqv (hdf 0 hp).1).2 0 hsz
              simpa [Addr.add] using zDl this
            have hcell:∀ i,i<len → ∀ j,j<P.cellsOf e→w.cell? ⟨a.block,a.off+i*P.cellsOf e+j,none⟩=some ((cf i).getD j undef):=by
              intro i hi j hj
              rw [← zG6 a _ _ (hsp (by omega))]
              exact (zqv (hdf i hi).1).2 j hj
            refine ⟨[.sl (P.cellsOf e) ((yai len).map xf)],⟨_,rfl,by simp; omega,by simpa using hby,fun x hx=>?_⟩,zmn ?_ rfl,?_⟩
            · obtain ⟨i,hi,rfl⟩:=hmem x hx
              rw [(hxf i hi).1]
              exact ⟨(hdf i hi).2.1,(hxf i hi).2⟩
            · have hlen:((yai len).map xf).length=len:=by simp
              have hh:=Rel.sl (St:=St0 w) (w:=w) (some a) cap (P.cellsOf e) a.block a.off ((yai len).map xf) (by simpa using hlc) (by simp [maxLen] at hcm ⊢; omega)
                (fun x hx=>by obtain ⟨i,hi,rfl⟩:=hmem x hx; rw [(hxf i hi).1]; exact hds i hi)
                (fun hp=>by
                  rw [hlen] at hp ⊢
                  refine ⟨by have:=hsp hp; obtain ⟨b,o,s⟩:=a; simp at this; simp [this],?_⟩
                  have:=zF1 (hcell (len - 1) (by omega) (P.cellsOf e - 1) (by omega))
                  have e2:len*P.cellsOf e=(len - 1)*P.cellsOf e+P.cellsOf e:=by rw [← Nat.succ_mul]; congr 1; omega
                  omega)
                (fun i j=>(cf i).getD j undef)
                (fun i x hx j c hj=>by
                  obtain ⟨hi,rfl⟩:=hget i x hx
                  rw [(hxf i hi).1] at hj
                  have:=(yae.1 hj).1
                  exact hcell i hi j (by rw [← hds i hi]; exact this))
                (fun i x hx j c hj=>by
                  obtain ⟨hi,rfl⟩:=hget i x hx
                  rw [(hxf i hi).1] at hj
                  exact ((hdf i hi).2.2.1.2 j c hj).2)
                (fun i x hx j c hj=>by
                  obtain ⟨hi,rfl⟩:=hget i x hx
                  rw [(hxf i hi).1] at hj
                  exact ((hdf i hi).2.2.1.2 j c hj).1)
              rw [hlen] at hh
              exact hh
            · have hb':=zu1 (elems.map (·.1)) (fun i=>bulk (xf i)) 0 fun i y hy=>by
                have hi:i<len:=by
                  have:=(yae.1 hy).1
                  simp at this
                  omega
                have:=(hdf i hi).2.2.2 y hy
                rw [← (hxf i hi).1,zBy] at this
                simpa using this
              have hle:(elems.map (·.1)).length=len:=by simp; omega
              rw [hle,← List.range_eq_range'] at hb'
              simp only [zhy,bulk,yaV,List.map_nil,yca,List.sum_nil,List.map_map,Function.comp_def,Rows.uptoBulk]
              omega
        · simp at h
    · rename_i fs
      simp only [ybJ,yaC] at hg
      obtain ⟨⟨hfs,hsum⟩,hoff⟩:=hg
      simp only at h
      split at h
      · rename_i hl
        generalize hm:List.mapM (m:=Option) _ fs.toList=em at h
        cases em with
        | none=>simp at h
        | some xs =>
          obtain ⟨h1,h2⟩:=zti hm
          simp only [Option.map_some,Option.some.injEq] at h
          subst h
          simp only [zxd,DataW.weights,hu] at hw
          obtain ⟨ds,hd,hbd,ht⟩:=zx2 (P:=P) (w:=w) (R:=fun t vs ds=>typ P fuel t ds∧zsf w vs ds) fuel (fun _ _ _ h=>h) fs.toList (xs.map (·.1)) 0 cs (by simpa using h1) (by rw [hl]; simpa using hsum)
            (fun j f hj=>by
              have hj':=(yae.1 hj).1
              have:=hoff j (by simpa using hj')
              rw [hj] at this
              simpa using this)
            (fun j f q hj hq=>by
              obtain ⟨y,hye,hy⟩:=h2 j f hj
              have hf:=yas hj
              rw [yau,hye] at hq
              cases hq
              obtain ⟨d,h3,h4,h5⟩:=ih f.type _ y (zlv (hfs f hf)) hy (zq8 hw j f.type y.1 (by rw [yau,hj]; rfl) (by rw [yau,hye]; rfl))
              exact ⟨d,by simpa using ⟨h3,h4⟩,h5⟩)
          exact ⟨ds,⟨by rw [hd.1,hl],fun f hf=>by simpa using (ht f hf).2⟩,hd,by simp only [Rows.uptoBulk]; omega⟩
      · simp at h
    · simp at hg
end Ev
end Go.Proofs.YtncmainjcffanaaGreat
/- From a law of plain data to the row's walk,whatever the parameters. -/
namespace Go.Proofs.YtncmainjcffanaaGreat
namespace Ev
open Go Go.ChangeShapes Go.WideShapes Go.ChangeAt Go.RowKit
def TypD (P:Program) (t:TypeId) (x:D):Prop:=(∃ n,typ P n t x.cells)∧x.isAgg=za1 P t
def zAj (P:Program):List TypeId→List D→Prop
  | [],[]=>True
  | t :: ts,d :: ds=>TypD P t d∧zAj P ts ds
  | _,_=>False
theorem zMn {H:Type} {enc:TypeId × Value→H} {P:Program} {W:World} {spare:Nat→Bool} {held:Bool} {base:Nat} {ts:List TypeId} (hc:zwy P ts=true) {t:TypeId} (ht:t ∈ ts) {v:Value} {d:DataW H} {ps:List MemPlace}
    (hv:Value.okWide P W .any base t v) (hd:DataW.Trod enc P W 0 spare held t v d ps) (hlt:zxd P t d):∃ x,TypD P t x∧Rel (St0 W) W v x∧bulk x≤Rows.uptoBulk d:=by
  obtain ⟨fuel,hf⟩:=hd
  obtain ⟨ds,h1,h2,hbk⟩:=zHg hc fuel t _ _ ht hf hlt
  have one:∀ (c:D),ds=[c]→c.isAgg=za1 P t→c.isAgg=false→v.cells = #[v] → ∃ x,TypD P t x∧Rel (St0 W) W v x∧bulk x≤Rows.uptoBulk d:=by
    rintro c rfl hs hn hcv
    refine ⟨c,⟨⟨fuel,?_⟩,hs⟩,?_,by simpa [zhy] using hbk⟩
    · cases c <;> first | exact h1 | simp [D.isAgg] at hn
    · have:=(h2.2 0 c (by simp)).1
      rw [hcv] at this
      exact this
  cases fuel with
  | zero=>exact h1.elim
  | succ n =>
    have h1':=h1
    simp only [typ] at h1
    split at h1
    · rename_i hu
      obtain ⟨b,rfl⟩:=h1
      obtain ⟨b',rfl⟩:=okWide_bool hu hv
      exact one (.bool b) rfl (by simp [D.isAgg,za1,hu]) rfl rfl
    · rename_i k hu
      obtain ⟨i,rfl,_⟩:=h1
      obtain ⟨b',rfl⟩:=okWide_int hu hv
      exact one (.int k i) rfl (by simp [D.isAgg,za1,hu]) rfl rfl
    · rename_i hu
      obtain ⟨s,rfl,_⟩:=h1
      obtain ⟨b',rfl⟩:=okWide_string hu hv
      exact one (.str s) rfl (by simp [D.isAgg,za1,hu]) rfl rfl
    · rename_i e hu
      obtain ⟨xs,rfl,_⟩:=h1
      obtain ⟨A,l,c,rfl⟩:=okWide_slice hu hv
      exact one (.sl _ xs) rfl (by simp [D.isAgg,za1,hu]) rfl rfl
    · rename_i fs hu
      obtain ⟨cs,rfl,hcs⟩:=okWide_struct hu hv
      refine ⟨.agg ds,⟨⟨n+1,h1'⟩,by simp [D.isAgg,za1,hu]⟩,?_,by simpa [bulk,zhy] using hbk⟩
      refine .agg cs ds (by rw [h2.1]; simp [Value.cells]) fun j c hj=>?_
      have:=(h2.2 j c hj).1
      simpa [Value.cells,ybi,Array.getD_eq_getD_getElem?] using this
    · exact h1.elim
theorem zLe {H:Type} {enc:TypeId × Value→H} {P:Program} {W:World} {base:Nat} {ts:List TypeId} (hc:zwy P ts=true) (hl:laidOutB P=true) :
    ∀ (ps:List TypeId) (vs:List Value) (ds:List (DataW H)) (q:List MemPlace),(∀ t ∈ ps,t ∈ ts∧P.readableRec t=true∧t<P.types.size) →
      (∀ (j:Nat) t v,ps[j]? = some t→vs[j]? = some v→Value.okWide P W .any base t v)→DataW.TrodAll enc P W 0 (fun _=>true) true ps vs ds q→(∀ (j:Nat) t d,ps[j]? = some t→ds[j]? = some d→zxd P t d) →
      (∃ xs,zAj P ps xs∧RelL (St0 W) W vs xs∧zhy xs≤Rows.uptoBulkAll ds)∧ds.length=ps.length ∧
        ∀ W',Below W.heap.size W W' → ∃ q',DataW.TrodAll enc P W' 0 (fun b=>decide (b<W.heap.size)) true ps vs ds q':=by
  intro ps
  induction ps with
  | nil =>
    intro vs ds q _ _ h _
    cases vs <;> cases ds <;> simp only [DataW.TrodAll] at h <;> try exact h.elim
    exact ⟨⟨[],trivial,⟨rfl,fun j d hj=>by simp at hj⟩,by simp [zhy]⟩,rfl,fun W' _=>⟨[],trodAll_mk0⟩⟩
  | cons t ps ih =>
    intro vs ds q hts hval h hlw
    cases vs <;> cases ds <;> simp only [DataW.TrodAll] at h <;> try exact h.elim
    rename_i v vs d ds
    obtain ⟨p,q',h0,h1,rfl⟩:=h
    obtain ⟨⟨xs,tx,rx,bx⟩,hlen,hback⟩:=ih vs ds q' (fun t ht=>hts t (by simp [ht])) (fun j t v hj hv=>hval (j+1) t v (by simpa using hj) (by simpa using hv)) h1 (fun j t d hj hd=>hlw (j+1) t d (by simpa using hj) (by simpa using hd))
    obtain ⟨a1,a2,a3⟩:=hts t (by simp)
    obtain ⟨x,tx0,rx0,bx0⟩:=zMn hc a1 (hval 0 t v rfl rfl) h0 (hlw 0 t d rfl rfl)
    refine ⟨⟨x :: xs,⟨tx0,tx⟩,⟨by simp [rx.1],fun j y hj=>?_⟩,by simp only [zhy,yaV,yca,Rows.uptoBulkAll] at bx ⊢; omega⟩,by simp [hlen],fun W' hb=>?_⟩
    · cases j with
      | zero=>simp at hj; subst hj; simpa using rx0
      | succ j=>simp at hj; simpa using rx.2 j y hj
    · obtain ⟨q2,hq⟩:=hback W' hb
      have lt:∀ x ∈ p,x.block<W.heap.size:=by obtain ⟨m,hm⟩:=h0; exact DataW.trod_lt m _ _ _ hm
      exact ⟨_,trodAll_cons_mk (Below.trod hl a2 a3 h0 hb lt) hq⟩
theorem zJb {W:World} (b:Nat) (h:0<St0 W b):b<W.heap.size:=by
  apply Decidable.byContradiction
  intro hn
  have:W.heap[b]? = none:=by simp; omega
  simp [St0,this] at h
theorem zG4 {H:Type} {enc:TypeId × Value→H} {C:Checked} {os:Os} {f:FuncId} {fn:Func} {s0:ChangeSpec} {F:Stop.Interp} {conds:List PathCond} (ts:List TypeId) (rt:TypeId)
    (own:ownKnob C.prog.godebug=none) (started:os.Started) (noInit:C.prog.inits.idxOf? f=none) (hfn:C.prog.funcs[f]? = some fn)
    (witness:∃ (w:World) (tape:Tape) (i:Input),w.os=os∧(w.forCall tape i).Shaped C.prog∧i.vars=[]∧Input.okWide C.prog (w.forCall tape i) .any w.heap.size f i ∧
      (Rows.OpenSpec.upto s0).pre6 enc C.prog fn conds false (w.forCall tape i).memory i.args∧({}:Assume).holds C.prog (lone (Frame.enter C.prog f i.args .normal) [] (w.forCall tape i)))
    (hvars:s0.vars=[]) (hl:laidOutB C.prog=true) (hc:zwy C.prog ts=true)
    (hts:fn.params.toList.all (fun t=>ts.contains t && C.prog.readableRec t && decide (t<C.prog.types.size))=true)
    (hres:fn.resultTypes = #[rt]) (hrt:C.prog.underlying rt=some .bool)
    (hspec:∀ ds:List (DataW H),ds.length=fn.params.toList.length→s0.fn H ds = { results:=[.lit (.bool true)],args:=ds })
    (law:∀ xs,zAj C.prog fn.params.toList xs→zhy xs≤1048576→Pure C.prog f xs [.bool true]) :
    ReturnsInHanded {} C os f .any ((Rows.OpenSpec.upto s0).pre6 enc C.prog fn conds false) (((Rows.OpenSpec.upto s0).at F).post enc C.prog fn false true false false):=by
  refine returnsInHanded_of_cond_sized (s:=Rows.OpenSpec.upto s0) (k:=Rows.uptoSmall) rfl own started noInit hfn witness ?_
  intro W base args ds gs before hval hW _ hk hszW _
  have hW':=hW
  obtain ⟨p,q,hA,hV,rfl,hfz,hnd⟩:=hW
  have hvars':(Rows.OpenSpec.upto s0).vars=[]:=hvars
  rw [hvars'] at hV
  obtain ⟨rfl,rfl⟩:=trodVars_none hV
  obtain ⟨⟨xs,tx,rx,bx⟩,hlen,hback⟩:=zLe (ts:=ts) hc hl fn.params.toList args.toList ds p (fun t ht=>by
      have:=yaC.1 hts t ht
      simp only [ybJ,decide_eq_true_eq] at this
      exact ⟨zlv this.1.1,this.1.2,this.2⟩) (fun j t v hj hv=>hval j t v (by simpa using hj) (by simpa using hv)) hA (fun j t d hj hd=>zq8 hszW j t d (by rw [ybs (yae.1 hj).1]; exact hj) (by rw [ybs (yae.1 hd).1]; exact hd))
  have hk':Rows.uptoBulkAll ds≤1048576:=by
    have:=of_decide_eq_true hk
    simpa using this
  have hp:=(law xs tx (Nat.le_trans bx hk')).2 (St0 W) W args.toList zJb rx
  refine hp.mono ?_
  rintro e W' ⟨St',us,rfl,hus,hbel,_⟩
  obtain ⟨q',hq'⟩:=hback W' hbel
  have hu:us=[.bool true]:=by
    obtain ⟨h1,h2⟩:=hus
    match us,h1 with
    | [u],_ =>
      have:=h2 0 (.bool true) rfl
      simp at this
      cases this
      rfl
  subst hu
  have e0:ds ++ []=ds:=by simp
  refine ⟨_,rfl,ds,[],p ++ [],[],q',[],hW',?_,?_,?_,hbel.frame _,fun h=>by cases h⟩
  · rw [e0]
    show DataW.TrodAll _ _ _ _ _ _ _ _ (s0.fn H ds).results _
    rw [hspec ds hlen,hres]
    exact trodAll_mk1 (shut_bool hrt _)
  · rw [e0]
    show DataW.TrodAll _ _ _ _ _ _ _ _ (s0.fn H ds).args _
    rw [hspec ds hlen]
    exact hq'
  · have hv2:((Rows.OpenSpec.upto s0).at F).vars=[]:=hvars
    have hf2:((Rows.OpenSpec.upto s0).at F).fn H ds = { results:=[.lit (.bool true)],args:=ds }:=hspec ds hlen
    rw [e0,hf2,hv2]
    rfl
end Ev
end Go.Proofs.YtncmainjcffanaaGreat
