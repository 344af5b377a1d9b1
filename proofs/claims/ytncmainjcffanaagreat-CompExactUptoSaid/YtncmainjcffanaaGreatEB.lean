/- Several texts in one. -/
import Derived.Test.YtncmainjcffanaaGreatEA
import Derived.Laws.Append
set_option maxRecDepth 100000
set_option linter.unusedSimpArgs false
set_option linter.unusedVariables false
open List renaming all_cons→yaW,all_eq_true→yaC,append_nil→ybp,eq_nil_of_length_eq_zero→ybo,eq_of_mem_replicate→yaD,flatMap_cons→ybv,getD_eq_getElem?_getD→ybi,getElem?_append→ybk,getElem?_append_left→ybs,getElem?_cons_succ→ybu,getElem?_cons_zero→yaz,getElem?_eq_getElem→yar,getElem?_eq_none→ybB,getElem?_eq_some_iff→yae,getElem?_map→yau,getElem?_take→yaO,getElem?_toArray→yaI,getElem_mem→yaf,length_append→yaF,length_cons→yaS,length_drop→yaB,length_nil→ybt,length_replicate→ybc,length_take→yaE,map_cons→yaV,mem_append→yaY,mem_append_left→yby,mem_append_right→ybz,mem_cons→yaZ,mem_flatMap→yaA,mem_map→ybb,mem_of_getElem?→yas,mem_of_mem_drop→yaP,mem_singleton→ybw,replicate→yaa,size_toArray→yaJ,tail_drop→ybA
open Nat renaming add_mul→yaQ,add_zero→yan,div_add_mod→ybh,eq_zero_or_pos→yaj,le_mul_of_pos_right→ybf,le_of_not_lt→ybC,le_refl→yab,le_trans→yac,lt_of_lt_of_le→yad,lt_or_ge→ybm,mul_comm→ybg,mul_eq_zero→ybd,mul_le_mul_left→ybn,mul_le_mul_right→yah,sub_mul→ybl,succ_mul→yag,zero_add→ybj,zero_le→yaR
open Option renaming bind_some→yaq,isSome_iff_exists→yaX,isSome_none→ybq,map_eq_some_iff→yaG,map_some→yak,toList_some→ybx
open Bool renaming false_eq_true→yao
open Array renaming ext'→ybr,getD_eq_getD_getElem?→yaw,getElem?_eq_getElem→yal,getElem?_eq_none→yaU,getElem?_eq_some_iff→yay,getElem?_setIfInBounds→yaT,getElem?_toList→yav,length_toList→yaK,map→ybe,range→yba
/- Slices cut,structs and slices built,append. -/
namespace Go.Proofs.YtncmainjcffanaaGreat
namespace Ev
open Go
set_option linter.unusedSectionVars false
variable [Nw]
section
variable {P:Program} {G:GS} {h:Nat→Ent} {w:World} {a:Act} {s:Nat→AV} {o:Oper}
theorem zxf {v:Value} {x:AV} (r:ARel G h w v x) {n d q:Nat} (hi:idx (some x) n d=some q) (y:Nat) (hy:n≤y) (c:BoundsCode):(Instr.sliceBound v y c).run P w = .ok q w∧q≤n:=by
  unfold idx at hi
  split at hi
  · rename_i he; cases he
  · rename_i k z he
    simp only [Option.some.injEq] at he
    subst he
    split at hi
    · rename_i hc
      simp only [Option.some.injEq] at hi
      subst hi
      have hv:=r.of_int
      subst hv
      exact ⟨by simp [Instr.sliceBound,asIntOf,show 0≤z from hc.1,show z≤(y:Int) by omega,Sem.run_bind,Sem.run_pure],by omega⟩
    · cases hi
  · cases hi
theorem Rel.cut {St:Nat→Nat} {A:Option Addr} {n cap sz:Nat} {xs:List D} (r:Rel St w (.slice A n cap) (.sl sz xs)) (l m:Nat) (hl:l≤m) (hm:m≤xs.length) :
    n=xs.length∧n≤cap∧Rel St w (.slice (if cap=l then A else A.map (·.add (l*sz))) (m - l) (cap - l)) (.sl sz ((xs.take m).drop l)):=by
  cases r with
  | sl _ _ _ b off _ hc hm' hs ha val hv hone hr =>
    refine ⟨rfl,hc,?_⟩
    have hlen:((xs.take m).drop l).length=m - l:=by simp; omega
    have hget:∀ (i:Nat) x,((xs.take m).drop l)[i]? = some x→xs[l+i]? = some x:=by
      intro i x hi
      rw [List.getElem?_drop,yaO] at hi
      split at hi
      · exact hi
      · cases hi
    rw [show m - l=((xs.take m).drop l).length from hlen.symm]
    refine .sl _ _ sz b (off+l*sz) _ (by omega) (by omega) (fun x hx=>hs x (List.mem_of_mem_take (yaP hx))) (fun hp=>?_) (fun i j=>val (l+i) j) (fun i x hi j c hj=>?_) (fun i x hi j c hj=>hone _ x (hget i x hi) j c hj) (fun i x hi j c hj=>hr _ x (hget i x hi) j c hj)
    · obtain ⟨hA,hst⟩:=ha (by omega)
      rw [if_neg (by omega),hA]
      refine ⟨by simp [zjg],?_⟩
      rw [hlen]
      have:l*sz+(m - l)*sz≤xs.length*sz:=by rw [← yaQ]; exact yah _ (by omega)
      omega
    · have:=hv _ x (hget i x hi) j c hj
      rw [show off+l*sz+i*sz+j=off+(l+i)*sz+j by rw [yaQ]; omega]
      exact this
theorem zC6 (i:Inv G h w) (sl:zc0 G h w a s) (t e:TypeId) (x:Operand) (lo hi:Option Operand) {n:Nat} (ht:P.underlying t=some (.slice e)) (hn:sz? P e=some n)
    {av:AV} {h':Nat→Ent} (dst:Option Nat) (hact:act dst ⟨s,h⟩ (.slice n (copd P t x) (lo.map (copd P 0)) (hi.map (copd P 0)))=some (av,h')) (ho:o.op = .slice t x lo hi none):Did P G h w ((execOp a.eval o).run P w) av h':=by
  have h1:=za0 P sl t x
  simp only [act] at hact
  split at hact
  · rename_i sz xs hx
    split at hact
    · rename_i hsz
      subst hsz
      split at hact
      · rename_i m hm
        split at hact
        · rename_i l hl
          simp only [Option.some.injEq,Prod.mk.injEq] at hact
          obtain ⟨rfl,rfl⟩:=hact
          have hfs:=zbp i (sk h deep ((copd P t x).ev s))
          have hr:=zr5 i (sk h deep ((copd P t x).ev s)) deep h1 hx (fun _ hq=>hq)
          generalize hp:a.eval x=v at hr
          cases hr with
          | sl A cap _ b off _ hc hm' hs ha val hv hone hr =>
            have hrel:Rel (zch G h w (sk h deep ((copd P t x).ev s))) w (.slice A xs.length cap) (.sl sz xs):=.sl A cap sz b off xs hc hm' hs ha val hv hone hr
            have hmb:m≤xs.length∧(match hi.map a.eval with | some v=>(Instr.sliceBound v cap .sliceAcap) | none=>pure xs.length).run P w = .ok m w:=by
              cases hi with
              | none=>simp [idx] at hm; subst hm; exact ⟨yab _,by simp [Sem.run_pure]⟩
              | some y =>
                simp only [yak] at hm ⊢
                have:=zxf (P:=P) (za0 P sl 0 y) hm cap hc .sliceAcap
                exact ⟨this.2,this.1⟩
            have hlb:l≤m∧(match lo.map a.eval with | some v=>(Instr.sliceBound v m .sliceB) | none=>pure 0).run P w = .ok l w:=by
              cases lo with
              | none=>simp [idx] at hl; subst hl; exact ⟨yaR _,by simp [Sem.run_pure]⟩
              | some y =>
                simp only [yak] at hl ⊢
                have:=zxf (P:=P) (za0 P sl 0 y) hl m (yab _) .sliceB
                exact ⟨this.2,this.1⟩
            obtain ⟨_,_,hcut⟩:=hrel.cut l m hlb.1 hmb.1
            refine ⟨_,w,_,.inl ?_,hfs,.d _ _ hcut⟩
            have hb1:=hmb.2
            have hb2:=hlb.2
            have hsb:(Instr.sliceBounds true xs.length cap (lo.map a.eval) (hi.map a.eval) none).run P w = .ok (l,m,cap) w:=by
              cases hi with
              | none =>
                cases lo with
                | none =>
                  simp [Sem.run_pure] at hb1 hb2
                  simp [Instr.sliceBounds,Sem.run_bind,Sem.run_pure,hb1,hb2]
                | some z =>
                  simp [Sem.run_pure] at hb1 hb2
                  simp [Instr.sliceBounds,Sem.run_bind,Sem.run_pure,hb1,hb2]
              | some y =>
                cases lo with
                | none =>
                  simp [Sem.run_pure] at hb1 hb2
                  simp [Instr.sliceBounds,Sem.run_bind,Sem.run_pure,hb1,hb2]
                | some z =>
                  simp [Sem.run_pure] at hb1 hb2
                  simp [Instr.sliceBounds,Sem.run_bind,Sem.run_pure,hb1,hb2]
            simp [execOp,ho,hp,Instr.sliceAt,Instr.slice,underlying,program,ht,hsb,zcr hn,Sem.run,Sem.run_bind,Sem.run_pure]
        · cases hact
      · cases hact
    · cases hact
  · cases hact
theorem zu8 (off:Nat):∀ (vs:List Value) (k:Nat) (cs:Array Value),((vs.zipIdx k).foldl (fun cs (p:Value × Nat)=>cs.setIfInBounds (off+p.2) p.1) cs).size=cs.size ∧
    ∀ q,((vs.zipIdx k).foldl (fun cs (p:Value × Nat)=>cs.setIfInBounds (off+p.2) p.1) cs)[q]? = if off+k≤q∧q<off+k+vs.length∧q<cs.size then vs[q - off - k]? else cs[q]?
  | [],k,cs=>by
    refine ⟨rfl,fun q=>?_⟩
    rw [if_neg (by simp; omega)]
    rfl
  | v :: vs,k,cs=>by
    obtain ⟨h1,h2⟩:=zu8 off vs (k+1) (cs.setIfInBounds (off+k) v)
    simp only [List.zipIdx_cons,List.foldl_cons]
    refine ⟨by rw [h1]; simp,fun q=>?_⟩
    rw [h2]
    simp only [Array.size_setIfInBounds,yaS]
    by_cases hq:q=off+k
    · subst hq
      rw [if_neg (by omega)]
      by_cases hs:off+k<cs.size
      · rw [if_pos ⟨by omega,by omega,hs⟩]
        simp [yaT,hs]
      · rw [if_neg (by omega)]
        rw [yaU (by simp; omega),yaU (by omega)]
    · by_cases hc:off+(k+1)≤q∧q<off+(k+1)+vs.length∧q<cs.size
      · rw [if_pos hc,if_pos ⟨by omega,by omega,by omega⟩,show q - off - k=(q - off - (k+1))+1 by omega]
        rfl
      · rw [if_neg hc,if_neg (by omega)]
        rw [yaT,if_neg (fun e=>hq e.symm)]
theorem zxv (ziw:Nat→Option (Nat × Nat)) (cells:Array Value) (i off size:Nat) (v:Value) (rest:List (Nat × Value)) (hp:ziw i=some (off,size)) (hs:v.cells.size=size) (hle:off+size≤cells.size) :
    ∃ cells',Instr.fill ziw cells ((i,v) :: rest)=Instr.fill ziw cells' rest∧cells'.size=cells.size ∧ ∀ q,cells'.getD q undef=if off≤q∧q<off+size then v.cells.getD (q - off) undef else cells.getD q undef:=by
  obtain ⟨h1,h2⟩:=zu8 off v.cells.toList 0 cells
  refine ⟨v.cells.toList.zipIdx.foldl (fun cs (p:Value × Nat)=>cs.setIfInBounds (off+p.2) p.1) cells,?_,h1,fun q=>?_⟩
  · rw [Instr.fill]
    simp only [hp]
    rw [if_neg (by simp; omega)]
    congr 1
    rw [← Array.foldl_toList]
    simp
  · have:=h2 q
    simp only [yaw,this,yan,Nat.sub_zero,yaK]
    by_cases hc:off≤q∧q<off+size
    · rw [if_pos ⟨hc.1,by omega,by omega⟩,if_pos hc,yav]
    · rw [if_neg (by omega),if_neg hc]
theorem zt0 {fs:Array Field} (sizes:Nat→Nat) (hsz:∀ (i:Nat) f,fs[i]? = some f→sz? P f.type=some (sizes i)) (i:Inv G h w) (sl:zc0 G h w a s):∀ (ps:List (Nat × Operand)) (qs:List (Nat × Nat × Opd)),zu9 P fs ps=some qs →
    ∀ (z r:List AV) (cells:Array Value),zl4 h s z qs=some r→cells.size=z.length→(∀ (j:Nat) c,z[j]? = some c→ARel G h w (cells.getD j undef) c) →
    ∃ cells',Instr.fill (fun i=>(fs[i]?).map fun f=>(f.offset,sizes i)) cells (ps.map fun p=>(p.1,a.eval p.2))=some cells'∧cells'.size=r.length ∧ ∀ (j:Nat) c,r[j]? = some c→ARel G h w (cells'.getD j undef) c
  | [],qs,hq,z,r,cells,hb,hl,hr=>by
    simp only [zu9,Option.some.injEq] at hq
    subst hq
    simp only [zl4,Option.some.injEq] at hb
    subst hb
    exact ⟨cells,rfl,hl,hr⟩
  | (k,x) :: ps,qs,hq,z,r,cells,hb,hl,hr=>by
    simp only [zu9] at hq
    split at hq
    · rename_i f rs hf hrs
      have hs:=hsz k f hf
      rw [hs] at hq
      simp only [yak,Option.some.injEq] at hq
      subst hq
      simp only [zl4] at hb
      split at hb
      · rename_i hc
        obtain ⟨hc1,hc2,hc3⟩:=hc
        have hx:=za0 P sl f.type x
        obtain ⟨hx1,hx2⟩:=hx.cells_ok hc3
        obtain ⟨cells1,h1,h2,h3⟩:=zxv (fun i=>(fs[i]?).map fun f=>(f.offset,sizes i)) cells k f.offset (sizes k) (a.eval x) (ps.map fun p=>(p.1,a.eval p.2)) (by simp [hf]) (by omega) (by omega)
        simp only [yaV]
        rw [h1]
        refine zt0 sizes hsz i sl ps rs hrs _ r cells1 hb (by simp [put]; omega) (fun j c hj=>?_)
        rw [zlm _ _ _ (by omega)] at hj
        rw [h3]
        rw [hc1] at hj
        split at hj
        · rename_i hcc
          rw [if_pos hcc]
          exact (hx2 _ c hj).1
        · rename_i hcc
          rw [if_neg hcc]
          exact hr j c hj
      · cases hb
    · cases hq
theorem zB7 {fs:List Field} (hall:(fs.all fun f=>(sz? P f.type).isSome)=true):(fs.mapM (fun f=>Prod.mk f.offset <$> sizeOf f.type)).run P w = .ok (fs.map fun f=>(f.offset,(sz? P f.type).getD 0)) w:=by
  induction fs with
  | nil=>simp [Sem.run_pure]
  | cons f fs ih =>
    simp only [yaW,Bool.and_eq_true] at hall
    obtain ⟨n,hn⟩:=yaX.1 hall.1
    rw [List.mapM_cons]
    have h1:(Prod.mk f.offset <$> sizeOf f.type).run P w = .ok (f.offset,n) w:=by
      rw [← bind_pure_comp]
      simp [Sem.run_bind,Sem.run_pure,zcr hn]
    simp [Sem.run_bind,Sem.run_pure,zcr hn,ih hall.2,hn,Result.andThen]
theorem zEo (i:Inv G h w) (sl:zc0 G h w a s) (t:TypeId) (parts:Array (Nat × Operand)) {fs:Array Field} {z:List AV} {ps:List (Nat × Nat × Opd)} (hu:P.underlying t=some (.struct fs)) (hall:(fs.toList.all fun f=>(sz? P f.type).isSome)=true)
    (hz:zry P t=some z) (hps:zu9 P fs parts.toList=some ps) {av:AV} {h':Nat→Ent} (dst:Option Nat) (hact:act dst ⟨s,h⟩ (.build z ps)=some (av,h')) (ho:o.op = .build t parts):Did P G h w ((execOp a.eval o).run P w) av h':=by
  simp only [act] at hact
  cases hb:zl4 h s z ps with
  | none=>simp [hb] at hact
  | some r =>
    simp only [hb,yak,Option.some.injEq,Prod.mk.injEq] at hact
    obtain ⟨rfl,rfl⟩:=hact
    obtain ⟨zv,hzv,hsz,hrel,_⟩:=ztt (G:=G) (h:=h) (w:=w) hz
    have hszs:∀ (k:Nat) f,fs[k]? = some f→sz? P f.type=some ((fun k=>((fs[k]?).bind fun f=>sz? P f.type).getD 0) k):=by
      intro k f hf
      rw [yaC] at hall
      obtain ⟨n,hn⟩:=yaX.1 (hall f (Array.mem_toList_iff.2 (Array.mem_of_getElem? hf)))
      simp [hf,hn]
    obtain ⟨cells',h1,h2,h3⟩:=zt0 _ hszs i sl parts.toList ps hps z r zv.cells hb (by omega) hrel
    refine Did.same (v:=.agg cells') i ?_ (.agg _ _ h2 h3)
    cases hi:P.info? t with
    | none=>simp [hi] at hzv
    | some inf =>
      simp only [hi,yaq] at hzv
      have hpl:=zB7 (P:=P) (w:=w) hall
      have hplace:(fun (x:Nat)=>Option.map (fun (f:Field)=>(f.offset,(sz? P f.type).getD 0)) fs[x]?)=(fun i=>(fs[i]?).map fun f=>(f.offset,((fs[i]?).bind fun f=>sz? P f.type).getD 0)):=by
        funext k
        cases hf:fs[k]? with
        | none=>rfl
        | some f=>simp
      rw [← hplace] at h1
      simp [execOp,ho,Instr.build,zeroValue,typeInfo,underlying,program,hi,hzv,hu,Array.mapM_eq_mapM_toList,Sem.run,Sem.run_bind,Sem.run_pure,hpl,h1,Result.andThen]
theorem zre (i:Inv G h w) (sl:zc0 G h w a s) (e:TypeId) (size:Nat) (St:Nat→Nat):∀ (ps:List (Nat × Operand)) (xs r:List D) (cells:Array Value),
    ze2 h s size xs (ps.map fun p=>(p.1,copd P e p.2))=some r→(∀ p ∈ ps,∀ y,toD h deep ((copd P e p.2).ev s)=some y→((copd P e p.2).ev s).cells.all AV.one=true→(a.eval p.2).cells.size=y.cells.length ∧ ∀ (j:Nat) c,y.cells[j]? = some c→Rel St w ((a.eval p.2).cells.getD j undef) c∧((a.eval p.2).cells.getD j undef).oneCell'=true)→(∀ x ∈ xs,x.cells.length=size)→cells.size=xs.length*size →
    (∀ (p:Nat) x,xs[p]? = some x → ∀ (j:Nat) c,x.cells[j]? = some c→Rel St w (cells.getD (p*size+j) undef) c∧(cells.getD (p*size+j) undef).oneCell'=true) →
    ∃ cells',Instr.fill (fun i=>some (i*size,size)) cells (ps.map fun p=>(p.1,a.eval p.2))=some cells'∧r.length=xs.length∧cells'.size=r.length*size∧(∀ x ∈ r,x.cells.length=size) ∧
      (∀ (p:Nat) x,r[p]? = some x → ∀ (j:Nat) c,x.cells[j]? = some c→Rel St w (cells'.getD (p*size+j) undef) c∧(cells'.getD (p*size+j) undef).oneCell'=true)
  | [],xs,r,cells,hp,hk,hs,hl,hr=>by
    simp only [List.map_nil,ze2,Option.some.injEq] at hp
    subst hp
    exact ⟨cells,rfl,rfl,hl,hs,hr⟩
  | (q,x) :: ps,xs,r,cells,hp,hk,hs,hl,hr=>by
    simp only [yaV,ze2] at hp
    split at hp
    · rename_i y hy
      split at hp
      · rename_i hc
        obtain ⟨hyl,hq,hone⟩:=hc
        obtain ⟨hv1,hv2⟩:=hk (q,x) (by simp) y hy hone
        dsimp only at hv1 hv2
        have hle:q*size+size≤xs.length*size:=by rw [← yag]; exact yah _ hq
        obtain ⟨cells1,h1,h2,h3⟩:=zxv (fun i=>some (i*size,size)) cells q (q*size) size (a.eval x) (ps.map fun p=>(p.1,a.eval p.2)) rfl (by omega) (by omega)
        simp only [yaV]
        rw [h1]
        have:=zre i sl e size St ps (xs.set q y) r cells1 hp (fun p hp'=>hk p (by simp [hp'])) (fun z hz=>by
          rcases List.mem_or_eq_of_mem_set hz with hz | hz
          · exact hs z hz
          · subst hz; exact hyl) (by simp; omega) (fun p z hz j c hj=>by
          rw [h3]
          rw [List.getElem?_set] at hz
          split at hz
          · rename_i hpq
            subst hpq
            have hz':z=y:=by first | (rw [if_pos hq] at hz; simpa using hz.symm) | simpa using hz.symm
            subst hz'
            have hjl:=(yae.1 hj).1
            rw [if_pos ⟨by omega,by omega⟩,show q*size+j - q*size=j by omega]
            exact hv2 j c hj
          · rename_i hpq
            have hjl:=(zby hs hz hj).2.1
            have hne:¬ (q*size≤p*size+j∧p*size+j<q*size+size):=by
              rcases Nat.lt_or_gt_of_ne hpq with hlt | hlt
              · have:q*size+size≤p*size:=by rw [← yag]; exact yah _ hlt
                omega
              · have:p*size+size≤q*size:=by rw [← yag]; exact yah _ hlt
                omega
            rw [if_neg hne]
            exact hr p z hz j c hj)
        simpa using this
      · cases hp
    · cases hp
theorem zx5 {G:GS} {h:Nat→Ent} {w:World} (i:Inv G h w) (arr:Array Value) (el:TypeId):Step G h w ⟨fun b=>if b=w.heap.size then arr.size else G.St b,G.hd⟩ h (w.alloc (.cells arr el)):=by
  have hst:∀ b,b<w.heap.size→(if b=w.heap.size then arr.size else G.St b)=G.St b:=fun b hb=>if_neg (by omega)
  have hz:G.St w.heap.size=0:=by
    rcases yaj (G.St w.heap.size) with h0 | h0
    · exact h0
    · have:=i.st _ h0; omega
  have hext:Ext G h w ⟨fun b=>if b=w.heap.size then arr.size else G.St b,G.hd⟩ h (w.alloc (.cells arr el)):=by
    refine ⟨⟨fun b=>?_,fun b j hj=>?_,fun b hb hf=>hf.eq (heap_alloc_old w _ b (i.st b hb))⟩,fun _=>yab _,fun _ _=>⟨rfl,Body.like_refl _⟩⟩
    · show G.St b≤if b=w.heap.size then arr.size else G.St b
      split
      · rename_i hb; rw [hb,hz]; exact yaR _
      · exact yab _
    · have hb:=i.st b (by omega)
      exact World.cell?_of_block (w:=w) (a:=⟨b,j,none⟩) (heap_alloc_old w _ b hb)
  refine ⟨⟨fun b hb=>?_,fun q=>?_,i.apart,by have:=i.low; simp; omega⟩,hext,⟨rfl,rfl,rfl,by simp,fun b hb _=>⟨heap_alloc_old w _ b hb,hst b hb⟩⟩,fun q b hq=>.inl ⟨q,hq⟩,fun b h0 h1=>?_⟩
  · have hb':0<(if b=w.heap.size then arr.size else G.St b):=hb
    split at hb'
    · rename_i h; rw [h]; simp
    · have:=i.st b hb'; simp; omega
  · have he:=i.ent q
    cases hb:(h q).body with
    | dead=>trivial
    | box ds fz =>
      rw [hb] at he
      obtain ⟨b',arr',el',hA,hh,hsz,hrel,hs⟩:=he
      have hlt:=(yay.1 hh).1
      exact ⟨b',arr',el',hA,(heap_alloc_old w _ b' hlt).trans hh,hsz,fun j c hj=>⟨(hrel j c hj).1.ext hext,(hrel j c hj).2⟩,(hst b' hlt).trans hs⟩
    | row sz xs fz =>
      rw [hb] at he
      cases fz with
      | true =>
        refine ⟨he.1.keeps hext.keeps,?_⟩
        rcases he.2 with hc' | ⟨b',arr',el',hA,hh,h0,hsz,hs⟩
        · exact .inl hc'
        · have hlt:=(yay.1 hh).1
          exact .inr ⟨b',arr',el',hA,(heap_alloc_old w _ b' hlt).trans hh,h0,hsz,(hst b' hlt).trans hs⟩
      | false =>
        rcases he with ⟨z1,z2,z3⟩ | ⟨b',arr',el',hA,hh,hsz,hcap,hm,hcs,hrel,hs⟩
        · exact .inl ⟨z1,z2,z3⟩
        have hlt:=(yay.1 hh).1
        exact .inr ⟨b',arr',el',hA,(heap_alloc_old w _ b' hlt).trans hh,hsz,hcap,hm,hcs,fun p x hp j c hj=>⟨(hrel p x hp j c hj).1.keeps hext.keeps.rwS,(hrel p x hp j c hj).2⟩,(hst b' hlt).trans hs⟩
  · have h1':0<(if b=w.heap.size then arr.size else G.St b):=h1
    split at h1'
    · rename_i hb
      subst hb
      exact ⟨arr,el,heap_alloc_new w _⟩
    · omega
theorem zCl {x:List (Nat × Opd)} {p:Nat × Opd} (hp:p ∈ x) {k:Nat} (hk:k ∈ sk h deep (p.2.ev s)):k ∈ zdf h s x:=by
  induction x with
  | nil=>cases hp
  | cons y ys ih =>
    obtain ⟨q,o⟩:=y
    rw [zdf,yaY]
    rcases yaZ.1 hp with rfl | hp
    · exact .inl hk
    · exact .inr (ih hp)
theorem zBz (i:Inv G h w) (sl:zc0 G h w a s) (t e:TypeId) (parts:Array (Nat × Operand)) {n size:Nat} {z:D} (ht:P.underlying t=some (.slice e)) (hz:zy6 P e=some z) (hn:sz? P e=some size) (h0:0<size) (hle:n*size≤16777216)
    {av:AV} {h':Nat→Ent} (dst:Option Nat) (hact:act dst ⟨s,h⟩ (.bslice z size n (parts.toList.map fun p=>(p.1,copd P e p.2)))=some (av,h')) (ho:o.op = .buildSlice t n parts):Did P G h w ((execOp a.eval o).run P w) av h':=by
  simp only [act] at hact
  cases hp:ze2 h s size (yaa n z) (parts.toList.map fun p=>(p.1,copd P e p.2)) with
  | none=>simp [hp] at hact
  | some r =>
    simp only [hp,yak,Option.some.injEq,Prod.mk.injEq] at hact
    obtain ⟨rfl,rfl⟩:=hact
    have hfs:=zbp i (zdf h s (parts.toList.map fun p=>(p.1,copd P e p.2)))
    generalize hks:zdf h s (parts.toList.map fun p=>(p.1,copd P e p.2))=ks at hfs
    obtain ⟨zv,hzv,hzs,hzl,hzr⟩:=zwm (G:=frzG G h w ks) (w:=w) hz hn
    obtain ⟨cells',h1,h2,h3,h4,h5⟩:=zre i sl e size (zch G h w ks) parts.toList (yaa n z) r ((yba (n*size)).map (zv.cells[· % zv.cells.size]!)) hp (fun p hp' y hy hone=>zs8 (za0 P sl e p.2) hone hy (zr5 i ks deep (za0 P sl e p.2) hy fun k hk=>by
      rw [← hks]
      exact zCl (p:=(p.1,copd P e p.2)) (ybb.2 ⟨p,hp',rfl⟩) hk)) (fun y hy=>by rw [yaD hy]; exact hzl) (by simp) (fun p y hy j c hj=>by
      have hpl:=(yae.1 hy).1
      simp at hpl
      have hyz:y=z:=yaD (yas hy)
      subst hyz
      have hjl:=(yae.1 hj).1
      rw [zwn (n:=n) (p:=p) hzs h0 (show j<size by omega) hpl]
      exact hzr j c hj)
    simp only [ybc] at h2
    have hss:=zx5 hfs.inv cells' e
    refine ⟨.slice (some ⟨w.heap.size,0,none⟩) n n,_,_,.inl ?_,hfs.trans hss,?_⟩
    · cases hi:P.info? e with
      | none=>simp [hi] at hzv
      | some inf =>
        simp only [hi,yaq] at hzv
        have hlt:¬ (16777216<n*size):=by omega
        by_cases hn0:n*size=0
        · have hn00:n=0:=by
            rcases ybd.1 hn0 with h | h <;> omega
          subst hn00
          simp only [Nat.zero_mul] at h1
          have harr:(ybe (fun x=>zv.cells[x % zv.cells.size]!) (yba 0)) = #[]:=by simp
          rw [harr] at h1
          have harr':ybe (fun (_:Nat)=>(default:Value)) (yba 0) = #[]:=by simp
          simp [execOp,ho,Instr.buildSlice,underlying,program,ht,zcr hn,harr',h1,newRow,newObj,Sem.run,Sem.run_bind,Sem.run_pure]
        · simp [execOp,ho,Instr.buildSlice,underlying,zeroValue,typeInfo,program,ht,hi,hzv,zcr hn,hlt,hn0,h1,newRow,newObj,Sem.run,Sem.run_bind,Sem.run_pure]
    · rw [← h2]
      refine .fsl _ _ _ _ (.sl _ _ size w.heap.size 0 r (yab _) ?_ h4 (fun _=>⟨rfl,?_⟩) (fun p j=>cells'.getD (p*size+j) undef) (fun p x hp' j c hj=>?_) (fun p x hp' j c hj=>(h5 p x hp' j c hj).2) (fun p x hp' j c hj=>(h5 p x hp' j c hj).1.keeps hss.ext.keeps))
      · have:r.length≤n*size:=by rw [h2]; exact ybf _ h0
        omega
      · show 0+r.length*size≤if w.heap.size=w.heap.size then cells'.size else _
        simp [h3]
      · have:=(zby h4 hp' hj).2.2
        simp only [World.cell?,heap_alloc_new]
        have hlt:p*size+j<cells'.size:=by omega
        simp [hlt]
theorem zzw (i:Inv G h w) (sl:zc0 G h w a s) (t e:TypeId) (parts:Array (Nat × Operand)) {n size:Nat} {z:D} (ht:P.underlying t=some (.slice e)) (hz:zy6 P e=some z) (hn:sz? P e=some size) (h0:0<size) (hle:n*size≤16777216)
    {av:AV} {h':Nat→Ent} (dst:Option Nat) (hall:((parts.toList.map fun p=>(p.1,copd P e p.2)).all fun p=>(p.2.ev s).hi)=true) (hact:((ze2 h s size (yaa n z) (parts.toList.map fun p=>(p.1,copd P e p.2))).map fun xs=>(AV.n true (.sl size xs),frz h (zdf h s (parts.toList.map fun p=>(p.1,copd P e p.2)))))=some (av,h')) (ho:o.op = .buildSlice t n parts):Did P G h w ((execOp a.eval o).run P w) av h':=by
  cases hp:ze2 h s size (yaa n z) (parts.toList.map fun p=>(p.1,copd P e p.2)) with
  | none=>simp [hp] at hact
  | some r =>
    simp only [hp,yak,Option.some.injEq,Prod.mk.injEq] at hact
    obtain ⟨rfl,rfl⟩:=hact
    have hfs:=zbp i (zdf h s (parts.toList.map fun p=>(p.1,copd P e p.2)))
    generalize hks:zdf h s (parts.toList.map fun p=>(p.1,copd P e p.2))=ks at hfs
    obtain ⟨zv,hzv,hzs,hzl,hzr⟩:=zwm (G:=⟨cutS true Nw.n (zch G h w ks),G.hd⟩) (w:=w) hz hn
    obtain ⟨cells',h1,h2,h3,h4,h5⟩:=zre i sl e size (cutS true Nw.n (zch G h w ks)) parts.toList (yaa n z) r ((yba (n*size)).map (zv.cells[· % zv.cells.size]!)) hp (fun p hp' y hy hone=>by
      have hr:=za0 P sl e p.2
      obtain ⟨q1,q2⟩:=zs8 hr hone hy (zr5 i (sk h deep ((copd P e p.2).ev s)) deep hr hy fun k hk=>hk)
      rw [yaC] at hall
      have hh:=hall (p.1,copd P e p.2) (ybb.2 ⟨p,hp',rfl⟩)
      exact ⟨q1,fun j c hj=>⟨(zA5 hr hh hone hy j c hj).le (zjz (zkf G h w ks)),(q2 j c hj).2⟩⟩) (fun y hy=>by rw [yaD hy]; exact hzl) (by simp) (fun p y hy j c hj=>by
      have hpl:=(yae.1 hy).1
      simp at hpl
      have hyz:y=z:=yaD (yas hy)
      subst hyz
      have hjl:=(yae.1 hj).1
      rw [zwn (n:=n) (p:=p) hzs h0 (show j<size by omega) hpl]
      exact hzr j c hj)
    simp only [ybc] at h2
    have hss:=zx5 hfs.inv cells' e
    refine ⟨.slice (some ⟨w.heap.size,0,none⟩) n n,_,_,.inl ?_,hfs.trans hss,?_⟩
    · cases hi:P.info? e with
      | none=>simp [hi] at hzv
      | some inf =>
        simp only [hi,yaq] at hzv
        have hlt:¬ (16777216<n*size):=by omega
        by_cases hn0:n*size=0
        · have hn00:n=0:=by
            rcases ybd.1 hn0 with h | h <;> omega
          subst hn00
          simp only [Nat.zero_mul] at h1
          have harr:(ybe (fun x=>zv.cells[x % zv.cells.size]!) (yba 0)) = #[]:=by simp
          rw [harr] at h1
          have harr':ybe (fun (_:Nat)=>(default:Value)) (yba 0) = #[]:=by simp
          simp [execOp,ho,Instr.buildSlice,underlying,program,ht,zcr hn,harr',h1,newRow,newObj,Sem.run,Sem.run_bind,Sem.run_pure]
        · simp [execOp,ho,Instr.buildSlice,underlying,zeroValue,typeInfo,program,ht,hi,hzv,zcr hn,hlt,hn0,h1,newRow,newObj,Sem.run,Sem.run_bind,Sem.run_pure]
    · rw [← h2]
      refine .n _ _ _ rfl (.sl _ _ size w.heap.size 0 r (yab _) ?_ h4 (fun _=>⟨rfl,?_⟩) (fun p j=>cells'.getD (p*size+j) undef) (fun p x hp' j c hj=>?_) (fun p x hp' j c hj=>(h5 p x hp' j c hj).2) (fun p x hp' j c hj=>(h5 p x hp' j c hj).1.keeps (hss.ext.keeps.cutS true Nw.n)))
      · have:r.length≤n*size:=by rw [h2]; exact ybf _ h0
        omega
      · show 0+r.length*size≤cutS true Nw.n (fun b=>if b=w.heap.size then cells'.size else _) w.heap.size
        simp [cutS,i.low,h3]
      · have:=(zby h4 hp' hj).2.2
        simp only [World.cell?,heap_alloc_new]
        have hlt:p*size+j<cells'.size:=by omega
        simp [hlt]
theorem zhr {St:Nat→Nat} {A:Option Addr} {m cap sz:Nat} {ys:List D} (r:Rel St w (.slice A m cap) (.sl sz ys)) :
    ∃ news:List Value,m=ys.length∧news.length=m*sz∧(∀ u ∈ news,u.oneCell'=true)∧(∀ (p:Nat) y,ys[p]? = some y → ∀ (j:Nat) c,y.cells[j]? = some c→Rel St w (news.getD (p*sz+j) undef) c) ∧
      (0<m → ∃ ad,A=some ad ∧ ∀ (j:Nat) u,news[j]? = some u→w.cell? (ad.add j)=some u)∧(∀ y ∈ ys,y.cells.length=sz)∧(∀ b,(0<m→A=some ⟨b,0,none⟩) → ∀ (j:Nat) u,news[j]? = some u→w.cell? ⟨b,j,none⟩=some u):=by
  cases r with
  | sl _ _ _ b off _ hc hm hs ha val hv hone hr =>
    have hat:∀ q,q<ys.length*sz→0<sz ∧ ∃ y c,ys[q / sz]? = some y∧y.cells[q % sz]? = some c:=by
      intro q hq
      have hsz:0<sz:=by
        rcases yaj sz with h | h
        · subst h; omega
        · exact h
      have h1:q / sz<ys.length:=Nat.div_lt_of_lt_mul (by rw [ybg]; exact hq)
      have h2:q % sz<sz:=Nat.mod_lt _ hsz
      have h3:=hs _ (yaf h1)
      exact ⟨hsz,_,_,yar h1,yar (by omega)⟩
    have hdm:∀ p j,j<sz→(p*sz+j) / sz=p∧(p*sz+j) % sz=j:=by
      intro p j hj
      have hsz:0<sz:=by omega
      refine ⟨?_,?_⟩
      · rw [ybg,Nat.mul_add_div hsz,Nat.div_eq_of_lt hj]; omega
      · rw [ybg,Nat.mul_add_mod,Nat.mod_eq_of_lt hj]
    have hcell:∀ q,q<ys.length*sz→w.cell? ⟨b,off+q,none⟩=some (val (q / sz) (q % sz)):=by
      intro q hq
      obtain ⟨hsz,y,c,hy,hc'⟩:=hat q hq
      have:=hv _ y hy _ c hc'
      rw [show off+q / sz*sz+q % sz=off+q by have:=ybh q sz; rw [ybg] at this; omega] at this
      exact this
    refine ⟨(List.range (ys.length*sz)).map fun q=>val (q / sz) (q % sz),rfl,by simp,fun u hu=>?_,fun p y hy j c hj=>?_,fun hp=>?_,hs,fun b' hb' j u hj=>?_⟩
    · simp only [ybb,List.mem_range] at hu
      obtain ⟨q,hq,rfl⟩:=hu
      obtain ⟨_,y,c,hy,hc'⟩:=hat q hq
      exact hone _ y hy _ c hc'
    · obtain ⟨h1,h2,h3⟩:=zby hs hy hj
      obtain ⟨e1,e2⟩:=hdm p j h2
      have:((List.range (ys.length*sz)).map fun q=>val (q / sz) (q % sz)).getD (p*sz+j) undef=val p j:=by
        simp [ybi,h3,e1,e2]
      rw [this]
      exact hr p y hy j c hj
    · obtain ⟨hA,_⟩:=ha hp
      refine ⟨_,hA,fun j u hj=>?_⟩
      have hj':=(yae.1 hj).1
      simp at hj'
      simp [hj'] at hj
      rw [zjg,hcell j hj',hj]
    · have hj':=(yae.1 hj).1
      simp at hj'
      have hp:0<ys.length:=by
        rcases yaj ys.length with h | h
        · rw [h] at hj'; omega
        · exact h
      simp [hj'] at hj
      obtain ⟨hA,_⟩:=ha hp
      have:=hb' hp
      rw [hA] at this
      simp only [Option.some.injEq,Addr.mk.injEq,and_true] at this
      obtain ⟨rfl,rfl⟩:=this
      have:=hcell j hj'
      rw [ybj] at this
      rw [this,hj]
theorem zyh {St:Nat→Nat} (b:Nat) (arr:Array Value) (el:TypeId) (hh:w.heap[b]? = some (.cells arr el (0,0))) (cap sz:Nat) (xs:List D) (hc:xs.length≤cap) (hm:xs.length≤9223372036854775807) (hs:∀ x ∈ xs,x.cells.length=sz) (hst:xs.length*sz≤St b) (hle:xs.length*sz≤arr.size)
    (hr:∀ (p:Nat) x,xs[p]? = some x → ∀ (j:Nat) c,x.cells[j]? = some c→Rel St w (arr.getD (p*sz+j) undef) c∧(arr.getD (p*sz+j) undef).oneCell'=true):Rel St w (.slice (some ⟨b,0,none⟩) xs.length cap) (.sl sz xs):=by
  refine .sl _ cap sz b 0 xs hc hm hs (fun _=>⟨rfl,by omega⟩) (fun p j=>arr.getD (p*sz+j) undef) (fun p x hp j c hj=>?_) (fun p x hp j c hj=>(hr p x hp j c hj).2) (fun p x hp j c hj=>(hr p x hp j c hj).1)
  have:=(zby hs hp hj).2.2
  simp only [World.cell?,hh]
  have hlt:p*sz+j<arr.size:=by omega
  simp [hlt]
theorem zDe {xs ys:List D} {sz:Nat} {olds news:List Value} (hs:∀ x ∈ xs,x.cells.length=sz) (hol:olds.length=xs.length*sz) (Q:Value→D→Prop)
    (hx:∀ (p:Nat) x,xs[p]? = some x → ∀ (j:Nat) c,x.cells[j]? = some c→Q (olds.getD (p*sz+j) undef) c) (hy:∀ (p:Nat) y,ys[p]? = some y → ∀ (j:Nat) c,y.cells[j]? = some c→Q (news.getD (p*sz+j) undef) c) :
    ∀ (p:Nat) x,(xs ++ ys)[p]? = some x → ∀ (j:Nat) c,x.cells[j]? = some c→Q ((olds ++ news).getD (p*sz+j) undef) c:=by
  intro p x hp j c hj
  rw [ybk] at hp
  split at hp
  · rename_i hlt
    have:=(zby hs hp hj).2.2
    have e:(olds ++ news).getD (p*sz+j) undef=olds.getD (p*sz+j) undef:=by
      simp [ybi,ybk,show p*sz+j<olds.length by omega]
    rw [e]
    exact hx p x hp j c hj
  · rename_i hge
    have hle:xs.length*sz≤p*sz:=yah _ (by omega)
    have e:(olds ++ news).getD (p*sz+j) undef=news.getD ((p - xs.length)*sz+j) undef:=by
      simp only [ybi,ybk,show ¬ p*sz+j<olds.length by omega,if_false]
      rw [show p*sz+j - olds.length=(p - xs.length)*sz+j by rw [ybl]; omega]
    rw [e]
    exact hy _ x hp j c hj
end
end Ev
end Go.Proofs.YtncmainjcffanaaGreat
/- Append. -/
namespace Go.Proofs.YtncmainjcffanaaGreat
namespace Ev
open Go
set_option linter.unusedSectionVars false
variable [Nw]
theorem zmp {G:GS} {h:Nat→Ent} {w:World} (i:Inv G h w) (k:Nat) (body:Body) (hd:Hd) (St':Nat→Nat) (w':World)
    (hos:w'.os=w.os) (htape:w'.tape=w.tape) (hout:w'.output=w.output) (hsize:w.heap.size≤w'.heap.size)
    (hblock:∀ b,b<w.heap.size → ¬ Owns G k b (h k).body→w'.heap[b]? = w.heap[b]? ∧ St' b=G.St b)
    (hcells:∀ b,b<w.heap.size→G.St b≤St' b ∧ ∀ j,j<G.St b→w'.cell? ⟨b,j,none⟩=w.cell? ⟨b,j,none⟩) (hst':∀ b,0<St' b→b<w'.heap.size)
    (hfr:∀ b,(Owns G k b (h k).body∨w.heap.size≤b)→0<St' b→zgv w' b)
    (hent:Ext G h w ⟨St',upd G.hd k hd⟩ (newE h k body) w'→zjc ⟨St',upd G.hd k hd⟩ (newE h k body) w' k body)
    (hown:∀ b,Owns ⟨St',upd G.hd k hd⟩ k b body→w.heap.size≤b∨Owns G k b (h k).body) :
    Step G h w ⟨St',upd G.hd k hd⟩ (newE h k body) w':=by
  have hk:(newE h k body k).body=body:=by simp [newE,upd]
  have hother:∀ q,q ≠ k→newE h k body q=h q∧upd G.hd k hd q=G.hd q:=fun q hq=>by simp [newE,upd,hq]
  have hext:Ext G h w ⟨St',upd G.hd k hd⟩ (newE h k body) w':=by
    refine ⟨⟨fun b=>?_,fun b j hj=>?_,fun b hb hf=>by
      have hlt:=i.st b hb
      by_cases ho:Owns G k b (h k).body
      · exact hfr b (.inl ho) (yad hb (hcells b hlt).1)
      · exact hf.eq (hblock b hlt ho).1⟩,fun q=>?_,fun q hq=>?_⟩
    · show G.St b≤St' b
      rcases ybm b w.heap.size with hb | hb
      · exact (hcells b hb).1
      · have:¬ 0<G.St b:=fun hp=>by have:=i.st b hp; omega
        omega
    · have hb:=i.st b (by omega)
      exact (hcells b hb).2 j hj
    · by_cases hqk:q=k
      · subst hqk; simp [newE,upd]
      · rw [(hother q hqk).1]; exact yab _
    · by_cases hqk:q=k
      · subst hqk; simp [newE,upd] at hq
      · exact ⟨(hother q hqk).2,by rw [(hother q hqk).1]; exact Body.like_refl _⟩
  have hOw:∀ q b,q ≠ k→(Owns ⟨St',upd G.hd k hd⟩ q b (newE h k body q).body ↔ Owns G q b (h q).body):=by
    intro q b hq
    obtain ⟨h1,h2⟩:=hother q hq
    rw [h1]
    cases (h q).body <;> simp only [Owns,h2]
  have hne:∀ q b,q ≠ k→Owns G q b (h q).body → ¬ Owns G k b (h k).body:=fun q b hq ho hk'=>hq (i.apart q k b ho hk')
  refine ⟨⟨hst',fun q=>?_,fun q q' b h1 h2=>?_,yac i.low hsize⟩,hext,⟨hos,htape,hout,hsize,fun b hb hn=>hblock b hb (hn k)⟩,fun q b ho=>?_,fun b h0 h1=>by
    have h1':0<St' b:=h1
    rcases ybm b w.heap.size with hb | hb
    · by_cases ho:Owns G k b (h k).body
      · exact hfr b (.inl ho) h1
      · have:=(hblock b hb ho).2
        omega
    · exact hfr b (.inr hb) h1⟩
  · by_cases hq:q=k
    · subst hq; rw [hk]; exact hent hext
    · obtain ⟨h1,h2⟩:=hother q hq
      rw [h1]
      have he:=i.ent q
      cases hb:(h q).body with
      | dead=>trivial
      | box cs fz =>
        rw [hb] at he
        obtain ⟨b,arr,el,hA,hheap,hsz,hrel,hs⟩:=he
        have hlt:=(yay.1 hheap).1
        have hbl:=hblock b hlt (hne q b hq (by rw [hb]; exact hA))
        exact ⟨b,arr,el,by show (upd G.hd k hd q).A=_; rw [h2]; exact hA,hbl.1.trans hheap,hsz,fun j c hj=>⟨(hrel j c hj).1.ext hext,(hrel j c hj).2⟩,hbl.2.trans hs⟩
      | row sz xs fz =>
        rw [hb] at he
        cases fz with
        | true =>
          refine ⟨?_,?_⟩
          · show Rel St' w' (.slice (upd G.hd k hd q).A _ (upd G.hd k hd q).cap) _
            rw [h2]
            exact he.1.keeps hext.keeps
          · show (upd G.hd k hd q).cap=_∨_
            rw [h2]
            by_cases hc:(G.hd q).cap=xs.length
            · exact .inl hc
            · rcases he.2 with hc' | ⟨b,arr,el,hA,hheap,h0,hsz,hs⟩
              · exact absurd hc' hc
              · have hlt:=(yay.1 hheap).1
                have hbl:=hblock b hlt (hne q b hq (by rw [hb]; exact ⟨hA,fun _=>hc⟩))
                exact .inr ⟨b,arr,el,by show (upd G.hd k hd q).A=_; rw [h2]; exact hA,hbl.1.trans hheap,h0,by show _=(upd G.hd k hd q).cap*_; rw [h2]; exact hsz,hbl.2.trans hs⟩
        | false =>
          rcases he with ⟨z1,z2,z3⟩ | ⟨b,arr,el,hA,hheap,hsz,hcap,hm,hcs,hrel,hs⟩
          · exact .inl ⟨by show (upd G.hd k hd q).A=_; rw [h2]; exact z1,by show (upd G.hd k hd q).cap=_; rw [h2]; exact z2,z3⟩
          have hlt:=(yay.1 hheap).1
          have hbl:=hblock b hlt (hne q b hq (by rw [hb]; exact ⟨hA,fun hf=>by cases hf⟩))
          exact .inr ⟨b,arr,el,by show (upd G.hd k hd q).A=_; rw [h2]; exact hA,hbl.1.trans hheap,by show _=(upd G.hd k hd q).cap*_; rw [h2]; exact hsz,by show (upd G.hd k hd q).cap=_∨_∧_≤(upd G.hd k hd q).cap; rw [h2]; exact hcap,hm,hcs,fun p x hp j c hj=>⟨(hrel p x hp j c hj).1.keeps hext.keeps.rwS,(hrel p x hp j c hj).2⟩,hbl.2.trans hs⟩
  · by_cases hq:q=k
    · by_cases hq':q'=k
      · rw [hq,hq']
      · subst hq
        rw [hk] at h1
        have h3:=(hOw q' b hq').1 h2
        rcases hown b h1 with hle | ho
        · have:=zio i h3; omega
        · exact absurd ho (hne q' b hq' h3)
    · by_cases hq':q'=k
      · subst hq'
        rw [hk] at h2
        have h3:=(hOw q b hq).1 h1
        rcases hown b h2 with hle | ho
        · have:=zio i h3; omega
        · exact absurd ho (hne q b hq h3)
      · exact i.apart q q' b ((hOw q b hq).1 h1) ((hOw q' b hq').1 h2)
  · by_cases hq:q=k
    · subst hq
      rw [hk] at ho
      rcases hown b ho with hle | ho'
      · exact .inr hle
      · exact .inl ⟨q,ho'⟩
    · exact .inl ⟨q,(hOw q b hq).1 ho⟩
section
variable {P:Program} {G:GS} {h:Nat→Ent} {w:World} {a:Act} {s:Nat→AV} {o:Oper}
theorem zw0 {G':GS} {w':World} (k sz:Nat) (xs:List D) (hd:Hd) (hG:G'.hd k=hd):ARel G' (newE h k (.row sz xs true)) w' (.slice hd.A xs.length hd.cap) (.rsl k ((h k).ver+1)):=by
  refine .rsl _ _ _ rfl (by simp [newE,upd]) fun _ sz' xs' fz' hb=>?_
  have hb':(newE h k (.row sz xs true) k).body = .row sz' xs' fz':=hb
  simp only [newE,upd,if_true,Body.row.injEq] at hb'
  rw [hG,← hb'.2.1]
theorem zrw (i:Inv G h w) (k:Nat) (t e:TypeId) (ty:TypeId) {size bytes:Nat} (ht:P.underlying t=some (.slice e)) (hn:sz? P e=some size) (hb:byt? P e=some bytes) (hz0:((P.info? e).bind (·.zero)).map (·.cells.size)=some size) (h0:0<size) (hb0:0<bytes)
    {A B:Option Addr} {n cap m c:Nat} {xs ys:List D} (rx:Rel G.St w (.slice A n cap) (.sl size xs)) (ry:Rel G.St w (.slice B m c) (.sl size ys)) (hroom:(xs.length+ys.length)*bytes≤zae)
    (hcap:cap=xs.length∨(Owns G k (A.getD ⟨0,0,none⟩).block (h k).body ∧ ∃ b arr el,A=some ⟨b,0,none⟩∧w.heap[b]? = some (.cells arr el (0,0))∧arr.size=cap*size∧G.St b=xs.length*size)) :
    ∃ v' w' G',(Builtin.append_ #[t,t] ty #[.slice A n cap,.slice B m c]).run P w = .ok v' w'∧Step G h w G' (newE h k (.row size (xs ++ ys) true)) w'∧ARel G' (newE h k (.row size (xs ++ ys) true)) w' v' (.rsl k ((h k).ver+1)):=by
  obtain ⟨news,hm,hnl,hn1,hnr,hna,hns,_⟩:=zhr ry
  obtain ⟨olds,hnn,hol,ho1,hor,hoa,hos,hob⟩:=zhr rx
  have hncap:n≤cap:=by cases rx; assumption
  have hlen:(xs ++ ys).length=n+m:=by simp; omega
  have hs:∀ x ∈ xs ++ ys,x.cells.length=size:=fun x hx=>by
    rcases yaY.1 hx with hx | hx
    · exact hos x hx
    · exact hns x hx
  simp only [zae] at hroom
  have hroom':n+m≤140737488355328:=by
    have:(xs.length+ys.length)*1≤(xs.length+ys.length)*bytes:=ybn _ hb0
    omega
  cases hi:P.info? e with
  | none=>simp [hi] at hz0
  | some inf =>
    simp only [sz?,hi,yak,Option.some.injEq] at hn
    simp only [byt?,hi,yak,Option.some.injEq] at hb
    simp only [hi,yaq] at hz0
    obtain ⟨z,hz,hzs⟩:=yaG.1 hz0
    rcases yaj m with hm0 | hm0
    · -- nothing is appended
      have hys:ys=[]:=ybo (by omega)
      subst hys
      have hnews:news=[]:=ybo (by rw [hnl,hm0]; simp)
      subst hm0
      refine ⟨.slice A n cap,w,⟨G.St,upd G.hd k ⟨A,cap⟩⟩,?_,zmp i k _ ⟨A,cap⟩ G.St w rfl rfl rfl (yab _) (fun _ _ _=>⟨rfl,rfl⟩) (fun _ _=>⟨yab _,fun _ _=>rfl⟩) i.st (fun b ho h0=>by rcases ho with ho | ho; exact zi8 i ho; (have:=i.st b h0; omega)) (fun hext=>⟨?_,?_⟩) (fun b hob'=>?_),?_⟩
      · cases A <;> cases B <;> simp [Builtin.append_,underlying,sizeOf,typeInfo,program,ht,hi,Builtin.lenOf,Builtin.firstCells,loadCells,loadCellsFrom,storeCells,hncap,Sem.run,Sem.run_bind,Sem.run_pure]
      · simp only [upd,if_true,ybp]
        rw [← hnn]
        exact rx
      · simp only [upd,if_true,ybp]
        rcases hcap with hc | ⟨_,b,arr,el,hA,hheap,hsz,hst⟩
        · exact .inl hc
        · exact .inr ⟨b,arr,el,hA,hheap,h0,hsz,hst⟩
      · have h1:=hob'.1
        simp only [upd,if_true] at h1
        rcases hcap with hc | ⟨hown,_⟩
        · exact absurd (by simp [upd,hc]) (hob'.2 rfl)
        · rw [h1] at hown
          exact .inr hown
      · have:=zw0 (h:=h) (G':=⟨G.St,upd G.hd k ⟨A,cap⟩⟩) (w':=w) k size (xs ++ []) ⟨A,cap⟩ (by simp [upd])
        simpa [hnn] using this
    · obtain ⟨ad,hB,hcells⟩:=hna hm0
      subst hB
      by_cases hfit:n+m≤cap
      · -- there is room
        rcases hcap with hc | ⟨hown,b,arr,el,hA,hheap,hsz,hst⟩
        · omega
        · subst hA
          simp only [Option.getD_some] at hown
          have hfits:n*inf.size+news.length≤arr.size:=by
            rw [hn,hnl,← yaQ,hsz]; exact yah _ hfit
          have hf:=run_firstCells_some (P:=P) w inf.size m ad m c news (by rw [hn]; exact hnl) hcells
          have hst2:=run_storeCells_at P b (n*inf.size) el news 0 arr w hheap (by simpa using hfits) hn1
          simp only [yan] at hst2
          have hadd:(⟨b,0,none⟩:Addr).add (n*inf.size)=⟨b,n*inf.size,none⟩:=by rw [zjg,ybj]
          have hrun:(Builtin.append_ #[t,t] ty #[.slice (some ⟨b,0,none⟩) n cap,.slice (some ad) m c]).run P w = .ok (.slice (some ⟨b,0,none⟩) (n+m) cap) (w.setRow b (arr.toList.take (n*inf.size) ++ news ++ arr.toList.drop (n*inf.size+news.length)).toArray):=by
            generalize w.setRow b (arr.toList.take (n*inf.size) ++ news ++ arr.toList.drop (n*inf.size+news.length)).toArray=W at hst2 ⊢
            simp [Builtin.append_,run_underlying ht,sizeOf,typeInfo,hi,Builtin.lenOf,hfit,hf,hadd,hst2]
          rw [hn] at hrun
          have hblt:=(yay.1 hheap).1
          have hput:(arr.toList.take (n*size) ++ news ++ arr.toList.drop (n*size+news.length))=put (n*size) news arr.toList:=rfl
          have hfits':n*size+news.length≤arr.toList.length:=by simpa [hn] using hfits
          have hgetD:∀ q,(arr.toList.take (n*size) ++ news ++ arr.toList.drop (n*size+news.length)).toArray.getD q undef=if n*size≤q∧q<n*size+news.length then news.getD (q - n*size) undef else arr.getD q undef:=by
            intro q
            rw [hput]
            have:=zlm (n*size) news arr.toList hfits' q
            simp only [yaw,yaI,this]
            split
            · rw [ybi]
            · rw [yav]
          have hadd2:(n+m)*size=n*size+news.length:=by rw [hnl,yaQ]
          let St':Nat→Nat:=upd G.St b ((n+m)*size)
          have hcellold:∀ j,j<n*size→(w.setRow b (arr.toList.take (n*size) ++ news ++ arr.toList.drop (n*size+news.length)).toArray).cell? ⟨b,j,none⟩=w.cell? ⟨b,j,none⟩:=by
            intro j hj
            simp only [World.cell?,setRow_heap w b arr _ el _ hheap,hheap]
            have:=hgetD j
            rw [if_neg (by omega)] at this
            have h1:j<(arr.toList.take (n*size) ++ news ++ arr.toList.drop (n*size+news.length)).toArray.size:=by
              simp only [yaJ,yaF,yaE,yaB,yaK]
              simp only [yaK] at hfits'
              omega
            have h2:j<arr.size:=by simp only [yaK] at hfits'; omega
            simp only [Array.getD,h1,h2,dif_pos] at this
            simp only [ybq,yao,if_false]
            rw [yal h1,yal h2]
            exact congrArg some this
          refine ⟨_,_,⟨St',upd G.hd k ⟨some ⟨b,0,none⟩,cap⟩⟩,hrun,zmp i k _ ⟨some ⟨b,0,none⟩,cap⟩ St' _ rfl rfl rfl (by simp) (fun b' hb' hno=>?_) (fun b' hb'=>?_) (fun b' hb'=>?_) (fun b' ho h0=>by by_cases hbb:b'=b; (subst hbb; exact ⟨_,el,setRow_heap w b' arr _ el _ hheap⟩); rcases ho with ho | ho; exact (zi8 i ho).eq (setRow_other w b b' _ hbb); (exfalso; have h0':0<St' b':=h0; simp [St',upd,hbb] at h0'; have:=i.st b' h0'; omega)) (fun hext=>⟨?_,?_⟩) (fun b' hob'=>?_),?_⟩
          · have hne:b' ≠ b:=fun e=>hno (e ▸ hown)
            exact ⟨setRow_other w b b' _ hne,by simp [St',upd,hne]⟩
          · by_cases hbb:b'=b
            · subst hbb
              refine ⟨by simp only [St',upd,if_true]; rw [hst,← hnn]; exact yah _ (Nat.le_add_right _ _),fun j hj=>hcellold j (by rw [hst,← hnn] at hj; exact hj)⟩
            · exact ⟨by simp [St',upd,hbb],fun j hj=>zoo hheap b' j hbb⟩
          · simp only [St',upd] at hb'
            split at hb'
            · rename_i e; rw [e]; simpa using hblt
            · simpa using i.st b' hb'
          · simp only [upd,if_true]
            refine zyh b _ el (setRow_heap w b arr _ el _ hheap) cap size (xs ++ ys) (by omega) (by omega) hs ?_ ?_ ?_
            · simp [St',upd,hlen]
            · simp only [yaJ,yaF,yaE,yaB,yaK]
              simp only [yaK] at hfits'
              simp only [yaF] at hlen
              rw [hlen]
              omega
            · intro p x hp j cc hj
              rw [hgetD]
              have hkeep:=hext.keeps
              rw [ybk] at hp
              split at hp
              · rename_i hlt
                have h3:=(zby hos hp hj).2.2
                rw [if_neg (by rw [hnn]; omega)]
                have hv:=hor p x hp j cc hj
                have hlto:p*size+j<olds.length:=by rw [hol,hnn]; exact h3
                have hc':=hob b (fun _=>rfl) _ _ (yar hlto)
                simp only [World.cell?,hheap] at hc'
                have h2:p*size+j<arr.size:=by simp only [yaK] at hfits'; rw [hnn] at hfits'; omega
                simp only [ybq,yao,if_false,yal h2,Option.some.injEq] at hc'
                have e1:arr.getD (p*size+j) undef=olds.getD (p*size+j) undef:=by
                  simp [Array.getD,h2,ybi,yar hlto,hc']
                rw [e1]
                exact ⟨hv.keeps hkeep,ho1 _ (by simp [ybi,yar hlto])⟩
              · rename_i hge
                have h3:=(zby hns hp hj).2.2
                have hle:xs.length*size≤p*size:=yah _ (by omega)
                have e2:p*size+j - n*size=(p - xs.length)*size+j:=by rw [ybl,hnn]; omega
                rw [if_pos ⟨by rw [hnn]; omega,by rw [hnl,hnn,hm]; rw [ybl] at h3; omega⟩,e2]
                have hltn:(p - xs.length)*size+j<news.length:=by rw [hnl,hm]; exact h3
                exact ⟨(hnr _ x hp j cc hj).keeps hkeep,hn1 _ (by simp [ybi,yar hltn])⟩
          · refine .inr ⟨b,_,el,by simp [upd],setRow_heap w b arr _ el _ hheap,h0,?_,by simp [St',upd,hlen]⟩
            simp only [upd,if_true,yaJ,yaF,yaE,yaB,yaK]
            simp only [yaK] at hfits'
            omega
          · have h1:=hob'.1
            simp only [upd,if_true,Option.some.injEq,Addr.mk.injEq,and_true] at h1
            subst h1
            exact .inr hown
          · have:=zw0 (h:=h) (G':=⟨St',upd G.hd k ⟨some ⟨b,0,none⟩,cap⟩⟩) (w':=w.setRow b (arr.toList.take (n*size) ++ news ++ arr.toList.drop (n*size+news.length)).toArray) k size (xs ++ ys) ⟨some ⟨b,0,none⟩,cap⟩ (by simp [upd])
            rw [hlen] at this
            exact this
      · -- a new block
        have hrunx:∃ (cap':Nat) (rest:List Value),n+m≤cap'∧rest.length=(cap' - (n+m))*size ∧
            (Builtin.append_ #[t,t] ty #[.slice A n cap,.slice (some ad) m c]).run P w = .ok (.slice (some ⟨w.heap.size,0,none⟩) (n+m) cap') (w.drew.alloc (.cells (olds ++ news ++ rest).toArray e)):=by
          cases A with
          | none =>
            have hn0:n=0:=by
              rcases yaj n with h | h
              · exact h
              · obtain ⟨_,h,_⟩:=hoa h; cases h
            have hc0:cap=0:=by
              rcases hcap with hc | ⟨_,_,_,_,h,_⟩
              · omega
              · cases h
            subst hn0
            subst hc0
            have ho0:olds=[]:=ybo (by simpa using hol)
            subst ho0
            have hr:=run_append_nil (P:=P) w t ty e inf z ht hi hz ad m c news (by rw [hn]; exact hnl) hcells hm0 (by omega) (by rw [hb]; have:=hroom; rw [← hnn,← hm] at this; simp only [ybj] at this; omega)
            refine ⟨grownCap w m 0 e,(Builtin.zeroCells z.cells (grownCap w m 0 e - m)).toList,by have:=grownCap_ge w m 0 e; omega,by simp [size_zeroCells,hzs],?_⟩
            have harr:(news.toArray ++ Builtin.zeroCells z.cells (grownCap w m 0 e - m))=([] ++ news ++ (Builtin.zeroCells z.cells (grownCap w m 0 e - m)).toList).toArray:=by
              apply ybr
              simp
            rw [hr,harr,ybj]
          | some bd =>
            have holds:∀ (j:Nat) u,olds[j]? = some u→w.cell? (bd.add j)=some u:=by
              intro j u hj
              have hjl:=(yae.1 hj).1
              have hnp:0<n:=by
                rcases yaj n with h | h
                · rw [hol,h] at hjl; simp at hjl
                · exact h
              obtain ⟨ad',he,hc⟩:=hoa hnp
              cases he
              exact hc j u hj
            have hr:=run_append_grow (P:=P) w t ty e inf z ht hi hz bd n cap olds (by rw [hn]; exact hol) holds ad m c news (by rw [hn]; exact hnl) hcells (by omega) (by omega) (growslice_fits (by omega) (by rw [hb,hnn,hm]; exact hroom))
            refine ⟨grownCap w (n+m) cap e,(Builtin.zeroCells z.cells (grownCap w (n+m) cap e - (n+m))).toList,grownCap_ge w (n+m) cap e,by simp [size_zeroCells,hzs],?_⟩
            have harr:(olds.toArray ++ news.toArray ++ Builtin.zeroCells z.cells (grownCap w (n+m) cap e - (n+m)))=(olds ++ news ++ (Builtin.zeroCells z.cells (grownCap w (n+m) cap e - (n+m))).toList).toArray:=by
              apply ybr
              simp
            rw [hr,harr]
        obtain ⟨cap',rest,hge,hrl,hrun⟩:=hrunx
        have hall:(olds ++ news ++ rest).toArray.size=cap'*size:=by
          simp only [yaJ,yaF,hol,hnl,hrl,← yaQ]
          congr 1
          omega
        have hz:G.St w.heap.size=0:=by
          rcases yaj (G.St w.heap.size) with h0 | h0
          · exact h0
          · have:=i.st _ h0; omega
        let St':Nat→Nat:=upd G.St w.heap.size ((n+m)*size)
        have hnew:(w.drew.alloc (.cells (olds ++ news ++ rest).toArray e)).heap[w.heap.size]? = some (.cells (olds ++ news ++ rest).toArray e (0,0)):=heap_alloc_new w.drew _
        have hold:∀ b',b'<w.heap.size→(w.drew.alloc (.cells (olds ++ news ++ rest).toArray e)).heap[b']? = w.heap[b']?:=fun b' hb'=>heap_alloc_old w.drew _ b' hb'
        refine ⟨_,_,⟨St',upd G.hd k ⟨some ⟨w.heap.size,0,none⟩,cap'⟩⟩,hrun,zmp i k _ ⟨some ⟨w.heap.size,0,none⟩,cap'⟩ St' _ rfl rfl rfl (by simp) (fun b' hb' _=>⟨hold b' hb',by simp [St',upd,show b' ≠ w.heap.size by omega]⟩) (fun b' hb'=>⟨by simp [St',upd,show b' ≠ w.heap.size by omega],fun j hj=>World.cell?_of_block (w:=w) (a:=⟨b',j,none⟩) (hold b' hb')⟩) (fun b' hb'=>?_) (fun b' ho h0=>by rcases ho with ho | ho; exact (zi8 i ho).eq (hold b' (zio i ho)); by_cases hbb:b'=w.heap.size; (subst hbb; exact ⟨_,_,hnew⟩); (exfalso; have h0':0<St' b':=h0; simp [St',upd,hbb] at h0'; have:=i.st b' h0'; omega)) (fun hext=>⟨?_,?_⟩) (fun b' hob'=>?_),?_⟩
        · simp only [St',upd] at hb'
          split at hb'
          · rename_i e; rw [e]; simp
          · have:=i.st b' hb'; simp; omega
        · simp only [upd,if_true]
          refine zyh w.heap.size _ e hnew cap' size (xs ++ ys) (by omega) (by omega) hs ?_ ?_ ?_
          · simp [St',upd,hlen]
          · rw [hall,hlen]; exact yah _ hge
          · intro p x hp j cc hj
            have hkeep:=hext.keeps
            have h3:=(zby hs hp hj).2.2
            rw [hlen] at h3
            have e1:(olds ++ news ++ rest).toArray.getD (p*size+j) undef=(olds ++ news).getD (p*size+j) undef:=by
              have hlt:p*size+j<(olds ++ news).length:=by simp only [yaF,hol,hnl,← yaQ]; exact h3
              simp only [yaw,yaI,ybi]
              rw [ybs hlt]
            rw [e1]
            refine zDe hos (by rw [hol,hnn]) (fun v cc=>Rel St' _ v cc∧v.oneCell'=true) (fun p x hp j cc hj=>⟨(hor p x hp j cc hj).keeps hkeep,?_⟩) (fun p y hp j cc hj=>⟨(hnr p y hp j cc hj).keeps hkeep,?_⟩) p x hp j cc hj
            · have h4:=(zby hos hp hj).2.2
              have hlto:p*size+j<olds.length:=by rw [hol,hnn]; exact h4
              exact ho1 _ (by simp [ybi,yar hlto])
            · have h4:=(zby hns hp hj).2.2
              have hltn:p*size+j<news.length:=by rw [hnl,hm]; exact h4
              exact hn1 _ (by simp [ybi,yar hltn])
        · exact .inr ⟨w.heap.size,_,e,by simp [upd],hnew,h0,by simp only [upd,if_true]; exact hall,by simp [St',upd,hlen]⟩
        · have h1:=hob'.1
          simp only [upd,if_true,Option.some.injEq,Addr.mk.injEq,and_true] at h1
          exact .inl (by omega)
        · have:=zw0 (h:=h) (G':=⟨St',upd G.hd k ⟨some ⟨w.heap.size,0,none⟩,cap'⟩⟩) (w':=w.drew.alloc (.cells (olds ++ news ++ rest).toArray e)) k size (xs ++ ys) ⟨some ⟨w.heap.size,0,none⟩,cap'⟩ (by simp [upd])
          rw [hlen] at this
          exact this
theorem zt9 {G':GS} {w':World} (k sz:Nat) (xs:List D) (fz:Bool) (hd:Hd) (hG:G'.hd k=hd):ARel G' (newE h k (.row sz xs fz)) w' (.slice hd.A xs.length hd.cap) (.rsl k ((h k).ver+1)):=by
  refine .rsl _ _ _ rfl (by simp [newE,upd]) fun _ sz' xs' fz' hb=>?_
  have hb':(newE h k (.row sz xs fz) k).body = .row sz' xs' fz':=hb
  simp only [newE,upd,if_true,Body.row.injEq] at hb'
  rw [hG,← hb'.2.1]
theorem zG7 {A:Option Addr} {m cap sz:Nat} {ys:List D} (r:Rel G.St w (.slice A m cap) (.sl sz ys)) (hy:Nw.hm=true→ys.all D.bare=true∨Rel (cutS true Nw.n G.St) w (.slice A m cap) (.sl sz ys)) :
    ∃ news:List Value,m=ys.length∧news.length=m*sz∧(∀ u ∈ news,u.oneCell'=true)∧(∀ (p:Nat) y,ys[p]? = some y → ∀ (j:Nat) c,y.cells[j]? = some c→Rel (rwS G.St) w (news.getD (p*sz+j) undef) c) ∧
      (0<m → ∃ ad,A=some ad ∧ ∀ (j:Nat) u,news[j]? = some u→w.cell? (ad.add j)=some u)∧(∀ y ∈ ys,y.cells.length=sz)∧(∀ b,(0<m→A=some ⟨b,0,none⟩) → ∀ (j:Nat) u,news[j]? = some u→w.cell? ⟨b,j,none⟩=some u):=by
  unfold rwS
  split
  · rename_i hm
    rcases hy hm with hb | hr
    · obtain ⟨news,h1,h2,h3,h4,h5⟩:=zhr r
      refine ⟨news,h1,h2,h3,fun p y hp j c hj=>?_,h5⟩
      rw [yaC] at hb
      have hyb:=hb y (yas hp)
      refine (h4 p y hp j c hj).bare1 ?_
      cases y with
      | agg cs =>
        simp only [D.bare,yaC] at hyb
        exact hyb c (yas hj)
      | _ =>
        simp only [D.cells] at hj
        cases j with
        | zero=>cases hj; exact hyb
        | succ j=>simp at hj
    · exact zhr hr
  · exact zhr r
theorem zs9 (i:Inv G h w) (k:Nat) (t e:TypeId) (ty:TypeId) {size bytes:Nat} (ht:P.underlying t=some (.slice e)) (hn:sz? P e=some size) (hb:byt? P e=some bytes) (hz0:((P.info? e).bind (·.zero)).map (·.cells.size)=some size) (h0:0<size) (hb0:0<bytes)
    {B:Option Addr} {m c:Nat} {xs ys:List D} (hbk:(h k).body = .row size xs false) (ry:Rel G.St w (.slice B m c) (.sl size ys)) (hy:Nw.hm=true→ys.all D.bare=true∨Rel (cutS true Nw.n G.St) w (.slice B m c) (.sl size ys)) (hroom:(xs.length+ys.length)*bytes≤zae) :
    ∃ v' w' G',(Builtin.append_ #[t,t] ty #[.slice (G.hd k).A xs.length (G.hd k).cap,.slice B m c]).run P w = .ok v' w'∧Step G h w G' (newE h k (.row size (xs ++ ys) false)) w'∧ARel G' (newE h k (.row size (xs ++ ys) false)) w' v' (.rsl k ((h k).ver+1)):=by
  obtain ⟨news,hm,hnl,hn1,hnr,hna,hns,_⟩:=zG7 ry hy
  have hk:=i.ent k
  rw [hbk] at hk
  have hlen:(xs ++ ys).length=xs.length+m:=by simp; omega
  simp only [zae] at hroom
  have hroom':xs.length+m≤140737488355328:=by
    have:(xs.length+ys.length)*1≤(xs.length+ys.length)*bytes:=ybn _ hb0
    omega
  cases hi:P.info? e with
  | none=>simp [hi] at hz0
  | some inf =>
    simp only [sz?,hi,yak,Option.some.injEq] at hn
    simp only [byt?,hi,yak,Option.some.injEq] at hb
    simp only [hi,yaq] at hz0
    obtain ⟨z,hz,hzs⟩:=yaG.1 hz0
    have hncap:xs.length≤(G.hd k).cap:=by
      rcases hk with ⟨_,_,z3⟩ | ⟨_,_,_,_,_,_,hcap,_⟩
      · subst z3; exact yaR _
      · rcases hcap with h | h <;> omega
    rcases yaj m with hm0 | hm0
    · -- nothing is appended
      have hys:ys=[]:=ybo (by omega)
      subst hys
      have hnews:news=[]:=ybo (by rw [hnl,hm0]; simp)
      subst hm0
      refine ⟨.slice (G.hd k).A xs.length (G.hd k).cap,w,⟨G.St,upd G.hd k (G.hd k)⟩,?_,zmp i k _ (G.hd k) G.St w rfl rfl rfl (yab _) (fun _ _ _=>⟨rfl,rfl⟩) (fun _ _=>⟨yab _,fun _ _=>rfl⟩) i.st (fun b ho h0=>by rcases ho with ho | ho; exact zi8 i ho; (have:=i.st b h0; omega)) (fun hext=>?_) (fun b hob'=>?_),?_⟩
      · generalize (G.hd k).A=A at hncap ⊢
        cases A <;> cases B <;> simp [Builtin.append_,underlying,sizeOf,typeInfo,program,ht,hi,Builtin.lenOf,Builtin.firstCells,loadCells,loadCellsFrom,storeCells,hncap,Sem.run,Sem.run_bind,Sem.run_pure]
      · rw [ybp]
        rcases hk with ⟨z1,z2,z3⟩ | ⟨b,arr,el,hA,hheap,hsz,hcap,hmx,hcs,hrel,hst⟩
        · exact .inl ⟨by simp only [upd,if_true]; exact z1,by simp only [upd,if_true]; exact z2,z3⟩
        · exact .inr ⟨b,arr,el,by simp only [upd,if_true]; exact hA,hheap,by simp only [upd,if_true]; exact hsz,by simp only [upd,if_true]; exact hcap,hmx,hcs,fun p x hp j c hj=>⟨(hrel p x hp j c hj).1.keeps hext.keeps.rwS,(hrel p x hp j c hj).2⟩,hst⟩
      · have h1:=hob'.1
        simp only [upd,if_true] at h1
        rw [hbk]
        exact .inr ⟨h1,fun hf=>by cases hf⟩
      · have:=zt9 (h:=h) (G':=⟨G.St,upd G.hd k (G.hd k)⟩) (w':=w) k size (xs ++ []) false (G.hd k) (by simp [upd])
        simpa using this
    · obtain ⟨ad,hB,hcells⟩:=hna hm0
      subst hB
      have grow:∀ (olds:List Value) (cap':Nat) (rest:List Value),olds.length=xs.length*size→(∀ x ∈ xs,x.cells.length=size)→(∀ u ∈ olds,u.oneCell'=true)→(∀ (p:Nat) x,xs[p]? = some x → ∀ (j:Nat) cc,x.cells[j]? = some cc→Rel (rwS G.St) w (olds.getD (p*size+j) undef) cc) →
          xs.length+m≤cap'→rest.length=(cap' - (xs.length+m))*size →
          (Builtin.append_ #[t,t] ty #[.slice (G.hd k).A xs.length (G.hd k).cap,.slice (some ad) m c]).run P w = .ok (.slice (some ⟨w.heap.size,0,none⟩) (xs.length+m) cap') (w.drew.alloc (.cells (olds ++ news ++ rest).toArray e)) →
          ∃ v' w' G',(Builtin.append_ #[t,t] ty #[.slice (G.hd k).A xs.length (G.hd k).cap,.slice (some ad) m c]).run P w = .ok v' w'∧Step G h w G' (newE h k (.row size (xs ++ ys) false)) w'∧ARel G' (newE h k (.row size (xs ++ ys) false)) w' v' (.rsl k ((h k).ver+1)):=by
        intro olds cap' rest hol hos ho1 hor hge hrl hrun
        have hs:∀ x ∈ xs ++ ys,x.cells.length=size:=fun x hx=>by
          rcases yaY.1 hx with hx | hx
          · exact hos x hx
          · exact hns x hx
        have hall:(olds ++ news ++ rest).toArray.size=cap'*size:=by
          simp only [yaJ,yaF,hol,hnl,hrl,← yaQ]
          congr 1
          omega
        have hzz:G.St w.heap.size=0:=by
          rcases yaj (G.St w.heap.size) with h0 | h0
          · exact h0
          · have:=i.st _ h0; omega
        have hnew:(w.drew.alloc (.cells (olds ++ news ++ rest).toArray e)).heap[w.heap.size]? = some (.cells (olds ++ news ++ rest).toArray e (0,0)):=heap_alloc_new w.drew _
        have hold:∀ b',b'<w.heap.size→(w.drew.alloc (.cells (olds ++ news ++ rest).toArray e)).heap[b']? = w.heap[b']?:=fun b' hb'=>heap_alloc_old w.drew _ b' hb'
        refine ⟨_,_,⟨G.St,upd G.hd k ⟨some ⟨w.heap.size,0,none⟩,cap'⟩⟩,hrun,zmp i k _ ⟨some ⟨w.heap.size,0,none⟩,cap'⟩ G.St _ rfl rfl rfl (by simp) (fun b' hb' _=>⟨hold b' hb',rfl⟩) (fun b' hb'=>⟨yab _,fun j hj=>World.cell?_of_block (w:=w) (a:=⟨b',j,none⟩) (hold b' hb')⟩) (fun b' hb'=>by have:=i.st b' hb'; simp; omega) (fun b' ho h0=>by rcases ho with ho | ho; exact (zi8 i ho).eq (hold b' (zio i ho)); (have:=i.st b' h0; omega)) (fun hext=>?_) (fun b' hob'=>?_),?_⟩
        · refine .inr ⟨w.heap.size,_,e,by simp [upd],hnew,by simp only [upd,if_true]; exact hall,.inr ⟨h0,by simp only [upd,if_true]; rw [hlen]; exact hge⟩,by omega,hs,fun p x hp j cc hj=>?_,hzz⟩
          have hkeep:=hext.keeps.rwS
          have h3:=(zby hs hp hj).2.2
          rw [hlen] at h3
          have e1:(olds ++ news ++ rest).toArray.getD (p*size+j) undef=(olds ++ news).getD (p*size+j) undef:=by
            have hlt:p*size+j<(olds ++ news).length:=by simp only [yaF,hol,hnl,← yaQ]; exact h3
            simp only [yaw,yaI,ybi]
            rw [ybs hlt]
          rw [e1]
          refine zDe hos hol (fun v cc=>Rel (rwS G.St) _ v cc∧v.oneCell'=true) (fun p x hp j cc hj=>⟨(hor p x hp j cc hj).keeps hkeep,?_⟩) (fun p y hp j cc hj=>⟨(hnr p y hp j cc hj).keeps hkeep,?_⟩) p x hp j cc hj
          · have h4:=(zby hos hp hj).2.2
            have hlto:p*size+j<olds.length:=by rw [hol]; exact h4
            exact ho1 _ (by simp [ybi,yar hlto])
          · have h4:=(zby hns hp hj).2.2
            have hltn:p*size+j<news.length:=by rw [hnl,hm]; exact h4
            exact hn1 _ (by simp [ybi,yar hltn])
        · have h1:=hob'.1
          simp only [upd,if_true,Option.some.injEq,Addr.mk.injEq,and_true] at h1
          exact .inl (by omega)
        · have:=zt9 (h:=h) (G':=⟨G.St,upd G.hd k ⟨some ⟨w.heap.size,0,none⟩,cap'⟩⟩) (w':=w.drew.alloc (.cells (olds ++ news ++ rest).toArray e)) k size (xs ++ ys) false ⟨some ⟨w.heap.size,0,none⟩,cap'⟩ (by simp [upd])
          rw [hlen] at this
          exact this
      rcases hk with ⟨z1,z2,z3⟩ | ⟨b,arr,el,hA,hheap,hsz,hcap,hmx,hcs,hrel,hst⟩
      · -- none yet
        subst z3
        refine grow [] (grownCap w m 0 e) (Builtin.zeroCells z.cells (grownCap w m 0 e - m)).toList (by simp) (by simp) (by simp) (by simp) (by have:=grownCap_ge w m 0 e; simpa using this) (by simp [size_zeroCells,hzs]) ?_
        have hr:=run_append_nil (P:=P) w t ty e inf z ht hi hz ad m c news (by rw [hn]; exact hnl) hcells hm0 (by simp only [ybt,ybj] at hroom'; omega) (by rw [hb]; rw [← hm] at hroom; simp only [ybt,ybj] at hroom; omega)
        have harr:(news.toArray ++ Builtin.zeroCells z.cells (grownCap w m 0 e - m))=([] ++ news ++ (Builtin.zeroCells z.cells (grownCap w m 0 e - m)).toList).toArray:=by
          apply ybr
          simp
        rw [z1,z2,ybt,hr,harr,ybj]
      · have hcl:xs.length*size≤arr.size:=by rw [hsz]; exact yah _ hncap
        have hos:=hcs
        by_cases hfit:xs.length+m≤(G.hd k).cap
        · -- there is room
          have hfits:xs.length*size+news.length≤arr.size:=by
            rw [hnl,← yaQ,hsz]; exact yah _ hfit
          have hf:=run_firstCells_some (P:=P) w inf.size m ad m c news (by rw [hn]; exact hnl) hcells
          have hst2:=run_storeCells_at P b (xs.length*size) el news 0 arr w hheap (by simpa using hfits) hn1
          simp only [yan] at hst2
          have hadd:(⟨b,0,none⟩:Addr).add (xs.length*inf.size)=⟨b,xs.length*size,none⟩:=by rw [zjg,ybj,hn]
          have hrun:(Builtin.append_ #[t,t] ty #[.slice (some ⟨b,0,none⟩) xs.length (G.hd k).cap,.slice (some ad) m c]).run P w = .ok (.slice (some ⟨b,0,none⟩) (xs.length+m) (G.hd k).cap) (w.setRow b (arr.toList.take (xs.length*size) ++ news ++ arr.toList.drop (xs.length*size+news.length)).toArray):=by
            generalize w.setRow b (arr.toList.take (xs.length*size) ++ news ++ arr.toList.drop (xs.length*size+news.length)).toArray=W at hst2 ⊢
            simp [Builtin.append_,run_underlying ht,sizeOf,typeInfo,hi,Builtin.lenOf,hfit,hf,hadd,hst2]
          have hblt:=(yay.1 hheap).1
          have hput:(arr.toList.take (xs.length*size) ++ news ++ arr.toList.drop (xs.length*size+news.length))=put (xs.length*size) news arr.toList:=rfl
          have hfits':xs.length*size+news.length≤arr.toList.length:=by simpa using hfits
          have hgetD:∀ q,(arr.toList.take (xs.length*size) ++ news ++ arr.toList.drop (xs.length*size+news.length)).toArray.getD q undef=if xs.length*size≤q∧q<xs.length*size+news.length then news.getD (q - xs.length*size) undef else arr.getD q undef:=by
            intro q
            rw [hput]
            have:=zlm (xs.length*size) news arr.toList hfits' q
            simp only [yaw,yaI,this]
            split
            · rw [ybi]
            · rw [yav]
          have hown:Owns G k b (h k).body:=by rw [hbk]; exact ⟨hA,fun hf=>by cases hf⟩
          have hs:∀ x ∈ xs ++ ys,x.cells.length=size:=fun x hx=>by
            rcases yaY.1 hx with hx | hx
            · exact hos x hx
            · exact hns x hx
          rw [hA]
          refine ⟨_,_,⟨G.St,upd G.hd k ⟨some ⟨b,0,none⟩,(G.hd k).cap⟩⟩,hrun,zmp i k _ ⟨some ⟨b,0,none⟩,(G.hd k).cap⟩ G.St _ rfl rfl rfl (by simp) (fun b' hb' hno=>?_) (fun b' hb'=>?_) (fun b' hb'=>?_) (fun b' ho h0=>by by_cases hbb:b'=b; (subst hbb; exact ⟨_,el,setRow_heap w b' arr _ el _ hheap⟩); rcases ho with ho | ho; exact (zi8 i ho).eq (setRow_other w b b' _ hbb); (have:=i.st b' h0; omega)) (fun hext=>?_) (fun b' hob'=>?_),?_⟩
          · have hne:b' ≠ b:=fun e=>hno (e ▸ hown)
            exact ⟨setRow_other w b b' _ hne,rfl⟩
          · by_cases hbb:b'=b
            · subst hbb
              exact ⟨yab _,fun j hj=>by omega⟩
            · exact ⟨yab _,fun j hj=>zoo hheap b' j hbb⟩
          · simpa using i.st b' hb'
          · refine .inr ⟨b,_,el,by simp [upd],setRow_heap w b arr _ el _ hheap,?_,.inr ⟨h0,by simp only [upd,if_true]; rw [hlen]; exact hfit⟩,by omega,hs,fun p x hp j cc hj=>?_,hst⟩
            · simp only [upd,if_true,yaJ,yaF,yaE,yaB,yaK]
              rw [← hsz]
              omega
            · rw [hgetD]
              have hkeep:=hext.keeps.rwS
              rw [ybk] at hp
              split at hp
              · rename_i hlt
                have h3:=(zby hos hp hj).2.2
                rw [if_neg (by omega)]
                exact ⟨(hrel p x hp j cc hj).1.keeps hkeep,(hrel p x hp j cc hj).2⟩
              · rename_i hge
                have h3:=(zby hns hp hj).2.2
                have hle:xs.length*size≤p*size:=yah _ (by omega)
                have e2:p*size+j - xs.length*size=(p - xs.length)*size+j:=by rw [ybl]; omega
                rw [if_pos ⟨by omega,by rw [hnl,hm]; rw [ybl] at h3; omega⟩,e2]
                have hltn:(p - xs.length)*size+j<news.length:=by rw [hnl,hm]; exact h3
                exact ⟨(hnr _ x hp j cc hj).keeps hkeep,hn1 _ (by simp [ybi,yar hltn])⟩
          · have h1:=hob'.1
            simp only [upd,if_true,Option.some.injEq,Addr.mk.injEq,and_true] at h1
            subst h1
            exact .inr hown
          · have:=zt9 (h:=h) (G':=⟨G.St,upd G.hd k ⟨some ⟨b,0,none⟩,(G.hd k).cap⟩⟩) (w':=w.setRow b (arr.toList.take (xs.length*size) ++ news ++ arr.toList.drop (xs.length*size+news.length)).toArray) k size (xs ++ ys) false ⟨some ⟨b,0,none⟩,(G.hd k).cap⟩ (by simp [upd])
            rw [hlen] at this
            exact this
        · -- a new block
          have hol:(arr.toList.take (xs.length*size)).length=xs.length*size:=by simp only [yaE,yaK]; omega
          have hget:∀ q,q<xs.length*size→(arr.toList.take (xs.length*size)).getD q undef=arr.getD q undef:=by
            intro q hq
            have hqa:q<arr.size:=by omega
            simp only [ybi,yaO,hq,if_true,yav,yaw]
          have holds:∀ (j:Nat) u,(arr.toList.take (xs.length*size))[j]? = some u→w.cell? ((⟨b,0,none⟩:Addr).add j)=some u:=by
            intro j u hj
            have hjl:=(yae.1 hj).1
            rw [hol] at hjl
            simp only [yaO,hjl,if_true,yav] at hj
            rw [zjg,ybj]
            simp only [World.cell?,hheap,ybq,yao,if_false]
            exact hj
          have ho1:∀ u ∈ arr.toList.take (xs.length*size),u.oneCell'=true:=by
            intro u hu
            obtain ⟨q,hq⟩:=List.getElem?_of_mem hu
            have hql:=(yae.1 hq).1
            rw [hol] at hql
            have e:arr.getD q undef=u:=by rw [← hget q hql,ybi,hq]; rfl
            have hpl:q / size<xs.length:=by rw [Nat.div_lt_iff_lt_mul h0]; exact hql
            have hjl:q % size<xs[q / size].cells.length:=by rw [hos _ (yaf hpl)]; exact Nat.mod_lt _ h0
            have:=(hrel (q / size) _ (yar hpl) (q % size) _ (yar hjl)).2
            have e3:q / size*size+q % size=q:=by rw [ybg]; exact ybh q size
            rw [e3,e] at this
            exact this
          refine grow (arr.toList.take (xs.length*size)) (grownCap w (xs.length+m) (G.hd k).cap e) (Builtin.zeroCells z.cells (grownCap w (xs.length+m) (G.hd k).cap e - (xs.length+m))).toList hol hos ho1 (fun p x hp j cc hj=>?_) (grownCap_ge w (xs.length+m) (G.hd k).cap e) (by simp [size_zeroCells,hzs]) ?_
          · have h3:=(zby hos hp hj).2.2
            rw [hget _ h3]
            exact (hrel p x hp j cc hj).1
          have hr:=run_append_grow (P:=P) w t ty e inf z ht hi hz ⟨b,0,none⟩ xs.length (G.hd k).cap (arr.toList.take (xs.length*size)) (by rw [hn]; exact hol) holds ad m c news (by rw [hn]; exact hnl) hcells (by omega) (by omega) (growslice_fits (by omega) (by rw [hb,hm]; exact hroom))
          have harr:((arr.toList.take (xs.length*size)).toArray ++ news.toArray ++ Builtin.zeroCells z.cells (grownCap w (xs.length+m) (G.hd k).cap e - (xs.length+m)))=((arr.toList.take (xs.length*size)) ++ news ++ (Builtin.zeroCells z.cells (grownCap w (xs.length+m) (G.hd k).cap e - (xs.length+m))).toList).toArray:=by
            apply ybr
            simp
          rw [hA,hr,harr]
theorem zBk (i:Inv G h w) {v:Value} {av:AV} (r:ARel G h w v av) {sz:Nat} {xs:List D} (he:zpb h av=some (sz,xs)):Rel G.St w v (.sl sz xs):=by
  unfold zpb at he
  split at he
  · simp only [Option.some.injEq,Prod.mk.injEq] at he
    obtain ⟨rfl,rfl⟩:=he
    exact r.d_inv
  · simp only [Option.some.injEq,Prod.mk.injEq] at he
    obtain ⟨rfl,rfl⟩:=he
    exact r.nInv
  · simp only [Option.some.injEq,Prod.mk.injEq] at he
    obtain ⟨rfl,rfl⟩:=he
    cases r with | fsl A n _ _ hr=>exact hr
  · rename_i k ver
    split at he
    · rename_i hver
      split at he
      · rename_i sz' xs' hb
        simp only [Option.some.injEq,Prod.mk.injEq] at he
        obtain ⟨rfl,rfl⟩:=he
        have hent:=i.ent k
        rw [hb] at hent
        cases r with
        | rsl _ _ _ hone_ hle hv =>
          rw [hv hver _ _ _ hb]
          exact hent.1
      · cases he
    · cases he
  · cases he
theorem zKa (i:Inv G h w) {v:Value} {av:AV} (r:ARel G h w v av) {sz:Nat} {xs:List D} (he:zpb h av=some (sz,xs)) (hh:av.hiY=true):xs.all D.bare=true∨Rel (cutS true Nw.n G.St) w v (.sl sz xs):=by
  unfold zpb at he
  split at he
  · cases he; exact .inl hh
  · cases he
    simp only [AV.hiY] at hh
    subst hh
    cases r with | n _ _ _ _ hr=>exact .inr hr
  · cases he; exact .inl hh
  · simp [AV.hiY] at hh
  · cases he
theorem zy7 {St:Nat→Nat} (t e:TypeId) (ty:TypeId) {size bytes:Nat} (ht:P.underlying t=some (.slice e)) (hn:sz? P e=some size) (hb:byt? P e=some bytes) (hz0:((P.info? e).bind (·.zero)).map (·.cells.size)=some size) (h0:0<size) (hb0:0<bytes)
    {B:Option Addr} {m c:Nat} {ys:List D} (ry:Rel St w (.slice B m c) (.sl size ys)) (hyn:ys ≠ []) (hroom:(([]:List D).length+ys.length)*bytes≤zae) (ad0:Addr) :
    (Builtin.append_ #[t,t] ty #[.slice (some ad0) 0 0,.slice B m c]).run P w=(Builtin.append_ #[t,t] ty #[.slice none ([]:List D).length 0,.slice B m c]).run P w:=by
  obtain ⟨news,hm,hnl,hn1,hnr,hna,hns,_⟩:=zhr ry
  have hm0:0<m:=by
    rcases yaj m with h | h
    · exact absurd (ybo (by omega)) hyn
    · exact h
  simp only [ybt,ybj,zae] at hroom
  have hroom':m≤140737488355328:=by
    have:ys.length*1≤ys.length*bytes:=ybn _ hb0
    omega
  cases hi:P.info? e with
  | none=>simp [hi] at hz0
  | some inf =>
    simp only [sz?,hi,yak,Option.some.injEq] at hn
    simp only [byt?,hi,yak,Option.some.injEq] at hb
    simp only [hi,yaq] at hz0
    obtain ⟨z,hz,hzs⟩:=yaG.1 hz0
    obtain ⟨ad,hB,hcells⟩:=hna hm0
    subst hB
    have h1:=run_append_nil (P:=P) w t ty e inf z ht hi hz ad m c news (by rw [hn]; exact hnl) hcells hm0 (by omega) (by rw [hb]; rw [← hm] at hroom; omega)
    have h2:=run_append_grow (P:=P) w t ty e inf z ht hi hz ad0 0 0 [] (by simp) (by simp) ad m c news (by rw [hn]; exact hnl) hcells (by omega) (by omega) (growslice_fits (by omega) (by rw [hb,ybj]; rw [← hm] at hroom; exact hroom))
    rw [ybt,h1,h2]
    simp
theorem zJj (i:Inv G h w) (sl:zc0 G h w a s) (t e:TypeId) (x y:Operand) {size bytes:Nat} (ht:P.underlying t=some (.slice e)) (hn:sz? P e=some size) (hb:byt? P e=some bytes) (hz0:((P.info? e).bind (·.zero)).map (·.cells.size)=some size) (h0:0<size) (hb0:0<bytes)
    {av:AV} {h':Nat→Ent} (dst:Option Nat) (hact:act dst ⟨s,h⟩ (.app size bytes (copd P t x) (copd P t y))=some (av,h')) (ho:o.op = .call { callee:=.builtin .append,args:=#[x,y],argTypes:=#[t,t] }) (hg:Nw.hm=true→gate s (.app size bytes (copd P t x) (copd P t y))):Did P G h w ((execOp a.eval o).run P w) av h':=by
  have h1:=za0 P sl t x
  have h2:=za0 P sl t y
  simp only [act] at hact
  split at hact
  · rename_i sy ys hy
    split at hact
    · rename_i hsy
      subst hsy
      have ry:=zBk i h2 hy
      have ryh:=fun hm:Nw.hm=true=>zKa i h2 hy (hg hm)
      generalize hyv:a.eval y=yv at ry ryh
      have hys:∃ B m c,yv = .slice B m c:=by cases ry; exact ⟨_,_,_,rfl⟩
      obtain ⟨B,m,c,rfl⟩:=hys
      split at hact
      · rename_i k v hx
        rw [hx] at h1
        split at hact
        · rename_i hver
          split at hact
          · rename_i sz xs fz hbk
            split at hact
            · rename_i hc
              obtain ⟨rfl,hroom⟩:=hc
              simp only [Option.some.injEq,Prod.mk.injEq] at hact
              obtain ⟨rfl,rfl⟩:=hact
              have he:=i.ent k
              rw [hbk] at he
              generalize hxv:a.eval x=xv at h1
              cases h1 with
              | rsl _ _ _ hone_ hle hv =>
                have hxe:=hv hver _ _ _ hbk
                subst hxe
                cases fz with
                | false =>
                  obtain ⟨v',w',G',hrun,hs,hr⟩:=zs9 (P:=P) i k t e o.type ht hn hb hz0 h0 hb0 hbk ry ryh hroom
                  rw [hver]
                  exact ⟨v',w',G',.inl (by simp [execOp,ho,resolve,invoke,builtin,hxv,hyv,hrun,Sem.run_bind,Sem.run_pure]),hs,hr⟩
                | true =>
                obtain ⟨v',w',G',hrun,hs,hr⟩:=zrw (P:=P) i k t e o.type ht hn hb hz0 h0 hb0 he.1 ry hroom (by
                  by_cases hcl:(G.hd k).cap=xs.length
                  · exact .inl hcl
                  · rcases he.2 with hc | ⟨b,arr,el,hA,hheap,_,hsz,hst⟩
                    · exact .inl hc
                    · refine .inr ⟨?_,b,arr,el,hA,hheap,hsz,hst⟩
                      rw [hbk,hA]
                      exact ⟨hA,fun _=>hcl⟩)
                rw [hver]
                exact ⟨v',w',G',.inl (by simp [execOp,ho,resolve,invoke,builtin,hxv,hyv,hrun,Sem.run_bind,Sem.run_pure]),hs,hr⟩
            · cases hact
          · cases hact
        · cases hact
      · rename_i sz xs hx
        rw [hx] at h1
        cases dst with
        | none=>simp at hact
        | some k =>
          simp only [yaq] at hact
          split at hact
          · rename_i hc
            obtain ⟨rfl,hroom⟩:=hc
            split at hact
            · rename_i hnil
              obtain ⟨rfl,hyn⟩:=hnil
              simp only [Option.some.injEq,Prod.mk.injEq] at hact
              obtain ⟨rfl,rfl⟩:=hact
              generalize hxv:a.eval x=xv at h1
              cases h1 with
              | fsl A n _ _ hr =>
                have hnn:n=0:=by cases hr; rfl
                subst hnn
                have hs1:Step G h w ⟨G.St,upd G.hd k ⟨none,0⟩⟩ (newE h k (.row sz [] false)) w:=zsy i k _ _ _ _ rfl rfl rfl (yab _) (fun _ _=>rfl) (fun _ _=>rfl) i.st (fun b hb h0=>by have:=i.st b h0; omega) (fun _=>.inl ⟨by simp [upd],by simp [upd],rfl⟩) (fun b hb=>by
                  have:=hb.1
                  simp [upd] at this)
                have hbk:(newE h k (.row sz [] false) k).body = .row sz [] false:=by simp [newE,upd]
                obtain ⟨v',w',G',hrun,hs,hr'⟩:=zs9 (P:=P) hs1.inv k t e o.type ht hn hb hz0 h0 hb0 hbk ry ryh hroom
                have hrun':(Builtin.append_ #[t,t] o.type #[.slice A 0 0,.slice B m c]).run P w = .ok v' w':=by
                  rw [← hrun]
                  have e1:((⟨G.St,upd G.hd k ⟨none,0⟩⟩:GS).hd k).A=none∧((⟨G.St,upd G.hd k ⟨none,0⟩⟩:GS).hd k).cap=0:=by simp [upd]
                  rw [e1.1,e1.2]
                  cases A with
                  | none=>rfl
                  | some ad0=>exact zy7 (P:=P) t e o.type ht hn hb hz0 h0 hb0 ry hyn hroom ad0
                have he:newE (newE h k (.row sz [] false)) k (.row sz ([] ++ ys) false)=upd h k ⟨(h k).ver+2,.row sz ys false⟩:=by
                  funext q
                  simp only [newE,upd]
                  split <;> simp
                have hv2:(newE h k (.row sz [] false) k).ver+1=(h k).ver+2:=by simp [newE,upd]
                rw [he,hv2] at hr'
                rw [he] at hs
                exact ⟨v',w',G',.inl (by simp [execOp,ho,resolve,invoke,builtin,hxv,hyv,hrun',Sem.run_bind,Sem.run_pure]),hs1.trans hs,hr'⟩
            · simp only [Option.some.injEq,Prod.mk.injEq] at hact
              obtain ⟨rfl,rfl⟩:=hact
              generalize hxv:a.eval x=xv at h1
              cases h1 with
              | fsl A n _ _ hr =>
                have hnn:n=xs.length:=by cases hr; rfl
                obtain ⟨v',w',G',hrun,hs,hr'⟩:=zrw (P:=P) i k t e o.type ht hn hb hz0 h0 hb0 hr ry hroom (.inl hnn)
                exact ⟨v',w',G',.inl (by simp [execOp,ho,resolve,invoke,builtin,hxv,hyv,hrun,Sem.run_bind,Sem.run_pure]),hs,hr'⟩
          · cases hact
      · cases hact
    · cases hact
  · cases hact
end
end Ev
end Go.Proofs.YtncmainjcffanaaGreat
/- The meaning of the small language,and that the machine keeps to it: one operation. -/
namespace Go.Proofs.YtncmainjcffanaaGreat
namespace Ev
open Go
set_option linter.unusedSectionVars false
variable [Nw]
section
variable {P:Program} {G:GS} {h:Nat→Ent} {w:World} {a:Act} {s:Nat→AV} {o:Oper}
theorem bind_some {α β:Type} {x:Option α} {f:α→Option β} {b:β} (h:x.bind f=some b):∃ y,x=some y∧f y=some b:=Option.bind_eq_some_iff.1 h
theorem map_some {α β:Type} {x:Option α} {f:α→β} {b:β} (h:x.map f=some b):∃ y,x=some y∧f y=b:=yaG.1 h
theorem zi5 {t e:TypeId} (h:zu0 P t=some e):P.underlying t=some (.slice e):=by
  unfold zu0 at h
  split at h
  · rename_i e' hu
    simp only [Option.some.injEq] at h
    rw [hu,h]
  · cases h
theorem ztk (i:Inv G h w) (sl:zc0 G h w a s) {x:XOp} (hc:cop P o=some x) {av:AV} {h':Nat→Ent} (hact:act o.dst ⟨s,h⟩ x=some (av,h')) (hgt:Nw.hm=true→gate s x):Did P G h w ((execOp a.eval o).run P w) av h':=by
  unfold cop at hc
  split at hc
  case h_1 y ho =>
    cases hc
    simp only [act,Option.some.injEq,Prod.mk.injEq] at hact
    obtain ⟨rfl,rfl⟩:=hact
    exact zA4 i sl _ y (.inl ho)
  case h_2 y ho =>
    split at hc
    · obtain ⟨z,hz,rfl⟩:=map_some hc
      exact zCj i o.type o.dst hact ho
    · cases hc
      simp only [act,Option.some.injEq,Prod.mk.injEq] at hact
      obtain ⟨rfl,rfl⟩:=hact
      exact zA4 i sl _ _ (.inr ho)
  case h_3 c y z ho =>
    cases hc
    simp only [act] at hact
    split at hact
    · rename_i b hb
      simp only [Option.some.injEq,Prod.mk.injEq] at hact
      obtain ⟨rfl,rfl⟩:=hact
      exact zGk i sl _ c y z b hb ho
    · cases hact
  case h_4 e ho =>
    obtain ⟨cs,hz,rfl⟩:=map_some hc
    exact zE0 i sl e hz o.dst hact ho
  case h_5 e y ho =>
    cases hc
    exact zJa i sl e y o.dst hact ho
  case h_6 t y ho =>
    obtain ⟨n,hn,hc⟩:=bind_some hc
    obtain ⟨g,hg,rfl⟩:=map_some hc
    exact zG0 i sl t y hn hg o.dst hact ho
  case h_7 t y z ho =>
    obtain ⟨n,hn,rfl⟩:=map_some hc
    exact zEb i sl t y z hn o.dst hact ho hgt
  case h_8 y ho =>
    cases hc
    exact zE9 i sl y o.dst hact ho
  case h_9 op xt y z yt ho =>
    split at hc
    · rename_i hu
      cases hc
      exact zFo i sl op xt yt y z o.dst hact hu ho
    · cases hc
      exact zK8 i sl op xt yt y z o.dst hact ho
    · cases hc
  case h_10 op xt y ho =>
    cases hc
    exact zMs i sl xt op y o.dst hact ho
  case h_11 src dst y ho =>
    split at hc
    · rename_i u k hs hd
      cases hc
      exact zGj i sl src dst k y o.dst hact hs hd ho
    · cases hc
  case h_12 fn first caps ho =>
    split at hc
    · rename_i f hfi
      cases hc
      have:first = #[]:=by apply ybr; rw [hfi]
      subst this
      exact zIy i sl f caps o.dst hact ho
    · cases hc
  case h_13 t l c ho =>
    split at hc
    · rename_i l' c' 
      split at hc
      · rename_i hl
        subst hl
        obtain ⟨e,he,hc⟩:=bind_some hc
        obtain ⟨z,hz,hc⟩:=bind_some hc
        obtain ⟨n,hn,hc⟩:=bind_some hc
        obtain ⟨b,hb,hc⟩:=bind_some hc
        split at hc
        · rename_i h0
          cases hc
          exact zJw i sl t e (.tmp l') (zi5 he) hz hn hb h0.1 h0.2 o.dst hact ho
        · cases hc
      · cases hc
    · cases hc
  case h_14 t y lo hi mx ho =>
    split at hc
    · rename_i e he
      obtain ⟨n,hn,rfl⟩:=map_some hc
      exact zC6 i sl t e y lo hi (zi5 he) hn o.dst hact ho
    · cases hc
  case h_15 t y f ho =>
    split at hc
    · rename_i fs hu
      obtain ⟨fl,hf,hc⟩:=bind_some hc
      obtain ⟨n,hn,hc⟩:=bind_some hc
      split at hc
      · cases hc
      · rename_i hn0
        cases hc
        exact zEt i sl t y f hu hf hn hn0 o.dst hact ho
    · cases hc
  case h_16 t y f ho =>
    split at hc
    · rename_i fs hu
      obtain ⟨fl,hf,hc⟩:=bind_some hc
      obtain ⟨n,hn,hc⟩:=bind_some hc
      obtain ⟨g,hg,rfl⟩:=map_some hc
      exact zJ7 i sl t y f hu hf hn hg o.dst hact ho
    · cases hc
  case h_17 t y ix ho =>
    obtain ⟨e,he,hc⟩:=bind_some hc
    obtain ⟨n,hn,rfl⟩:=map_some hc
    exact zDb i sl t e y ix (zi5 he) hn o.dst hact ho
  case h_18 y n ho =>
    cases hc
    exact zJd i sl y n o.dst hact ho
  case h_19 t parts ho =>
    split at hc
    · rename_i fs hu
      split at hc
      · rename_i hall
        obtain ⟨z,hz,hc⟩:=bind_some hc
        obtain ⟨ps,hps,rfl⟩:=map_some hc
        exact zEo i sl t parts hu hall hz hps o.dst hact ho
      · cases hc
    · cases hc
  case h_20 t n parts ho =>
    obtain ⟨e,he,hc⟩:=bind_some hc
    obtain ⟨z,hz,hc⟩:=bind_some hc
    obtain ⟨sz,hn,hc⟩:=bind_some hc
    split at hc
    · rename_i hle
      cases hc
      exact zBz i sl t e parts (zi5 he) hz hn hle.2 hle.1 o.dst hact ho
    · cases hc
  case h_21 c ho =>
    obtain ⟨cal,as_,ts⟩:=c
    simp only at hc
    split at hc
    · rename_i y t has hts
      obtain ⟨e,he,rfl⟩:=map_some hc
      have h1:as_ = #[y]:=by apply ybr; rw [has]
      have h2:ts = #[t]:=by apply ybr; rw [hts]
      subst h1; subst h2
      exact zKu i sl t e 0 y (zi5 he) o.dst hact ho
    · rename_i y z t u has hts
      split at hc
      · rename_i htu
        subst htu
        obtain ⟨e,he,hc⟩:=bind_some hc
        obtain ⟨sz,hn,hc⟩:=bind_some hc
        obtain ⟨b,hb,hc⟩:=bind_some hc
        split at hc
        · rename_i h0
          cases hc
          have h1:as_ = #[y,z]:=by apply ybr; rw [has]
          have h2:ts = #[t,t]:=by apply ybr; rw [hts]
          subst h1; subst h2
          exact zJj i sl t e y z (zi5 he) hn hb h0.2.2 h0.1 h0.2.1 o.dst hact ho hgt
        · cases hc
      · cases hc
    · rename_i y z has
      cases hc
      have h1:as_ = #[y,z]:=by apply ybr; rw [has]
      subst h1
      exact zHx i sl true y z ts o.dst hact ho
    · rename_i y z has
      cases hc
      have h1:as_ = #[y,z]:=by apply ybr; rw [has]
      subst h1
      exact zHx i sl false y z ts o.dst hact ho
    · split at hc
      · cases hc
        simp [act] at hact
      · cases hc
    · cases hc
  case h_22=>cases hc
theorem zz7 (i:Inv G h w) (sl:zc0 G h w a s) {z:D} {size n:Nat} {parts:List (Nat × Opd)} (hc:cop P o=some (.bslice z size n parts)) (hall:(parts.all fun p=>(p.2.ev s).hi)=true) {av:AV} {h':Nat→Ent}
    (hact:((ze2 h s size (yaa n z) parts).map fun xs=>(AV.n true (.sl size xs),frz h (zdf h s parts)))=some (av,h')):Did P G h w ((execOp a.eval o).run P w) av h':=by
  unfold cop at hc
  split at hc
  case h_20 t n' ps ho =>
    obtain ⟨e,he,hc⟩:=bind_some hc
    obtain ⟨z',hz,hc⟩:=bind_some hc
    obtain ⟨sz,hn,hc⟩:=bind_some hc
    split at hc
    · rename_i hle
      cases hc
      exact zzw i sl t e ps (zi5 he) hz hn hle.2 hle.1 o.dst hall hact ho
    · cases hc
  case h_21 c ho =>
    obtain ⟨cal,as_,ts⟩:=c
    simp only at hc
    split at hc
    · obtain ⟨e,he,hh⟩:=map_some hc; cases hh
    · split at hc
      · obtain ⟨e,he,hc⟩:=bind_some hc
        obtain ⟨sz,hn,hc⟩:=bind_some hc
        obtain ⟨b,hb,hc⟩:=bind_some hc
        split at hc <;> cases hc
      · cases hc
    · cases hc
    · cases hc
    · split at hc <;> cases hc
    · cases hc
  all_goals first
    | (cases hc; done)
    | (obtain ⟨_,_,hc⟩:=bind_some hc; obtain ⟨_,_,hc⟩:=bind_some hc; obtain ⟨_,_,hc⟩:=bind_some hc; split at hc <;> cases hc; done)
    | (obtain ⟨_,_,hc⟩:=bind_some hc; obtain ⟨_,_,hc⟩:=map_some hc; cases hc; done)
    | (obtain ⟨_,_,hc⟩:=map_some hc; cases hc; done)
    | (split at hc <;> first
        | (cases hc; done)
        | (obtain ⟨_,_,hc⟩:=map_some hc; cases hc; done)
        | (split at hc <;> first
            | (cases hc; done)
            | (obtain ⟨_,_,hc⟩:=bind_some hc; obtain ⟨_,_,hc⟩:=map_some hc; cases hc; done)
            | (obtain ⟨_,_,hc⟩:=bind_some hc; obtain ⟨_,_,hc⟩:=bind_some hc; obtain ⟨_,_,hc⟩:=bind_some hc; obtain ⟨_,_,hc⟩:=bind_some hc; split at hc <;> cases hc; done))
        | (obtain ⟨_,_,hc⟩:=bind_some hc; obtain ⟨_,_,hc⟩:=bind_some hc; split at hc <;> cases hc; done)
        | (obtain ⟨_,_,hc⟩:=bind_some hc; obtain ⟨_,_,hc⟩:=bind_some hc; obtain ⟨_,_,hc⟩:=map_some hc; cases hc; done))
theorem zAx (i:Inv G h w) (sl:zc0 G h w a s) {x:XOp} (hc:cop P o=some x) {av:AV} {h':Nat→Ent} (hact:actW o.dst ⟨s,h⟩ x=some (av,h')):Did P G h w ((execOp a.eval o).run P w) av h':=by
  unfold actW at hact
  split at hact
  · cases x with
    | bslice z size n parts =>
      simp only [actN] at hact
      split at hact
      · rename_i hcc
        exact zz7 i sl hc hcc.2 hact
      · exact ztk i sl hc hact fun _=>trivial
    | store n a y =>
      simp only [actN] at hact
      split at hact
      · cases hact
      · rename_i hn
        refine ztk i sl hc hact fun hm=>?_
        by_cases h1:(y.ev s).hi=true
        · exact .inl h1
        · refine .inr ?_
          have h1':(y.ev s).hi=false:=by simpa using h1
          show (a.ev s).isE=false
          generalize hq:(a.ev s).isE=q at hn ⊢
          cases q with
          | false=>rfl
          | true=>exact absurd ⟨hm,h1',rfl⟩ hn
    | app size bytes x y =>
      simp only [actN] at hact
      split at hact
      · cases hact
      · rename_i hn
        refine ztk i sl hc hact fun hm=>?_
        show (y.ev s).hiY=true
        cases hq:(y.ev s).hiY with
        | true=>rfl
        | false=>exact absurd ⟨hm,hq⟩ hn
    | _=>exact ztk i sl hc hact fun _=>trivial
  · rename_i hoff
    exact ztk i sl hc hact fun hm=>absurd hm (by simp at hoff; simp [hoff.2])
end
end Ev
end Go.Proofs.YtncmainjcffanaaGreat
/- Calls that are za3 boxes and rows of the caller's own: what they leave there. -/
namespace Go.Proofs.YtncmainjcffanaaGreat
namespace Ev
open Go
set_option linter.unusedSectionVars false
variable [Nw]
inductive Over (K:List Nat):AV→Prop
  | d (x:D):Over K (.d x)
  | fsl (sz:Nat) (xs:List D):Over K (.fsl sz xs)
  | rsl (k v:Nat) (hk:k ∈ K):Over K (.rsl k v)
  | ptr (k v o:Nat) (hk:k ∈ K):Over K (.ptr k v o)
  | clo (f:FuncId) (cs:List AV) (h:∀ c ∈ cs,Over K c):Over K (.clo f cs)
  | agg (cs:List AV) (h:∀ c ∈ cs,Over K c):Over K (.agg cs)
def zvz (K:List Nat):Body→Prop
  | .box cs _=>∀ c ∈ cs,Over K c
  | _=>True
def only (K:List Nat) (h:Nat→Ent):Nat→Ent:=fun k=>if k ∈ K then h k else ⟨(h k).ver,.dead⟩
def zaz (K:List Nat) (h1 h:Nat→Ent):Nat→Ent:=fun k=>if k ∈ K then h1 k else h k
theorem zf8 {K:List Nat} {h:Nat→Ent} {k:Nat} (hk:k ∈ K):only K h k=h k:=if_pos hk
theorem zgm {K:List Nat} {h:Nat→Ent} {k:Nat} (hk:k ∉ K):only K h k=⟨(h k).ver,.dead⟩:=if_neg hk
theorem zmt (K:List Nat) (h:Nat→Ent) (k:Nat):(only K h k).ver=(h k).ver:=by unfold only; split <;> rfl
theorem ARel.only {G:GS} {h:Nat→Ent} {w:World} (K:List Nat) {v:Value} {a:AV} (r:ARel G h w v a):ARel G (only K h) w v a:=by
  induction r with
  | d v x hr=>exact .d v x hr
  | n v q x h1 hr=>exact .n v q x h1 hr
  | fsl A n sz xs hr=>exact .fsl A n sz xs hr
  | rsl v k ver h1 hle hv =>
    refine .rsl v k ver h1 (by rw [zmt]; exact hle) fun hq sz xs fz hb=>?_
    rw [zmt] at hq
    by_cases hk:k ∈ K
    · rw [zf8 hk] at hb; exact hv hq sz xs fz hb
    · rw [zgm hk] at hb; cases hb
  | ptr v k ver off h1 hle hv =>
    refine .ptr v k ver off h1 (by rw [zmt]; exact hle) fun hq cs fz hb=>?_
    rw [zmt] at hq
    by_cases hk:k ∈ K
    · rw [zf8 hk] at hb; exact hv hq cs fz hb
    · rw [zgm hk] at hb; cases hb
  | eptr v k ver sz i off h1 hle hv =>
    refine .eptr v k ver sz i off h1 (by rw [zmt]; exact hle) fun hq sz' xs hb=>?_
    rw [zmt] at hq
    by_cases hk:k ∈ K
    · rw [zf8 hk] at hb; exact hv hq sz' xs hb
    · rw [zgm hk] at hb; cases hb
  | clo f vs cs hn _ ih=>exact .clo f vs cs hn ih
  | agg vs cs hn _ ih=>exact .agg vs cs hn ih
  | tup vs cs hn _ ih=>exact .tup vs cs hn ih
  | skip=>exact .skip
  | junk v=>exact .junk v
theorem ARel.over {G G':GS} {h h':Nat→Ent} {w:World} {K:List Nat} (hst:G'.St=G.St) (hk:∀ k ∈ K,h' k=h k∧G'.hd k=G.hd k) {v:Value} {a:AV} (r:ARel G h w v a) (o:Over K a):ARel G' h' w v a:=by
  induction r with
  | d v x hr=>exact .d v x (by rw [hst]; exact hr)
  | n v q x h1 hr=>exact .n v q x h1 (by rw [hst]; exact hr)
  | fsl A n sz xs hr=>exact .fsl A n sz xs (by rw [hst]; exact hr)
  | rsl v k ver h1 hle hv =>
    cases o with
    | rsl _ _ hm =>
      obtain ⟨e1,e2⟩:=hk k hm
      exact .rsl v k ver h1 (by rw [e1]; exact hle) (by rw [e1,e2]; exact hv)
  | ptr v k ver off h1 hle hv =>
    cases o with
    | ptr _ _ _ hm =>
      obtain ⟨e1,e2⟩:=hk k hm
      exact .ptr v k ver off h1 (by rw [e1]; exact hle) (by rw [e1,e2]; exact hv)
  | eptr v k ver sz i off h1 hle hv=>cases o
  | clo f vs cs hn _ ih =>
    cases o with
    | clo _ _ ho=>exact .clo f vs cs hn fun j c hj=>ih j c hj (ho c (yas hj))
  | agg vs cs hn _ ih =>
    cases o with
    | agg _ ho=>exact .agg vs cs hn fun j c hj=>ih j c hj (ho c (yas hj))
  | tup vs cs hn _ ih=>cases o
  | skip=>cases o
  | junk v=>cases o
theorem zh0 {G:GS} {h:Nat→Ent} {K:List Nat} {k b:Nat} (ho:Owns G k b (only K h k).body):k ∈ K∧Owns G k b (h k).body:=by
  by_cases hk:k ∈ K
  · rw [zf8 hk] at ho; exact ⟨hk,ho⟩
  · rw [zgm hk] at ho; exact ho.elim
theorem zm4 {G:GS} {h:Nat→Ent} {w:World} (i:Inv G h w) (K:List Nat):Inv G (only K h) w:=by
  refine ⟨i.st,fun k=>?_,fun k k' b h1 h2=>i.apart k k' b (zh0 h1).2 (zh0 h2).2,i.low⟩
  by_cases hk:k ∈ K
  · rw [zf8 hk]
    have he:=i.ent k
    cases hb:(h k).body with
    | dead=>trivial
    | box cs fz =>
      rw [hb] at he
      obtain ⟨b,arr,el,hA,hheap,hsz,hrel,hs⟩:=he
      exact ⟨b,arr,el,hA,hheap,hsz,fun j c hj=>⟨(hrel j c hj).1.only K,(hrel j c hj).2⟩,hs⟩
    | row sz xs fz =>
      rw [hb] at he
      cases fz with
      | true=>exact he
      | false=>exact he
  · rw [zgm hk]; trivial
theorem zyw {G:GS} {h:Nat→Ent} {w:World} (i:Inv G h w) (K:List Nat):Step G h w G (fun k=>if k ∈ K then h k else ⟨(h k).ver+1,.dead⟩) w:=by
  have hv:∀ k,k ∉ K→(fun k=>if k ∈ K then h k else (⟨(h k).ver+1,.dead⟩:Ent)) k=⟨(h k).ver+1,.dead⟩:=fun k hk=>if_neg hk
  have hi:∀ k,k ∈ K→(fun k=>if k ∈ K then h k else (⟨(h k).ver+1,.dead⟩:Ent)) k=h k:=fun k hk=>if_pos hk
  generalize (fun k=>if k ∈ K then h k else (⟨(h k).ver+1,.dead⟩:Ent))=h' at hv hi ⊢
  have hext:Ext G h w G h' w:=by
    refine ⟨.refl _ _,fun k=>?_,fun k hk=>⟨rfl,?_⟩⟩
    · by_cases hm:k ∈ K
      · rw [hi k hm]; exact yab _
      · rw [hv k hm]; exact Nat.le_succ _
    · by_cases hm:k ∈ K
      · rw [hi k hm]; exact Body.like_refl _
      · rw [hv k hm] at hk; simp at hk
  have hown:∀ k b,Owns G k b (h' k).body→Owns G k b (h k).body:=fun k b ho=>by
    by_cases hm:k ∈ K
    · rw [hi k hm] at ho; exact ho
    · rw [hv k hm] at ho; exact ho.elim
  refine ⟨⟨i.st,fun k=>?_,fun k k' b h1 h2=>i.apart k k' b (hown k b h1) (hown k' b h2),i.low⟩,hext,⟨rfl,rfl,rfl,yab _,fun _ _ _=>⟨rfl,rfl⟩⟩,fun k b ho=>.inl ⟨k,hown k b ho⟩,fun b h0 h1=>by omega⟩
  by_cases hm:k ∈ K
  · rw [hi k hm]
    have he:=i.ent k
    cases hb:(h k).body with
    | dead=>trivial
    | box cs fz =>
      rw [hb] at he
      obtain ⟨b,arr,el,hA,hheap,hsz,hrel,hs⟩:=he
      exact ⟨b,arr,el,hA,hheap,hsz,fun j c hj=>⟨(hrel j c hj).1.ext hext,(hrel j c hj).2⟩,hs⟩
    | row sz xs fz =>
      rw [hb] at he
      cases fz with
      | true=>exact he
      | false=>exact he
  · rw [hv k hm]; trivial
def MutC (P:Program) (g:FuncId) (as:List AV) (K:List Nat) (h0:Nat→Ent) (rs:List D) (h1:Nat→Ent):Prop :=
  zlb P g∧(∀ k ∈ K,zvz K (h1 k).body) ∧ ∀ (G:GS) (h:Nat→Ent) (w:World) (vs:List Value),(∀ k ∈ K,h k=h0 k)→(∀ k,k ∉ K→(h k).body = .dead)→Inv G h w→vs.length=as.length →
    (∀ (j:Nat) a,as[j]? = some a→ARel G h w (vs.getD j undef) a) →
    Calls P g vs.toArray w fun e w'=>∃ G' h' us,e = .returned (za3 us)∧RelL G'.St w' us rs∧(∀ k ∈ K,h' k=h1 k)∧(∀ k,k ∉ K→(h' k).body = .dead)∧Step G h w G' h' w'
theorem zl6 {G G':GS} {h h' h1:Nat→Ent} {w w':World} {K:List Nat} (i:Inv G h w) (hs:Step G (only K h) w G' h' w') (hk:∀ k ∈ K,h' k=h1 k) (ho:∀ k ∈ K,zvz K (h1 k).body) :
    Step G h w ⟨G'.St,fun k=>if k ∈ K then G'.hd k else G.hd k⟩ (zaz K h1 h) w':=by
  have hin:∀ k,k ∈ K→zaz K h1 h k=h' k∧(fun k=>if k ∈ K then G'.hd k else G.hd k) k=G'.hd k:=fun k hm=>⟨by simp only [zaz,if_pos hm]; exact (hk k hm).symm,if_pos hm⟩
  have hout:∀ k,k ∉ K→zaz K h1 h k=h k∧(fun k=>if k ∈ K then G'.hd k else G.hd k) k=G.hd k:=fun k hm=>⟨if_neg hm,if_neg hm⟩
  generalize hm':zaz K h1 h=hh at hin hout ⊢
  generalize hd':(fun k=>if k ∈ K then G'.hd k else G.hd k)=hd at hin hout ⊢
  have hext:Ext G h w ⟨G'.St,hd⟩ hh w':=by
    refine ⟨hs.ext.keeps,fun k=>?_,fun k hv=>?_⟩
    · by_cases hm:k ∈ K
      · rw [(hin k hm).1]; have:=hs.ext.ver k; rwa [zf8 hm] at this
      · rw [(hout k hm).1]; exact yab _
    · by_cases hm:k ∈ K
      · rw [(hin k hm).1] at hv ⊢
        have:=hs.ext.same k (by rw [zf8 hm]; exact hv)
        rw [zf8 hm] at this
        exact ⟨(hin k hm).2.trans this.1,this.2⟩
      · rw [(hout k hm).1]
        exact ⟨(hout k hm).2,Body.like_refl _⟩
  have ownIn:∀ k b,k ∈ K→Owns ⟨G'.St,hd⟩ k b (hh k).body→Owns G' k b (h' k).body:=fun k b hm hw=>by
    rw [(hin k hm).1] at hw
    have e:=(hin k hm).2
    cases hb:(h' k).body <;> rw [hb] at hw <;> simp only [Owns] at hw ⊢ <;> first | exact hw | (rw [e] at hw; exact hw)
  have ownOut:∀ k b,k ∉ K→Owns ⟨G'.St,hd⟩ k b (hh k).body→Owns G k b (h k).body:=fun k b hm hw=>by
    rw [(hout k hm).1] at hw
    have e:=(hout k hm).2
    cases hb:(h k).body <;> rw [hb] at hw <;> simp only [Owns] at hw ⊢ <;> first | exact hw | (rw [e] at hw; exact hw)
  have away:∀ k b,k ∉ K→Owns G k b (h k).body→b<w.heap.size→w'.heap[b]? = w.heap[b]? ∧ G'.St b=G.St b:=fun k b hm hw hlt =>
    hs.left.block b hlt fun q hq=>hm (by
      obtain ⟨hq1,hq2⟩:=zh0 hq
      have:=i.apart q k b hq2 hw
      exact this ▸ hq1)
  have meet:∀ k k' b,k ∈ K→k' ∉ K→Owns G' k b (h' k).body→Owns G k' b (h k').body→False:=fun k k' b h1 h2 h3 h4=>by
    have hlt:=zio i h4
    rcases hs.grow k b h3 with ⟨q,hq⟩ | hge
    · obtain ⟨hq1,hq2⟩:=zh0 hq
      exact h2 (i.apart q k' b hq2 h4 ▸ hq1)
    · omega
  refine ⟨⟨hs.inv.st,fun k=>?_,fun k k' b h1 h2=>?_,hs.inv.low⟩,hext,⟨hs.left.os,hs.left.tape,hs.left.output,hs.left.size,fun b hb hn=>hs.left.block b hb fun q hq=>hn q (zh0 hq).2⟩,fun k b hw=>?_,fun b h0 h1=>hs.fresh b h0 h1⟩
  · by_cases hm:k ∈ K
    · rw [(hin k hm).1]
      have he:=hs.inv.ent k
      have hov:=ho k hm
      rw [← hk k hm] at hov
      cases hb:(h' k).body with
      | dead=>trivial
      | box cs fz =>
        rw [hb] at he hov
        obtain ⟨b,arr,el,hA,hheap,hsz,hrel,hst⟩:=he
        exact ⟨b,arr,el,by show (hd k).A=_; rw [(hin k hm).2]; exact hA,hheap,hsz,fun j c hj=>⟨(hrel j c hj).1.over (G:=G') (G':=⟨G'.St,hd⟩) rfl hin (hov c (yas hj)),(hrel j c hj).2⟩,hst⟩
      | row sz xs fz =>
        rw [hb] at he
        cases fz with
        | true =>
          simp only [zjc] at he ⊢
          rw [(hin k hm).2]
          exact he
        | false =>
          simp only [zjc] at he ⊢
          rw [(hin k hm).2]
          exact he
    · rw [(hout k hm).1]
      have he:=i.ent k
      cases hb:(h k).body with
      | dead=>trivial
      | box cs fz =>
        rw [hb] at he
        obtain ⟨b,arr,el,hA,hheap,hsz,hrel,hst⟩:=he
        have hlt:=(yay.1 hheap).1
        have ha:=away k b hm (by rw [hb]; exact hA) hlt
        exact ⟨b,arr,el,by show (hd k).A=_; rw [(hout k hm).2]; exact hA,ha.1.trans hheap,hsz,fun j c hj=>⟨(hrel j c hj).1.ext hext,(hrel j c hj).2⟩,ha.2.trans hst⟩
      | row sz xs fz =>
        rw [hb] at he
        cases fz with
        | true =>
          simp only [zjc] at he ⊢
          rw [(hout k hm).2]
          refine ⟨he.1.keeps hext.keeps,?_⟩
          by_cases hcl:(G.hd k).cap=xs.length
          · exact .inl hcl
          · rcases he.2 with hc | ⟨b,arr,el,hA,hheap,h0,hsz,hst⟩
            · exact .inl hc
            · have hlt:=(yay.1 hheap).1
              have ha:=away k b hm (by rw [hb]; exact ⟨hA,fun _=>hcl⟩) hlt
              exact .inr ⟨b,arr,el,hA,ha.1.trans hheap,h0,hsz,ha.2.trans hst⟩
        | false =>
          simp only [zjc] at he ⊢
          rw [(hout k hm).2]
          rcases he with ⟨z1,z2,z3⟩ | ⟨b,arr,el,hA,hheap,hsz,hcap,hmx,hcs,hrel,hst⟩
          · exact .inl ⟨z1,z2,z3⟩
          have hlt:=(yay.1 hheap).1
          have ha:=away k b hm (by rw [hb]; exact ⟨hA,fun hf=>by cases hf⟩) hlt
          exact .inr ⟨b,arr,el,hA,ha.1.trans hheap,hsz,hcap,hmx,hcs,fun p x hp j c hj=>⟨(hrel p x hp j c hj).1.keeps hext.keeps.rwS,(hrel p x hp j c hj).2⟩,ha.2.trans hst⟩
  · by_cases a1:k ∈ K <;> by_cases a2:k' ∈ K
    · exact hs.inv.apart k k' b (ownIn k b a1 h1) (ownIn k' b a2 h2)
    · exact (meet k k' b a1 a2 (ownIn k b a1 h1) (ownOut k' b a2 h2)).elim
    · exact (meet k' k b a2 a1 (ownIn k' b a2 h2) (ownOut k b a1 h1)).elim
    · exact i.apart k k' b (ownOut k b a1 h1) (ownOut k' b a2 h2)
  · by_cases hm:k ∈ K
    · rcases hs.grow k b (ownIn k b hm hw) with ⟨q,hq⟩ | hge
      · exact .inl ⟨q,(zh0 hq).2⟩
      · exact .inr hge
    · exact .inl ⟨k,ownOut k b hm hw⟩
def D.flat:D→Bool
  | .int _ _=>true
  | .bool _=>true
  | .str _=>true
  | _=>false
theorem Rel.flat {St St':Nat→Nat} {w w':World} {v:Value} {d:D} (h:Rel St w v d) (hf:d.flat=true):Rel St' w' v d:=by
  cases h <;> first | (cases hf; done) | constructor
end Ev
end Go.Proofs.YtncmainjcffanaaGreat
/- Calls that hand back rows of their own: the caller may write them,and append to them. -/
namespace Go.Proofs.YtncmainjcffanaaGreat
namespace Ev
open Go
set_option linter.unusedSectionVars false
variable [Nw]
inductive RC where
  | d (x:D)
  | row (sz:Nat) (xs:List D) (fz:Bool)
inductive RV where
  | one (c:RC)
  | agg (cs:List RC)
def RV.cells:RV→List RC
  | .one c=>[c]
  | .agg cs=>cs
def zcw:List RC→List Body
  | []=>[]
  | .d _ :: cs=>zcw cs
  | .row sz xs fz :: cs=>.row sz xs fz :: zcw cs
def zas:List RV→List Body
  | []=>[]
  | r :: rs=>zcw r.cells ++ zas rs
def nk (d q:Nat):Nat:=d+1000*q
theorem zH2 {d q q':Nat} (h:nk d q=nk d q'):q=q':=by simp only [nk] at h; omega
def zbr (h:Nat→Ent) (d:Nat):Nat→List RC→List AV
  | _,[]=>[]
  | q,.d x :: cs=>.d x :: zbr h d q cs
  | q,.row _ _ _ :: cs=>.rsl (nk d q) ((h (nk d q)).ver+1) :: zbr h d (q+1) cs
def oneV (h:Nat→Ent) (d q:Nat):RC→AV
  | .d x=>.d x
  | .row _ _ _=>.rsl (nk d q) ((h (nk d q)).ver+1)
def zbn (h:Nat→Ent) (d:Nat):Nat→List RV→List AV
  | _,[]=>[]
  | q,.one c :: rs=>oneV h d q c :: zbn h d (q+(zcw [c]).length) rs
  | q,.agg cs :: rs=>.agg (zbr h d q cs) :: zbn h d (q+(zcw cs).length) rs
def tupA:List AV→AV
  | [v]=>v
  | vs=>.tup vs
def resO (h:Nat→Ent) (d:Nat) (rs:List RV):AV:=tupA (zbn h d 0 rs)
def zbc (h:Nat→Ent) (d:Nat) (bs:List Body):Nat→Ent:=fun k=>if d≤k∧(k - d) % 1000=0 then (match bs[(k - d) / 1000]? with | some b=>⟨(h k).ver+1,b⟩ | none=>h k) else h k
theorem ze4 (h:Nat→Ent) (d:Nat) (bs:List Body) {q:Nat} {b:Body} (hq:bs[q]? = some b):zbc h d bs (nk d q)=⟨(h (nk d q)).ver+1,b⟩:=by
  have e:(nk d q - d) / 1000=q:=by simp only [nk]; omega
  simp only [zbc]
  rw [if_pos ⟨by simp only [nk]; omega,by simp only [nk]; omega⟩,e,hq]
theorem zd9 (h:Nat→Ent) (d:Nat) (bs:List Body) {k:Nat} (hk:∀ q,q<bs.length→k ≠ nk d q):zbc h d bs k=h k:=by
  simp only [zbc]
  split
  · rename_i hc
    have e:k=nk d ((k - d) / 1000):=by simp only [nk]; omega
    cases hb:bs[(k - d) / 1000]? with
    | none=>rfl
    | some b=>exact absurd e (hk _ (yae.1 hb).1)
  · rfl
theorem zC3 (h:Nat→Ent) (d:Nat) (b:Body):zbc h d [b]=upd h d ⟨(h d).ver+1,b⟩:=by
  funext k
  by_cases hk:k=d
  · subst hk
    have:=ze4 h k [b] (q:=0) rfl
    simp only [nk,Nat.mul_zero,yan] at this
    rw [this]
    simp [upd]
  · rw [zd9 _ _ _ (fun q hq=>by simp at hq; subst hq; simpa [nk] using hk)]
    simp [upd,hk]
theorem zDa (h:Nat→Ent) (d:Nat) (b c:Body):zbc h d [b,c]=upd (upd h d ⟨(h d).ver+1,b⟩) (d+1000) ⟨(h (d+1000)).ver+1,c⟩:=by
  funext k
  by_cases h1:k=d+1000
  · subst h1
    have:=ze4 h d [b,c] (q:=1) rfl
    simp only [nk,Nat.mul_one] at this
    rw [this]
    simp [upd]
  · by_cases hk:k=d
    · subst hk
      have:=ze4 h k [b,c] (q:=0) rfl
      simp only [nk,Nat.mul_zero,yan] at this
      rw [this]
      simp [upd]
    · rw [zd9 _ _ _ (fun q hq=>by
        have:q=0∨q=1:=by simp at hq; omega
        rcases this with rfl | rfl
        · simpa [nk] using hk
        · simpa [nk] using h1)]
      simp [upd,hk,h1]
theorem zB8 (h:Nat→Ent) (d:Nat):zbc h d []=h:=by
  funext k
  exact zd9 _ _ _ (fun q hq=>by simp at hq)
def Body.isRow:Body→Prop
  | .row _ _ _=>True
  | _=>False
theorem zEu (cs:List RC):∀ b ∈ zcw cs,b.isRow:=by
  induction cs with
  | nil=>intro b h; cases h
  | cons c cs ih =>
    intro b h
    cases c with
    | d x=>exact ih b h
    | row sz xs fz =>
      simp only [zcw,yaZ] at h
      rcases h with rfl | h
      · trivial
      · exact ih b h
theorem zqi (rs:List RV):∀ b ∈ zas rs,b.isRow:=by
  induction rs with
  | nil=>intro b h; cases h
  | cons r rs ih =>
    intro b h
    simp only [zas,yaY] at h
    rcases h with h | h
    · exact zEu _ b h
    · exact ih b h
def OwnC (P:Program) (f:FuncId) (ds:List D) (rs:List RV):Prop :=
  zlb P f ∧ ∀ (St:Nat→Nat) (w:World) (vs:List Value),Nw.n≤w.heap.size→(∀ b,0<St b→b<w.heap.size)→RelL St w vs ds →
    Calls P f vs.toArray w fun e w'=>∃ (G':GS) (us:List Value),e = .returned (za3 us)∧us.length=(zbn zat 0 0 rs).length∧(∀ (j:Nat) v,(zbn zat 0 0 rs)[j]? = some v→ARel G' (zbc zat 0 (zas rs)) w' (us.getD j undef) v) ∧
      Inv G' (zbc zat 0 (zas rs)) w'∧RowKit.Below w.heap.size w w'∧(∀ b,b<w.heap.size→G'.St b=St b)∧(∀ k b,Owns G' k b (zbc zat 0 (zas rs) k).body→w.heap.size≤b)∧(∀ b,w.heap.size≤b→0<G'.St b→zgv w' b)
theorem zB6 {G:GS} {h:Nat→Ent} {w:World} (i:Inv G h w) (K:Nat→Prop) (h2:Nat→Ent) (hd2:Nat→Hd) (St':Nat→Nat) (w':World)
    (hb:RowKit.Below w.heap.size w w') (hst:∀ b,b<w.heap.size→St' b=G.St b) (hst':∀ b,0<St' b→b<w'.heap.size) (hfr:∀ b,w.heap.size≤b→0<St' b→zgv w' b)
    (hin:∀ k,K k→(h2 k).ver=(h k).ver+1) (hout:∀ k,¬ K k→h2 k=h k∧hd2 k=G.hd k)
    (hent:∀ k,K k→zjc ⟨St',hd2⟩ h2 w' k (h2 k).body)
    (hown:∀ k,K k → ∀ b,Owns ⟨St',hd2⟩ k b (h2 k).body→w.heap.size≤b)
    (hap:∀ k k',K k→K k' → ∀ b,Owns ⟨St',hd2⟩ k b (h2 k).body→Owns ⟨St',hd2⟩ k' b (h2 k').body→k=k') :
    Step G h w ⟨St',hd2⟩ h2 w':=by
  have hext:Ext G h w ⟨St',hd2⟩ h2 w':=by
    refine ⟨⟨fun b=>?_,fun b j hj=>?_,fun b hb' hf=>hf.eq (hb.block b (i.st b hb'))⟩,fun q=>?_,fun q hq=>?_⟩
    · show G.St b≤St' b
      rcases ybm b w.heap.size with hlt | hge
      · rw [hst b hlt]; exact yab _
      · have:¬ 0<G.St b:=fun hp=>by have:=i.st b hp; omega
        omega
    · have hlt:=i.st b (by omega)
      exact World.cell?_of_block (w:=w) (a:=⟨b,j,none⟩) (hb.block b hlt)
    · by_cases hqk:K q
      · rw [hin q hqk]; omega
      · rw [(hout q hqk).1]; exact yab _
    · by_cases hqk:K q
      · rw [hin q hqk] at hq; omega
      · exact ⟨(hout q hqk).2,by rw [(hout q hqk).1]; exact Body.like_refl _⟩
  have hOw:∀ q b,¬ K q→(Owns ⟨St',hd2⟩ q b (h2 q).body ↔ Owns G q b (h q).body):=by
    intro q b hq
    obtain ⟨h1,h3⟩:=hout q hq
    rw [h1]
    cases (h q).body <;> simp only [Owns,h3]
  refine ⟨⟨hst',fun q=>?_,fun q q' b h1 h3=>?_,yac i.low hb.size⟩,hext,⟨hb.os,hb.tape,hb.output,hb.size,fun b hlt _=>⟨hb.block b hlt,hst b hlt⟩⟩,fun q b ho=>?_,fun b h0 h1=>by
    have h1':0<St' b:=h1
    rcases ybm b w.heap.size with hlt | hge
    · have:=hst b hlt
      omega
    · exact hfr b hge h1⟩
  · by_cases hq:K q
    · exact hent q hq
    · obtain ⟨h1,h3⟩:=hout q hq
      rw [h1]
      have he:=i.ent q
      cases hbk:(h q).body with
      | dead=>trivial
      | box ds fz =>
        rw [hbk] at he
        obtain ⟨b',arr',el',hA,hh,hsz,hrel,hs⟩:=he
        have hlt:=(yay.1 hh).1
        exact ⟨b',arr',el',by show (hd2 q).A=_; rw [h3]; exact hA,(hb.block b' hlt).trans hh,hsz,fun j c hj=>⟨(hrel j c hj).1.ext hext,(hrel j c hj).2⟩,(hst b' hlt).trans hs⟩
      | row sz xs fz =>
        rw [hbk] at he
        cases fz with
        | true =>
          simp only [zjc] at he ⊢
          rw [h3]
          refine ⟨he.1.keeps hext.keeps,?_⟩
          rcases he.2 with hc' | ⟨b',arr',el',hA,hh,h0,hsz,hs⟩
          · exact .inl hc'
          · have hlt:=(yay.1 hh).1
            exact .inr ⟨b',arr',el',hA,(hb.block b' hlt).trans hh,h0,hsz,(hst b' hlt).trans hs⟩
        | false =>
          simp only [zjc] at he ⊢
          rw [h3]
          rcases he with ⟨z1,z2,z3⟩ | ⟨b',arr',el',hA,hh,hsz,hcap,hm,hcs,hrel,hs⟩
          · exact .inl ⟨z1,z2,z3⟩
          have hlt:=(yay.1 hh).1
          exact .inr ⟨b',arr',el',hA,(hb.block b' hlt).trans hh,hsz,hcap,hm,hcs,fun p x hp j c hj=>⟨(hrel p x hp j c hj).1.keeps hext.keeps.rwS,(hrel p x hp j c hj).2⟩,(hst b' hlt).trans hs⟩
  · by_cases hq:K q <;> by_cases hq':K q'
    · exact hap q q' hq hq' b h1 h3
    · have:=hown q hq b h1
      have:=zio i ((hOw q' b hq').1 h3)
      omega
    · have:=hown q' hq' b h3
      have:=zio i ((hOw q b hq).1 h1)
      omega
    · exact i.apart q q' b ((hOw q b hq).1 h1) ((hOw q' b hq').1 h3)
  · by_cases hq:K q
    · exact .inr (hown q hq b ho)
    · exact .inl ⟨q,(hOw q b hq).1 ho⟩
theorem zpq {G:GS} {h h2:Nat→Ent} {w:World} {hd2:Nat→Hd} {k k2:Nat} {b:Body} (hb:b.isRow) (hd:hd2 k2=G.hd k) (he:zjc G h w k b):zjc ⟨G.St,hd2⟩ h2 w k2 b:=by
  cases b with
  | dead=>exact hb.elim
  | box cs fz=>exact hb.elim
  | row sz xs fz=>cases fz <;> (simp only [zjc] at he ⊢; rw [hd]; exact he)
theorem zmx {G:GS} {hd2:Nat→Hd} {St:Nat→Nat} {k k2 b:Nat} {bd:Body} (hb:bd.isRow) (hd:hd2 k2=G.hd k):Owns ⟨St,hd2⟩ k2 b bd ↔ Owns G k b bd:=by
  cases bd with
  | dead=>exact hb.elim
  | box cs fz=>exact hb.elim
  | row sz xs fz=>simp only [Owns]; rw [hd]
def hdO (n d:Nat) (hd hd':Nat→Hd):Nat→Hd:=fun k=>if d≤k∧(k - d) % 1000=0∧(k - d) / 1000<n then hd' (1000*((k - d) / 1000)) else hd k
theorem zr4 {n d q:Nat} {hd hd':Nat→Hd} (hq:q<n):hdO n d hd hd' (nk d q)=hd' (nk 0 q):=by
  have e:(nk d q - d) / 1000=q:=by simp only [nk]; omega
  simp only [hdO]
  rw [if_pos ⟨by simp only [nk]; omega,by simp only [nk]; omega,by rw [e]; exact hq⟩,e]
  simp [nk]
theorem zD6 {n d k:Nat} {hd hd':Nat→Hd} (hk:∀ q,q<n→k ≠ nk d q):hdO n d hd hd' k=hd k:=by
  simp only [hdO]
  split
  · rename_i hc
    exact absurd (show k=nk d ((k - d) / 1000) by simp only [nk]; omega) (hk _ hc.2.2)
  · rfl
theorem zqd {G':GS} {h1 h2:Nat→Ent} {w':World} {hd2:Nat→Hd} {h0:Nat→Ent} {d:Nat} (n:Nat) (bs:List Body) (hn:bs.length=n) (e1:∀ q b,bs[q]? = some b→h1 (nk 0 q)=⟨1,b⟩) (e2:∀ q b,bs[q]? = some b→h2 (nk d q)=⟨(h0 (nk d q)).ver+1,b⟩)
    (hdq:∀ q,q<n→hd2 (nk d q)=G'.hd (nk 0 q)) {v:Value} {q:Nat} (hq:q<n) (r:ARel G' h1 w' v (.rsl (nk 0 q) 1)):ARel ⟨G'.St,hd2⟩ h2 w' v (.rsl (nk d q) ((h0 (nk d q)).ver+1)):=by
  obtain ⟨b,hb⟩:∃ b,bs[q]? = some b:=⟨_,yar (by omega)⟩
  cases r with
  | rsl _ _ _ hone hle hv =>
    refine .rsl _ _ _ hone (by rw [e2 q b hb]; exact yab _) fun _ sz xs fz hbd=>?_
    rw [e2 q b hb] at hbd
    have:=hv (by rw [e1 q b hb]) sz xs fz (by rw [e1 q b hb]; exact hbd)
    rw [this]
    show _=Value.slice (hd2 (nk d q)).A _ (hd2 (nk d q)).cap
    rw [hdq q hq]
theorem zhm (h:Nat→Ent) (d:Nat):∀ (cs:List RC) (q:Nat),(zbr h d q cs).length=cs.length
  | [],_=>rfl
  | .d _ :: cs,q=>by simp [zbr,zhm h d cs]
  | .row _ _ _ :: cs,q=>by simp [zbr,zhm h d cs]
theorem zbo (h:Nat→Ent) (d:Nat):∀ (rs:List RV) (q:Nat),(zbn h d q rs).length=rs.length
  | [],_=>rfl
  | .one _ :: rs,q=>by simp [zbn,zbo h d rs]
  | .agg _ :: rs,q=>by simp [zbn,zbo h d rs]
theorem zpn {G' G2:GS} {h1 h2 h0:Nat→Ent} {w':World} {d:Nat} (n:Nat) (hst:G2.St=G'.St) (hr:∀ q,q<n → ∀ v,ARel G' h1 w' v (.rsl (nk 0 q) 1)→ARel G2 h2 w' v (.rsl (nk d q) ((h0 (nk d q)).ver+1))) :
    ∀ (cs:List RC) (q:Nat),q+(zcw cs).length≤n → ∀ (j:Nat) c,(zbr zat 0 q cs)[j]? = some c → ∃ c',(zbr h0 d q cs)[j]? = some c' ∧ ∀ v,ARel G' h1 w' v c→ARel G2 h2 w' v c'
  | [],q,_,j,c,hj=>by simp [zbr] at hj
  | .d x :: cs,q,hn,j,c,hj=>by
    cases j with
    | zero =>
      simp only [zbr,yaz,Option.some.injEq] at hj
      subst hj
      exact ⟨.d x,rfl,fun v r=>.d _ _ (by rw [hst]; cases r with | d _ _ hr=>exact hr)⟩
    | succ j =>
      simp only [zbr,ybu] at hj ⊢
      exact zpn n hst hr cs q hn j c hj
  | .row sz xs fz :: cs,q,hn,j,c,hj=>by
    simp only [zcw,yaS] at hn
    cases j with
    | zero =>
      simp only [zbr,yaz,Option.some.injEq] at hj
      subst hj
      exact ⟨_,rfl,fun v r=>hr q (by omega) v r⟩
    | succ j =>
      simp only [zbr,ybu] at hj ⊢
      exact zpn n hst hr cs (q+1) (by omega) j c hj
theorem zss {G' G2:GS} {h1 h2 h0:Nat→Ent} {w':World} {d:Nat} (n:Nat) (hst:G2.St=G'.St) (hr:∀ q,q<n → ∀ v,ARel G' h1 w' v (.rsl (nk 0 q) 1)→ARel G2 h2 w' v (.rsl (nk d q) ((h0 (nk d q)).ver+1))) :
    ∀ (rs:List RV) (q:Nat),q+(zas rs).length≤n → ∀ (j:Nat) c,(zbn zat 0 q rs)[j]? = some c → ∃ c',(zbn h0 d q rs)[j]? = some c' ∧ ∀ v,ARel G' h1 w' v c→ARel G2 h2 w' v c'
  | [],q,_,j,c,hj=>by simp [zbn] at hj
  | .one c0 :: rs,q,hn,j,c,hj=>by
    simp only [zas,RV.cells,yaF] at hn
    cases j with
    | zero =>
      simp only [zbn,yaz,Option.some.injEq] at hj
      subst hj
      refine ⟨_,rfl,fun v r=>?_⟩
      have e:∀ (h:Nat→Ent) (d:Nat),(zbr h d q [c0])[0]? = some (oneV h d q c0):=fun h d=>by cases c0 <;> rfl
      obtain ⟨c',h3,h4⟩:=zpn n hst hr [c0] q (by omega) 0 _ (e zat 0)
      rw [e h0 d] at h3
      cases h3
      exact h4 v r
    | succ j =>
      simp only [zbn,ybu] at hj ⊢
      exact zss n hst hr rs _ (by omega) j c hj
  | .agg cs :: rs,q,hn,j,c,hj=>by
    simp only [zas,RV.cells,yaF] at hn
    cases j with
    | zero =>
      simp only [zbn,yaz,Option.some.injEq] at hj
      subst hj
      refine ⟨_,rfl,fun v r=>?_⟩
      cases r with
      | agg vs _ hl hc =>
        refine .agg _ _ (by rw [hl,zhm,zhm]) fun j c' hj=>?_
        have hlt:j<cs.length:=by
          have:=(yae.1 hj).1
          rwa [zhm] at this
        obtain ⟨c0,hc0⟩:∃ c0,(zbr zat 0 q cs)[j]? = some c0:=⟨_,yar (by rw [zhm]; exact hlt)⟩
        obtain ⟨c2,h3,h4⟩:=zpn n hst hr cs q (by omega) j c0 hc0
        rw [h3] at hj
        cases hj
        exact h4 _ (hc j c0 hc0)
    | succ j =>
      simp only [zbn,ybu] at hj ⊢
      exact zss n hst hr rs _ (by omega) j c hj
theorem zBd {G:GS} {h:Nat→Ent} {w w':World} (i:Inv G h w) {G':GS} {rs:List RV} (d:Nat) (i':Inv G' (zbc zat 0 (zas rs)) w') (hb:RowKit.Below w.heap.size w w') (hst:∀ b,b<w.heap.size→G'.St b=G.St b) (hfr:∀ b,w.heap.size≤b→0<G'.St b→zgv w' b)
    (ho:∀ k b,Owns G' k b (zbc zat 0 (zas rs) k).body→w.heap.size≤b) :
    Step G h w ⟨G'.St,hdO (zas rs).length d G.hd G'.hd⟩ (zbc h d (zas rs)) w' ∧
    ∀ (j:Nat) c,(zbn zat 0 0 rs)[j]? = some c → ∃ c',(zbn h d 0 rs)[j]? = some c' ∧ ∀ v,ARel G' (zbc zat 0 (zas rs)) w' v c→ARel ⟨G'.St,hdO (zas rs).length d G.hd G'.hd⟩ (zbc h d (zas rs)) w' v c':=by
  have hrow:=zqi rs
  generalize hbs:zas rs=bs at *
  have e1:∀ q b,bs[q]? = some b→zbc zat 0 bs (nk 0 q)=⟨1,b⟩:=fun q b hq=>by rw [ze4 _ _ _ hq]; rfl
  have e2:∀ q b,bs[q]? = some b→zbc h d bs (nk d q)=⟨(h (nk d q)).ver+1,b⟩:=fun q b hq=>ze4 _ _ _ hq
  have hget:∀ k,(∃ q,q<bs.length∧k=nk d q) → ∃ q b,bs[q]? = some b∧k=nk d q∧q<bs.length:=fun k ⟨q,hq,e⟩=>⟨q,_,yar hq,e,hq⟩
  refine ⟨zB6 i (fun k=>∃ q,q<bs.length∧k=nk d q) _ _ _ _ hb hst i'.st hfr (fun k hk=>?_) (fun k hk=>?_) (fun k hk=>?_) (fun k hk b hob=>?_) (fun k k' hk hk' b hob hob'=>?_),?_⟩
  · obtain ⟨q,b,hq,rfl,hlt⟩:=hget k hk
    rw [e2 q b hq]
  · have hk':∀ q,q<bs.length→k ≠ nk d q:=fun q hq e=>hk ⟨q,hq,e⟩
    exact ⟨zd9 _ _ _ hk',zD6 hk'⟩
  · obtain ⟨q,b,hq,rfl,hlt⟩:=hget k hk
    have he:=i'.ent (nk 0 q)
    rw [e1 q b hq] at he
    rw [e2 q b hq]
    exact zpq (hrow b (yas hq)) (zr4 hlt) he
  · obtain ⟨q,b',hq,rfl,hlt⟩:=hget k hk
    rw [e2 q b' hq] at hob
    refine ho (nk 0 q) b ?_
    rw [e1 q b' hq]
    exact (zmx (G:=G') (hrow b' (yas hq)) (zr4 hlt)).1 hob
  · obtain ⟨q,b1,hq,rfl,hlt⟩:=hget k hk
    obtain ⟨q',b2,hq',rfl,hlt'⟩:=hget k' hk'
    rw [e2 q b1 hq] at hob
    rw [e2 q' b2 hq'] at hob'
    have r1:=(zmx (G:=G') (hrow b1 (yas hq)) (zr4 hlt)).1 hob
    have r2:=(zmx (G:=G') (hrow b2 (yas hq')) (zr4 hlt')).1 hob'
    have:=i'.apart (nk 0 q) (nk 0 q') b (by rw [e1 q b1 hq]; exact r1) (by rw [e1 q' b2 hq']; exact r2)
    rw [zH2 this]
  · intro j c hj
    exact zss (G':=G') (G2:=⟨G'.St,hdO bs.length d G.hd G'.hd⟩) (h1:=zbc zat 0 bs) (h2:=zbc h d bs) bs.length rfl (fun q hq v r=>zqd (G':=G') (hd2:=hdO bs.length d G.hd G'.hd) bs.length bs rfl e1 e2 (fun q hq=>zr4 hq) hq r) rs 0 (by rw [hbs]; omega) j c hj
theorem zmr {G:GS} {h:Nat→Ent} {w:World} {us:List Value} {vs:List AV} (hl:us.length=vs.length) (hr:∀ (j:Nat) v,vs[j]? = some v→ARel G h w (us.getD j undef) v):ARel G h w (za3 us) (tupA vs):=by
  match us,vs,hl with
  | [u],[r],_=>exact hr 0 r rfl
  | [],[],_=>exact .tup #[] [] rfl (by simp)
  | u :: v :: us,r :: q :: rs,hl =>
    refine .tup _ _ (by simpa using hl) fun j c hj=>?_
    have:=hr j c hj
    simpa [yaw,ybi] using this
theorem zy9 {G G1:GS} {h H1:Nat→Ent} {w w':World} (s:Step G h w G1 H1 w') (K:Nat→Prop) (h2:Nat→Ent) (hd2:Nat→Hd)
    (hin:∀ k,K k→(h2 k).ver=(H1 k).ver+1) (hout:∀ k,¬ K k→h2 k=H1 k∧hd2 k=G1.hd k)
    (hent:∀ k,K k→zjc ⟨G1.St,hd2⟩ h2 w' k (h2 k).body)
    (hown:∀ k,K k → ∀ b,Owns ⟨G1.St,hd2⟩ k b (h2 k).body→((∃ q,Owns G q b (h q).body)∨w.heap.size≤b) ∧ ∀ q,¬ Owns G1 q b (H1 q).body)
    (hap:∀ k k',K k→K k' → ∀ b,Owns ⟨G1.St,hd2⟩ k b (h2 k).body→Owns ⟨G1.St,hd2⟩ k' b (h2 k').body→k=k') :
    Step G h w ⟨G1.St,hd2⟩ h2 w':=by
  have hext1:Ext G1 H1 w' ⟨G1.St,hd2⟩ h2 w':=by
    refine ⟨.refl _ _,fun q=>?_,fun q hq=>?_⟩
    · by_cases hqk:K q
      · rw [hin q hqk]; omega
      · rw [(hout q hqk).1]; exact yab _
    · by_cases hqk:K q
      · rw [hin q hqk] at hq; omega
      · exact ⟨(hout q hqk).2,by rw [(hout q hqk).1]; exact Body.like_refl _⟩
  have hOw:∀ q b,¬ K q→(Owns ⟨G1.St,hd2⟩ q b (h2 q).body ↔ Owns G1 q b (H1 q).body):=by
    intro q b hq
    obtain ⟨h1,h3⟩:=hout q hq
    rw [h1]
    cases (H1 q).body <;> simp only [Owns,h3]
  refine ⟨⟨s.inv.st,fun q=>?_,fun q q' b h1 h3=>?_,s.inv.low⟩,s.ext.trans hext1,⟨s.left.os,s.left.tape,s.left.output,s.left.size,s.left.block⟩,fun q b ho=>?_,fun b h0 h1=>s.fresh b h0 h1⟩
  · by_cases hq:K q
    · exact hent q hq
    · obtain ⟨h1,h3⟩:=hout q hq
      rw [h1]
      have he:=s.inv.ent q
      cases hbk:(H1 q).body with
      | dead=>trivial
      | box ds fz =>
        rw [hbk] at he
        obtain ⟨b',arr',el',hA,hh,hsz,hrel,hs⟩:=he
        exact ⟨b',arr',el',by show (hd2 q).A=_; rw [h3]; exact hA,hh,hsz,fun j c hj=>⟨(hrel j c hj).1.ext hext1,(hrel j c hj).2⟩,hs⟩
      | row sz xs fz =>
        rw [hbk] at he
        cases fz <;> (simp only [zjc] at he ⊢; rw [h3]; exact he)
  · by_cases hq:K q <;> by_cases hq':K q'
    · exact hap q q' hq hq' b h1 h3
    · exact ((hown q hq b h1).2 q' ((hOw q' b hq').1 h3)).elim
    · exact ((hown q' hq' b h3).2 q ((hOw q b hq).1 h1)).elim
    · exact s.inv.apart q q' b ((hOw q b hq).1 h1) ((hOw q' b hq').1 h3)
  · by_cases hq:K q
    · exact (hown q hq b ho).1
    · exact s.grow q b ((hOw q b hq).1 ho)
def MutO (P:Program) (g:FuncId) (as:List AV) (K:List Nat) (h0:Nat→Ent) (rs:List RV) (h1:Nat→Ent):Prop :=
  zlb P g∧(∀ k ∈ K,zvz K (h1 k).body) ∧ ∀ (G:GS) (h:Nat→Ent) (w:World) (vs:List Value),(∀ k ∈ K,h k=h0 k)→(∀ k,k ∉ K→(h k).body = .dead)→Inv G h w→vs.length=as.length →
    (∀ (j:Nat) a,as[j]? = some a→ARel G h w (vs.getD j undef) a) →
    Calls P g vs.toArray w fun e w'=>∃ (G':GS) (h':Nat→Ent) (us:List Value) (hd2:Nat→Hd),e = .returned (za3 us)∧us.length=(zbn zat 0 0 rs).length ∧
      (∀ (j:Nat) v,(zbn zat 0 0 rs)[j]? = some v→ARel ⟨G'.St,hd2⟩ (zbc zat 0 (zas rs)) w' (us.getD j undef) v)∧(∀ k ∈ K,h' k=h1 k)∧(∀ k,k ∉ K→(h' k).body = .dead)∧Step G h w G' h' w' ∧
      Inv ⟨G'.St,hd2⟩ (zbc zat 0 (zas rs)) w' ∧ ∀ k b,Owns ⟨G'.St,hd2⟩ k b (zbc zat 0 (zas rs) k).body→((∃ q,Owns G q b (h q).body)∨w.heap.size≤b) ∧ ∀ q,¬ Owns G' q b (h' q).body
theorem zw8 {G G':GS} {h h' h1:Nat→Ent} {w w':World} {K:List Nat} (i:Inv G h w) (hs:Step G (only K h) w G' h' w') (hk:∀ k ∈ K,h' k=h1 k) (ho:∀ k ∈ K,zvz K (h1 k).body) {rs:List RV} (d:Nat) {hd1:Nat→Hd}
    (i':Inv ⟨G'.St,hd1⟩ (zbc zat 0 (zas rs)) w')
    (hown:∀ k b,Owns ⟨G'.St,hd1⟩ k b (zbc zat 0 (zas rs) k).body→((∃ q,Owns G q b (only K h q).body)∨w.heap.size≤b) ∧ ∀ q,¬ Owns G' q b (h' q).body) :
    Step G h w ⟨G'.St,hdO (zas rs).length d (fun k=>if k ∈ K then G'.hd k else G.hd k) hd1⟩ (zbc (zaz K h1 h) d (zas rs)) w' ∧
    ∀ (j:Nat) c,(zbn zat 0 0 rs)[j]? = some c → ∃ c',(zbn (zaz K h1 h) d 0 rs)[j]? = some c' ∧ ∀ v,ARel ⟨G'.St,hd1⟩ (zbc zat 0 (zas rs)) w' v c →
      ARel ⟨G'.St,hdO (zas rs).length d (fun k=>if k ∈ K then G'.hd k else G.hd k) hd1⟩ (zbc (zaz K h1 h) d (zas rs)) w' v c':=by
  have s1:=zl6 i hs hk ho
  have hrow:=zqi rs
  generalize hbs:zas rs=bs at *
  generalize hdm:(fun k=>if k ∈ K then G'.hd k else G.hd k)=hm at s1 ⊢
  have e1:∀ q b,bs[q]? = some b→zbc zat 0 bs (nk 0 q)=⟨1,b⟩:=fun q b hq=>by rw [ze4 _ _ _ hq]; rfl
  have e2:∀ q b,bs[q]? = some b→zbc (zaz K h1 h) d bs (nk d q)=⟨(zaz K h1 h (nk d q)).ver+1,b⟩:=fun q b hq=>ze4 _ _ _ hq
  have hget:∀ k,(∃ q,q<bs.length∧k=nk d q) → ∃ q b,bs[q]? = some b∧k=nk d q∧q<bs.length:=fun k ⟨q,hq,e⟩=>⟨q,_,yar hq,e,hq⟩
  have hto:∀ q b bd,bs[q]? = some bd→q<bs.length→Owns ⟨G'.St,hdO bs.length d hm hd1⟩ (nk d q) b bd→Owns ⟨G'.St,hd1⟩ (nk 0 q) b (zbc zat 0 bs (nk 0 q)).body:=fun q b bd hq hlt ho=>by
    rw [e1 q bd hq]
    exact (zmx (G:=⟨G'.St,hd1⟩) (hrow bd (yas hq)) (zr4 hlt)).1 ho
  refine ⟨zy9 s1 (fun k=>∃ q,q<bs.length∧k=nk d q) _ _ (fun k hkk=>?_) (fun k hkk=>?_) (fun k hkk=>?_) (fun k hkk b hob=>?_) (fun k k' hkk hkk' b hob hob'=>?_),?_⟩
  · obtain ⟨q,b,hq,rfl,hlt⟩:=hget k hkk
    rw [e2 q b hq]
  · have hk':∀ q,q<bs.length→k ≠ nk d q:=fun q hq e=>hkk ⟨q,hq,e⟩
    exact ⟨zd9 _ _ _ hk',zD6 hk'⟩
  · obtain ⟨q,b,hq,rfl,hlt⟩:=hget k hkk
    have he:=i'.ent (nk 0 q)
    rw [e1 q b hq] at he
    rw [e2 q b hq]
    exact zpq (G:=⟨G'.St,hd1⟩) (hrow b (yas hq)) (zr4 hlt) he
  · obtain ⟨q,bd,hq,rfl,hlt⟩:=hget k hkk
    rw [e2 q bd hq] at hob
    obtain ⟨a1,a2⟩:=hown _ _ (hto q b bd hq hlt hob)
    refine ⟨?_,fun q' ho'=>?_⟩
    · rcases a1 with ⟨q',hq'⟩ | hge
      · exact .inl ⟨q',(zh0 hq').2⟩
      · exact .inr hge
    · by_cases hqk:q' ∈ K
      · refine a2 q' ?_
        have e3:zaz K h1 h q'=h' q':=by simp only [zaz,if_pos hqk,hk q' hqk]
        rw [e3] at ho'
        have e4:hm q'=G'.hd q':=by rw [← hdm]; simp only [if_pos hqk]
        cases hbq:(h' q').body <;> rw [hbq] at ho' <;> simp only [Owns,e4] at ho' ⊢ <;> exact ho'
      · have e3:zaz K h1 h q'=h q':=by simp only [zaz,if_neg hqk]
        rw [e3] at ho'
        have e4:hm q'=G.hd q':=by rw [← hdm]; simp only [if_neg hqk]
        have ho2:Owns G q' b (h q').body:=by
          cases hbq:(h q').body <;> rw [hbq] at ho' <;> simp only [Owns,e4] at ho' ⊢ <;> exact ho'
        rcases a1 with ⟨q2,hq2⟩ | hge
        · obtain ⟨b1,b2⟩:=zh0 hq2
          exact hqk (i.apart q2 q' b b2 ho2 ▸ b1)
        · have:=zio i ho2
          omega
  · obtain ⟨q,b1,hq,rfl,hlt⟩:=hget k hkk
    obtain ⟨q',b2,hq',rfl,hlt'⟩:=hget k' hkk'
    rw [e2 q b1 hq] at hob
    rw [e2 q' b2 hq'] at hob'
    have:=i'.apart (nk 0 q) (nk 0 q') b (hto q b b1 hq hlt hob) (hto q' b b2 hq' hlt' hob')
    rw [zH2 this]
  · intro j c hj
    exact zss (G':=⟨G'.St,hd1⟩) (G2:=⟨G'.St,hdO bs.length d hm hd1⟩) (h1:=zbc zat 0 bs) (h2:=zbc (zaz K h1 h) d bs) bs.length rfl (fun q hq v r=>zqd (G':=⟨G'.St,hd1⟩) (hd2:=hdO bs.length d hm hd1) bs.length bs rfl e1 e2 (fun q hq=>zr4 hq) hq r) rs 0 (by rw [hbs]; omega) j c hj
end Ev
end Go.Proofs.YtncmainjcffanaaGreat
/- The meaning of the small language: calls,regions,code; one operation at the machine. -/
namespace Go.Proofs.YtncmainjcffanaaGreat
namespace Ev
open Go
set_option linter.unusedSectionVars false
variable [Nw]
def callee:AV→Option (FuncId × List AV)
  | .d (.clo g cs)=>some (g,cs.map .d)
  | .clo g cs=>some (g,cs)
  | _=>none
def resA:List D→AV
  | [r]=>.d r
  | rs=>.tup (rs.map .d)
def putS (s:Nat→AV) (dst:Option Nat) (v:AV):Nat→AV:=match dst with
  | some d=>upd s d v
  | none=>s
def resK:Option Nat→List Nat
  | some d=>[d,d+1000,3001]
  | none=>[3001]
def newC:D→AV
  | .sl sz xs=>.n true (.sl sz xs)
  | x=>.d x
def newA:D→AV
  | .agg cs=>.agg (cs.map newC)
  | x=>newC x
def resN:List D→AV
  | [r]=>newA r
  | rs=>.tup (rs.map newA)
def zKx (P:Program) (g:FuncId) (dst:Option Nat) (as:List AV) (h:Nat→Ent) (r:AV) (h':Nat→Ent):Prop :=
  (∃ rs,r=resA rs∧((∃ ds,allD (toD h deep) as=some ds∧Pure P g ds rs∧h'=frz h (as.flatMap (sk h deep))) ∨
  (∃ h0 h1,MutC P g as (as.flatMap (sk h deep)) h0 rs h1∧(∀ k ∈ as.flatMap (sk h deep),h k=h0 k)∧h'=zaz (as.flatMap (sk h deep)) h1 h) ∨
  (∃ ds,allD (toD h deep) as=some ds∧Pure P g ds rs∧(∀ r ∈ rs,r.flat=true)∧h'=h))) ∨
  (∃ d ds rs,dst=some d∧allD (toD h deep) as=some ds∧OwnC P g ds rs∧(zas rs).length≤2∧r=resO h d rs∧h'=zbc (frz h (as.flatMap (sk h deep))) d (zas rs)) ∨
  (∃ d rs h0 h1,dst=some d∧MutO P g as (as.flatMap (sk h deep)) h0 rs h1∧(∀ k ∈ as.flatMap (sk h deep),h k=h0 k)∧(zas rs).length≤2∧r=resO (zaz (as.flatMap (sk h deep)) h1 h) d rs∧h'=zbc (zaz (as.flatMap (sk h deep)) h1 h) d (zas rs)) ∨
  (∃ K rs h0 h1,r=resA rs∧(∀ k ∈ K,k ∈ as.flatMap (sk h deep) ++ resK dst)∧MutC P g as K h0 rs h1∧(∀ k ∈ K,h k=h0 k)∧h'=zaz K h1 h) ∨
  (∃ ds rs,allD (toD h deep) as=some ds∧zi0 P g ds rs∧r=resN rs∧h'=frz h (as.flatMap (sk h deep))) ∨
  (∃ ds rs,as.all AV.hi=true∧allD (toD h deep) as=some ds∧Pure P g ds rs∧r=resN rs∧h'=frz h (as.flatMap (sk h deep)))
def runX (P:Program) (o:XOper) (st:S) (K:S→Prop):Prop :=
  match o.op with
  | .call f args=>∃ g caps r h',callee (f.ev st.s)=some (g,caps)∧zKx P g o.dst (args.map (·.ev st.s) ++ caps) st.h r h'∧K ⟨putS st.s o.dst r,h'⟩
  | x=>∃ av h',actW o.dst st x=some (av,h')∧K ⟨putS st.s o.dst av,h'⟩
def zjy (o:XOper) (s:Nat→AV):Option Bool:=match o.guard with
  | none=>some true
  | some (j,want)=>match s j with
    | .d (.bool b)=>some (b == want)
    | .skip=>some false
    | _=>none
def wpO (P:Program):List XOper→S→(S→Prop)→Prop
  | [],st,K=>K st
  | o :: os,st,K=>match zjy o st.s with
    | some true=>runX P o st fun st'=>wpO P os st' K
    | some false=>wpO P os ⟨putS st.s o.dst .skip,st.h⟩ K
    | none=>False
section
variable {P:Program} {G:GS} {h:Nat→Ent} {w:World} {a:Act} {s:Nat→AV} {o:Oper}
structure Fr (n:Nat) (G:GS) (st:S) (a:Act) (w:World):Prop where
  inv:Inv G st.h w
  slots:zc0 G st.h w a st.s
  size:a.tmps.size=n
theorem zAk {a:Act} {d:Nat} {v:Value} (hd:d<a.tmps.size) (i:Nat):(a.put (some d) v).tmps.getD i undef=if i=d then v else a.tmps.getD i undef:=by
  simp only [Act.put,yaw,yaT]
  by_cases hi:i=d
  · subst hi; simp [hd]
  · simp [hi,Ne.symm hi]
theorem zc0.put {a:Act} {s:Nat→AV} {G:GS} {h:Nat→Ent} {w:World} (sl:zc0 G h w a s) {v:Value} {av:AV} (r:ARel G h w v av) {n:Nat} (hsz:a.tmps.size=n) {dst:Option Nat} (hd:(dst.all (· < n))=true):zc0 G h w (a.put dst v) (putS s dst av):=by
  cases dst with
  | none=>exact sl
  | some d =>
    simp only [Option.all_some,decide_eq_true_eq] at hd
    intro i
    rw [zAk (by omega)]
    simp only [putS,upd]
    split
    · exact r
    · exact sl i
theorem zbq {a:Act} {dst:Option Nat} {v:Value}:(a.put dst v).tmps.size=a.tmps.size:=by cases dst <;> simp [Act.put]
theorem zax {a:Act} {dst:Option Nat} {v:Value}:(a.put dst v).defers=a.defers:=by cases dst <;> rfl
theorem zc1 {ops:Array Oper} {n:Nat} {x:XOper} (hc:zuw P ops n o=some x):x.dst=o.dst∧cop P o=some x.op∧(o.dst.all (· < n))=true ∧
    ((o.guard=none∧x.guard=none) ∨ ∃ j b d,o.guard=some (j,b)∧(ops[j]?).bind (·.dst)=some d∧d<n∧x.guard=some (d,b)):=by
  unfold zuw at hc
  split at hc
  · rename_i y hy hg
    split at hc
    · rename_i hd
      cases hc
      exact ⟨rfl,hy,hd,.inl ⟨hg,rfl⟩⟩
    · cases hc
  · rename_i y j b hy hg
    split at hc
    · rename_i d hd
      split at hc
      · rename_i hdd
        cases hc
        exact ⟨rfl,hy,hdd.1,.inr ⟨j,b,d,hg,hd,hdd.2,rfl⟩⟩
      · cases hc
    · cases hc
  · cases hc
theorem zmv {ops:Array Oper} {n:Nat} {x:XOper} (hc:zuw P ops n o=some x) (sl:zc0 G h w a s) {b:Bool} (hw:zjy x s=some b):Region.wanted o (yielded ops a.tmps)=b:=by
  obtain ⟨_,_,_,hg⟩:=zc1 hc
  rcases hg with ⟨h1,h2⟩ | ⟨j,want,d,h1,h2,h3,h4⟩
  · simp only [zjy,h2,Option.some.injEq] at hw
    simp [Region.wanted,h1,hw]
  · simp only [zjy,h4] at hw
    have hr:=sl d
    split at hw
    · rename_i t ht
      rw [ht] at hr
      have hv:=hr.of_bool
      simp only [Option.some.injEq] at hw
      have hget:a.tmps[d]? = some (.bool t):=by
        simp only [yaw] at hv
        cases hx:a.tmps[d]? with
        | none=>simp [hx,undef] at hv
        | some u=>simp [hx] at hv; rw [hv]
      have hy:yielded ops a.tmps j=some t:=by
        unfold yielded
        rw [h2]
        simp [hget]
      simp only [Region.wanted,h1,hy,← hw]
      cases t <;> cases want <;> rfl
    · rename_i ht
      rw [ht] at hr
      simp only [Option.some.injEq] at hw
      have hv:a.tmps.getD d undef=undef:=by
        generalize a.tmps.getD d undef=v at hr
        cases hr
        rfl
      have hy:yielded ops a.tmps j=none:=by
        unfold yielded
        rw [h2]
        simp only [yaq]
        simp only [yaw] at hv
        cases hx:a.tmps[d]? with
        | none=>rfl
        | some u=>simp [hx] at hv; rw [hv]; rfl
      simp only [Region.wanted,h1,hy,← hw]
      rfl
    · cases hw
theorem zgh (i:Inv G h w) {St':Nat→Nat} {w':World} (hb:RowKit.Below w.heap.size w w') (hst:∀ b,b<w.heap.size→St' b=G.St b) (hst':∀ b,0<St' b→b<w'.heap.size) (hfr:∀ b,w.heap.size≤b→0<St' b→zgv w' b):Step G h w ⟨St',G.hd⟩ h w':=by
  have hext:Ext G h w ⟨St',G.hd⟩ h w':=by
    refine ⟨⟨fun b=>?_,fun b j hj=>?_,fun b hb' hf=>hf.eq (hb.block b (i.st b hb'))⟩,fun _=>yab _,fun _ _=>⟨rfl,Body.like_refl _⟩⟩
    · show G.St b≤St' b
      rcases ybm b w.heap.size with hlt | hge
      · rw [hst b hlt]; exact yab _
      · have:¬ 0<G.St b:=fun hp=>by have:=i.st b hp; omega
        omega
    · have hlt:=i.st b (by omega)
      exact World.cell?_of_block (w:=w) (a:=⟨b,j,none⟩) (hb.block b hlt)
  refine ⟨⟨hst',fun q=>?_,i.apart,yac i.low hb.size⟩,hext,⟨hb.os,hb.tape,hb.output,hb.size,fun b hlt _=>⟨hb.block b hlt,hst b hlt⟩⟩,fun q b hq=>.inl ⟨q,hq⟩,fun b h0 h1=>by
    have h1':0<St' b:=h1
    rcases ybm b w.heap.size with hlt | hge
    · have:=hst b hlt
      omega
    · exact hfr b hge h1⟩
  have he:=i.ent q
  cases hbk:(h q).body with
  | dead=>trivial
  | box ds fz =>
    rw [hbk] at he
    obtain ⟨b',arr',el',hA,hh,hsz,hrel,hs⟩:=he
    have hlt:=(yay.1 hh).1
    exact ⟨b',arr',el',hA,(hb.block b' hlt).trans hh,hsz,fun j c hj=>⟨(hrel j c hj).1.ext hext,(hrel j c hj).2⟩,(hst b' hlt).trans hs⟩
  | row sz xs fz =>
    rw [hbk] at he
    cases fz with
    | true =>
      refine ⟨he.1.keeps hext.keeps,?_⟩
      rcases he.2 with hc' | ⟨b',arr',el',hA,hh,h0,hsz,hs⟩
      · exact .inl hc'
      · have hlt:=(yay.1 hh).1
        exact .inr ⟨b',arr',el',hA,(hb.block b' hlt).trans hh,h0,hsz,(hst b' hlt).trans hs⟩
    | false =>
      rcases he with ⟨z1,z2,z3⟩ | ⟨b',arr',el',hA,hh,hsz,hcap,hm,hcs,hrel,hs⟩
      · exact .inl ⟨z1,z2,z3⟩
      have hlt:=(yay.1 hh).1
      exact .inr ⟨b',arr',el',hA,(hb.block b' hlt).trans hh,hsz,hcap,hm,hcs,fun p x hp j c hj=>⟨(hrel p x hp j c hj).1.keeps hext.keeps.rwS,(hrel p x hp j c hj).2⟩,(hst b' hlt).trans hs⟩
theorem zhw {us:List Value} {rs:List D} (hr:RelL G.St w us rs):ARel G h w (za3 us) (resA rs):=by
  obtain ⟨hl,hr⟩:=hr
  match us,rs,hl with
  | [u],[r],_=>exact .d _ _ (hr 0 r rfl)
  | [],[],_=>exact .tup #[] [] rfl (by simp)
  | u :: v :: us,r :: q :: rs,hl =>
    refine .tup _ _ (by simpa using hl) fun j c hj=>?_
    simp only [yau] at hj
    cases hx:(r :: q :: rs)[j]? with
    | none=>simp [hx] at hj
    | some d =>
      simp only [hx,yak,Option.some.injEq] at hj
      subst hj
      have:=hr j d hx
      refine .d _ _ ?_
      simpa [yaw,ybi] using this
theorem zyx {n m:Nat} {St:Nat→Nat} (h:n≤m) (b:Nat):cutS true m St b≤cutS true n St b:=by
  unfold cutS
  by_cases h1:m≤b
  · have h2:n≤b:=by omega
    simp [h1,h2]
  · simp [h1]
theorem zCt {v:Value} {x:D} (r:Rel (cutS true Nw.n G.St) w v x):ARel G h w v (newC x):=by
  cases x with
  | sl sz xs=>exact .n _ _ _ (by cases r; rfl) r
  | _=>exact .d _ _ r.uncutS
theorem zC5 {v:Value} {x:D} (r:Rel (cutS true Nw.n G.St) w v x):ARel G h w v (newA x):=by
  cases x with
  | agg cs =>
    cases r with
    | agg vs _ hn hr =>
      refine .agg vs _ (by simpa using hn) fun j c hj=>?_
      simp only [yau] at hj
      cases hx:cs[j]? with
      | none=>simp [hx] at hj
      | some d =>
        simp only [hx,yak,Option.some.injEq] at hj
        subst hj
        exact zCt (hr j d hx)
  | _=>exact zCt r
theorem zmz {us:List Value} {rs:List D} (hr:RelL (cutS true Nw.n G.St) w us rs):ARel G h w (za3 us) (resN rs):=by
  obtain ⟨hl,hr⟩:=hr
  match us,rs,hl with
  | [u],[r],_=>exact zC5 (hr 0 r rfl)
  | [],[],_=>exact .tup #[] [] rfl (by simp)
  | u :: v :: us,r :: q :: rs,hl =>
    refine .tup _ _ (by simpa using hl) fun j c hj=>?_
    simp only [yau] at hj
    cases hx:(r :: q :: rs)[j]? with
    | none=>simp [hx] at hj
    | some d =>
      simp only [hx,yak,Option.some.injEq] at hj
      subst hj
      have:=hr j d hx
      refine zC5 ?_
      simpa [yaw,ybi] using this
theorem zDu {n:Nat} {v:Value} {x:AV} {y:D} (r:ARel G h w v x) (hh:x.hi=true) (hy:toD h n x=some y):Rel (cutS true Nw.n G.St) w v y:=by
  have one:∀ {n:Nat} {u:Value} {a:AV} {d:D},ARel G h w u a→a.hi1=true→toD h n a=some d→Rel (cutS true Nw.n G.St) w u d:=by
    intro n u a d ra ha hd
    cases a with
    | d z=>rw [zv0] at hd; cases hd; exact ra.d_inv.bare1 ha
    | n q z =>
      rw [zHv] at hd
      cases hd
      simp only [AV.hi1] at ha
      subst ha
      cases ra with | n _ _ _ _ hr=>exact hr
    | fsl sz xs =>
      rw [zup] at hd
      cases hd
      cases xs with
      | nil=>cases ra with | fsl A m _ _ hr=>exact hr.bare1 rfl
      | cons=>simp [AV.hi1] at ha
    | _=>simp [AV.hi1] at ha
  cases x with
  | d z =>
    rw [zv0] at hy
    cases hy
    cases y with
    | agg cs =>
      cases r.d_inv with
      | agg vs _ hn hr =>
        simp only [AV.hi,D.bare,yaC] at hh
        exact .agg vs _ hn fun j c hj=>(hr j c hj).bare1 (hh c (yas hj))
    | _=>exact r.d_inv.bare1 hh
  | agg cs =>
    cases n with
    | zero=>simp [toD] at hy
    | succ n =>
      simp only [toD,yaG] at hy
      obtain ⟨ds,hds,rfl⟩:=hy
      obtain ⟨hl,hg⟩:=ze1 hds
      simp only [AV.hi,yaC] at hh
      cases r with
      | agg vs _ hn hr =>
        refine .agg vs _ (by omega) fun j c hj=>?_
        have hj':=(yae.1 hj).1
        have hlt:j<cs.length:=by omega
        obtain ⟨d,hd,ht⟩:=hg j _ (yar hlt)
        rw [hd] at hj
        cases hj
        exact one (hr j _ (yar hlt)) (hh _ (yaf hlt)) ht
  | _=>exact one r (by simpa [AV.hi] using hh) hy
theorem zym (i:Inv G h w) {vs:List Value} {as:List AV} (hl:vs.length=as.length) (hr:∀ (j:Nat) x,as[j]? = some x→ARel G h w (vs.getD j undef) x) (hh:as.all AV.hi=true) {ds:List D} (hd:allD (toD h deep) as=some ds) :
    RelL (cutS true Nw.n (zch G h w (as.flatMap (sk h deep)))) w vs ds:=by
  obtain ⟨h1,h2⟩:=ze1 hd
  rw [yaC] at hh
  refine ⟨by omega,fun j d hj=>?_⟩
  have hlt:j<as.length:=by have:=(yae.1 hj).1; omega
  obtain ⟨d',hd',ht⟩:=h2 j _ (yar hlt)
  rw [hd'] at hj
  cases hj
  exact (zDu (hr j _ (yar hlt)) (hh _ (yaf hlt)) ht).le (zjz (zkf G h w _))
theorem zlu {f:FuncId} (he:zlb P f) (args:Array Value):(callFunc f args).run P w = .ok (.enter f args) w:=by
  obtain ⟨fn,hf,hn,hb⟩:=he
  have:¬ fn.body=none:=by intro h; rw [h] at hb; cases hb
  simp [callFunc,program,hf,hn,this,Sem.run,Sem.run_bind,Sem.run_pure]
theorem zed (i:Inv G h w) {vs:List Value} {as:List AV} (hl:vs.length=as.length) (hr:∀ (j:Nat) x,as[j]? = some x→ARel G h w (vs.getD j undef) x) {ds:List D} (hd:allD (toD h deep) as=some ds) :
    RelL (zch G h w (as.flatMap (sk h deep))) w vs ds:=by
  obtain ⟨h1,h2⟩:=ze1 hd
  refine ⟨by omega,fun j d hj=>?_⟩
  have hlt:j<as.length:=by have:=(yae.1 hj).1; omega
  obtain ⟨d',hd',ht⟩:=h2 j _ (yar hlt)
  rw [hd'] at hj
  cases hj
  exact zr5 i _ deep (hr j _ (yar hlt)) ht fun k hk=>yaA.2 ⟨_,yaf hlt,hk⟩
theorem zu6 {as:List Operand} {ts:List TypeId} (hl:as.length=ts.length) (s:Nat→AV) (j:Nat) (x:AV) (hj:(((as.zip ts).map fun p=>copd P p.2 p.1).map (·.ev s))[j]? = some x):∃ y t,as[j]? = some y∧x=(copd P t y).ev s:=by
  simp only [List.map_map,yau] at hj
  cases hp:(as.zip ts)[j]? with
  | none=>simp [hp] at hj
  | some p =>
    simp only [hp,yak,Option.some.injEq,Function.comp] at hj
    obtain ⟨h1,h2⟩:=zH6 hl hp
    exact ⟨p.1,p.2,h1,hj.symm⟩
theorem zro {h h2:Nat→Ent} (hv:∀ k,(h k).ver=(h2 k).ver) (d:Nat):∀ (cs:List RC) (q:Nat),zbr h d q cs=zbr h2 d q cs
  | [],_=>rfl
  | .d _ :: cs,q=>by simp only [zbr,zro hv d cs]
  | .row _ _ _ :: cs,q=>by simp only [zbr,zro hv d cs,hv]
theorem zqa {h h2:Nat→Ent} (hv:∀ k,(h k).ver=(h2 k).ver) {d:Nat}:∀ {rs:List RV} {q:Nat},zbn h d q rs=zbn h2 d q rs
  | [],_=>rfl
  | .one c :: rs,q=>by
    have:oneV h d q c=oneV h2 d q c:=by cases c <;> simp only [oneV,hv]
    simp only [zbn,zqa hv (rs:=rs),this]
  | .agg cs :: rs,q=>by simp only [zbn,zqa hv (rs:=rs),zro hv d cs]
theorem zE4 {ops:Array Oper} {n:Nat} {x:XOper} {st:S} {K:S→Prop} {Q:Exit→Act→World→Prop} (hc:zuw P ops n o=some x) (fr:Fr n G st a w) (hr:runX P x st K) :
    o.wp P a w (fun a' w'=>∃ G' st',Fr n G' st' a' w'∧Step G st.h w G' st'.h w'∧a'.defers=a.defers∧K st') Q:=by
  obtain ⟨hd1,hcop,hd2,_⟩:=zc1 hc
  unfold runX at hr
  split at hr
  · -- a call
    rename_i f args hop
    obtain ⟨g,caps,r0,hx',hcal,hcx,hK⟩:=hr
    rw [hop] at hcop
    have hshape:∃ (c:Call) (f':Operand) (as:List Operand) (ts:List TypeId),o.op = .call c∧c.callee = .value f'∧c.args.toList=as∧as.length=ts.length∧f=copd P 0 f'∧args=(as.zip ts).map fun p=>copd P p.2 p.1:=by
      unfold cop at hcop
      split at hcop
      case h_21 c ho =>
        obtain ⟨cal,as_,ts⟩:=c
        simp only at hcop
        split at hcop
        · obtain ⟨e,he,hh⟩:=map_some hcop; cases hh
        · split at hcop
          · obtain ⟨e,he,hcop⟩:=bind_some hcop
            obtain ⟨sz,hn,hcop⟩:=bind_some hcop
            obtain ⟨b,hb,hcop⟩:=bind_some hcop
            split at hcop
            · cases hcop
            · cases hcop
          · cases hcop
        · cases hcop
        · cases hcop
        · rename_i f'
          split at hcop
          · rename_i hl
            cases hcop
            exact ⟨_,f',as_.toList,ts.toList,ho,rfl,rfl,hl,rfl,rfl⟩
          · cases hcop
        · cases hcop
      all_goals first
        | (cases hcop; done)
        | (obtain ⟨_,_,hcop⟩:=bind_some hcop; obtain ⟨_,_,hcop⟩:=bind_some hcop; obtain ⟨_,_,hcop⟩:=bind_some hcop; split at hcop <;> cases hcop; done)
        | (obtain ⟨_,_,hcop⟩:=bind_some hcop; obtain ⟨_,_,hcop⟩:=map_some hcop; cases hcop; done)
        | (obtain ⟨_,_,hcop⟩:=map_some hcop; cases hcop; done)
        | (split at hcop <;> first
            | (cases hcop; done)
            | (obtain ⟨_,_,hcop⟩:=map_some hcop; cases hcop; done)
            | (split at hcop <;> first
                | (cases hcop; done)
                | (obtain ⟨_,_,hcop⟩:=bind_some hcop; obtain ⟨_,_,hcop⟩:=map_some hcop; cases hcop; done)
                | (obtain ⟨_,_,hcop⟩:=bind_some hcop; obtain ⟨_,_,hcop⟩:=bind_some hcop; obtain ⟨_,_,hcop⟩:=bind_some hcop; obtain ⟨_,_,hcop⟩:=bind_some hcop; split at hcop <;> cases hcop; done))
            | (obtain ⟨_,_,hcop⟩:=bind_some hcop; obtain ⟨_,_,hcop⟩:=bind_some hcop; split at hcop <;> cases hcop; done)
            | (obtain ⟨_,_,hcop⟩:=bind_some hcop; obtain ⟨_,_,hcop⟩:=bind_some hcop; obtain ⟨_,_,hcop⟩:=map_some hcop; cases hcop; done))
    obtain ⟨c,f',as,ts,ho,hcc,has,hl,rfl,rfl⟩:=hshape
    have hfr:=za0 P fr.slots 0 f'
    have hfv:∃ vs:Array Value,a.eval f' = .func (.func g) #[] vs∧vs.size=caps.length ∧ ∀ (j:Nat) y,caps[j]? = some y→ARel G st.h w (vs.getD j undef) y:=by
      generalize a.eval f'=v at hfr
      unfold callee at hcal
      split at hcal
      · rename_i g' cs hcv
        rw [hcv] at hfr
        cases hcal
        have:=hfr.d_inv
        cases this with
        | clo _ vs _ hn hr =>
          refine ⟨vs,rfl,by simpa using hn,fun j y hj=>?_⟩
          simp only [yau] at hj
          cases hx:cs[j]? with
          | none=>simp [hx] at hj
          | some q =>
            simp only [hx,yak,Option.some.injEq] at hj
            subst hj
            exact .d _ _ (hr j q hx)
      · rename_i g' cs hcv
        rw [hcv] at hfr
        cases hcal
        cases hfr with
        | clo _ vs _ hn hr=>exact ⟨vs,rfl,hn,hr⟩
      · cases hcal
    obtain ⟨cvs,hfe,hcsz,hcr⟩:=hfv
    have hallr:∀ (j:Nat) y,(((as.zip ts).map fun p=>copd P p.2 p.1).map (·.ev st.s) ++ caps)[j]? = some y→ARel G st.h w ((as.map a.eval ++ cvs.toList).getD j undef) y:=by
      intro j y hj
      have hlz:(((as.zip ts).map fun p=>copd P p.2 p.1).map (·.ev st.s)).length=as.length:=by simp; omega
      rw [ybk] at hj
      split at hj
      · rename_i hlt
        obtain ⟨x',t,hx',rfl⟩:=zu6 hl st.s j y hj
        have:(as.map a.eval ++ cvs.toList).getD j undef=a.eval x':=by
          rw [ybi,ybs (by simp; omega)]
          simp [hx']
        rw [this]
        exact za0 P fr.slots t x'
      · rename_i hge
        have:(as.map a.eval ++ cvs.toList).getD j undef=cvs.getD (j - as.length) undef:=by
          rw [ybi,List.getElem?_append_right (by simp; omega)]
          simp [yaw]
        rw [this,]
        rw [hlz] at hj
        exact hcr _ y hj
    have hlen:(as.map a.eval ++ cvs.toList).length=(((as.zip ts).map fun p=>copd P p.2 p.1).map (·.ev st.s) ++ caps).length:=by simp; omega
    have hrun:zlb P g→(execOp a.eval o).run P w = .ok (.enter g (as.map a.eval ++ cvs.toList).toArray) w:=fun hent=>by
      have hargs:c.args.map a.eval ++ cvs=(as.map a.eval ++ cvs.toList).toArray:=by
        apply ybr
        simp [← has]
      simp only [execOp,ho,resolve,hcc,Deferred.ofValue,hfe,Sem.run_bind,Sem.run_pure,Result.andThen_ok,invoke,Array.empty_append]
      rw [hargs]
      exact zlu hent _
    rcases hcx with ⟨rs,rfl,⟨ds,hds,⟨hent,hp⟩,rfl⟩ | ⟨h0,h1,⟨hent,hov,hp⟩,hk0,rfl⟩ | ⟨ds,hds,⟨hent,hp⟩,hflat,rfl⟩⟩ | ⟨d,ds,rs,hdst,hds,⟨hent,hp⟩,_,rfl,rfl⟩ | ⟨d,rs,h0,h1,hdst,⟨hent,hov,hp⟩,hk0,_,rfl,rfl⟩ | ⟨Ks,rs,h0,h1,rfl,_,⟨hent,hov,hp⟩,hk0,rfl⟩ | ⟨ds,rs,hds,⟨hent,hp⟩,rfl,rfl⟩ | ⟨ds,rs,hhi,hds,⟨hent,hp⟩,rfl,rfl⟩
    · have hrel:=zed fr.inv (vs:=as.map a.eval ++ cvs.toList) hlen hallr hds
      have hfs:=zbp fr.inv ((((as.zip ts).map fun p=>copd P p.2 p.1).map (·.ev st.s) ++ caps).flatMap (sk st.h deep))
      have hcalls:=hp _ w _ hfs.inv.st hrel
      unfold Oper.wp
      rw [hrun hent]
      rw [Oper.upon_enter]
      refine hcalls.mono fun e w' he=>?_
      obtain ⟨St',us,rfl,hus,hbel,hst,hst',hfr⟩:=he
      have hstep:=zgh hfs.inv hbel hst hst' hfr
      refine ⟨_,_,⟨hstep.inv,?_,by rw [zbq]; exact fr.size⟩,hfs.trans hstep,zax,hK⟩
      have hres:ARel ⟨St',(frzG G st.h w ((((as.zip ts).map fun p=>copd P p.2 p.1).map (·.ev st.s) ++ caps).flatMap (sk st.h deep))).hd⟩ (frz st.h ((((as.zip ts).map fun p=>copd P p.2 p.1).map (·.ev st.s) ++ caps).flatMap (sk st.h deep))) w' (za3 us) (resA rs):=zhw hus
      rw [hd1]
      exact ((fr.slots.ext hfs.ext).ext hstep.ext).put hres fr.size hd2
    · generalize hKs:(((as.zip ts).map fun p=>copd P p.2 p.1).map (·.ev st.s) ++ caps).flatMap (sk st.h deep)=Ks at hov hp hk0 hK
      have hcalls:=hp G (only Ks st.h) w _ (fun k hk=>by rw [zf8 hk]; exact hk0 k hk) (fun k hk=>by rw [zgm hk]) (zm4 fr.inv Ks) hlen fun j y hj=>(hallr j y hj).only Ks
      unfold Oper.wp
      rw [hrun hent]
      rw [Oper.upon_enter]
      refine hcalls.mono fun e w' he=>?_
      obtain ⟨G',h',us,rfl,hus,hk1,_,hst⟩:=he
      have hstep:=zl6 fr.inv hst hk1 hov
      refine ⟨_,_,⟨hstep.inv,?_,by rw [zbq]; exact fr.size⟩,hstep,zax,hK⟩
      have hres:ARel ⟨G'.St,fun k=>if k ∈ Ks then G'.hd k else G.hd k⟩ (zaz Ks h1 st.h) w' (za3 us) (resA rs):=zhw hus
      rw [hd1]
      exact (fr.slots.ext hstep.ext).put hres fr.size hd2
    · have hrel:=zed fr.inv (vs:=as.map a.eval ++ cvs.toList) hlen hallr hds
      have hfs:=zbp fr.inv ((((as.zip ts).map fun p=>copd P p.2 p.1).map (·.ev st.s) ++ caps).flatMap (sk st.h deep))
      have hcalls:=hp _ w _ hfs.inv.st hrel
      unfold Oper.wp
      rw [hrun hent]
      rw [Oper.upon_enter]
      refine hcalls.mono fun e w' he=>?_
      obtain ⟨St',us,rfl,hus,hbel,hst,hst',hfr⟩:=he
      have hstep:=zgh fr.inv (St':=G.St) hbel (fun _ _=>rfl) (fun b hb=>yad (fr.inv.st b hb) hbel.size) (fun b hb h0=>by have:=fr.inv.st b h0; omega)
      refine ⟨⟨G.St,G.hd⟩,⟨putS st.s x.dst (resA rs),st.h⟩,⟨hstep.inv,?_,by rw [zbq]; exact fr.size⟩,hstep,zax,hK⟩
      have hus':RelL G.St w' us rs:=⟨hus.1,fun j d hj=>(hus.2 j d hj).flat (hflat d (yas hj))⟩
      have hres:ARel ⟨G.St,G.hd⟩ st.h w' (za3 us) (resA rs):=zhw hus'
      show zc0 _ _ _ _ (putS st.s x.dst (resA rs))
      rw [hd1]
      exact (fr.slots.ext hstep.ext).put hres fr.size hd2
    · have hrel:=zed fr.inv (vs:=as.map a.eval ++ cvs.toList) hlen hallr hds
      have hfs:=zbp fr.inv ((((as.zip ts).map fun p=>copd P p.2 p.1).map (·.ev st.s) ++ caps).flatMap (sk st.h deep))
      have hcalls:=hp _ w _ hfs.inv.low hfs.inv.st hrel
      unfold Oper.wp
      rw [hrun hent]
      rw [Oper.upon_enter]
      refine hcalls.mono fun e w' he=>?_
      obtain ⟨G',us,rfl,hul,hus,hinv,hbel,hst,hown,hfr⟩:=he
      obtain ⟨hstep,hvals⟩:=zBd hfs.inv d hinv hbel hst hfr hown
      refine ⟨_,_,⟨hstep.inv,?_,by rw [zbq]; exact fr.size⟩,hfs.trans hstep,zax,hK⟩
      have hres:=zmr (G:=⟨G'.St,hdO (zas rs).length d (frzG G st.h w ((((as.zip ts).map fun p=>copd P p.2 p.1).map (·.ev st.s) ++ caps).flatMap (sk st.h deep))).hd G'.hd⟩) (h:=zbc (frz st.h ((((as.zip ts).map fun p=>copd P p.2 p.1).map (·.ev st.s) ++ caps).flatMap (sk st.h deep))) d (zas rs)) (w:=w')
        (us:=us) (vs:=zbn (frz st.h ((((as.zip ts).map fun p=>copd P p.2 p.1).map (·.ev st.s) ++ caps).flatMap (sk st.h deep))) d 0 rs) (by rw [hul,zbo,zbo]) fun j v hj=>by
          have hlt:j<rs.length:=by have:=(yae.1 hj).1; rwa [zbo] at this
          obtain ⟨v0,hv0⟩:∃ v0,(zbn zat 0 0 rs)[j]? = some v0:=⟨_,yar (by rw [zbo]; exact hlt)⟩
          obtain ⟨c',h3,h4⟩:=hvals j v0 hv0
          rw [h3] at hj
          cases hj
          exact h4 _ (hus j v0 hv0)
      rw [zqa (h2:=st.h) (fun k=>zzi _ _ k)] at hres
      rw [hd1]
      exact ((fr.slots.ext hfs.ext).ext hstep.ext).put hres fr.size hd2
    · generalize hKs:(((as.zip ts).map fun p=>copd P p.2 p.1).map (·.ev st.s) ++ caps).flatMap (sk st.h deep)=Ks at hov hp hk0 hK
      have hcalls:=hp G (only Ks st.h) w _ (fun k hk=>by rw [zf8 hk]; exact hk0 k hk) (fun k hk=>by rw [zgm hk]) (zm4 fr.inv Ks) hlen fun j y hj=>(hallr j y hj).only Ks
      unfold Oper.wp
      rw [hrun hent]
      rw [Oper.upon_enter]
      refine hcalls.mono fun e w' he=>?_
      obtain ⟨G',h',us,hd1',rfl,hul,hus,hk1,_,hst,hinv,hown⟩:=he
      obtain ⟨hstep,hvals⟩:=zw8 fr.inv hst hk1 hov d hinv hown
      refine ⟨_,_,⟨hstep.inv,?_,by rw [zbq]; exact fr.size⟩,hstep,zax,hK⟩
      have hres:=zmr (G:=⟨G'.St,hdO (zas rs).length d (fun k=>if k ∈ Ks then G'.hd k else G.hd k) hd1'⟩) (h:=zbc (zaz Ks h1 st.h) d (zas rs)) (w:=w')
        (us:=us) (vs:=zbn (zaz Ks h1 st.h) d 0 rs) (by rw [hul,zbo,zbo]) fun j v hj=>by
          have hlt:j<rs.length:=by have:=(yae.1 hj).1; rwa [zbo] at this
          obtain ⟨v0,hv0⟩:∃ v0,(zbn zat 0 0 rs)[j]? = some v0:=⟨_,yar (by rw [zbo]; exact hlt)⟩
          obtain ⟨c',h3,h4⟩:=hvals j v0 hv0
          rw [h3] at hj
          cases hj
          exact h4 _ (hus j v0 hv0)
      rw [hd1]
      exact (fr.slots.ext hstep.ext).put hres fr.size hd2
    · have hcalls:=hp G (only Ks st.h) w _ (fun k hk=>by rw [zf8 hk]; exact hk0 k hk) (fun k hk=>by rw [zgm hk]) (zm4 fr.inv Ks) hlen fun j y hj=>(hallr j y hj).only Ks
      unfold Oper.wp
      rw [hrun hent]
      rw [Oper.upon_enter]
      refine hcalls.mono fun e w' he=>?_
      obtain ⟨G',h',us,rfl,hus,hk1,_,hst⟩:=he
      have hstep:=zl6 fr.inv hst hk1 hov
      refine ⟨_,_,⟨hstep.inv,?_,by rw [zbq]; exact fr.size⟩,hstep,zax,hK⟩
      have hres:ARel ⟨G'.St,fun k=>if k ∈ Ks then G'.hd k else G.hd k⟩ (zaz Ks h1 st.h) w' (za3 us) (resA rs):=zhw hus
      rw [hd1]
      exact (fr.slots.ext hstep.ext).put hres fr.size hd2
    · have hrel:=zed fr.inv (vs:=as.map a.eval ++ cvs.toList) hlen hallr hds
      have hfs:=zbp fr.inv ((((as.zip ts).map fun p=>copd P p.2 p.1).map (·.ev st.s) ++ caps).flatMap (sk st.h deep))
      have hcalls:=hp _ w _ hfs.inv.st hrel
      unfold Oper.wp
      rw [hrun hent]
      rw [Oper.upon_enter]
      refine hcalls.mono fun e w' he=>?_
      obtain ⟨St',us,rfl,hus,hbel,hst,hst',hfr⟩:=he
      have hstep:=zgh hfs.inv hbel hst hst' hfr
      refine ⟨_,_,⟨hstep.inv,?_,by rw [zbq]; exact fr.size⟩,hfs.trans hstep,zax,hK⟩
      have hres:ARel ⟨St',(frzG G st.h w ((((as.zip ts).map fun p=>copd P p.2 p.1).map (·.ev st.s) ++ caps).flatMap (sk st.h deep))).hd⟩ (frz st.h ((((as.zip ts).map fun p=>copd P p.2 p.1).map (·.ev st.s) ++ caps).flatMap (sk st.h deep))) w' (za3 us) (resN rs):=zmz ⟨hus.1,fun j d hj=>(hus.2 j d hj).le (zyx (by have:=fr.inv.low; omega))⟩
      rw [hd1]
      exact ((fr.slots.ext hfs.ext).ext hstep.ext).put hres fr.size hd2
    · have hfs:=zbp fr.inv ((((as.zip ts).map fun p=>copd P p.2 p.1).map (·.ev st.s) ++ caps).flatMap (sk st.h deep))
      have hrel:=zym fr.inv (vs:=as.map a.eval ++ cvs.toList) hlen hallr hhi hds
      have hcalls:=hp _ w _ (fun b hb=>hfs.inv.st b (yad hb (zhl _ _ _ _))) hrel
      unfold Oper.wp
      rw [hrun hent]
      rw [Oper.upon_enter]
      refine hcalls.mono fun e w' he=>?_
      obtain ⟨St',us,rfl,hus,hbel,hst,hst',hfr⟩:=he
      obtain ⟨St2,hSt2⟩:∃ St2:Nat→Nat,St2=fun b=>if b<w.heap.size then (frzG G st.h w ((((as.zip ts).map fun p=>copd P p.2 p.1).map (·.ev st.s) ++ caps).flatMap (sk st.h deep))).St b else St' b:=⟨_,rfl⟩
      have hstep:=zgh (St':=St2) hfs.inv hbel (fun b hb=>by rw [hSt2]; exact if_pos hb) (fun b hb=>by
        rw [hSt2] at hb
        by_cases hlt:b<w.heap.size
        · exact yad hlt hbel.size
        · simp only [hlt,if_false] at hb
          exact hst' b hb) (fun b hb h0=>by
        rw [hSt2] at h0
        simp only [show ¬ b<w.heap.size by omega,if_false] at h0
        exact hfr b hb h0)
      refine ⟨_,_,⟨hstep.inv,?_,by rw [zbq]; exact fr.size⟩,hfs.trans hstep,zax,hK⟩
      have hres:ARel ⟨St2,(frzG G st.h w ((((as.zip ts).map fun p=>copd P p.2 p.1).map (·.ev st.s) ++ caps).flatMap (sk st.h deep))).hd⟩ (frz st.h ((((as.zip ts).map fun p=>copd P p.2 p.1).map (·.ev st.s) ++ caps).flatMap (sk st.h deep))) w' (za3 us) (resN rs):=zmz ⟨hus.1,fun j d hj=>(hus.2 j d hj).le fun b=>by
        rw [hSt2]
        unfold cutS
        by_cases hlt:b<w.heap.size
        · rw [hst b hlt]
          unfold cutS
          simp only [hlt,if_true]
          exact yab _
        · have hge:Nw.n≤b:=by have:=fr.inv.low; omega
          simp [hlt,hge]⟩
      rw [hd1]
      exact ((fr.slots.ext hfs.ext).ext hstep.ext).put hres fr.size hd2
  · -- any other
    obtain ⟨av,h',hact,hK⟩:=hr
    rw [hd1] at hact
    have hdid:=zAx fr.inv fr.slots hcop hact
    obtain ⟨v,w',G',hrun,hstep,hres⟩:=hdid
    have hend:∃ G' st',Fr n G' st' (a.put o.dst v) w'∧Step G st.h w G' st'.h w'∧(a.put o.dst v).defers=a.defers∧K st':=by
      refine ⟨G',_,⟨hstep.inv,?_,by rw [zbq]; exact fr.size⟩,hstep,zax,hK⟩
      rw [hd1]
      exact (fr.slots.ext hstep.ext).put hres fr.size hd2
    unfold Oper.wp
    rcases hrun with hrun | ⟨hrun,hv⟩
    · rw [hrun]
      exact hend
    · rw [hrun]
      subst hv
      exact hend
end
end Ev
end Go.Proofs.YtncmainjcffanaaGreat
/- What an operation hangs on: the places that it zuf at,the boxes and rows that it touches. -/
namespace Go.Proofs.YtncmainjcffanaaGreat
namespace Ev
open Go
set_option linter.unusedSectionVars false
variable [Nw]
def key1:AV→List Nat
  | .ptr k _ _=>[k]
  | .eptr k _ _ _ _=>[k]
  | .rsl k _=>[k]
  | _=>[]
def rd (ks:List Nat):List (Nat × Bool):=ks.map fun k=>(k,false)
def wr (ks:List Nat):List (Nat × Bool):=ks.map fun k=>(k,true)
def zak (dst:Option Nat) (st:S):XOp→List (Nat × Bool)
  | .nilrow _ | .alloc _ | .box _ | .mks _ _ _ _=>wr dst.toList
  | .load _ _ a | .nilck a | .faddr _ a | .len a=>rd (key1 (a.ev st.s))
  | .store _ a x=>wr (key1 (a.ev st.s) ++ sk st.h deep (x.ev st.s))
  | .slice _ x _ _=>wr (sk st.h deep (x.ev st.s))
  | .iaddr _ x _=>rd (key1 (x.ev st.s))
  | .app _ _ x y=>wr ((match x.ev st.s with | .rsl k _=>[k] | _=>dst.toList)) ++ rd (key1 (y.ev st.s))
  | .bslice _ _ _ ps=>wr (zdf st.h st.s ps)
  | .call f args=>wr ((args.map (·.ev st.s) ++ (match callee (f.ev st.s) with | some (_,caps)=>caps | none=>[])).flatMap (sk st.h deep) ++ resK dst)
  | _=>[]
def zbx (o:XOper) (st:S):List (Nat × Bool):=match zjy o st.s with
  | some true=>zak o.dst st o.op
  | _=>[]
def zrk (P:Program) (o:XOper) (st st':S):Prop:=match zjy o st.s with
  | some true=>runX P o st (· = st')
  | some false=>st'=⟨putS st.s o.dst .skip,st.h⟩
  | none=>False
theorem zo9 {h h2:Nat→Ent}:∀ (n:Nat) (av:AV),(∀ k ∈ sk h n av,h2 k=h k)→toD h2 n av=toD h n av∧sk h2 n av=sk h n av
  | 0,av,hk=>by
    cases av with
    | rsl k v=>rw [zmm,zmm,zll,zll,hk k (by simp [zll])]; exact ⟨rfl,rfl⟩
    | _=>exact ⟨rfl,rfl⟩
  | n+1,av,hk=>by
    have hall:∀ as:List AV,(∀ a ∈ as,∀ k ∈ sk h n a,h2 k=h k)→allD (toD h2 n) as=allD (toD h n) as∧as.flatMap (sk h2 n)=as.flatMap (sk h n):=by
      intro as has
      induction as with
      | nil=>exact ⟨rfl,rfl⟩
      | cons a as ih =>
        have h1:=zo9 n a (has a (by simp))
        have h3:=ih fun b hb=>has b (by simp [hb])
        exact ⟨by simp only [allD,h1.1,h3.1],by simp only [ybv,h1.2,h3.2]⟩
    cases av with
    | rsl k v=>rw [zmm,zmm,zll,zll,hk k (by simp [zll])]; exact ⟨rfl,rfl⟩
    | ptr k v off =>
      have hk0:=hk k (by simp [sk])
      simp only [toD,sk,hk0]
      cases hb:(h k).body with
      | box cs fz =>
        have h1:=hall cs fun a ha q hq=>hk q (by simp only [sk,hb,yaZ,yaA]; exact .inr ⟨a,ha,hq⟩)
        have h2':=hall (cs.drop off) fun a ha q hq=>hk q (by simp only [sk,hb,yaZ,yaA]; exact .inr ⟨a,yaP ha,hq⟩)
        simp only [h1.2,h2'.1,and_self]
      | dead=>exact ⟨rfl,rfl⟩
      | row _ _ _=>exact ⟨rfl,rfl⟩
    | clo f caps =>
      have h1:=hall caps fun a ha q hq=>hk q (by simp only [sk,yaA]; exact ⟨a,ha,hq⟩)
      simp only [toD,sk,h1.1,h1.2,and_self]
    | agg cs =>
      have h1:=hall cs fun a ha q hq=>hk q (by simp only [sk,yaA]; exact ⟨a,ha,hq⟩)
      simp only [toD,sk,h1.1,h1.2,and_self]
    | _=>exact ⟨rfl,rfl⟩
theorem zxx {h h2:Nat→Ent} {n:Nat}:∀ as:List AV,(∀ k ∈ as.flatMap (sk h n),h2 k=h k)→allD (toD h2 n) as=allD (toD h n) as∧as.flatMap (sk h2 n)=as.flatMap (sk h n)
  | [],_=>⟨rfl,rfl⟩
  | a :: as,hk=>by
    have h1:=zo9 n a fun k hk'=>hk k (by simp [hk'])
    have h3:=zxx as fun k hk'=>hk k (by simp only [ybv,yaY]; exact .inr hk')
    exact ⟨by simp only [allD,h1.1,h3.1],by simp only [ybv,h1.2,h3.2]⟩
def zij (ks:List (Nat × Bool)) (h' h2:Nat→Ent):Nat→Ent:=fun k=>if (k,true) ∈ ks then h' k else h2 k
theorem zue {ks:List (Nat × Bool)} (h' h2:Nat→Ent) (hk:∀ k,(k,true) ∉ ks):zij ks h' h2=h2:=by
  funext k
  simp [zij,hk k]
theorem zD5 (ks:List Nat) (k:Nat):(k,true) ∉ rd ks:=by simp [rd]
theorem zd3 (ks:List Nat) (k:Nat):(k,true) ∈ wr ks ↔ k ∈ ks:=by simp [wr]
theorem zey (h:Nat→Ent) (ks:List Nat) (k:Nat):frz h ks k=if k ∈ ks then { h k with body:=(h k).body.frz } else h k:=rfl
theorem zao {s s2:Nat→AV} {x:Opd} (hx:∀ i ∈ opdL x,s2 i=s i):x.ev s2=x.ev s:=by
  cases x with
  | t i=>exact hx i (by simp [opdL])
  | c v=>rfl
theorem zyf {s s2:Nat→AV} {x:Option Opd} (hx:∀ i ∈ optL x,s2 i=s i):x.map (·.ev s2)=x.map (·.ev s):=by
  cases x with
  | none=>rfl
  | some y=>simp only [yak]; rw [zao hx]
theorem zq9 {s s2:Nat→AV}:∀ xs:List Opd,(∀ i ∈ xs.flatMap opdL,s2 i=s i)→xs.map (·.ev s2)=xs.map (·.ev s)
  | [],_=>rfl
  | x :: xs,hx=>by
    simp only [yaV]
    rw [zao fun i hi=>hx i (by simp [hi]),zq9 xs fun i hi=>hx i (by simp only [ybv,yaY]; exact .inr hi)]
theorem zt8 {h:Nat→Ent} {h2:Nat→Ent} {s s2:Nat→AV}:∀ (ps:List (Nat × Nat × Opd)) (z:List AV),(∀ i ∈ ps.flatMap fun p=>opdL p.2.2,s2 i=s i)→zl4 h2 s2 z ps=zl4 h s z ps
  | [],z,_=>rfl
  | (o,n,x) :: ps,z,hx=>by
    have e:=zao (x:=x) fun i hi=>hx i (by simp [hi])
    simp only [zl4,e]
    rw [zt8 ps _ fun i hi=>hx i (by simp only [ybv,yaY]; exact .inr hi)]
theorem zo4 {h h2:Nat→Ent} {s s2:Nat→AV} {size:Nat}:∀ (ps:List (Nat × Opd)) (xs:List D),(∀ i ∈ ps.flatMap fun p=>opdL p.2,s2 i=s i)→(∀ k ∈ zdf h s ps,h2 k=h k)→ze2 h2 s2 size xs ps=ze2 h s size xs ps∧zdf h2 s2 ps=zdf h s ps
  | [],xs,_,_=>⟨rfl,rfl⟩
  | (n,x) :: ps,xs,hx,hk=>by
    have e:=zao (x:=x) fun i hi=>hx i (by simp [hi])
    have h1:=zo9 deep (x.ev s) fun k hk'=>hk k (by simp [zdf,hk'])
    have h3:=fun ys=>zo4 (h:=h) (h2:=h2) (size:=size) ps ys (fun i hi=>hx i (by simp only [ybv,yaY]; exact .inr hi)) fun k hk'=>hk k (by simp [zdf,hk'])
    simp only [ze2,zdf,e,h1.1,h1.2,(h3 xs).2,true_and]
    refine ⟨?_,trivial⟩
    cases toD h deep (x.ev s) with
    | none=>rfl
    | some y=>simp only [(h3 _).1]
theorem zow {h h2:Nat→Ent} (av:AV) (hk:∀ k ∈ key1 av,h2 k=h k):zis h2 av=zis h av∧zpb h2 av=zpb h av:=by
  cases av with
  | rsl k v=>simp only [zis,zpb,hk k (by simp [key1]),and_self]
  | d x=>cases x <;> exact ⟨rfl,rfl⟩
  | n q x=>cases x <;> exact ⟨rfl,rfl⟩
  | _=>exact ⟨rfl,rfl⟩
theorem zt6 {h h' h2:Nat→Ent} {ks:List Nat} (hh:∀ k ∈ ks,h2 k=h k):frz h2 ks=zij (wr ks) (frz h ks) h2:=by
  funext k
  simp only [zij,zd3,zey]
  by_cases hk:k ∈ ks
  · simp [hk,hh k hk]
  · simp [hk]
theorem zqj {h h2:Nat→Ent} {k:Nat} {b:Body} (hk:h2 k=h k):newE h2 k b=zij (wr [k]) (newE h k b) h2:=by
  funext q
  simp only [zij,zd3,ybw,newE,upd,hk]
  split <;> rfl
theorem zxu {α:Type} {p q:α→Bool}:∀ {l:List α},(∀ x ∈ l,p x=q x)→l.all p=l.all q
  | [],_=>rfl
  | x :: l,h=>by rw [yaW,yaW,h x (by simp),zxu fun y hy=>h y (by simp [hy])]
theorem zmd (dst:Option Nat) (st st2:S) (x:XOp) (hs:∀ i ∈ zb2 x,st2.s i=st.s i) (hh:∀ k b,(k,b) ∈ zak dst st x→st2.h k=st.h k) {av:AV} {h':Nat→Ent} (hact:act dst st x=some (av,h')) :
    act dst st2 x=some (av,zij (zak dst st x) h' st2.h) ∧ ∀ k,(k,true) ∉ zak dst st x→h' k=st.h k:=by
  have calm:zak dst st x=[]→act dst st2 x=some (av,st2.h)→h'=st.h→act dst st2 x=some (av,zij (zak dst st x) h' st2.h) ∧ ∀ k,(k,true) ∉ zak dst st x→h' k=st.h k:=by
    intro ht ha he
    rw [ht,zue _ _ (by simp)]
    exact ⟨ha,fun k _=>by rw [he]⟩
  have reads:∀ ks,zak dst st x=rd ks→act dst st2 x=some (av,st2.h)→h'=st.h→act dst st2 x=some (av,zij (zak dst st x) h' st2.h) ∧ ∀ k,(k,true) ∉ zak dst st x→h' k=st.h k:=by
    intro ks ht ha he
    rw [ht,zue _ _ (zD5 ks)]
    exact ⟨ha,fun k _=>by rw [he]⟩
  cases x with
  | mv y =>
    have e:=zao (x:=y) hs
    simp only [act,Option.some.injEq,Prod.mk.injEq] at hact
    exact calm rfl (by simp only [act,e,hact.1]) hact.2.symm
  | nilrow sz =>
    simp only [act] at hact
    cases dst with
    | none=>simp at hact
    | some k =>
      have hk:=hh k true (by simp [zak,wr])
      simp only [yaq,Option.some.injEq,Prod.mk.injEq] at hact
      obtain ⟨rfl,rfl⟩:=hact
      refine ⟨?_,fun q hq=>?_⟩
      · simp only [act,yaq,hk,zak,ybx]
        rw [zqj hk]
      · simp only [zak,ybx,zd3,ybw] at hq
        simp [newE,upd,hq]
  | pick c a b =>
    have e1:=zao (x:=c) fun i hi=>hs i (by simp [zb2,hi])
    have e2:=zao (x:=a) fun i hi=>hs i (by simp [zb2,hi])
    have e3:=zao (x:=b) fun i hi=>hs i (by simp [zb2,hi])
    simp only [act] at hact
    split at hact
    · rename_i t ht
      simp only [Option.some.injEq,Prod.mk.injEq] at hact
      exact calm rfl (by simp only [act,e1,e2,e3,ht,hact.1]) hact.2.symm
    · cases hact
  | alloc cs =>
    simp only [act] at hact
    cases dst with
    | none=>simp at hact
    | some k =>
      have hk:=hh k true (by simp [zak,wr])
      simp only [yaq,Option.some.injEq,Prod.mk.injEq] at hact
      obtain ⟨rfl,rfl⟩:=hact
      refine ⟨?_,fun q hq=>?_⟩
      · simp only [act,yaq,hk,zak,ybx]
        rw [zqj hk]
      · simp only [zak,ybx,zd3,ybw] at hq
        simp [newE,upd,hq]
  | box y =>
    have e:=zao (x:=y) hs
    simp only [act] at hact
    cases dst with
    | none=>simp at hact
    | some k =>
      have hk:=hh k true (by simp [zak,wr])
      simp only [yaq] at hact
      split at hact
      · rename_i h1
        simp only [Option.some.injEq,Prod.mk.injEq] at hact
        obtain ⟨rfl,rfl⟩:=hact
        refine ⟨?_,fun q hq=>?_⟩
        · simp only [act,yaq,hk,e,h1,if_true,zak,ybx]
          rw [zqj hk]
        · simp only [zak,ybx,zd3,ybw] at hq
          simp [newE,upd,hq]
      · cases hact
  | load n ag a =>
    have e:=zao (x:=a) hs
    simp only [act] at hact
    obtain ⟨v,hv,he⟩:=map_some hact
    simp only [Prod.mk.injEq] at he
    obtain ⟨rfl,rfl⟩:=he
    refine reads _ rfl ?_ rfl
    have:zsg st2.h n ag (a.ev st.s)=zsg st.h n ag (a.ev st.s):=by
      generalize hav:a.ev st.s=y
      cases y with
      | ptr k v off=>simp only [zsg,hh k false (by simp [zak,hav,key1,rd])]
      | eptr k v sz i off=>simp only [zsg,hh k false (by simp [zak,hav,key1,rd])]
      | d z=>cases z <;> rfl
      | _=>rfl
    simp only [act,e,this,hv,yak]
  | store n a y =>
    have e1:=zao (x:=a) fun i hi=>hs i (by simp [zb2,hi])
    have e2:=zao (x:=y) fun i hi=>hs i (by simp [zb2,hi])
    simp only [act] at hact
    obtain ⟨r,hv,he⟩:=map_some hact
    simp only [Prod.mk.injEq] at he
    obtain ⟨rfl,rfl⟩:=he
    have hsk:=zo9 (h2:=st2.h) deep (y.ev st.s) fun k hk=>hh k true (by simp [zak,zd3,hk])
    have hkk:∀ k ∈ key1 (a.ev st.s),st2.h k=st.h k:=fun k hk=>hh k true (by simp [zak,zd3,hk])
    have hmem:∀ k,(k,true) ∈ zak dst st (.store n a y) ↔ k ∈ key1 (a.ev st.s)∨k ∈ sk st.h deep (y.ev st.s):=by
      intro k; simp [zak,zd3]
    generalize ha:a.ev st.s=av at hv hkk hmem
    generalize hy:y.ev st.s=yv at hv hsk hmem
    have goal2:∀ r2,zla st2.h n av yv=some r2→(∀ k,r2 k=if k ∈ key1 av∨k ∈ sk st.h deep yv then r k else st2.h k)→act dst st2 (.store n a y)=some (.skip,zij (zak dst st (.store n a y)) r st2.h):=by
      intro r2 h2 h3
      simp only [act,e1,e2,ha,hy,h2,yak]
      congr 2
      funext k
      rw [h3 k]
      simp only [zij,hmem]
    unfold zla at hv
    split at hv
    · rename_i k v off
      have hk0:=hkk k (by simp [key1])
      split at hv
      · rename_i hver
        split at hv
        · rename_i cs hb
          split at hv
          · rename_i hc
            simp only [Option.some.injEq] at hv
            subst hv
            refine ⟨goal2 (upd st2.h k ⟨v,.box (put off yv.cells cs) false⟩) ?_ ?_,fun q hq=>?_⟩
            · simp only [zla,hk0,hver,if_true,hb]
              rw [if_pos hc]
            · intro q
              simp only [key1,ybw,upd]
              by_cases hqk:q=k
              · simp [hqk]
              · by_cases hqs:q ∈ sk st.h deep yv
                · simp only [hqk,hqs,false_or,if_true,if_false]
                  exact hh q true ((hmem q).2 (.inr hqs))
                · simp [hqk,hqs]
            · simp only [hmem,key1,ybw,not_or] at hq
              simp [upd,hq.1]
          · cases hv
        · cases hv
      · cases hv
    · rename_i k v sz p off
      have hk0:=hkk k (by simp [key1])
      split at hv
      · rename_i hver
        split at hv
        · rename_i sz' xs hb
          split at hv
          · rename_i z hz
            split at hv
            · rename_i hc
              simp only [Option.some.injEq] at hv
              subst hv
              refine ⟨goal2 (upd (frz st2.h (sk st.h deep yv)) k ⟨v,.row sz (xs.set p z) false⟩) ?_ ?_,fun q hq=>?_⟩
              · simp only [zla,hk0,hver,if_true,hb,hsk.1,hsk.2,hz]
                rw [if_pos hc]
              · intro q
                simp only [key1,ybw,upd,zey]
                by_cases hqk:q=k
                · simp [hqk]
                · by_cases hqs:q ∈ sk st.h deep yv
                  · simp only [hqk,hqs,false_or,if_true,if_false]
                    rw [hh q true ((hmem q).2 (.inr hqs))]
                  · simp [hqk,hqs]
              · simp only [hmem,key1,ybw,not_or] at hq
                simp [upd,zey,hq.1,hq.2]
            · rename_i hnc
              split at hv
              · rename_i cs hxp
                split at hv
                · rename_i hc
                  simp only [Option.some.injEq] at hv
                  subst hv
                  refine ⟨goal2 (upd (frz st2.h (sk st.h deep yv)) k ⟨v,.row sz (xs.set p (.agg (put off z.cells cs))) false⟩) ?_ ?_,fun q hq=>?_⟩
                  · simp only [zla,hk0,hver,if_true,hb,hsk.1,hsk.2,hz]
                    rw [if_neg hnc,hxp]
                    simp only []
                    rw [if_pos hc]
                  · intro q
                    simp only [key1,ybw,upd,zey]
                    by_cases hqk:q=k
                    · simp [hqk]
                    · by_cases hqs:q ∈ sk st.h deep yv
                      · simp only [hqk,hqs,false_or,if_true,if_false]
                        rw [hh q true ((hmem q).2 (.inr hqs))]
                      · simp [hqk,hqs]
                  · simp only [hmem,key1,ybw,not_or] at hq
                    simp [upd,zey,hq.1,hq.2]
                · cases hv
              · cases hv
          · cases hv
        · cases hv
      · cases hv
    · cases hv
  | nilck y =>
    have e:=zao (x:=y) hs
    simp only [act] at hact
    split at hact
    · rename_i k v off hx
      have hk0:=hh k false (by simp [zak,hx,key1,rd])
      split at hact
      · rename_i hver
        split at hact
        · rename_i cs fz hb
          simp only [Option.some.injEq,Prod.mk.injEq] at hact
          exact reads _ rfl (by simp only [act,e,hx,hk0,hver,if_true,hb,← hact.1]) hact.2.symm
        · cases hact
      · cases hact
    · rename_i k v sz j off hx
      have hk0:=hh k false (by simp [zak,hx,key1,rd])
      split at hact
      · rename_i hver
        split at hact
        · rename_i sz' xs hb
          simp only [Option.some.injEq,Prod.mk.injEq] at hact
          exact reads _ rfl (by simp only [act,e,hx,hk0,hver,if_true,hb,← hact.1]) hact.2.symm
        · cases hact
      · cases hact
    · rename_i cs hx
      simp only [Option.some.injEq,Prod.mk.injEq] at hact
      exact reads _ rfl (by simp only [act,e,hx,← hact.1]) hact.2.symm
    · rename_i f cs hx
      simp only [Option.some.injEq,Prod.mk.injEq] at hact
      exact reads _ rfl (by simp only [act,e,hx,← hact.1]) hact.2.symm
    · cases hact
  | bin op y z =>
    have e1:=zao (x:=y) fun i hi=>hs i (by simp [zb2,hi])
    have e2:=zao (x:=z) fun i hi=>hs i (by simp [zb2,hi])
    simp only [act] at hact
    obtain ⟨v,hv,he⟩:=map_some hact
    simp only [Prod.mk.injEq] at he
    exact calm rfl (by simp only [act,e1,e2,hv,yak,he.1]) he.2.symm
  | binb op y z =>
    have e1:=zao (x:=y) fun i hi=>hs i (by simp [zb2,hi])
    have e2:=zao (x:=z) fun i hi=>hs i (by simp [zb2,hi])
    simp only [act] at hact
    obtain ⟨v,hv,he⟩:=map_some hact
    simp only [Prod.mk.injEq] at he
    exact calm rfl (by simp only [act,e1,e2,hv,yak,he.1]) he.2.symm
  | un op y =>
    have e:=zao (x:=y) hs
    simp only [act] at hact
    split at hact
    · rename_i b hx
      simp only [Option.some.injEq,Prod.mk.injEq] at hact
      exact calm rfl (by simp only [act,e,hx,hact.1]) hact.2.symm
    · rename_i k m hx
      simp only [Option.some.injEq,Prod.mk.injEq] at hact
      exact calm rfl (by simp only [act,e,hx,hact.1]) hact.2.symm
    · cases hact
  | conv k y =>
    have e:=zao (x:=y) hs
    simp only [act] at hact
    split at hact
    · rename_i k' m hx
      simp only [Option.some.injEq,Prod.mk.injEq] at hact
      exact calm rfl (by simp only [act,e,hx,hact.1]) hact.2.symm
    · cases hact
  | mkf f caps =>
    have e:=zq9 caps hs
    simp only [act,Option.some.injEq,Prod.mk.injEq] at hact
    exact calm rfl (by simp only [act,e,hact.1]) hact.2.symm
  | mks z sz bytes y =>
    have e:=zao (x:=y) hs
    simp only [act] at hact
    cases dst with
    | none=>simp at hact
    | some k =>
      have hk:=hh k true (by simp [zak,wr])
      simp only [yaq] at hact
      split at hact
      · rename_i m hx
        split at hact
        · rename_i h1
          simp only [Option.some.injEq,Prod.mk.injEq] at hact
          obtain ⟨rfl,rfl⟩:=hact
          refine ⟨?_,fun q hq=>?_⟩
          · simp only [act,yaq,hk,e,hx,zak,ybx]
            rw [if_pos h1,zqj hk]
          · simp only [zak,ybx,zd3,ybw] at hq
            simp [newE,upd,hq]
        · cases hact
      · cases hact
  | slice size y lo hi =>
    have e1:=zao (x:=y) fun i hi'=>hs i (by simp [zb2,hi'])
    have e2:=zyf (x:=lo) fun i hi'=>hs i (by simp [zb2,hi'])
    have e3:=zyf (x:=hi) fun i hi'=>hs i (by simp [zb2,hi'])
    have hsk:=zo9 (h2:=st2.h) deep (y.ev st.s) fun k hk=>hh k true (by simp [zak,zd3,hk])
    simp only [act] at hact
    split at hact
    · rename_i sz xs hx
      split at hact
      · rename_i hsz
        split at hact
        · rename_i m hm
          split at hact
          · rename_i l hl
            simp only [Option.some.injEq,Prod.mk.injEq] at hact
            obtain ⟨rfl,rfl⟩:=hact
            refine ⟨?_,fun q hq=>?_⟩
            · simp only [act,e1,e2,e3,hsk.1,hsk.2,hx,hm,hl,zak]
              rw [if_pos hsz]
              rw [zt6 (h:=st.h) (h':=st.h) fun k hk=>hh k true (by simp [zak,zd3,hk])]
            · simp only [zak,zd3] at hq
              simp [zey,hq]
          · cases hact
        · cases hact
      · cases hact
    · cases hact
  | faddr off y =>
    have e:=zao (x:=y) hs
    simp only [act] at hact
    split at hact
    · rename_i k v o hx
      have hk0:=hh k false (by simp [zak,hx,key1,rd])
      split at hact
      · rename_i hver
        split at hact
        · rename_i cs fz hb
          simp only [Option.some.injEq,Prod.mk.injEq] at hact
          exact reads _ rfl (by simp only [act,e,hx,hk0,hver,if_true,hb,← hact.1]) hact.2.symm
        · cases hact
      · cases hact
    · rename_i cs hx
      split at hact
      · rename_i hle
        simp only [Option.some.injEq,Prod.mk.injEq] at hact
        exact reads _ rfl (by simp only [act,e,hx]; rw [if_pos hle,← hact.1]) hact.2.symm
      · cases hact
    · rename_i k v sz i0 o hx
      have hk0:=hh k false (by simp [zak,hx,key1,rd])
      split at hact
      · rename_i hver
        split at hact
        · rename_i cs fz hb
          simp only [Option.some.injEq,Prod.mk.injEq] at hact
          exact reads _ rfl (by simp only [act,e,hx,hk0,hver,if_true,hb,← hact.1]) hact.2.symm
        · cases hact
      · cases hact
    · cases hact
  | fld off n ag y =>
    have e:=zao (x:=y) hs
    simp only [act] at hact
    split at hact
    · rename_i cs hx
      obtain ⟨c1,h1,hact⟩:=bind_some hact
      obtain ⟨v,hv,he⟩:=map_some hact
      simp only [Prod.mk.injEq] at he
      exact calm rfl (by simp only [act,e,hx,h1,yaq,hv,yak,he.1]) he.2.symm
    · rename_i cs hx
      obtain ⟨c1,h1,hact⟩:=bind_some hact
      obtain ⟨v,hv,he⟩:=map_some hact
      simp only [Prod.mk.injEq] at he
      exact calm rfl (by simp only [act,e,hx,h1,yaq,hv,yak,he.1]) he.2.symm
    · cases hact
  | iaddr size y ix =>
    have e1:=zao (x:=y) fun i hi=>hs i (by simp [zb2,hi])
    have e2:=zao (x:=ix) fun i hi=>hs i (by simp [zb2,hi])
    have hel:=zow (h2:=st2.h) (y.ev st.s) fun k hk=>hh k false (by simp [zak,rd,hk])
    have hself:∀ k v,y.ev st.s = .rsl k v→st2.h k=st.h k:=fun k v hx=>hh k false (by simp [zak,hx,key1,rd])
    have hsame:act dst st2 (.iaddr size y ix)=(act dst st (.iaddr size y ix)).map fun p=>(p.1,st2.h):=by
      simp only [act,e1,e2]
      cases hix:ix.ev st.s with
      | d z =>
        cases z with
        | int k n =>
          simp only []
          by_cases h0:0≤n
          · simp only [h0,if_true]
            cases hy:y.ev st.s with
            | rsl k v =>
              simp only [hself k v hy]
              split
              · cases hb:(st.h k).body with
                | row sz xs fz =>
                  cases fz with
                  | false=>simp only []; split <;> rfl
                  | true =>
                    simp only []
                    cases xs[n.toNat]? with
                    | none=>rfl
                    | some q=>simp only []; split <;> rfl
                | _=>rfl
              · rfl
            | d q =>
              have:=hel.1
              rw [hy] at this
              simp only [this]
              cases zis st.h (.d q) with
              | none=>rfl
              | some p =>
                obtain ⟨sz,xs⟩:=p
                simp only []
                cases xs[n.toNat]? with
                | none=>rfl
                | some q=>simp only []; split <;> rfl
            | n q0 q =>
              have:=hel.1
              rw [hy] at this
              simp only [this]
              cases zis st.h (.n q0 q) with
              | none=>rfl
              | some p =>
                obtain ⟨sz,xs⟩:=p
                simp only []
                cases xs[n.toNat]? with
                | none=>rfl
                | some q=>simp only []; split <;> rfl
            | fsl sz xs =>
              simp only [zis]
              cases xs[n.toNat]? with
              | none=>rfl
              | some q=>simp only []; split <;> rfl
            | _=>rfl
          · simp only [h0,if_false]; rfl
        | _=>rfl
      | _=>rfl
    have hh':h'=st.h:=by
      simp only [act] at hact
      split at hact
      · split at hact
        · split at hact
          · split at hact
            · split at hact
              · split at hact
                · simp only [Option.some.injEq,Prod.mk.injEq] at hact; exact hact.2.symm
                · cases hact
              · split at hact
                · split at hact
                  · simp only [Option.some.injEq,Prod.mk.injEq] at hact; exact hact.2.symm
                  · cases hact
                · cases hact
              · cases hact
            · cases hact
          · split at hact
            · split at hact
              · split at hact
                · simp only [Option.some.injEq,Prod.mk.injEq] at hact; exact hact.2.symm
                · cases hact
              · cases hact
            · cases hact
        · cases hact
      · cases hact
    exact reads _ rfl (by rw [hsame,hact]; rfl) hh'
  | ext y i =>
    have e:=zao (x:=y) hs
    simp only [act] at hact
    split at hact
    · rename_i cs hx
      obtain ⟨v,hv,he⟩:=map_some hact
      simp only [Prod.mk.injEq] at he
      exact calm rfl (by simp only [act,e,hx,hv,yak,he.1]) he.2.symm
    · cases hact
  | len y =>
    have e:=zao (x:=y) hs
    have hel:=zow (h2:=st2.h) (y.ev st.s) fun k hk=>hh k false (by simp [zak,rd,hk])
    simp only [act] at hact
    obtain ⟨v,hv,he⟩:=map_some hact
    simp only [Prod.mk.injEq] at he
    exact reads _ rfl (by simp only [act,e,hel.1,hv,yak,he.1]) he.2.symm
  | app size bytes y z =>
    have e1:=zao (x:=y) fun i hi=>hs i (by simp [zb2,hi])
    have e2:=zao (x:=z) fun i hi=>hs i (by simp [zb2,hi])
    have hel:=zow (h2:=st2.h) (z.ev st.s) fun k hk=>hh k false (by simp [zak,rd,hk])
    simp only [act] at hact
    split at hact
    · rename_i sy ys hz
      split at hact
      · rename_i hsy
        split at hact
        · rename_i k v hy
          have hk0:=hh k true (by simp [zak,hy,wr])
          split at hact
          · rename_i hver
            split at hact
            · rename_i sz xs hb
              split at hact
              · rename_i hc
                simp only [Option.some.injEq,Prod.mk.injEq] at hact
                obtain ⟨rfl,rfl⟩:=hact
                have hmem:∀ q,(q,true) ∈ zak dst st (.app size bytes y z) ↔ q=k:=by
                  intro q
                  simp [zak,hy,zd3,zD5]
                refine ⟨?_,fun q hq=>?_⟩
                · simp only [act,e1,e2,hel.2,hz,hy,hk0,hb]
                  rw [if_pos hsy,if_pos hver,if_pos hc]
                  congr 2
                  funext q
                  simp only [zij,hmem,upd]
                  split <;> rfl
                · rw [hmem] at hq
                  simp [upd,hq]
              · cases hact
            · cases hact
          · cases hact
        · rename_i sz xs hy
          cases dst with
          | none=>simp at hact
          | some k =>
            have hk0:=hh k true (by simp [zak,hy,wr])
            simp only [yaq] at hact
            split at hact
            · rename_i hc
              have hmem:∀ q,(q,true) ∈ zak (some k) st (.app size bytes y z) ↔ q=k:=by
                intro q
                simp [zak,hy,zd3,zD5]
              split at hact
              · rename_i hnil
                simp only [Option.some.injEq,Prod.mk.injEq] at hact
                obtain ⟨rfl,rfl⟩:=hact
                refine ⟨?_,fun q hq=>?_⟩
                · simp only [act,e1,e2,hel.2,hz,hy,hk0,yaq]
                  rw [if_pos hsy,if_pos hc,if_pos hnil]
                  congr 2
                  funext q
                  simp only [zij,hmem,upd]
                  split <;> rfl
                · rw [hmem] at hq
                  simp [upd,hq]
              · rename_i hnil
                simp only [Option.some.injEq,Prod.mk.injEq] at hact
                obtain ⟨rfl,rfl⟩:=hact
                refine ⟨?_,fun q hq=>?_⟩
                · simp only [act,e1,e2,hel.2,hz,hy,hk0,yaq]
                  rw [if_pos hsy,if_pos hc,if_neg hnil]
                  congr 2
                  funext q
                  simp only [zij,hmem,newE,upd,hk0]
                  split <;> rfl
                · rw [hmem] at hq
                  simp [newE,upd,hq]
            · cases hact
        · cases hact
      · cases hact
    · cases hact
  | mm mx y z =>
    have e1:=zao (x:=y) fun i hi=>hs i (by simp [zb2,hi])
    have e2:=zao (x:=z) fun i hi=>hs i (by simp [zb2,hi])
    simp only [act] at hact
    split at hact
    · rename_i k p k' q hx hy
      split at hact
      · rename_i hk
        simp only [Option.some.injEq,Prod.mk.injEq] at hact
        exact calm rfl (by simp only [act,e1,e2,hx,hy]; rw [if_pos hk,hact.1]) hact.2.symm
      · cases hact
    · cases hact
  | call f args=>simp [act] at hact
  | build z ps =>
    have e:=zt8 (h:=st.h) (h2:=st2.h) ps z hs
    simp only [act] at hact
    obtain ⟨v,hv,he⟩:=map_some hact
    simp only [Prod.mk.injEq] at he
    exact calm rfl (by simp only [act,e,hv,yak,he.1]) he.2.symm
  | bslice z size n ps =>
    have e:=zo4 (h:=st.h) (h2:=st2.h) (size:=size) ps (yaa n z) hs fun k hk=>hh k true (by simp [zak,zd3,hk])
    simp only [act] at hact
    obtain ⟨v,hv,he⟩:=map_some hact
    simp only [Prod.mk.injEq] at he
    obtain ⟨rfl,rfl⟩:=he
    refine ⟨?_,fun q hq=>?_⟩
    · simp only [act,e.1,e.2,hv,yak,zak]
      rw [zt6 (h:=st.h) (h':=st.h) fun k hk=>hh k true (by simp [zak,zd3,hk])]
    · simp only [zak,zd3] at hq
      simp [zey,hq]
theorem zCc (dst:Option Nat) (st st2:S) (x:XOp) (hs:∀ i ∈ zb2 x,st2.s i=st.s i) (hh:∀ k b,(k,b) ∈ zak dst st x→st2.h k=st.h k) {av:AV} {h':Nat→Ent} (hact:actW dst st x=some (av,h')) :
    actW dst st2 x=some (av,zij (zak dst st x) h' st2.h) ∧ ∀ k,(k,true) ∉ zak dst st x→h' k=st.h k:=by
  unfold actW at hact ⊢
  split at hact
  · rename_i hon
    simp only [if_pos hon]
    cases x with
    | bslice z size n ps =>
      have e:=zo4 (h:=st.h) (h2:=st2.h) (size:=size) ps (yaa n z) hs fun k hk=>hh k true (by simp [zak,zd3,hk])
      have ehi:(ps.all fun p=>(p.2.ev st2.s).hi)=(ps.all fun p=>(p.2.ev st.s).hi):=by
        refine zxu fun p hp=>?_
        rw [zao (x:=p.2) fun i hi=>hs i (yaA.2 ⟨p,hp,hi⟩)]
      simp only [actN] at hact ⊢
      rw [ehi]
      split at hact
      · rename_i hc
        rw [if_pos hc]
        obtain ⟨v,hv,he⟩:=map_some hact
        simp only [Prod.mk.injEq] at he
        obtain ⟨rfl,rfl⟩:=he
        refine ⟨?_,fun q hq=>?_⟩
        · simp only [e.1,e.2,hv,yak,zak]
          rw [zt6 (h:=st.h) (h':=st.h) fun k hk=>hh k true (by simp [zak,zd3,hk])]
        · simp only [zak,zd3] at hq
          simp [zey,hq]
      · rename_i hc
        rw [if_neg hc]
        exact zmd dst st st2 _ hs hh hact
    | store n a y =>
      have e1:=zao (x:=a) fun i hi=>hs i (by simp [zb2,hi])
      have e2:=zao (x:=y) fun i hi=>hs i (by simp [zb2,hi])
      simp only [actN] at hact ⊢
      split at hact
      · cases hact
      · rename_i hc
        rw [e1,e2,if_neg hc]
        exact zmd dst st st2 _ hs hh hact
    | app size bytes y z =>
      have e2:=zao (x:=z) fun i hi=>hs i (by simp [zb2,hi])
      simp only [actN] at hact ⊢
      split at hact
      · cases hact
      · rename_i hc
        rw [e2,if_neg hc]
        exact zmd dst st st2 _ hs hh hact
    | _=>exact zmd dst st st2 _ hs hh hact
  · rename_i hon
    simp only [if_neg hon]
    exact zmd dst st st2 x hs hh hact
end Ev
end Go.Proofs.YtncmainjcffanaaGreat
/- A region that draws its order: whatever the order,it comes to what the order of the text comes to. -/
namespace Go.Proofs.YtncmainjcffanaaGreat
namespace Ev
open Go
set_option linter.unusedSectionVars false
variable [Nw]
theorem zz3 {o:XOper} {s s2:Nat→AV} (hs:∀ i ∈ zuf o,s2 i=s i):zjy o s2=zjy o s:=by
  unfold zjy
  cases hg:o.guard with
  | none=>rfl
  | some p =>
    obtain ⟨j,b⟩:=p
    have:=hs j (by simp [zuf,hg])
    simp only [this]
theorem zox {h h2:Nat→Ent} {d:Nat}:∀ (cs:List RC) (q:Nat),(∀ p,p<q+(zcw cs).length→h2 (nk d p)=h (nk d p))→zbr h2 d q cs=zbr h d q cs
  | [],_,_=>rfl
  | .d _ :: cs,q,hv=>by simp only [zbr,zox cs q hv]
  | .row _ _ _ :: cs,q,hv=>by
    simp only [zcw,yaS] at hv
    simp only [zbr,zox cs (q+1) (fun p hp=>hv p (by omega)),hv q (by omega)]
theorem zms {h h2:Nat→Ent} {d:Nat}:∀ {rs:List RV} {q:Nat},(∀ p,p<q+(zas rs).length→h2 (nk d p)=h (nk d p))→zbn h2 d q rs=zbn h d q rs
  | [],_,_=>rfl
  | .one c :: rs,q,hv=>by
    simp only [zas,RV.cells,yaF] at hv
    have h1:oneV h2 d q c=oneV h d q c:=by
      cases c with
      | d x=>rfl
      | row sz xs fz=>simp only [oneV,hv q (by simp only [zcw,yaS]; omega)]
    simp only [zbn,zms (rs:=rs) (q:=q+(zcw [c]).length) (fun p hp=>hv p (by omega)),h1]
  | .agg cs :: rs,q,hv=>by
    simp only [zas,RV.cells,yaF] at hv
    simp only [zbn,zms (rs:=rs) (q:=q+(zcw cs).length) (fun p hp=>hv p (by omega)),zox cs q (fun p hp=>hv p (by omega))]
theorem zk7 {P:Program} {o:XOper} {st st' st2:S} (hs:∀ i ∈ zuf o,st2.s i=st.s i) (hh:∀ k b,(k,b) ∈ zbx o st→st2.h k=st.h k) (hx:zrk P o st st') :
    ∃ v,st'.s=putS st.s o.dst v∧(∀ k,(k,true) ∉ zbx o st→st'.h k=st.h k)∧zrk P o st2 ⟨putS st2.s o.dst v,zij (zbx o st) st'.h st2.h⟩:=by
  have hw:=zz3 (o:=o) (s:=st.s) (s2:=st2.s) hs
  have hso:∀ i ∈ zb2 o.op,st2.s i=st.s i:=fun i hi=>hs i (by simp only [zuf,yaY]; exact .inr hi)
  unfold zrk at hx ⊢
  rw [hw]
  cases hwt:zjy o st.s with
  | none=>rw [hwt] at hx; exact hx.elim
  | some b =>
    rw [hwt] at hx
    cases b with
    | false =>
      simp only at hx ⊢
      subst hx
      have ht:zbx o st=[]:=by simp [zbx,hwt]
      refine ⟨.skip,rfl,fun k _=>rfl,?_⟩
      rw [ht,zue _ _ (by simp)]
    | true =>
      simp only at hx ⊢
      have ht:zbx o st=zak o.dst st o.op:=by simp [zbx,hwt]
      rw [ht] at hh ⊢
      unfold runX at hx ⊢
      cases hop:o.op with
      | call f args =>
        rw [hop] at hx hso hh
        simp only at hx ⊢
        obtain ⟨g,caps,r0,hh',hcal,hcx,he⟩:=hx
        have e1:=zao (x:=f) fun i hi=>hso i (by simp [zb2,hi])
        have e2:=zq9 args fun i hi=>hso i (by simp only [zb2,yaY]; exact .inr hi)
        have htk:zak o.dst st (.call f args)=wr ((args.map (·.ev st.s) ++ caps).flatMap (sk st.h deep) ++ resK o.dst):=by
          simp [zak,hcal]
        rw [htk] at hh ⊢
        have hk:∀ k ∈ (args.map (·.ev st.s) ++ caps).flatMap (sk st.h deep),st2.h k=st.h k:=fun k hk=>hh k true (by rw [zd3]; exact yby _ hk)
        have hkr:∀ k ∈ resK o.dst,st2.h k=st.h k:=fun k hk=>hh k true (by rw [zd3]; exact ybz _ hk)
        have hsk:=zxx (h2:=st2.h) (args.map (·.ev st.s) ++ caps) hk
        subst he
        unfold zKx at hcx
        generalize hKs:(args.map (·.ev st.s) ++ caps).flatMap (sk st.h deep)=Ks at hcx hk hsk hh hkr ⊢
        have hout:∀ k,(k,true) ∉ wr (Ks ++ resK o.dst)→k ∉ Ks∧k ∉ resK o.dst:=fun k h=>by
          rw [zd3,yaY,not_or] at h
          exact h
        have hmg:∀ (h' X:Nat→Ent),(∀ k,k ∈ Ks ++ resK o.dst→X k=h' k)→(∀ k,k ∉ Ks ++ resK o.dst→X k=st2.h k)→X=zij (wr (Ks ++ resK o.dst)) h' st2.h:=fun h' X h1 h2=>by
          funext k
          simp only [zij,zd3]
          by_cases hk:k ∈ Ks ++ resK o.dst
          · rw [if_pos hk]; exact h1 k hk
          · rw [if_neg hk]; exact h2 k hk
        have hall:∀ k,k ∈ Ks ++ resK o.dst→st2.h k=st.h k:=fun k hm=>by
          rcases yaY.1 hm with hm | hm
          · exact hk k hm
          · exact hkr k hm
        rcases hcx with ⟨rs,rfl,⟨ds,hds,hp,rfl⟩ | ⟨h0,h1,hp,hk0,rfl⟩ | ⟨ds,hds,hp,hflat,rfl⟩⟩ | ⟨d,ds,rs,hdst,hds,hp,hle,rfl,rfl⟩ | ⟨d,rs,h0,h1,hdst,hp,hk0,hle,rfl,rfl⟩ | ⟨K2,rs,h0,h1,rfl,hsub,hp,hk0,rfl⟩ | ⟨ds,rs,hds,hp,rfl,rfl⟩ | ⟨ds,rs,hhi,hds,hp,rfl,rfl⟩
        · refine ⟨resA rs,rfl,fun k hk'=>?_,g,caps,resA rs,_,by rw [e1]; exact hcal,.inl ⟨rs,rfl,.inl ⟨ds,by rw [e2,hsk.1]; exact hds,hp,rfl⟩⟩,?_⟩
          · simp only [zey]
            rw [if_neg (hout k hk').1]
          · rw [e2,hsk.2]
            congr 1
            refine hmg _ _ (fun k hm=>?_) fun k hm=>?_
            · simp only [zey,hall k hm]
            · simp only [zey]
              rw [if_neg fun h=>hm (yby _ h)]
        · refine ⟨resA rs,rfl,fun k hk'=>?_,g,caps,resA rs,_,by rw [e1]; exact hcal,.inl ⟨rs,rfl,.inr (.inl ⟨h0,h1,by rw [e2,hsk.2]; exact hp,fun k hm=>by rw [e2,hsk.2] at hm; rw [hk k hm]; exact hk0 k hm,rfl⟩)⟩,?_⟩
          · simp only [zaz]
            rw [if_neg (hout k hk').1]
          · rw [e2,hsk.2]
            congr 1
            refine hmg _ _ (fun k hm=>?_) fun k hm=>?_
            · simp only [zaz,hall k hm]
            · simp only [zaz]
              rw [if_neg fun h=>hm (yby _ h)]
        · refine ⟨resA rs,rfl,fun k hk=>rfl,g,caps,resA rs,_,by rw [e1]; exact hcal,.inl ⟨rs,rfl,.inr (.inr ⟨ds,by rw [e2,hsk.1]; exact hds,hp,hflat,rfl⟩)⟩,?_⟩
          congr 1
          exact hmg _ _ (fun k hm=>hall k hm) fun k hm=>rfl
        · rw [hdst] at hkr hall hmg hout ⊢
          have hin:∀ q,q<(zas rs).length→nk d q ∈ resK (some d):=fun q hq=>by
            have:q=0∨q=1:=by omega
            rcases this with rfl | rfl <;> simp [resK,nk]
          have hvers:zbn st2.h d 0 rs=zbn st.h d 0 rs:=zms (fun q hq=>hkr _ (hin q (by omega)))
          refine ⟨resO st.h d rs,rfl,fun k hk'=>?_,g,caps,resO st.h d rs,_,by rw [e1]; exact hcal,.inr (.inl ⟨d,ds,rs,rfl,by rw [e2,hsk.1]; exact hds,hp,hle,by rw [resO,resO,hvers],rfl⟩),?_⟩
          · show zbc (frz st.h Ks) d (zas rs) k=st.h k
            rw [zd9 _ _ _ (k:=k) (fun q hq e=>(hout k hk').2 (by rw [e]; exact hin q hq)),zey,if_neg (hout k hk').1]
          · rw [e2,hsk.2]
            congr 1
            refine hmg _ _ (fun k hm=>?_) fun k hm=>?_
            · simp only [zbc,zey,hall k hm]
            · rw [zd9 _ _ _ (k:=k) (fun q hq e=>hm (ybz _ (by rw [e]; exact hin q hq))),zey,if_neg fun h=>hm (yby _ h)]
        · rw [hdst] at hkr hall hmg hout ⊢
          have hin:∀ q,q<(zas rs).length→nk d q ∈ resK (some d):=fun q hq=>by
            have:q=0∨q=1:=by omega
            rcases this with rfl | rfl <;> simp [resK,nk]
          have hmk:∀ k,k ∈ Ks ++ resK (some d)→zaz Ks h1 st2.h k=zaz Ks h1 st.h k:=fun k hm=>by
            simp only [zaz]
            split
            · rfl
            · exact hall k hm
          have hvers:zbn (zaz Ks h1 st2.h) d 0 rs=zbn (zaz Ks h1 st.h) d 0 rs:=zms (fun q hq=>hmk _ (ybz _ (hin q (by omega))))
          refine ⟨resO (zaz Ks h1 st.h) d rs,rfl,fun k hk'=>?_,g,caps,resO (zaz Ks h1 st.h) d rs,_,by rw [e1]; exact hcal,.inr (.inr (.inl ⟨d,rs,h0,h1,rfl,by rw [e2,hsk.2]; exact hp,fun k hm=>by rw [e2,hsk.2] at hm; rw [hk k hm]; exact hk0 k hm,hle,by rw [e2,hsk.2,resO,resO,hvers],rfl⟩)),?_⟩
          · show zbc (zaz Ks h1 st.h) d (zas rs) k=st.h k
            rw [zd9 _ _ _ (k:=k) (fun q hq e=>(hout k hk').2 (by rw [e]; exact hin q hq))]
            simp only [zaz,if_neg (hout k hk').1]
          · rw [e2,hsk.2]
            congr 1
            refine hmg _ _ (fun k hm=>?_) fun k hm=>?_
            · simp only [zbc,hmk k hm]
            · rw [zd9 _ _ _ (k:=k) (fun q hq e=>hm (ybz _ (by rw [e]; exact hin q hq)))]
              simp only [zaz,if_neg fun h=>hm (yby _ h)]
        · refine ⟨resA rs,rfl,fun k hk'=>?_,g,caps,resA rs,_,by rw [e1]; exact hcal,.inr (.inr (.inr (.inl ⟨K2,rs,h0,h1,rfl,by rw [e2,hsk.2]; exact hsub,by rw [e2]; exact hp,fun k hm=>by rw [hall k (hsub k hm)]; exact hk0 k hm,rfl⟩))),?_⟩
          · simp only [zaz]
            rw [if_neg fun hm=>?_]
            rcases yaY.1 (hsub k hm) with h | h
            · exact (hout k hk').1 h
            · exact (hout k hk').2 h
          · congr 1
            refine hmg _ _ (fun k hm=>?_) fun k hm=>?_
            · simp only [zaz,hall k hm]
            · simp only [zaz]
              rw [if_neg fun h=>hm (hsub k h)]
        · refine ⟨resN rs,rfl,fun k hk'=>?_,g,caps,resN rs,_,by rw [e1]; exact hcal,.inr (.inr (.inr (.inr (.inl ⟨ds,rs,by rw [e2,hsk.1]; exact hds,hp,rfl,rfl⟩)))),?_⟩
          · simp only [zey]
            rw [if_neg (hout k hk').1]
          · rw [e2,hsk.2]
            congr 1
            refine hmg _ _ (fun k hm=>?_) fun k hm=>?_
            · simp only [zey,hall k hm]
            · simp only [zey]
              rw [if_neg fun h=>hm (yby _ h)]
        · refine ⟨resN rs,rfl,fun k hk'=>?_,g,caps,resN rs,_,by rw [e1]; exact hcal,.inr (.inr (.inr (.inr (.inr ⟨ds,rs,by rw [e2]; exact hhi,by rw [e2,hsk.1]; exact hds,hp,rfl,rfl⟩)))),?_⟩
          · simp only [zey]
            rw [if_neg (hout k hk').1]
          · rw [e2,hsk.2]
            congr 1
            refine hmg _ _ (fun k hm=>?_) fun k hm=>?_
            · simp only [zey,hall k hm]
            · simp only [zey]
              rw [if_neg fun h=>hm (yby _ h)]
      | _ =>
        rw [hop] at hx hso hh
        simp only at hx ⊢
        obtain ⟨av,h',hact,he⟩:=hx
        obtain ⟨h1,h2⟩:=zCc o.dst st st2 _ hso hh hact
        subst he
        exact ⟨av,rfl,h2,av,_,h1,rfl⟩
def zjf (a b:List (Nat × Bool)):Bool:=a.all fun p=>b.all fun q=>p.1 != q.1 || (!p.2 && !q.2)
def wpT (P:Program):List XOper→List (Bool × List Nat)→Nat→List (Nat × List (Nat × Bool))→S→(S→Prop)→Prop
  | [],_,_,_,st,K=>K st
  | o :: os,ds,i,acc,st,K =>
    ((match ds.head? with | some d=>d.2 | none=>[]).all fun a=>match acc.lookup a with | some t=>zjf t (zbx o st) | none=>false)=true ∧
    (match zjy o st.s with
      | some true=>runX P o st fun st'=>wpT P os ds.tail (i+1) (if (match ds.head? with | some d=>d.1 | none=>false) then (i,zbx o st) :: acc else acc) st' K
      | some false=>wpT P os ds.tail (i+1) (if (match ds.head? with | some d=>d.1 | none=>false) then (i,zbx o st) :: acc else acc) ⟨putS st.s o.dst .skip,st.h⟩ K
      | none=>False)
theorem zoh {P:Program} {o:XOper} {st:S} {K:S→Prop} (h:runX P o st K):∃ st',runX P o st (· = st')∧K st':=by
  unfold runX at h ⊢
  cases hop:o.op with
  | call f args =>
    rw [hop] at h
    obtain ⟨g,caps,r,h',h1,h2,h4⟩:=h
    exact ⟨_,⟨g,caps,r,h',h1,h2,rfl⟩,h4⟩
  | _ =>
    rw [hop] at h
    obtain ⟨av,h',h1,h2⟩:=h
    exact ⟨_,⟨av,h',h1,rfl⟩,h2⟩
theorem zt3 {P:Program} {ops:List XOper} {ds:List (Bool × List Nat)} {K:S→Prop}:∀ (os:List XOper) (ds':List (Bool × List Nat)) (i:Nat) (acc:List (Nat × List (Nat × Bool))) (sts0:Nat→S),ops.drop i=os→ds.drop i=ds' →
    (∀ j,j<i → ∀ o,ops[j]? = some o→zrk P o (sts0 j) (sts0 (j+1)))→(∀ a t,acc.lookup a=some t→a<i ∧ ∃ o,ops[a]? = some o∧t=zbx o (sts0 a)) →
    (∀ j,j<i → ∀ o,ops[j]? = some o → ∀ d,ds[j]? = some d → ∀ a ∈ d.2,a<j ∧ ∃ o',ops[a]? = some o'∧zjf (zbx o' (sts0 a)) (zbx o (sts0 j))=true) →
    wpT P os ds' i acc (sts0 i) K→i≤ops.length →
    ∃ sts:Nat→S,sts 0=sts0 0∧(∀ (j:Nat) o,ops[j]? = some o→zrk P o (sts j) (sts (j+1)))∧K (sts ops.length) ∧
      (∀ (j:Nat) o,ops[j]? = some o → ∀ d,ds[j]? = some d → ∀ a ∈ d.2,a<j ∧ ∃ o',ops[a]? = some o'∧zjf (zbx o' (sts a)) (zbx o (sts j))=true)
  | [],ds',i,acc,sts0,ho,hd,h1,h2,h3,hw,hi=>by
    have hi':i=ops.length:=by
      have:=congrArg List.length ho
      simp at this
      omega
    subst hi'
    refine ⟨sts0,rfl,fun j o hj=>?_,hw,fun j o hj=>?_⟩
    · exact h1 j (yae.1 hj).1 o hj
    · exact h3 j (yae.1 hj).1 o hj
  | o :: os,ds',i,acc,sts0,ho,hd,h1,h2,h3,hw,hi=>by
    have hoi:ops[i]? = some o:=by
      have:(ops.drop i)[0]? = some o:=by rw [ho]; rfl
      simpa using this
    have hlt:i<ops.length:=(yae.1 hoi).1
    have hdi:ds'.head? = ds[i]?:=by rw [← hd]; simp
    obtain ⟨hc,hw⟩:=hw
    have key:∀ st' acc',zrk P o (sts0 i) st'→(∀ a t,acc'.lookup a=some t→(a<i ∧ ∃ o',ops[a]? = some o'∧t=zbx o' (sts0 a))∨(a=i∧t=zbx o (sts0 i)))→wpT P os ds'.tail (i+1) acc' st' K →
        ∃ sts:Nat→S,sts 0=sts0 0∧(∀ (j:Nat) o,ops[j]? = some o→zrk P o (sts j) (sts (j+1)))∧K (sts ops.length) ∧
          (∀ (j:Nat) o,ops[j]? = some o → ∀ d,ds[j]? = some d → ∀ a ∈ d.2,a<j ∧ ∃ o',ops[a]? = some o'∧zjf (zbx o' (sts a)) (zbx o (sts j))=true):=by
      intro st' acc' hst hacc hwp
      let sts1:Nat→S:=fun m=>if m≤i then sts0 m else st'
      have e0:∀ m,m≤i→sts1 m=sts0 m:=fun m hm=>if_pos hm
      have e1:sts1 (i+1)=st':=if_neg (by omega)
      have:=zt3 (P:=P) (ops:=ops) (ds:=ds) (K:=K) os ds'.tail (i+1) acc' sts1 (by rw [← ybA,ho]; rfl) (by rw [← ybA,hd])
        (fun j hj o' ho'=>by
          by_cases hji:j=i
          · subst hji
            rw [hoi] at ho'
            cases ho'
            rw [e0 j (yab _),e1]
            exact hst
          · rw [e0 j (by omega),e0 (j+1) (by omega)]
            exact h1 j (by omega) o' ho')
        (fun a t ha=>by
          rcases hacc a t ha with ⟨hlt',o',ho',ht⟩ | ⟨rfl,ht⟩
          · exact ⟨by omega,o',ho',by rw [e0 a (by omega)]; exact ht⟩
          · exact ⟨by omega,o,hoi,by rw [e0 a (yab _)]; exact ht⟩)
        (fun j hj o' ho' d hdj a ha=>by
          by_cases hji:j=i
          · subst hji
            rw [hoi] at ho'
            cases ho'
            rw [hdi,hdj] at hc
            simp only [yaC] at hc
            have:=hc a ha
            split at this
            · rename_i t ht
              obtain ⟨hlt',o',ho',rfl⟩:=h2 a t ht
              refine ⟨hlt',o',ho',?_⟩
              rw [e0 a (by omega),e0 j (yab _)]
              exact this
            · cases this
          · obtain ⟨hlt',o'',ho'',hcc⟩:=h3 j (by omega) o' ho' d hdj a ha
            refine ⟨hlt',o'',ho'',?_⟩
            rw [e0 a (by omega),e0 j (by omega)]
            exact hcc)
        (by rw [e1]; exact hwp) (by omega)
      obtain ⟨sts,hs0,hs1,hs2,hs3⟩:=this
      exact ⟨sts,by rw [hs0]; exact e0 0 (yaR _),hs1,hs2,hs3⟩
    have haccs:∀ (bb:Bool) a t,(if bb=true then (i,zbx o (sts0 i)) :: acc else acc).lookup a=some t→(a<i ∧ ∃ o',ops[a]? = some o'∧t=zbx o' (sts0 a))∨(a=i∧t=zbx o (sts0 i)):=by
      intro bb a t ha
      split at ha
      · rw [List.lookup_cons] at ha
        by_cases hai:a=i
        · subst hai
          rw [show (a == a)=true by simp] at ha
          exact .inr ⟨rfl,(Option.some.inj ha).symm⟩
        · rw [show (a == i)=false by simpa using hai] at ha
          exact .inl (h2 a t ha)
      · exact .inl (h2 a t ha)
    cases hwt:zjy o (sts0 i).s with
    | none=>rw [hwt] at hw; exact hw.elim
    | some b =>
      rw [hwt] at hw
      cases b with
      | true =>
        obtain ⟨st',hr,hwp⟩:=zoh hw
        exact key st' _ (by unfold zrk; rw [hwt]; exact hr) (haccs _) hwp
      | false=>exact key _ _ (by unfold zrk; rw [hwt]) (haccs _) hw
section
variable {V:Type}
def ov (gone:Nat→Bool) (f:Nat→Option V) (base:V):Nat→V
  | 0=>base
  | m+1=>if gone m then (f m).getD (ov gone f base m) else ov gone f base m
theorem zlw {gone:Nat→Bool} {f:Nat→Option V} {base:V} {n j:Nat} (hj:j≤n) (h1:∀ i,i<j→f i ≠ none→gone i=true) (h2:∀ i,j≤i→i<n→f i ≠ none→gone i=false):ov gone f base n=ov (fun _=>true) f base j:=by
  have e1:∀ m,m≤j→ov gone f base m=ov (fun _=>true) f base m:=by
    intro m
    induction m with
    | zero=>intro _; rfl
    | succ m ih =>
      intro hm
      simp only [ov,if_true,ih (by omega)]
      cases hf:f m with
      | none=>simp
      | some v=>rw [h1 m (by omega) (by simp [hf])]; rfl
  have e2:∀ d,j+d≤n→ov gone f base (j+d)=ov gone f base j:=by
    intro d
    induction d with
    | zero=>intro _; rfl
    | succ d ih =>
      intro hd
      show (if gone (j+d) then (f (j+d)).getD (ov gone f base (j+d)) else ov gone f base (j+d))=_
      rw [ih (by omega)]
      cases hf:f (j+d) with
      | none=>simp
      | some v=>rw [h2 (j+d) (by omega) (by omega) (by simp [hf])]; rfl
  have:=e2 (n - j) (by omega)
  rw [show j+(n - j)=n by omega] at this
  rw [this,e1 j (yab _)]
theorem zsp {gone gone':Nat→Bool} {f:Nat→Option V} {base:V} {n j:Nat} (hj:j<n) (hg:gone j=false) (hg':∀ i,gone' i=if i=j then true else gone i) (h2:∀ i,j<i→i<n→f i ≠ none→f j ≠ none→gone i=false) :
    ov gone' f base n=(f j).getD (ov gone f base n):=by
  have e1:∀ m,m≤j→ov gone' f base m=ov gone f base m:=by
    intro m
    induction m with
    | zero=>intro _; rfl
    | succ m ih =>
      intro hm
      simp only [ov,ih (by omega),hg' m,show m ≠ j by omega,if_false]
  have e2:∀ d,j+1+d≤n→ov gone' f base (j+1+d)=(f j).getD (ov gone f base (j+1+d)):=by
    intro d
    induction d with
    | zero =>
      intro _
      show (if gone' j then (f j).getD (ov gone' f base j) else ov gone' f base j)=(f j).getD (if gone j then (f j).getD (ov gone f base j) else ov gone f base j)
      rw [hg' j,hg,e1 j (yab _)]
      simp
    | succ d ih =>
      intro hd
      show (if gone' (j+1+d) then (f (j+1+d)).getD (ov gone' f base (j+1+d)) else ov gone' f base (j+1+d))=(f j).getD (if gone (j+1+d) then (f (j+1+d)).getD (ov gone f base (j+1+d)) else ov gone f base (j+1+d))
      have hn:¬ j+1+d=j:=by omega
      rw [ih (by omega),hg' _,if_neg hn]
      cases hfj:f j with
      | none=>rfl
      | some u =>
        cases hf:f (j+1+d) with
        | none=>simp
        | some v=>rw [h2 (j+1+d) (by omega) (by omega) (by simp [hf]) (by simp [hfj])]; simp
  have:=e2 (n - (j+1)) (by omega)
  rw [show j+1+(n - (j+1))=n by omega] at this
  exact this
end
inductive Reach (l:List Oper):Nat→Nat→Prop
  | edge (i:Nat) (o:Oper) (j:Nat) (hi:l[i]? = some o) (hj:j ∈ zcn o):Reach l i j
  | step (i:Nat) (o:Oper) (j k:Nat) (hi:l[i]? = some o) (hj:j ∈ zcn o) (hr:Reach l j k):Reach l i k
theorem zx0 (acc:List Nat):∀ (js:List Nat) (s:Nat) (k:Nat),(js.foldl (fun s j=>s ||| 2 ^ j ||| acc.getD j 0) s).testBit k=true→s.testBit k=true ∨ ∃ j ∈ js,j=k∨(acc.getD j 0).testBit k=true
  | [],s,k,h=>.inl h
  | j :: js,s,k,h=>by
    rcases zx0 acc js _ k h with h | ⟨j',hj',h⟩
    · simp only [Nat.testBit_or,Bool.or_eq_true,Nat.testBit_two_pow,decide_eq_true_eq] at h
      rcases h with (h | h) | h
      · exact .inl h
      · exact .inr ⟨j,by simp,.inl h⟩
      · exact .inr ⟨j,by simp,.inr h⟩
    · exact .inr ⟨j',by simp [hj'],h⟩
theorem zrd {l:List Oper}:∀ (os:List Oper) (acc:List Nat),l.drop acc.length=os→(∀ i k,i<acc.length→(acc.getD i 0).testBit k=true→Reach l i k) → ∀ i k,((befs os acc).getD i 0).testBit k=true→Reach l i k
  | [],acc,ho,hacc,i,k,h=>by
    simp only [befs] at h
    by_cases hi:i<acc.length
    · exact hacc i k hi h
    · simp [ybi,ybB (ybC hi)] at h
  | o :: os,acc,ho,hacc,i,k,h=>by
    simp only [befs] at h
    refine zrd os _ ?_ ?_ i k h
    · simp only [yaF,yaS,ybt,ybj]
      rw [← ybA,ho]
      rfl
    · intro i k hi hb
      simp only [yaF,yaS,ybt,ybj] at hi
      by_cases hlt:i<acc.length
      · refine hacc i k hlt ?_
        simpa [ybi,ybs hlt] using hb
      · have hie:i=acc.length:=by omega
        subst hie
        have hoi:l[acc.length]? = some o:=by
          have:(l.drop acc.length)[0]? = some o:=by rw [ho]; rfl
          simpa using this
        have hb':((zcn o).foldl (fun s j=>s ||| 2 ^ j ||| acc.getD j 0) 0).testBit k=true:=by
          simpa [ybi] using hb
        rcases zx0 acc (zcn o) 0 k hb' with h0 | ⟨j,hj,h0⟩
        · simp at h0
        · rcases h0 with rfl | h0
          · exact .edge _ o j hoi hj
          · by_cases hjl:j<acc.length
            · exact .step _ o j k hoi hj (hacc j k hjl h0)
            · simp [ybi,ybB (ybC hjl)] at h0
theorem zrs {l:List Oper} {gone:Nat→Bool} (hd:∀ i o,l[i]? = some o→gone i=true → ∀ j ∈ zcn o,gone j=true) {i k:Nat} (hr:Reach l i k) (hi:gone i=true):gone k=true:=by
  induction hr with
  | edge i o j ho hj=>exact hd i o ho hi j hj
  | step i o j k ho hj _ ih=>exact ih (hd i o ho hi j hj)
theorem ztq {l:List Oper} {gone:Nat→Bool} (hd:∀ i o,l[i]? = some o→gone i=true → ∀ j ∈ zcn o,gone j=true) {i k:Nat} {o:Oper} (hi:l[i]? = some o) (ha:∀ j ∈ zcn o,gone j=true) (hr:Reach l i k):gone k=true:=by
  cases hr with
  | edge _ o' _ ho hj=>rw [hi] at ho; cases ho; exact ha _ hj
  | step _ o' j _ ho hj hr=>rw [hi] at ho; cases ho; exact zrs hd hr (ha j hj)
end Ev
end Go.Proofs.YtncmainjcffanaaGreat
