/- Several texts in one. -/
import Derived.Test.YtncmainjcffanaaGreatEC
import Derived.OrdersIn
import Derived.RangeFuncCalls
import Derived.RangeFuncWrites
import Derived.RangeFuncLeaves
set_option maxRecDepth 100000
set_option linter.unusedSimpArgs false
set_option linter.unusedVariables false
open List renaming getD_eq_getElem?_getD→ybi,getElem?_eq_getElem→yar,getElem?_eq_some_iff→yae,mem_filter→ybH,mem_filterMap→ybN,mem_range→ybE,range→yai
open Nat renaming le_refl→yab,lt_of_lt_of_le→yad
open Option renaming getD_none→ybI,getD_some→ybG,map_some→yak
open Bool renaming and_eq_true→ybJ,false_eq_true→yao,not_eq_true'→ybK,or_eq_true→ybM
open Array renaming all_eq_true_iff_forall_mem→ybL,getD→yap,getD_eq_getD_getElem?→yaw,getElem?_eq_getElem→yal,mem_toList_iff→ybO,replicate→ybQ
/- The small language within a round of a range over a function: the same,inside a fence that says which round's. -/
namespace Go.Proofs.YtncmainjcffanaaGreat
namespace Ev
open Go
set_option linter.unusedSectionVars false
variable [Nw]
abbrev FR (r:Option Nat):Fence:={ Fence.wide with round:=r }
theorem zjo (r:Option Nat) (n:Nat) {P:Program} {f:FuncId} {args:Array Value} {w:World} {R:Ending→World→Prop} (h:Calls P f args w R):CallsIn (FR r) n P f args w R :=
  match r with
  | none=>callsIn_wide.2 h
  | some l=>CallsIn.inRound l (callsIn_wide.2 h)
theorem zel {P:Program} {ops:Array Oper} {n:Nat} {o:Oper} {x:XOper} (hc:zuw P ops n o=some x) {r:Option Nat} {ρ:Operand→Value}:Oper.semAt r ρ o=execOp ρ o:=by
  refine Oper.semAt_eq r ρ o fun c hd=>?_
  have:=(zc1 hc).2.1
  simp [cop,hd] at this
section
variable {P:Program} {G:GS} {h:Nat→Ent} {w:World} {a:Act} {s:Nat→AV} {o:Oper} {r:Option Nat} {m:Nat}
theorem zC4 {ops:Array Oper} {n:Nat} {x:XOper} {st:S} {K:S→Prop} {Q:Exit→Act→World→Prop} (hc:zuw P ops n o=some x) (fr:Fr n G st a w) (hr:runX P x st K) :
    o.wpIn (FR r) m P a w (fun a' w'=>∃ G' st',Fr n G' st' a' w'∧Step G st.h w G' st'.h w'∧a'.defers=a.defers∧K st') Q:=by
  obtain ⟨hd1,hcop,hd2,_⟩:=zc1 hc
  unfold runX at hr
  split at hr
  · -- a call
    rename_i f args hop
    obtain ⟨g,caps,r0,hx',hcal,hcx,hK⟩:=hr
    rw [hop] at hcop
    have hshape:∃ (c:Call) (f':Operand) (as:List Operand) (ts:List TypeId),o.op = .call c∧c.callee = .value f'∧c.args.toList=as∧as.length=ts.length∧f=copd P 0 f'∧args=(as.zip ts).map fun p=>copd P p.2 p.1:=by
      unfold cop at hcop
      split at hcop
      case h_21 c ho =>
        obtain ⟨cal,as_,ts⟩:=c
        simp only at hcop
        split at hcop
        · obtain ⟨e,he,hh⟩:=map_some hcop; cases hh
        · split at hcop
          · obtain ⟨e,he,hcop⟩:=bind_some hcop
            obtain ⟨sz,hn,hcop⟩:=bind_some hcop
            obtain ⟨b,hb,hcop⟩:=bind_some hcop
            split at hcop
            · cases hcop
            · cases hcop
          · cases hcop
        · cases hcop
        · cases hcop
        · rename_i f'
          split at hcop
          · rename_i hl
            cases hcop
            exact ⟨_,f',as_.toList,ts.toList,ho,rfl,rfl,hl,rfl,rfl⟩
          · cases hcop
        · cases hcop
      all_goals first
        | (cases hcop; done)
        | (obtain ⟨_,_,hcop⟩:=bind_some hcop; obtain ⟨_,_,hcop⟩:=bind_some hcop; obtain ⟨_,_,hcop⟩:=bind_some hcop; split at hcop <;> cases hcop; done)
        | (obtain ⟨_,_,hcop⟩:=bind_some hcop; obtain ⟨_,_,hcop⟩:=map_some hcop; cases hcop; done)
        | (obtain ⟨_,_,hcop⟩:=map_some hcop; cases hcop; done)
        | (split at hcop <;> first
            | (cases hcop; done)
            | (obtain ⟨_,_,hcop⟩:=map_some hcop; cases hcop; done)
            | (split at hcop <;> first
                | (cases hcop; done)
                | (obtain ⟨_,_,hcop⟩:=bind_some hcop; obtain ⟨_,_,hcop⟩:=map_some hcop; cases hcop; done)
                | (obtain ⟨_,_,hcop⟩:=bind_some hcop; obtain ⟨_,_,hcop⟩:=bind_some hcop; obtain ⟨_,_,hcop⟩:=bind_some hcop; obtain ⟨_,_,hcop⟩:=bind_some hcop; split at hcop <;> cases hcop; done))
            | (obtain ⟨_,_,hcop⟩:=bind_some hcop; obtain ⟨_,_,hcop⟩:=bind_some hcop; split at hcop <;> cases hcop; done)
            | (obtain ⟨_,_,hcop⟩:=bind_some hcop; obtain ⟨_,_,hcop⟩:=bind_some hcop; obtain ⟨_,_,hcop⟩:=map_some hcop; cases hcop; done))
    obtain ⟨c,f',as,ts,ho,hcc,has,hl,rfl,rfl⟩:=hshape
    have hfr:=za0 P fr.slots 0 f'
    have hfv:∃ vs:Array Value,a.eval f' = .func (.func g) #[] vs∧vs.size=caps.length ∧ ∀ (j:Nat) y,caps[j]? = some y→ARel G st.h w (vs.getD j undef) y:=by
      generalize a.eval f'=v at hfr
      unfold callee at hcal
      split at hcal
      · rename_i g' cs hcv
        rw [hcv] at hfr
        cases hcal
        have:=hfr.d_inv
        cases this with
        | clo _ vs _ hn hr =>
          refine ⟨vs,rfl,by simpa using hn,fun j y hj=>?_⟩
          simp only [List.getElem?_map] at hj
          cases hx:cs[j]? with
          | none=>simp [hx] at hj
          | some q =>
            simp only [hx,yak,Option.some.injEq] at hj
            subst hj
            exact .d _ _ (hr j q hx)
      · rename_i g' cs hcv
        rw [hcv] at hfr
        cases hcal
        cases hfr with
        | clo _ vs _ hn hr=>exact ⟨vs,rfl,hn,hr⟩
      · cases hcal
    obtain ⟨cvs,hfe,hcsz,hcr⟩:=hfv
    have hallr:∀ (j:Nat) y,(((as.zip ts).map fun p=>copd P p.2 p.1).map (·.ev st.s) ++ caps)[j]? = some y→ARel G st.h w ((as.map a.eval ++ cvs.toList).getD j undef) y:=by
      intro j y hj
      have hlz:(((as.zip ts).map fun p=>copd P p.2 p.1).map (·.ev st.s)).length=as.length:=by simp; omega
      rw [List.getElem?_append] at hj
      split at hj
      · rename_i hlt
        obtain ⟨x',t,hx',rfl⟩:=zu6 hl st.s j y hj
        have:(as.map a.eval ++ cvs.toList).getD j undef=a.eval x':=by
          rw [ybi,List.getElem?_append_left (by simp; omega)]
          simp [hx']
        rw [this]
        exact za0 P fr.slots t x'
      · rename_i hge
        have:(as.map a.eval ++ cvs.toList).getD j undef=cvs.getD (j - as.length) undef:=by
          rw [ybi,List.getElem?_append_right (by simp; omega)]
          simp [yaw]
        rw [this,]
        rw [hlz] at hj
        exact hcr _ y hj
    have hlen:(as.map a.eval ++ cvs.toList).length=(((as.zip ts).map fun p=>copd P p.2 p.1).map (·.ev st.s) ++ caps).length:=by simp; omega
    have hrun:zlb P g→(execOp a.eval o).run P w = .ok (.enter g (as.map a.eval ++ cvs.toList).toArray) w:=fun hent=>by
      have hargs:c.args.map a.eval ++ cvs=(as.map a.eval ++ cvs.toList).toArray:=by
        apply Array.ext'
        simp [← has]
      simp only [execOp,ho,resolve,hcc,Deferred.ofValue,hfe,Sem.run_bind,Sem.run_pure,Result.andThen_ok,invoke,Array.empty_append]
      rw [hargs]
      exact zlu hent _
    rcases hcx with ⟨rs,rfl,⟨ds,hds,⟨hent,hp⟩,rfl⟩ | ⟨h0,h1,⟨hent,hov,hp⟩,hk0,rfl⟩ | ⟨ds,hds,⟨hent,hp⟩,hflat,rfl⟩⟩ | ⟨d,ds,rs,hdst,hds,⟨hent,hp⟩,_,rfl,rfl⟩ | ⟨d,rs,h0,h1,hdst,⟨hent,hov,hp⟩,hk0,_,rfl,rfl⟩ | ⟨Ks,rs,h0,h1,rfl,_,⟨hent,hov,hp⟩,hk0,rfl⟩ | ⟨ds,rs,hds,⟨hent,hp⟩,rfl,rfl⟩ | ⟨ds,rs,hhi,hds,⟨hent,hp⟩,rfl,rfl⟩
    · have hrel:=zed fr.inv (vs:=as.map a.eval ++ cvs.toList) hlen hallr hds
      have hfs:=zbp fr.inv ((((as.zip ts).map fun p=>copd P p.2 p.1).map (·.ev st.s) ++ caps).flatMap (sk st.h deep))
      have hcalls:=hp _ w _ hfs.inv.st hrel
      unfold Oper.wpIn
      rw [zel hc]
      refine ⟨fun _ _=>trivial,?_⟩
      rw [hrun hent,Oper.uponIn_enter]
      refine ⟨(fun h=>by cases h),zjo r (m - 1) ?_⟩
      refine hcalls.mono fun e w' he=>?_
      obtain ⟨St',us,rfl,hus,hbel,hst,hst',hfr⟩:=he
      have hstep:=zgh hfs.inv hbel hst hst' hfr
      refine ⟨_,_,⟨hstep.inv,?_,by rw [zbq]; exact fr.size⟩,hfs.trans hstep,zax,hK⟩
      have hres:ARel ⟨St',(frzG G st.h w ((((as.zip ts).map fun p=>copd P p.2 p.1).map (·.ev st.s) ++ caps).flatMap (sk st.h deep))).hd⟩ (frz st.h ((((as.zip ts).map fun p=>copd P p.2 p.1).map (·.ev st.s) ++ caps).flatMap (sk st.h deep))) w' (za3 us) (resA rs):=zhw hus
      rw [hd1]
      exact ((fr.slots.ext hfs.ext).ext hstep.ext).put hres fr.size hd2
    · generalize hKs:(((as.zip ts).map fun p=>copd P p.2 p.1).map (·.ev st.s) ++ caps).flatMap (sk st.h deep)=Ks at hov hp hk0 hK
      have hcalls:=hp G (only Ks st.h) w _ (fun k hk=>by rw [zf8 hk]; exact hk0 k hk) (fun k hk=>by rw [zgm hk]) (zm4 fr.inv Ks) hlen fun j y hj=>(hallr j y hj).only Ks
      unfold Oper.wpIn
      rw [zel hc]
      refine ⟨fun _ _=>trivial,?_⟩
      rw [hrun hent,Oper.uponIn_enter]
      refine ⟨(fun h=>by cases h),zjo r (m - 1) ?_⟩
      refine hcalls.mono fun e w' he=>?_
      obtain ⟨G',h',us,rfl,hus,hk1,_,hst⟩:=he
      have hstep:=zl6 fr.inv hst hk1 hov
      refine ⟨_,_,⟨hstep.inv,?_,by rw [zbq]; exact fr.size⟩,hstep,zax,hK⟩
      have hres:ARel ⟨G'.St,fun k=>if k ∈ Ks then G'.hd k else G.hd k⟩ (zaz Ks h1 st.h) w' (za3 us) (resA rs):=zhw hus
      rw [hd1]
      exact (fr.slots.ext hstep.ext).put hres fr.size hd2
    · have hrel:=zed fr.inv (vs:=as.map a.eval ++ cvs.toList) hlen hallr hds
      have hfs:=zbp fr.inv ((((as.zip ts).map fun p=>copd P p.2 p.1).map (·.ev st.s) ++ caps).flatMap (sk st.h deep))
      have hcalls:=hp _ w _ hfs.inv.st hrel
      unfold Oper.wpIn
      rw [zel hc]
      refine ⟨fun _ _=>trivial,?_⟩
      rw [hrun hent,Oper.uponIn_enter]
      refine ⟨(fun h=>by cases h),zjo r (m - 1) ?_⟩
      refine hcalls.mono fun e w' he=>?_
      obtain ⟨St',us,rfl,hus,hbel,hst,hst',hfr⟩:=he
      have hstep:=zgh fr.inv (St':=G.St) hbel (fun _ _=>rfl) (fun b hb=>yad (fr.inv.st b hb) hbel.size) (fun b hb h0=>by have:=fr.inv.st b h0; omega)
      refine ⟨⟨G.St,G.hd⟩,⟨putS st.s x.dst (resA rs),st.h⟩,⟨hstep.inv,?_,by rw [zbq]; exact fr.size⟩,hstep,zax,hK⟩
      have hus':RelL G.St w' us rs:=⟨hus.1,fun j d hj=>(hus.2 j d hj).flat (hflat d (List.mem_of_getElem? hj))⟩
      have hres:ARel ⟨G.St,G.hd⟩ st.h w' (za3 us) (resA rs):=zhw hus'
      show zc0 _ _ _ _ (putS st.s x.dst (resA rs))
      rw [hd1]
      exact (fr.slots.ext hstep.ext).put hres fr.size hd2
    · have hrel:=zed fr.inv (vs:=as.map a.eval ++ cvs.toList) hlen hallr hds
      have hfs:=zbp fr.inv ((((as.zip ts).map fun p=>copd P p.2 p.1).map (·.ev st.s) ++ caps).flatMap (sk st.h deep))
      have hcalls:=hp _ w _ hfs.inv.low hfs.inv.st hrel
      unfold Oper.wpIn
      rw [zel hc]
      refine ⟨fun _ _=>trivial,?_⟩
      rw [hrun hent,Oper.uponIn_enter]
      refine ⟨(fun h=>by cases h),zjo r (m - 1) ?_⟩
      refine hcalls.mono fun e w' he=>?_
      obtain ⟨G',us,rfl,hul,hus,hinv,hbel,hst,hown,hfr⟩:=he
      obtain ⟨hstep,hvals⟩:=zBd hfs.inv d hinv hbel hst hfr hown
      refine ⟨_,_,⟨hstep.inv,?_,by rw [zbq]; exact fr.size⟩,hfs.trans hstep,zax,hK⟩
      have hres:=zmr (G:=⟨G'.St,hdO (zas rs).length d (frzG G st.h w ((((as.zip ts).map fun p=>copd P p.2 p.1).map (·.ev st.s) ++ caps).flatMap (sk st.h deep))).hd G'.hd⟩) (h:=zbc (frz st.h ((((as.zip ts).map fun p=>copd P p.2 p.1).map (·.ev st.s) ++ caps).flatMap (sk st.h deep))) d (zas rs)) (w:=w')
        (us:=us) (vs:=zbn (frz st.h ((((as.zip ts).map fun p=>copd P p.2 p.1).map (·.ev st.s) ++ caps).flatMap (sk st.h deep))) d 0 rs) (by rw [hul,zbo,zbo]) fun j v hj=>by
          have hlt:j<rs.length:=by have:=(yae.1 hj).1; rwa [zbo] at this
          obtain ⟨v0,hv0⟩:∃ v0,(zbn zat 0 0 rs)[j]? = some v0:=⟨_,yar (by rw [zbo]; exact hlt)⟩
          obtain ⟨c',h3,h4⟩:=hvals j v0 hv0
          rw [h3] at hj
          cases hj
          exact h4 _ (hus j v0 hv0)
      rw [zqa (h2:=st.h) (fun k=>zzi _ _ k)] at hres
      rw [hd1]
      exact ((fr.slots.ext hfs.ext).ext hstep.ext).put hres fr.size hd2
    · generalize hKs:(((as.zip ts).map fun p=>copd P p.2 p.1).map (·.ev st.s) ++ caps).flatMap (sk st.h deep)=Ks at hov hp hk0 hK
      have hcalls:=hp G (only Ks st.h) w _ (fun k hk=>by rw [zf8 hk]; exact hk0 k hk) (fun k hk=>by rw [zgm hk]) (zm4 fr.inv Ks) hlen fun j y hj=>(hallr j y hj).only Ks
      unfold Oper.wpIn
      rw [zel hc]
      refine ⟨fun _ _=>trivial,?_⟩
      rw [hrun hent,Oper.uponIn_enter]
      refine ⟨(fun h=>by cases h),zjo r (m - 1) ?_⟩
      refine hcalls.mono fun e w' he=>?_
      obtain ⟨G',h',us,hd1',rfl,hul,hus,hk1,_,hst,hinv,hown⟩:=he
      obtain ⟨hstep,hvals⟩:=zw8 fr.inv hst hk1 hov d hinv hown
      refine ⟨_,_,⟨hstep.inv,?_,by rw [zbq]; exact fr.size⟩,hstep,zax,hK⟩
      have hres:=zmr (G:=⟨G'.St,hdO (zas rs).length d (fun k=>if k ∈ Ks then G'.hd k else G.hd k) hd1'⟩) (h:=zbc (zaz Ks h1 st.h) d (zas rs)) (w:=w')
        (us:=us) (vs:=zbn (zaz Ks h1 st.h) d 0 rs) (by rw [hul,zbo,zbo]) fun j v hj=>by
          have hlt:j<rs.length:=by have:=(yae.1 hj).1; rwa [zbo] at this
          obtain ⟨v0,hv0⟩:∃ v0,(zbn zat 0 0 rs)[j]? = some v0:=⟨_,yar (by rw [zbo]; exact hlt)⟩
          obtain ⟨c',h3,h4⟩:=hvals j v0 hv0
          rw [h3] at hj
          cases hj
          exact h4 _ (hus j v0 hv0)
      rw [hd1]
      exact (fr.slots.ext hstep.ext).put hres fr.size hd2
    · have hcalls:=hp G (only Ks st.h) w _ (fun k hk=>by rw [zf8 hk]; exact hk0 k hk) (fun k hk=>by rw [zgm hk]) (zm4 fr.inv Ks) hlen fun j y hj=>(hallr j y hj).only Ks
      unfold Oper.wpIn
      rw [zel hc]
      refine ⟨fun _ _=>trivial,?_⟩
      rw [hrun hent,Oper.uponIn_enter]
      refine ⟨(fun h=>by cases h),zjo r (m - 1) ?_⟩
      refine hcalls.mono fun e w' he=>?_
      obtain ⟨G',h',us,rfl,hus,hk1,_,hst⟩:=he
      have hstep:=zl6 fr.inv hst hk1 hov
      refine ⟨_,_,⟨hstep.inv,?_,by rw [zbq]; exact fr.size⟩,hstep,zax,hK⟩
      have hres:ARel ⟨G'.St,fun k=>if k ∈ Ks then G'.hd k else G.hd k⟩ (zaz Ks h1 st.h) w' (za3 us) (resA rs):=zhw hus
      rw [hd1]
      exact (fr.slots.ext hstep.ext).put hres fr.size hd2
    · have hrel:=zed fr.inv (vs:=as.map a.eval ++ cvs.toList) hlen hallr hds
      have hfs:=zbp fr.inv ((((as.zip ts).map fun p=>copd P p.2 p.1).map (·.ev st.s) ++ caps).flatMap (sk st.h deep))
      have hcalls:=hp _ w _ hfs.inv.st hrel
      unfold Oper.wpIn
      rw [zel hc]
      refine ⟨fun _ _=>trivial,?_⟩
      rw [hrun hent,Oper.uponIn_enter]
      refine ⟨(fun h=>by cases h),zjo r (m - 1) ?_⟩
      refine hcalls.mono fun e w' he=>?_
      obtain ⟨St',us,rfl,hus,hbel,hst,hst',hfr⟩:=he
      have hstep:=zgh hfs.inv hbel hst hst' hfr
      refine ⟨_,_,⟨hstep.inv,?_,by rw [zbq]; exact fr.size⟩,hfs.trans hstep,zax,hK⟩
      have hres:ARel ⟨St',(frzG G st.h w ((((as.zip ts).map fun p=>copd P p.2 p.1).map (·.ev st.s) ++ caps).flatMap (sk st.h deep))).hd⟩ (frz st.h ((((as.zip ts).map fun p=>copd P p.2 p.1).map (·.ev st.s) ++ caps).flatMap (sk st.h deep))) w' (za3 us) (resN rs):=zmz ⟨hus.1,fun j d hj=>(hus.2 j d hj).le (zyx (by have:=fr.inv.low; omega))⟩
      rw [hd1]
      exact ((fr.slots.ext hfs.ext).ext hstep.ext).put hres fr.size hd2
    · have hfs:=zbp fr.inv ((((as.zip ts).map fun p=>copd P p.2 p.1).map (·.ev st.s) ++ caps).flatMap (sk st.h deep))
      have hrel:=zym fr.inv (vs:=as.map a.eval ++ cvs.toList) hlen hallr hhi hds
      have hcalls:=hp _ w _ (fun b hb=>hfs.inv.st b (yad hb (zhl _ _ _ _))) hrel
      unfold Oper.wpIn
      rw [zel hc]
      refine ⟨fun _ _=>trivial,?_⟩
      rw [hrun hent,Oper.uponIn_enter]
      refine ⟨(fun h=>by cases h),zjo r (m - 1) ?_⟩
      refine hcalls.mono fun e w' he=>?_
      obtain ⟨St',us,rfl,hus,hbel,hst,hst',hfr⟩:=he
      obtain ⟨St2,hSt2⟩:∃ St2:Nat→Nat,St2=fun b=>if b<w.heap.size then (frzG G st.h w ((((as.zip ts).map fun p=>copd P p.2 p.1).map (·.ev st.s) ++ caps).flatMap (sk st.h deep))).St b else St' b:=⟨_,rfl⟩
      have hstep:=zgh (St':=St2) hfs.inv hbel (fun b hb=>by rw [hSt2]; exact if_pos hb) (fun b hb=>by
        rw [hSt2] at hb
        by_cases hlt:b<w.heap.size
        · exact yad hlt hbel.size
        · simp only [hlt,if_false] at hb
          exact hst' b hb) (fun b hb h0=>by
        rw [hSt2] at h0
        simp only [show ¬ b<w.heap.size by omega,if_false] at h0
        exact hfr b hb h0)
      refine ⟨_,_,⟨hstep.inv,?_,by rw [zbq]; exact fr.size⟩,hfs.trans hstep,zax,hK⟩
      have hres:ARel ⟨St2,(frzG G st.h w ((((as.zip ts).map fun p=>copd P p.2 p.1).map (·.ev st.s) ++ caps).flatMap (sk st.h deep))).hd⟩ (frz st.h ((((as.zip ts).map fun p=>copd P p.2 p.1).map (·.ev st.s) ++ caps).flatMap (sk st.h deep))) w' (za3 us) (resN rs):=zmz ⟨hus.1,fun j d hj=>(hus.2 j d hj).le fun b=>by
        rw [hSt2]
        unfold cutS
        by_cases hlt:b<w.heap.size
        · rw [hst b hlt]
          unfold cutS
          simp only [hlt,if_true]
          exact yab _
        · have hge:Nw.n≤b:=by have:=fr.inv.low; omega
          simp [hlt,hge]⟩
      rw [hd1]
      exact ((fr.slots.ext hfs.ext).ext hstep.ext).put hres fr.size hd2
  · -- any other
    obtain ⟨av,h',hact,hK⟩:=hr
    rw [hd1] at hact
    have hdid:=zAx fr.inv fr.slots hcop hact
    obtain ⟨v,w',G',hrun,hstep,hres⟩:=hdid
    have hend:∃ G' st',Fr n G' st' (a.put o.dst v) w'∧Step G st.h w G' st'.h w'∧(a.put o.dst v).defers=a.defers∧K st':=by
      refine ⟨G',_,⟨hstep.inv,?_,by rw [zbq]; exact fr.size⟩,hstep,zax,hK⟩
      rw [hd1]
      exact (fr.slots.ext hstep.ext).put hres fr.size hd2
    unfold Oper.wpIn
    rw [zel hc]
    refine ⟨fun _ _=>trivial,?_⟩
    rcases hrun with hrun | ⟨hrun,hv⟩
    · rw [hrun]
      exact hend
    · rw [hrun]
      subst hv
      exact hend
end
end Ev
end Go.Proofs.YtncmainjcffanaaGreat
/- Regions within a round: in the text's order,and in a drawn one. -/
namespace Go.Proofs.YtncmainjcffanaaGreat
namespace Ev
open Go
set_option linter.unusedSectionVars false
variable [Nw]
section
variable {P:Program} {G:GS} {w:World} {a:Act} {r:Option Nat} {m:Nat}
theorem zz4 {ops:Array Oper} {n:Nat} {K:S→Prop} {Q:Exit→Act→World→Prop}:∀ (l:List Oper) (xs:List XOper) (k:Nat) {G:GS} {st:S} {a:Act} {w:World},zi2 P ops n l=some xs→(∀ j,l[j]? = ops[k+j]?)→Fr n G st a w→wpO P xs st K →
    (∀ a' w' G' st',Fr n G' st' a' w'→Step G st.h w G' st'.h w'→a'.defers=a.defers→K st'→Q .normal a' w')→wpOpsIn (FR r) m P ops Q (List.range' k l.length) a w
  | [],xs,k,G,st,a,w,hc,hl,fr,hw,hQ=>by
    simp [zi2] at hc
    subst hc
    simp only [List.length_nil,List.range'_zero,wpOpsIn]
    exact hQ a w G st fr (.refl fr.inv) rfl hw
  | o :: l,xs,k,G,st,a,w,hc,hl,fr,hw,hQ=>by
    simp only [zi2] at hc
    split at hc
    · rename_i x ys hx hys
      cases hc
      have h0:ops[k]? = some o:=by simpa using (hl 0).symm
      have hl':∀ j,l[j]? = ops[k+1+j]?:=fun j=>by have:=hl (j+1); simpa [Nat.add_assoc,Nat.add_comm 1 j] using this
      simp only [List.length_cons,List.range'_succ,wpOpsIn,h0]
      simp only [wpO] at hw
      cases hwt:zjy x st.s with
      | none=>rw [hwt] at hw; exact hw.elim
      | some b =>
        rw [hwt] at hw
        have hwo:=zmv hx fr.slots hwt
        rw [hwo]
        cases b with
        | true =>
          simp only [if_true]
          refine Oper.wpIn_mono ?_ (zC4 hx fr hw)
          rintro a' w' ⟨G',st',fr',hs,hd,hK⟩
          exact zz4 l ys (k+1) hys hl' fr' hK fun a'' w'' G'' st'' fr'' hs' hd' hK'=>hQ a'' w'' G'' st'' fr'' (hs.trans hs') (hd'.trans hd) hK'
        | false =>
          simp only [yao,if_false]
          obtain ⟨hd1,_,hd2,_⟩:=zc1 hx
          refine ⟨fun _ _=>trivial,?_⟩
          refine zz4 l ys (k+1) (G:=G) (st:=⟨putS st.s x.dst .skip,st.h⟩) hys hl' ⟨fr.inv,?_,by rw [zbq]; exact fr.size⟩ hw fun a'' w'' G'' st'' fr'' hs' hd' hK'=>hQ a'' w'' G'' st'' fr'' hs' (hd'.trans zax) hK'
          rw [hd1]
          exact fr.slots.put .skip fr.size hd2
    · cases hc
theorem zK7 {ops:Array Oper} {n id:Nat} {K:S→Prop} {Q:Exit→Act→World→Prop} {xs:List XOper} {ds:List (Bool × List Nat)} {st:S} (hm:P.follows .mixedOrders=true) (hc:zi2 P ops n ops.toList=some xs) (hp:zEw ops.toList xs=some ds)
    (fr:Fr n G st a w) (hw:wpT P xs ds 0 [] st K) (hQ:∀ a' w' G' st',Fr n G' st' a' w'→Step G st.h w G' st'.h w'→a'.defers=a.defers→K st'→Q .normal a' w'):(Code.region id ops true).wpIn (FR r) m P Q a w:=by
  obtain ⟨sts,hs0,hs1,hs2,hs3⟩:=zt3 (ops:=xs) (ds:=ds) xs ds 0 [] (fun _=>st) rfl rfl (fun j hj=>by omega) (fun a t h=>by simp at h) (fun j hj=>by omega) hw (Nat.zero_le _)
  obtain ⟨hlen,hget⟩:=zm3 hc
  obtain ⟨hl1,haft,hloose⟩:=zvd hp
  have hN:ops.size=xs.length:=by rw [← hlen]; simp
  subst hs0
  let fs:Nat→Nat→Option AV:=fun t i=>match xs[i]? with | some o=>(if o.dst=some t then some ((sts (i+1)).s t) else none) | none=>none
  let fh:Nat→Nat→Option Ent:=fun k i=>match xs[i]? with | some o=>(if (k,true) ∈ zbx o (sts i) then some ((sts (i+1)).h k) else none) | none=>none
  have hloc:∀ i o,xs[i]? = some o → ∃ v,(sts (i+1)).s=putS (sts i).s o.dst v ∧ ∀ k,(k,true) ∉ zbx o (sts i)→(sts (i+1)).h k=(sts i).h k:=by
    intro i o ho
    obtain ⟨v,h1,h2,_⟩:=zk7 (st2:=sts i) (fun _ _=>rfl) (fun _ _ _=>rfl) (hs1 i o ho)
    exact ⟨v,h1,h2⟩
  have hTs:∀ t j,j≤xs.length→ov (fun _=>true) (fs t) ((sts 0).s t) j=(sts j).s t:=by
    intro t j
    induction j with
    | zero=>intro _; rfl
    | succ j ih =>
      intro hj
      have ho:=yar (l:=xs) (i:=j) (by omega)
      obtain ⟨v,h1,_⟩:=hloc j _ ho
      simp only [ov,if_true,ih (by omega),fs,ho]
      by_cases hd:xs[j].dst=some t
      · simp [hd]
      · simp only [hd,if_false,ybI,h1]
        cases hdd:xs[j].dst with
        | none=>rfl
        | some d =>
          have:t ≠ d:=fun e=>hd (by rw [hdd,e])
          simp [putS,upd,this]
  have hTh:∀ k j,j≤xs.length→ov (fun _=>true) (fh k) ((sts 0).h k) j=(sts j).h k:=by
    intro k j
    induction j with
    | zero=>intro _; rfl
    | succ j ih =>
      intro hj
      have ho:=yar (l:=xs) (i:=j) (by omega)
      obtain ⟨v,_,h2⟩:=hloc j _ ho
      simp only [ov,if_true,ih (by omega),fh,ho]
      by_cases hd:(k,true) ∈ zbx xs[j] (sts j)
      · simp [hd]
      · simp only [hd,if_false,ybI]
        exact (h2 k hd).symm
  let C:(Nat→Bool)→S:=fun gone=>⟨fun t=>ov gone (fs t) ((sts 0).s t) xs.length,fun k=>ov gone (fh k) ((sts 0).h k) xs.length⟩
  have hord:∀ (gone:Nat→Bool),(∀ (i:Nat) o,ops.toList[i]? = some o→gone i=true → ∀ j ∈ zcn o,gone j=true) → ∀ i j,i<j→j<xs.length→zjq (befs ops.toList []) i j=false→(gone j=true→gone i=true)∧(∀ o,ops.toList[j]? = some o→(∀ q ∈ zcn o,gone q=true)→gone i=true):=by
    intro gone hd i j hij hj hlo
    have hr:Reach ops.toList j i:=by
      refine zrd ops.toList [] rfl (fun _ _ h=>by simp at h) j i ?_
      simpa [zjq] using hlo
    exact ⟨fun h=>zrs hd hr h,fun o ho ha=>ztq hd ho ha hr⟩
  have hconf:∀ i j (x y:XOper),i<j→j<xs.length→xs[i]? = some x→xs[j]? = some y→zjq (befs ops.toList []) i j=true→zvj x y=true∧zjf (zbx x (sts i)) (zbx y (sts j))=true:=by
    intro i j x y hij hj hx hy hlo
    obtain ⟨x',y',hx',hy',hap,hst⟩:=hloose i j hij hj hlo
    rw [hx] at hx'
    rw [hy] at hy'
    cases hx'
    cases hy'
    refine ⟨hap,?_⟩
    rcases hst with h | h | ⟨d,hd,hi⟩
    · rw [zkw h]; rfl
    · rw [zkw h]
      unfold zjf
      rw [List.all_eq_true]
      intro _ _
      rfl
    · obtain ⟨_,o',ho',hcc⟩:=hs3 j y hy d hd i hi
      rw [hx] at ho'
      cases ho'
      exact hcc
  have stepC:∀ (gone:Nat→Bool) (j:Nat) (o:Oper) (x:XOper),(∀ (i:Nat) o,ops.toList[i]? = some o→gone i=true → ∀ j ∈ zcn o,gone j=true)→gone j=false→ops.toList[j]? = some o→(∀ q ∈ zcn o,gone q=true)→xs[j]? = some x →
      ∀ gone',(∀ i,gone' i=if i=j then true else gone i)→zrk P x (C gone) (C gone'):=by
    intro gone j o x hd hgj ho ha hx gone' hg'
    have hj:j<xs.length:=(yae.1 hx).1
    have hS:∀ t ∈ zuf x,(C gone).s t=(sts j).s t:=by
      intro t ht
      show ov gone (fs t) _ _=_
      rw [zlw (j:=j) (by omega),hTs t j (by omega)]
      · intro i hi hf
        have hoi:=yar (l:=xs) (i:=i) (by omega)
        have hdst:xs[i].dst=some t:=by
          simp only [fs,hoi] at hf
          by_cases hh:xs[i].dst=some t
          · exact hh
          · simp [hh] at hf
        cases hlo:zjq (befs ops.toList []) i j with
        | false=>exact (hord gone hd i j hi hj hlo).2 o ho ha
        | true=>exact absurd ht ((zg6 (hconf i j _ _ hi hj hoi hx hlo).1).1 t hdst)
      · intro i hi hin hf
        by_cases hij:i=j
        · subst hij; exact hgj
        · have hoi:=yar (l:=xs) (i:=i) (by omega)
          have hdst:xs[i].dst=some t:=by
            simp only [fs,hoi] at hf
            by_cases hh:xs[i].dst=some t
            · exact hh
            · simp [hh] at hf
          cases hlo:zjq (befs ops.toList []) j i with
          | false =>
            cases hgi:gone i with
            | false=>rfl
            | true=>rw [(hord gone hd j i (by omega) hin hlo).1 hgi] at hgj; cases hgj
          | true=>exact absurd ht ((zg6 (hconf j i _ _ (by omega) hin hx hoi hlo).1).2.2 t hdst)
    have hH:∀ k b,(k,b) ∈ zbx x (sts j)→(C gone).h k=(sts j).h k:=by
      intro k b hk
      show ov gone (fh k) _ _=_
      rw [zlw (j:=j) (by omega),hTh k j (by omega)]
      · intro i hi hf
        have hoi:=yar (l:=xs) (i:=i) (by omega)
        have hmem:(k,true) ∈ zbx xs[i] (sts i):=by
          simp only [fh,hoi] at hf
          by_cases hh:(k,true) ∈ zbx xs[i] (sts i)
          · exact hh
          · simp [hh] at hf
        cases hlo:zjq (befs ops.toList []) i j with
        | false=>exact (hord gone hd i j hi hj hlo).2 o ho ha
        | true=>exact absurd (zg3 (hconf i j _ _ hi hj hoi hx hlo).2 hmem hk).1 (by simp)
      · intro i hi hin hf
        by_cases hij:i=j
        · subst hij; exact hgj
        · have hoi:=yar (l:=xs) (i:=i) (by omega)
          have hmem:(k,true) ∈ zbx xs[i] (sts i):=by
            simp only [fh,hoi] at hf
            by_cases hh:(k,true) ∈ zbx xs[i] (sts i)
            · exact hh
            · simp [hh] at hf
          cases hlo:zjq (befs ops.toList []) j i with
          | false =>
            cases hgi:gone i with
            | false=>rfl
            | true=>rw [(hord gone hd j i (by omega) hin hlo).1 hgi] at hgj; cases hgj
          | true=>exact absurd (zg3 (hconf j i _ _ (by omega) hin hx hoi hlo).2 hk hmem).2 (by simp)
    obtain ⟨v,h1,h2,h3⟩:=zk7 (st2:=C gone) hS hH (hs1 j x hx)
    have e:(⟨putS (C gone).s x.dst v,zij (zbx x (sts j)) (sts (j+1)).h (C gone).h⟩:S)=C gone':=by
      have es:putS (C gone).s x.dst v=(C gone').s:=by
        funext t
        show _=ov gone' (fs t) _ _
        rw [zsp (j:=j) hj hgj hg' (fun i hi hin hf hfj=>?_)]
        · show _=(fs t j).getD ((C gone).s t)
          simp only [fs,hx]
          cases hdd:x.dst with
          | none=>simp [putS]
          | some d =>
            by_cases htd:t=d
            · subst htd
              simp [putS,upd,h1,hdd]
            · simp [putS,upd,htd,Ne.symm htd]
        · have hoi:=yar (l:=xs) (i:=i) (by omega)
          have hdi:xs[i].dst=some t:=by
            simp only [fs,hoi] at hf
            by_cases hh:xs[i].dst=some t
            · exact hh
            · simp [hh] at hf
          have hdj:x.dst=some t:=by
            simp only [fs,hx] at hfj
            by_cases hh:x.dst=some t
            · exact hh
            · simp [hh] at hfj
          cases hlo:zjq (befs ops.toList []) j i with
          | false =>
            cases hgi:gone i with
            | false=>rfl
            | true=>rw [(hord gone hd j i hi hin hlo).1 hgi] at hgj; cases hgj
          | true=>exact absurd hdi ((zg6 (hconf j i _ _ hi hin hx hoi hlo).1).2.1 t hdj)
      have eh:zij (zbx x (sts j)) (sts (j+1)).h (C gone).h=(C gone').h:=by
        funext k
        show _=ov gone' (fh k) _ _
        rw [zsp (j:=j) hj hgj hg' (fun i hi hin hf hfj=>?_)]
        · show _=(fh k j).getD ((C gone).h k)
          simp only [fh,hx,zij]
          split <;> rfl
        · have hoi:=yar (l:=xs) (i:=i) (by omega)
          have hdi:(k,true) ∈ zbx xs[i] (sts i):=by
            simp only [fh,hoi] at hf
            by_cases hh:(k,true) ∈ zbx xs[i] (sts i)
            · exact hh
            · simp [hh] at hf
          have hdj:(k,true) ∈ zbx x (sts j):=by
            simp only [fh,hx] at hfj
            by_cases hh:(k,true) ∈ zbx x (sts j)
            · exact hh
            · simp [hh] at hfj
          cases hlo:zjq (befs ops.toList []) j i with
          | false =>
            cases hgi:gone i with
            | false=>rfl
            | true=>rw [(hord gone hd j i hi hin hlo).1 hgi] at hgj; cases hgj
          | true=>exact absurd (zg3 (hconf j i _ _ hi hin hx hoi hlo).2 hdj hdi).1 (by simp)
      rw [es,eh]
    rw [← e]
    exact h3
  have hend:∀ gone:Nat→Bool,(∀ i,i<xs.length→gone i=true)→C gone=sts xs.length:=by
    intro gone hg
    have h1:(C gone).s=(sts xs.length).s:=by
      funext t
      show ov gone (fs t) _ _=_
      rw [zlw (j:=xs.length) (yab _) (fun i hi _=>hg i hi) (fun i h1 h2=>by omega),hTs t _ (yab _)]
    have h2:(C gone).h=(sts xs.length).h:=by
      funext k
      show ov gone (fh k) _ _=_
      rw [zlw (j:=xs.length) (yab _) (fun i hi _=>hg i hi) (fun i h1 h2=>by omega),hTh k _ (yab _)]
    calc C gone=⟨(C gone).s,(C gone).h⟩:=rfl
      _=⟨(sts xs.length).s,(sts xs.length).h⟩:=by rw [h1,h2]
      _=sts xs.length:=rfl
  have hbegin:C (fun _=>false)=sts 0:=by
    have h1:∀ (V:Type) (f:Nat→Option V) (b:V) m,ov (fun _=>false) f b m=b:=by
      intro V f b m
      induction m with
      | zero=>rfl
      | succ m ih=>simp [ov,ih]
    show (⟨_,_⟩:S)=_
    simp only [h1]
  obtain ⟨frd,hsd⟩:=fr.drew
  refine wpIn_region_any hm ?_
  have ready_spec:∀ (listed:Array Bool) j,j ∈ Region.ready .any ops listed→j<xs.length∧listed.getD j true=false ∧ ∃ o,ops.toList[j]? = some o ∧ ∀ q ∈ zcn o,listed.getD q false=true:=by
    intro listed j hj
    simp only [Region.ready,ybH,ybE,ybJ,ybK] at hj
    obtain ⟨h1,h2,h3⟩:=hj
    refine ⟨by omega,h2,ops[j],by simp [h1],fun q hq=>?_⟩
    simp only [yal h1,yak,ybG,ybL,ybM,ybK] at h3
    simp only [zcn,ybN] at hq
    obtain ⟨e,he,hee⟩:=hq
    split at hee
    · rename_i hb
      cases hee
      rcases h3 e (ybO.1 he) with h | h
      · rw [hb] at h; cases h
      · exact h
    · cases hee
  have all_ready:∀ (listed:Array Bool),listed.size=xs.length→Region.ready .any ops listed=[] → ∀ i,i<xs.length→listed.getD i false=true:=by
    intro listed hsz hr i
    induction i using Nat.strongRecOn with
    | _ i ih =>
      intro hi
      cases hg:listed.getD i false with
      | true=>rfl
      | false =>
        have hio:i<ops.size:=by omega
        have hmem:i ∈ Region.ready .any ops listed:=by
          simp only [Region.ready,ybH,ybE,ybJ,ybK]
          refine ⟨hio,?_,?_⟩
          · simp only [yap,hsz,hi,dif_pos] at hg ⊢
            exact hg
          · simp only [yal hio,yak,ybG,ybL,ybM,ybK]
            intro e he
            cases hb:Region.binds .any e with
            | false=>exact .inl rfl
            | true =>
              refine .inr (ih e.on ?_ ?_)
              · exact haft i ops[i] (by simp [hio]) e.on (by simp only [zcn,ybN]; exact ⟨e,ybO.2 he,by simp [hb]⟩)
              · have:=haft i ops[i] (by simp [hio]) e.on (by simp only [zcn,ybN]; exact ⟨e,ybO.2 he,by simp [hb]⟩)
                omega
        rw [hr] at hmem
        cases hmem
  have zHr:∀ (fuel:Nat) (listed:Array Bool) (a':Act) (w':World) (G':GS),listed.size=xs.length→((yai xs.length).filter fun i=>!listed.getD i false).length≤fuel →
      (∀ (i:Nat) o,ops.toList[i]? = some o→listed.getD i false=true → ∀ j ∈ zcn o,listed.getD j false=true)→Fr n G' (C fun i=>listed.getD i false) a' w'→Step G (sts 0).h w G' (C fun i=>listed.getD i false).h w'→a'.defers=a.defers →
      wpAnyIn (FR r) m P .any ops Q fuel listed a' w':=by
    intro fuel
    have fin:∀ (listed:Array Bool) (a':Act) (w':World) (G':GS),(∀ i,i<xs.length→listed.getD i false=true)→Fr n G' (C fun i=>listed.getD i false) a' w'→Step G (sts 0).h w G' (C fun i=>listed.getD i false).h w'→a'.defers=a.defers→Q .normal a' w':=by
      intro listed a' w' G' hall fr' hs' hd'
      have he:=hend _ hall
      rw [he] at fr' hs'
      exact hQ a' w' G' _ fr' hs' hd' hs2
    induction fuel with
    | zero =>
      intro listed a' w' G' hsz hcnt hdc fr' hs' hd'
      have hall:∀ i,i<xs.length→listed.getD i false=true:=by
        intro i hi
        cases hg:listed.getD i false with
        | true=>rfl
        | false =>
          have:i ∈ (yai xs.length).filter fun i=>!listed.getD i false:=by simp [hi]; simpa using hg
          have:=List.length_pos_of_mem this
          omega
      refine ⟨?_,fin listed a' w' G' hall fr' hs' hd'⟩
      refine List.eq_nil_iff_forall_not_mem.2 fun j hj=>?_
      obtain ⟨hj1,hj2,_⟩:=ready_spec listed j hj
      have:=hall j hj1
      simp only [yap,hsz,hj1,dif_pos] at this hj2
      rw [this] at hj2
      cases hj2
    | succ fuel ih =>
      intro listed a' w' G' hsz hcnt hdc fr' hs' hd'
      refine ⟨fun hr=>fin listed a' w' G' (all_ready listed hsz hr) fr' hs' hd',fun j hj=>?_⟩
      obtain ⟨hj1,hj2,o,ho,ha⟩:=ready_spec listed j hj
      obtain ⟨x,hx,hcx⟩:=hget j o ho
      have hgj:listed.getD j false=false:=by
        simp only [yap,hsz,hj1,dif_pos] at hj2 ⊢
        exact hj2
      have hg':∀ i,(listed.setIfInBounds j true).getD i false=if i=j then true else listed.getD i false:=by
        intro i
        simp only [yaw,Array.getElem?_setIfInBounds]
        by_cases hij:i=j
        · subst hij; simp [hsz,hj1]
        · simp [hij,Ne.symm hij]
      have hst:=stepC (fun i=>listed.getD i false) j o x hdc hgj ho ha hx _ hg'
      have hdc':∀ (i:Nat) o,ops.toList[i]? = some o→(listed.setIfInBounds j true).getD i false=true → ∀ q ∈ zcn o,(listed.setIfInBounds j true).getD q false=true:=by
        intro i o' ho' hi q hq
        rw [hg'] at hi ⊢
        split
        · rfl
        · split at hi
          · rename_i hij
            subst hij
            rw [ho] at ho'
            cases ho'
            exact ha q hq
          · exact hdc i o' ho' hi q hq
      have hcnt':((yai xs.length).filter fun i=>!(listed.setIfInBounds j true).getD i false).length≤fuel:=by
        have hsub:((yai xs.length).filter fun i=>!(listed.setIfInBounds j true).getD i false)=((yai xs.length).filter fun i=>!listed.getD i false).filter fun i=>i != j:=by
          rw [List.filter_filter]
          congr 1
          funext i
          rw [hg']
          by_cases hij:i=j
          · simp [hij]
          · simp [hij]
        have hmem:j ∈ (yai xs.length).filter fun i=>!listed.getD i false:=by
          simp only [ybH,ybE,hj1,true_and,ybK]
          exact hgj
        have:(((yai xs.length).filter fun i=>!listed.getD i false).filter fun i=>i != j).length<((yai xs.length).filter fun i=>!listed.getD i false).length:=by
          apply List.length_filter_lt_length_iff_exists.2
          exact ⟨j,hmem,by simp⟩
        rw [hsub]
        omega
      have hoj:ops[j]? = some o:=by rw [Array.getElem?_toList] at ho; exact ho
      unfold wpOpIn
      simp only [hoj]
      unfold zrk at hst
      cases hwt:zjy x (C fun i=>listed.getD i false).s with
      | none=>rw [hwt] at hst; exact hst.elim
      | some b =>
        rw [hwt] at hst
        have hwo:=zmv hcx fr'.slots hwt
        rw [hwo]
        cases b with
        | true =>
          simp only [if_true]
          refine Oper.wpIn_mono ?_ (zC4 hcx fr' hst)
          rintro a'' w'' ⟨G'',st'',fr'',hs'',hd'',he⟩
          subst he
          exact ih (listed.setIfInBounds j true) a'' w'' G'' (by simpa using hsz) hcnt' hdc' fr'' (hs'.trans hs'') (hd''.trans hd')
        | false =>
          simp only [yao,if_false]
          obtain ⟨hd1,_,hd2,_⟩:=zc1 hcx
          simp only at hst
          refine ⟨fun _ _=>trivial,?_⟩
          refine ih (listed.setIfInBounds j true) _ w' G' (by simpa using hsz) hcnt' hdc' ?_ ?_ (zax.trans hd')
          · rw [hst]
            refine ⟨fr'.inv,?_,by rw [zbq]; exact fr'.size⟩
            rw [hd1]
            exact fr'.slots.put .skip fr'.size hd2
          · rw [hst]
            exact hs'
  have hrep:(fun i=>(ybQ ops.size false).getD i false)=fun _=>false:=by
    funext i
    simp only [yaw,Array.getElem?_replicate]
    split <;> rfl
  refine zHr ops.size (ybQ ops.size false) a _ G (by simp [hN]) ?_ ?_ ?_ ?_ rfl
  · rw [hN]
    have:=List.length_filter_le (fun i=>!(ybQ xs.length false).getD i false) (yai xs.length)
    simpa using this
  · intro i o ho hi
    have:=congrFun hrep i
    rw [this] at hi
    cases hi
  · rw [hrep,hbegin]; exact frd
  · rw [hrep,hbegin]; exact hsd
end
end Ev
end Go.Proofs.YtncmainjcffanaaGreat
/- Code within a round. -/
namespace Go.Proofs.YtncmainjcffanaaGreat
namespace Ev
open Go
set_option linter.unusedSectionVars false
variable [Nw]
section
variable {P:Program} {r:Option Nat} {m:Nat}
theorem zh1 {n:Nat} (hm:P.follows .mixedOrders=true):∀ (c:Code) (x:XCode),zca P n c=some x → ∀ (Q:Ex→S→Prop) (G:GS) (st:S) (a:Act) (w:World),wpX P x Q st→Fr n G st a w→c.wpIn (FR r) m P (Post n G st a w Q) a w
  | .skip,x,hc,Q,G,st,a,w,hw,fr=>by
    simp only [zca,Option.some.injEq] at hc
    subst hc
    exact wpIn_skip ⟨.normal,G,st,rfl,fr,.refl fr.inv,rfl,hw⟩
  | .region id ops dr,x,hc,Q,G,st,a,w,hw,fr=>by
    simp only [zca] at hc
    split at hc
    · rename_i xs hxs
      cases dr with
      | false =>
        simp only [yao,if_false,Option.some.injEq] at hc
        subst hc
        refine wpIn_region ?_
        rw [List.range_eq_range',← Array.length_toList]
        exact zz4 ops.toList xs 0 hxs (by simp) fr hw fun a' w' G' st' fr' hs hd hK=>⟨.normal,G',st',rfl,fr',hs,hd,hK⟩
      | true =>
        simp only [if_true] at hc
        obtain ⟨ds,hds,rfl⟩:=map_some hc
        exact zK7 hm hxs hds fr hw fun a' w' G' st' fr' hs hd hK=>⟨.normal,G',st',rfl,fr',hs,hd,hK⟩
    · cases hc
  | .seq c d,x,hc,Q,G,st,a,w,hw,fr=>by
    simp only [zca] at hc
    split at hc
    · rename_i xa xb ha hb
      cases hc
      refine wpIn_seq (wpIn_mono (zh1 hm c xa ha _ G st a w hw fr) ?_)
      rintro e a' w' ⟨ex,G',st',rfl,fr',hs,hd,hq⟩
      cases ex with
      | normal=>exact wpIn_mono (zh1 hm d xb hb Q G' st' a' w' hq fr') fun e a2 w2 h2=>h2.from hs hd
      | exit id=>exact ⟨.exit id,G',st',rfl,fr',hs,hd,hq⟩
      | ret=>exact ⟨.ret,G',st',rfl,fr',hs,hd,hq⟩
    · cases hc
  | .cond c d f,x,hc,Q,G,st,a,w,hw,fr=>by
    simp only [zca] at hc
    split at hc
    · rename_i xa xb ha hb
      cases hc
      simp only [wpX] at hw
      split at hw
      · rename_i t ht
        have hr:=za0 P fr.slots 0 c
        rw [ht] at hr
        refine wpIn_cond hr.of_bool ?_
        cases t with
        | true=>exact zh1 hm d xa ha Q G st a w (by simpa using hw) fr
        | false=>exact zh1 hm f xb hb Q G st a w (by simpa using hw) fr
      · exact hw.elim
    · cases hc
  | .block id c,x,hc,Q,G,st,a,w,hw,fr=>by
    simp only [zca] at hc
    obtain ⟨xa,ha,rfl⟩:=map_some hc
    refine wpIn_block (wpIn_mono (zh1 hm c xa ha _ G st a w hw fr) ?_)
    rintro e a' w' ⟨ex,G',st',rfl,fr',hs,hd,hq⟩
    cases ex with
    | normal=>exact ⟨.normal,G',st',rfl,fr',hs,hd,hq⟩
    | exit id' =>
      simp only [Ex.real,Exit.inBlock]
      simp only [Ex.inBlock] at hq
      by_cases hi:id'=id
      · simp only [hi,if_true] at hq ⊢
        exact ⟨.normal,G',st',rfl,fr',hs,hd,hq⟩
      · simp only [hi,if_false] at hq ⊢
        exact ⟨.exit id',G',st',rfl,fr',hs,hd,hq⟩
    | ret=>exact ⟨.ret,G',st',rfl,fr',hs,hd,hq⟩
  | .loop c,x,hc,Q,G,st,a,w,hw,fr=>by
    simp only [zca] at hc
    obtain ⟨xa,ha,rfl⟩:=map_some hc
    obtain ⟨I,μ,h0,hround⟩:=hw
    let At:Nat→Act→World→Prop:=fun m a1 w1=>∃ G1 st1,Fr n G1 st1 a1 w1∧Step G st.h w G1 st1.h w1∧a1.defers=a.defers∧I st1∧μ st1=m
    refine wpIn_loop (fun a1 w1=>∃ m,At m a1 w1) (fun a1 w1=>lst fun m=>At m a1 w1) ⟨μ st,G,st,fr,.refl fr.inv,rfl,h0,rfl⟩ ?_
    intro a1 w1 hex
    have hmin:=(zm0 hex).1
    obtain ⟨G1,st1,fr1,hs1,hd1,hI,hμ⟩:=hmin
    refine wpIn_mono (zh1 hm c xa ha _ G1 st1 a1 w1 (hround st1 hI) fr1) ?_
    rintro e a' w' ⟨ex,G',st',rfl,fr',hs,hd,hq⟩
    cases ex with
    | normal =>
      obtain ⟨hI',hlt⟩:=hq
      have hex':∃ m,At m a' w':=⟨μ st',G',st',fr',hs1.trans hs,hd.trans hd1,hI',rfl⟩
      refine ⟨hex',?_⟩
      show (lst fun m=>At m a' w')<lst fun m=>At m a1 w1
      rw [← hμ]
      exact Nat.lt_of_le_of_lt ((zm0 hex').2 _ ⟨G',st',fr',hs1.trans hs,hd.trans hd1,hI',rfl⟩) hlt
    | exit id=>exact ⟨.exit id,G',st',rfl,fr',hs1.trans hs,hd.trans hd1,hq⟩
    | ret=>exact ⟨.ret,G',st',rfl,fr',hs1.trans hs,hd.trans hd1,hq⟩
  | .exit id,x,hc,Q,G,st,a,w,hw,fr=>by
    simp only [zca,Option.some.injEq] at hc
    subst hc
    exact wpIn_exit ⟨.exit id,G,st,rfl,fr,.refl fr.inv,rfl,hw⟩
  | .ret,x,hc,Q,G,st,a,w,hw,fr=>by
    simp only [zca,Option.some.injEq] at hc
    subst hc
    exact wpIn_ret ⟨.ret,G,st,rfl,fr,.refl fr.inv,rfl,hw⟩
  | .rangeFunc _ _ _ _,x,hc,_,_,_,_,_,_,_=>by simp [zca] at hc
  | .scope _,x,hc,_,_,_,_,_,_,_=>by simp [zca] at hc
  | .label _,x,hc,_,_,_,_,_,_,_=>by simp [zca] at hc
  | .goto _,x,hc,_,_,_,_,_,_,_=>by simp [zca] at hc
  | .refuse _,x,hc,_,_,_,_,_,_,_=>by simp [zca] at hc
end
end Ev
end Go.Proofs.YtncmainjcffanaaGreat
/- What is known of boxes and rows stands when blocks are added,or a block that is no cells is turned. -/
namespace Go.Proofs.YtncmainjcffanaaGreat
namespace Ev
open Go Go.RowKit
set_option linter.unusedSectionVars false
variable [Nw]
def zph (w w':World):Prop:=w.heap.size≤w'.heap.size ∧ ∀ (b:Nat) arr el z,w.heap[b]? = some (.cells arr el z)→w'.heap[b]? = some (.cells arr el z)
theorem zph.cell {w w':World} (h:zph w w') {b i:Nat} {v:Value} (hc:w.cell? ⟨b,i,none⟩=some v):w'.cell? ⟨b,i,none⟩=some v:=by
  unfold World.cell? at hc ⊢
  split at hc
  · rename_i arr el z hb
    rw [h.2 b _ _ _ hb]
    exact hc
  · cases hc
theorem Rel.reads {St:Nat→Nat} {w w':World} (hk:zph w w') {v:Value} {d:D} (h:Rel St w v d):Rel St w' v d:=by
  induction h with
  | int k n=>exact .int k n
  | bool b=>exact .bool b
  | str s=>exact .str s
  | nilp=>exact .nilp
  | junk v=>exact .junk v
  | agg vs cs hn _ ih=>exact .agg vs cs hn ih
  | sl A cap sz b off xs hc hm hs ha val hv h1 hr ih=>exact .sl A cap sz b off xs hc hm hs ha val (fun i x hi j c hj=>hk.cell (hv i x hi j c hj)) h1 ih
  | rp b off cs hb val hv h1 hr ih=>exact .rp b off cs hb val (fun j c hj=>hk.cell (hv j c hj)) h1 ih
  | clo f vs cs hn _ ih=>exact .clo f vs cs hn ih
theorem ARel.reads {G:GS} {h:Nat→Ent} {w w':World} (hk:zph w w') {v:Value} {av:AV} (r:ARel G h w v av):ARel G h w' v av:=by
  induction r with
  | d v x hr=>exact .d v x (hr.reads hk)
  | n v q x h1 hr=>exact .n v q x h1 (hr.reads hk)
  | fsl A n sz xs hr=>exact .fsl A n sz xs (hr.reads hk)
  | rsl v k ver h1 hle hv=>exact .rsl v k ver h1 hle hv
  | ptr v k ver off h1 hle hv=>exact .ptr v k ver off h1 hle hv
  | eptr v k ver sz i off h1 hle hv=>exact .eptr v k ver sz i off h1 hle hv
  | clo f vs cs hn _ ih=>exact .clo f vs cs hn ih
  | agg vs cs hn _ ih=>exact .agg vs cs hn ih
  | tup vs cs hn _ ih=>exact .tup vs cs hn ih
  | skip=>exact .skip
  | junk v=>exact .junk v
theorem Inv.reads {G:GS} {h:Nat→Ent} {w w':World} (hk:zph w w') (i:Inv G h w):Inv G h w':=by
  refine ⟨fun b hb=>yad (i.st b hb) hk.1,fun k=>?_,i.apart,Nat.le_trans i.low hk.1⟩
  have he:=i.ent k
  cases hb:(h k).body with
  | dead=>trivial
  | box cs fz =>
    rw [hb] at he
    obtain ⟨b,arr,el,hA,hheap,hsz,hrel,hs⟩:=he
    exact ⟨b,arr,el,hA,hk.2 b _ _ _ hheap,hsz,fun j c hj=>⟨(hrel j c hj).1.reads hk,(hrel j c hj).2⟩,hs⟩
  | row sz xs fz =>
    rw [hb] at he
    cases fz with
    | true =>
      refine ⟨he.1.reads hk,?_⟩
      rcases he.2 with hc | ⟨b,arr,el,hA,hheap,h0,hsz,hs⟩
      · exact .inl hc
      · exact .inr ⟨b,arr,el,hA,hk.2 b _ _ _ hheap,h0,hsz,hs⟩
    | false =>
      rcases he with ⟨z1,z2,z3⟩ | ⟨b,arr,el,hA,hheap,hsz,hcap,hm,hcs,hrel,hs⟩
      · exact .inl ⟨z1,z2,z3⟩
      · exact .inr ⟨b,arr,el,hA,hk.2 b _ _ _ hheap,hsz,hcap,hm,hcs,fun p x hp j c hj=>⟨(hrel p x hp j c hj).1.reads hk,(hrel p x hp j c hj).2⟩,hs⟩
theorem zo2 {W W':World} {row:Option Nat} (hg:W.grownBy W' row) (hr:∀ r,row=some r → ∃ o:Obj,W.heap[r]? = some o∧o.isCells=false):zph W W':=by
  refine ⟨hg.size,fun b arr el z hb=>?_⟩
  refine (hg.block b (Array.getElem?_eq_some_iff.1 hb).1 fun e=>?_).trans hb
  obtain ⟨o,ho,hc⟩:=hr b e.symm
  rw [hb] at ho
  cases ho
  cases hc
theorem zq5 {G G':GS} {h h':Nat→Ent} {w W W':World} {row:Option Nat} (s:Step G h w G' h' W) (hst:∀ b,0<G.St b→b<w.heap.size) (hg:W.grownBy W' row)
    (hr:∀ r,row=some r→w.heap.size≤r ∧ ∃ o:Obj,W.heap[r]? = some o∧o.isCells=false):Step G h w G' h' W':=by
  have hk:zph W W':=zo2 hg fun r e=>(hr r e).2
  have hb:∀ b,b<w.heap.size→W'.heap[b]? = W.heap[b]?:=fun b hb=>hg.block b (yad hb s.left.size) fun e=>by
    have:=(hr b e.symm).1
    omega
  have hfr:∀ b,zgv W b→zgv W' b:=fun b ⟨arr,el,hh⟩=>⟨arr,el,hk.2 b _ _ _ hh⟩
  refine ⟨s.inv.reads hk,⟨⟨s.ext.keeps.st,fun b i hi=>?_,fun b hb hf=>hfr b (s.ext.keeps.free b hb hf)⟩,s.ext.ver,s.ext.same⟩,⟨hg.os.trans s.left.os,hg.tape.trans s.left.tape,hg.output.trans s.left.output,Nat.le_trans s.left.size hg.size,fun b hlt hn=>?_⟩,s.grow,fun b h0 h1=>hfr b (s.fresh b h0 h1)⟩
  · have hlt:=hst b (by omega)
    exact (World.cell?_of_block (w:=W) (a:=⟨b,i,none⟩) (hb b hlt)).trans (s.ext.keeps.cell b i hi)
  · obtain ⟨h1,h2⟩:=s.left.block b hlt hn
    exact ⟨(hb b hlt).trans h1,h2⟩
end Ev
end Go.Proofs.YtncmainjcffanaaGreat
