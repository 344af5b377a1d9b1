/- The small language within a round of a range over a function: the same, inside a fence that says which round's. -/
import Derived.Test.YtnkbhmafebngjaaE15
import Derived.OrdersIn
import Derived.RangeFuncCalls
namespace Go.Proofs.Ytnkbhmafebngjaa
namespace Ev
open Go
set_option linter.unusedVariables false
set_option linter.unusedSimpArgs false

/-- No fence but for the round. -/
abbrev FR (r : Option Nat) : Fence := { Fence.wide with round := r }
theorem calls_fr (r : Option Nat) (n : Nat) {P : Program} {f : FuncId} {args : Array Value} {w : World} {R : Ending → World → Prop} (h : Calls P f args w R) : CallsIn (FR r) n P f args w R :=
  match r with
  | none => callsIn_wide.2 h
  | some l => CallsIn.inRound l (callsIn_wide.2 h)
theorem semAt_calm {P : Program} {ops : Array Oper} {n : Nat} {o : Oper} {x : XOper} (hc : coper P ops n o = some x) {r : Option Nat} {ρ : Operand → Value} : Oper.semAt r ρ o = execOp ρ o := by
  refine Oper.semAt_eq r ρ o fun c hd => ?_
  have := (coper_parts hc).2.1
  simp [cop, hd] at this

section
variable {P : Program} {G : GS} {h : Nat → Ent} {w : World} {a : Act} {s : Nat → AV} {o : Oper} {r : Option Nat} {m : Nat}
theorem runX_in {ops : Array Oper} {n : Nat} {x : XOper} {st : S} {K : S → Prop} {Q : Exit → Act → World → Prop} (hc : coper P ops n o = some x) (fr : Fr n G st a w) (hr : runX P x st K) :
    o.wpIn (FR r) m P a w (fun a' w' => ∃ G' st', Fr n G' st' a' w' ∧ Step G st.h w G' st'.h w' ∧ a'.defers = a.defers ∧ K st') Q := by
  obtain ⟨hd1, hcop, hd2, _⟩ := coper_parts hc
  unfold runX at hr
  split at hr
  · -- a call
    rename_i f args hop
    obtain ⟨g, caps, rs, hx', hcal, hcx, hK⟩ := hr
    rw [hop] at hcop
    -- what the operation is
    have hshape : ∃ (c : Call) (f' : Operand) (as : List Operand) (ts : List TypeId), o.op = .call c ∧ c.callee = .value f' ∧ c.args.toList = as ∧ as.length = ts.length ∧ f = copd P 0 f' ∧ args = (as.zip ts).map fun p => copd P p.2 p.1 := by
      unfold cop at hcop
      split at hcop
      case h_21 c ho =>
        obtain ⟨cal, as_, ts⟩ := c
        simp only at hcop
        split at hcop
        · obtain ⟨e, he, hh⟩ := map_some hcop; cases hh
        · split at hcop
          · obtain ⟨e, he, hcop⟩ := bind_some hcop
            obtain ⟨sz, hn, hcop⟩ := bind_some hcop
            obtain ⟨b, hb, hcop⟩ := bind_some hcop
            split at hcop
            · cases hcop
            · cases hcop
          · cases hcop
        · cases hcop
        · cases hcop
        · rename_i f'
          split at hcop
          · rename_i hl
            cases hcop
            exact ⟨_, f', as_.toList, ts.toList, ho, rfl, rfl, hl, rfl, rfl⟩
          · cases hcop
        · cases hcop
      all_goals first
        | (cases hcop; done)
        | (obtain ⟨_, _, hcop⟩ := bind_some hcop; obtain ⟨_, _, hcop⟩ := bind_some hcop; obtain ⟨_, _, hcop⟩ := bind_some hcop; split at hcop <;> cases hcop; done)
        | (obtain ⟨_, _, hcop⟩ := bind_some hcop; obtain ⟨_, _, hcop⟩ := map_some hcop; cases hcop; done)
        | (obtain ⟨_, _, hcop⟩ := map_some hcop; cases hcop; done)
        | (split at hcop <;> first
            | (cases hcop; done)
            | (obtain ⟨_, _, hcop⟩ := map_some hcop; cases hcop; done)
            | (split at hcop <;> first
                | (cases hcop; done)
                | (obtain ⟨_, _, hcop⟩ := bind_some hcop; obtain ⟨_, _, hcop⟩ := map_some hcop; cases hcop; done)
                | (obtain ⟨_, _, hcop⟩ := bind_some hcop; obtain ⟨_, _, hcop⟩ := bind_some hcop; obtain ⟨_, _, hcop⟩ := bind_some hcop; obtain ⟨_, _, hcop⟩ := bind_some hcop; split at hcop <;> cases hcop; done))
            | (obtain ⟨_, _, hcop⟩ := bind_some hcop; obtain ⟨_, _, hcop⟩ := bind_some hcop; split at hcop <;> cases hcop; done)
            | (obtain ⟨_, _, hcop⟩ := bind_some hcop; obtain ⟨_, _, hcop⟩ := bind_some hcop; obtain ⟨_, _, hcop⟩ := map_some hcop; cases hcop; done))
    obtain ⟨c, f', as, ts, ho, hcc, has, hl, rfl, rfl⟩ := hshape
    -- the function value
    have hfr := copd_ok P fr.slots 0 f'
    have hfv : ∃ vs : Array Value, a.eval f' = .func (.func g) #[] vs ∧ vs.size = caps.length ∧ ∀ (j : Nat) y, caps[j]? = some y → ARel G st.h w (vs.getD j undef) y := by
      generalize a.eval f' = v at hfr
      unfold callee at hcal
      split at hcal
      · rename_i g' cs hcv
        rw [hcv] at hfr
        cases hcal
        have := hfr.d_inv
        cases this with
        | clo _ vs _ hn hr =>
          refine ⟨vs, rfl, by simpa using hn, fun j y hj => ?_⟩
          simp only [List.getElem?_map] at hj
          cases hx : cs[j]? with
          | none => simp [hx] at hj
          | some q =>
            simp only [hx, Option.map_some, Option.some.injEq] at hj
            subst hj
            exact .d _ _ (hr j q hx)
      · rename_i g' cs hcv
        rw [hcv] at hfr
        cases hcal
        cases hfr with
        | clo _ vs _ hn hr => exact ⟨vs, rfl, hn, hr⟩
      · cases hcal
    obtain ⟨cvs, hfe, hcsz, hcr⟩ := hfv
    -- the arguments
    have hallr : ∀ (j : Nat) y, (((as.zip ts).map fun p => copd P p.2 p.1).map (·.ev st.s) ++ caps)[j]? = some y → ARel G st.h w ((as.map a.eval ++ cvs.toList).getD j undef) y := by
      intro j y hj
      have hlz : (((as.zip ts).map fun p => copd P p.2 p.1).map (·.ev st.s)).length = as.length := by simp; omega
      rw [List.getElem?_append] at hj
      split at hj
      · rename_i hlt
        obtain ⟨x', t, hx', rfl⟩ := zipmap_get hl st.s j y hj
        have : (as.map a.eval ++ cvs.toList).getD j undef = a.eval x' := by
          rw [List.getD_eq_getElem?_getD, List.getElem?_append_left (by simp; omega)]
          simp [hx']
        rw [this]
        exact copd_ok P fr.slots t x'
      · rename_i hge
        have : (as.map a.eval ++ cvs.toList).getD j undef = cvs.getD (j - as.length) undef := by
          rw [List.getD_eq_getElem?_getD, List.getElem?_append_right (by simp; omega)]
          simp [Array.getD_eq_getD_getElem?]
        rw [this, ]
        rw [hlz] at hj
        exact hcr _ y hj
    have hlen : (as.map a.eval ++ cvs.toList).length = (((as.zip ts).map fun p => copd P p.2 p.1).map (·.ev st.s) ++ caps).length := by simp; omega
    have hrun : Enters P g → (execOp a.eval o).run P w = .ok (.enter g (as.map a.eval ++ cvs.toList).toArray) w := fun hent => by
      have hargs : c.args.map a.eval ++ cvs = (as.map a.eval ++ cvs.toList).toArray := by
        apply Array.ext'
        simp [← has]
      simp only [execOp, ho, resolve, hcc, Deferred.ofValue, hfe, Sem.run_bind, Sem.run_pure, Result.andThen_ok, invoke, Array.empty_append]
      rw [hargs]
      exact callFunc_run hent _
    rcases hcx with ⟨ds, hds, ⟨hent, hp⟩, rfl⟩ | ⟨h0, h1, ⟨hent, hov, hp⟩, hk0, rfl⟩ | ⟨ds, hds, ⟨hent, hp⟩, hflat, rfl⟩
    · have hrel := args_rel fr.inv (vs := as.map a.eval ++ cvs.toList) hlen hallr hds
      have hfs := frz_step fr.inv ((((as.zip ts).map fun p => copd P p.2 p.1).map (·.ev st.s) ++ caps).flatMap (sk st.h deep))
      have hcalls := hp _ w _ hfs.inv.st hrel
      unfold Oper.wpIn
      rw [semAt_calm hc]
      refine ⟨fun _ _ => trivial, ?_⟩
      rw [hrun hent, Oper.uponIn_enter]
      refine ⟨(fun h => by cases h), calls_fr r (m - 1) ?_⟩
      refine hcalls.mono fun e w' he => ?_
      obtain ⟨St', us, rfl, hus, hbel, hst, hst'⟩ := he
      have hstep := step_call hfs.inv hbel hst hst'
      refine ⟨_, _, ⟨hstep.inv, ?_, by rw [put_size]; exact fr.size⟩, hfs.trans hstep, put_defers, hK⟩
      have hres : ARel ⟨St', (frzG G st.h w ((((as.zip ts).map fun p => copd P p.2 p.1).map (·.ev st.s) ++ caps).flatMap (sk st.h deep))).hd⟩ (frz st.h ((((as.zip ts).map fun p => copd P p.2 p.1).map (·.ev st.s) ++ caps).flatMap (sk st.h deep))) w' (handed us) (resA rs) := handed_ok hus
      rw [hd1]
      exact ((fr.slots.ext hfs.ext).ext hstep.ext).put hres fr.size hd2
    · generalize hKs : (((as.zip ts).map fun p => copd P p.2 p.1).map (·.ev st.s) ++ caps).flatMap (sk st.h deep) = Ks at hov hp hk0 hK
      have hcalls := hp G (only Ks st.h) w _ (fun k hk => by rw [only_in hk]; exact hk0 k hk) (fun k hk => by rw [only_out hk]) (only_inv fr.inv Ks) hlen fun j y hj => (hallr j y hj).only Ks
      unfold Oper.wpIn
      rw [semAt_calm hc]
      refine ⟨fun _ _ => trivial, ?_⟩
      rw [hrun hent, Oper.uponIn_enter]
      refine ⟨(fun h => by cases h), calls_fr r (m - 1) ?_⟩
      refine hcalls.mono fun e w' he => ?_
      obtain ⟨G', h', us, rfl, hus, hk1, _, hst⟩ := he
      have hstep := mut_frame fr.inv hst hk1 hov
      refine ⟨_, _, ⟨hstep.inv, ?_, by rw [put_size]; exact fr.size⟩, hstep, put_defers, hK⟩
      have hres : ARel ⟨G'.St, fun k => if k ∈ Ks then G'.hd k else G.hd k⟩ (mergeK Ks h1 st.h) w' (handed us) (resA rs) := handed_ok hus
      rw [hd1]
      exact (fr.slots.ext hstep.ext).put hres fr.size hd2
    · have hrel := args_rel fr.inv (vs := as.map a.eval ++ cvs.toList) hlen hallr hds
      have hfs := frz_step fr.inv ((((as.zip ts).map fun p => copd P p.2 p.1).map (·.ev st.s) ++ caps).flatMap (sk st.h deep))
      have hcalls := hp _ w _ hfs.inv.st hrel
      unfold Oper.wpIn
      rw [semAt_calm hc]
      refine ⟨fun _ _ => trivial, ?_⟩
      rw [hrun hent, Oper.uponIn_enter]
      refine ⟨(fun h => by cases h), calls_fr r (m - 1) ?_⟩
      refine hcalls.mono fun e w' he => ?_
      obtain ⟨St', us, rfl, hus, hbel, hst, hst'⟩ := he
      have hstep := step_call fr.inv (St' := G.St) hbel (fun _ _ => rfl) fun b hb => Nat.lt_of_lt_of_le (fr.inv.st b hb) hbel.size
      refine ⟨⟨G.St, G.hd⟩, ⟨putS st.s x.dst (resA rs), st.h⟩, ⟨hstep.inv, ?_, by rw [put_size]; exact fr.size⟩, hstep, put_defers, hK⟩
      have hus' : RelL G.St w' us rs := ⟨hus.1, fun j d hj => (hus.2 j d hj).flat (hflat d (List.mem_of_getElem? hj))⟩
      have hres : ARel ⟨G.St, G.hd⟩ st.h w' (handed us) (resA rs) := handed_ok hus'
      show Slots _ _ _ _ (putS st.s x.dst (resA rs))
      rw [hd1]
      exact (fr.slots.ext hstep.ext).put hres fr.size hd2
  · -- any other
    obtain ⟨av, h', hact, hK⟩ := hr
    rw [hd1] at hact
    have hdid := cop_did fr.inv fr.slots hcop hact
    obtain ⟨v, w', G', hrun, hstep, hres⟩ := hdid
    have hend : ∃ G' st', Fr n G' st' (a.put o.dst v) w' ∧ Step G st.h w G' st'.h w' ∧ (a.put o.dst v).defers = a.defers ∧ K st' := by
      refine ⟨G', _, ⟨hstep.inv, ?_, by rw [put_size]; exact fr.size⟩, hstep, put_defers, hK⟩
      rw [hd1]
      exact (fr.slots.ext hstep.ext).put hres fr.size hd2
    unfold Oper.wpIn
    rw [semAt_calm hc]
    refine ⟨fun _ _ => trivial, ?_⟩
    rcases hrun with hrun | ⟨hrun, hv⟩
    · rw [hrun]
      exact hend
    · rw [hrun]
      subst hv
      exact hend

end
end Ev
end Go.Proofs.Ytnkbhmafebngjaa
