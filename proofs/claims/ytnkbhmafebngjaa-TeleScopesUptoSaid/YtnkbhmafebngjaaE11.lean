/- The meaning of the small language: calls, regions, code; one operation at the machine. -/
import Derived.Test.YtnkbhmafebngjaaE10m
namespace Go.Proofs.Ytnkbhmafebngjaa
namespace Ev
open Go
set_option linter.unusedVariables false
set_option linter.unusedSimpArgs false

def callee : AV → Option (FuncId × List AV)
  | .d (.clo g cs) => some (g, cs.map .d)
  | .clo g cs => some (g, cs)
  | _ => none

def resA : List D → AV
  | [r] => .d r
  | rs => .tup (rs.map .d)

def putS (s : Nat → AV) (dst : Option Nat) (v : AV) : Nat → AV := match dst with
  | some d => upd s d v
  | none => s

/-- A call: what it hands back and leaves, by its contract on plain data or by the one on boxes and rows of the caller's own. -/
def CallX (P : Program) (g : FuncId) (as : List AV) (h : Nat → Ent) (rs : List D) (h' : Nat → Ent) : Prop :=
  (∃ ds, allD (toD h deep) as = some ds ∧ Pure P g ds rs ∧ h' = frz h (as.flatMap (sk h deep))) ∨
  (∃ h0 h1, MutC P g as (as.flatMap (sk h deep)) h0 rs h1 ∧ (∀ k ∈ as.flatMap (sk h deep), h k = h0 k) ∧ h' = mergeK (as.flatMap (sk h deep)) h1 h) ∨
  (∃ ds, allD (toD h deep) as = some ds ∧ Pure P g ds rs ∧ (∀ r ∈ rs, r.flat = true) ∧ h' = h)

/-- One operation. -/
def runX (P : Program) (o : XOper) (st : S) (K : S → Prop) : Prop :=
  match o.op with
  | .call f args => ∃ g caps rs h', callee (f.ev st.s) = some (g, caps) ∧ CallX P g (args.map (·.ev st.s) ++ caps) st.h rs h' ∧ K ⟨putS st.s o.dst (resA rs), h'⟩
  | x => ∃ av h', act o.dst st x = some (av, h') ∧ K ⟨putS st.s o.dst av, h'⟩

/-- Is an operation performed? -/
def wants (o : XOper) (s : Nat → AV) : Option Bool := match o.guard with
  | none => some true
  | some (j, want) => match s j with
    | .d (.bool b) => some (b == want)
    | .skip => some false
    | _ => none

def wpO (P : Program) : List XOper → S → (S → Prop) → Prop
  | [], st, K => K st
  | o :: os, st, K => match wants o st.s with
    | some true => runX P o st fun st' => wpO P os st' K
    | some false => wpO P os ⟨putS st.s o.dst .skip, st.h⟩ K
    | none => False

section
variable {P : Program} {G : GS} {h : Nat → Ent} {w : World} {a : Act} {s : Nat → AV} {o : Oper}

/-- A state of a frame, and the machine's. -/
structure Fr (n : Nat) (G : GS) (st : S) (a : Act) (w : World) : Prop where
  inv : Inv G st.h w
  slots : Slots G st.h w a st.s
  size : a.tmps.size = n

theorem put_getD {a : Act} {d : Nat} {v : Value} (hd : d < a.tmps.size) (i : Nat) : (a.put (some d) v).tmps.getD i undef = if i = d then v else a.tmps.getD i undef := by
  simp only [Act.put, Array.getD_eq_getD_getElem?, Array.getElem?_setIfInBounds]
  by_cases hi : i = d
  · subst hi; simp [hd]
  · simp [hi, Ne.symm hi]

theorem Slots.put {a : Act} {s : Nat → AV} {G : GS} {h : Nat → Ent} {w : World} (sl : Slots G h w a s) {v : Value} {av : AV} (r : ARel G h w v av) {n : Nat} (hsz : a.tmps.size = n) {dst : Option Nat} (hd : (dst.all (· < n)) = true) : Slots G h w (a.put dst v) (putS s dst av) := by
  cases dst with
  | none => exact sl
  | some d =>
    simp only [Option.all_some, decide_eq_true_eq] at hd
    intro i
    rw [put_getD (by omega)]
    simp only [putS, upd]
    split
    · exact r
    · exact sl i

theorem put_size {a : Act} {dst : Option Nat} {v : Value} : (a.put dst v).tmps.size = a.tmps.size := by cases dst <;> simp [Act.put]
theorem put_defers {a : Act} {dst : Option Nat} {v : Value} : (a.put dst v).defers = a.defers := by cases dst <;> rfl

theorem coper_parts {ops : Array Oper} {n : Nat} {x : XOper} (hc : coper P ops n o = some x) : x.dst = o.dst ∧ cop P o = some x.op ∧ (o.dst.all (· < n)) = true ∧
    ((o.guard = none ∧ x.guard = none) ∨ ∃ j b d, o.guard = some (j, b) ∧ (ops[j]?).bind (·.dst) = some d ∧ d < n ∧ x.guard = some (d, b)) := by
  unfold coper at hc
  split at hc
  · rename_i y hy hg
    split at hc
    · rename_i hd
      cases hc
      exact ⟨rfl, hy, hd, .inl ⟨hg, rfl⟩⟩
    · cases hc
  · rename_i y j b hy hg
    split at hc
    · rename_i d hd
      split at hc
      · rename_i hdd
        cases hc
        exact ⟨rfl, hy, hdd.1, .inr ⟨j, b, d, hg, hd, hdd.2, rfl⟩⟩
      · cases hc
    · cases hc
  · cases hc

/-- The machine performs what is told to be performed. -/
theorem wants_ok {ops : Array Oper} {n : Nat} {x : XOper} (hc : coper P ops n o = some x) (sl : Slots G h w a s) {b : Bool} (hw : wants x s = some b) : Region.wanted o (yielded ops a.tmps) = b := by
  obtain ⟨_, _, _, hg⟩ := coper_parts hc
  rcases hg with ⟨h1, h2⟩ | ⟨j, want, d, h1, h2, h3, h4⟩
  · simp only [wants, h2, Option.some.injEq] at hw
    simp [Region.wanted, h1, hw]
  · simp only [wants, h4] at hw
    have hr := sl d
    split at hw
    · rename_i t ht
      rw [ht] at hr
      have hv := hr.of_bool
      simp only [Option.some.injEq] at hw
      have hget : a.tmps[d]? = some (.bool t) := by
        simp only [Array.getD_eq_getD_getElem?] at hv
        cases hx : a.tmps[d]? with
        | none => simp [hx, undef] at hv
        | some u => simp [hx] at hv; rw [hv]
      have hy : yielded ops a.tmps j = some t := by
        unfold yielded
        rw [h2]
        simp [hget]
      simp only [Region.wanted, h1, hy, ← hw]
      cases t <;> cases want <;> rfl
    · rename_i ht
      rw [ht] at hr
      simp only [Option.some.injEq] at hw
      have hv : a.tmps.getD d undef = undef := by
        generalize a.tmps.getD d undef = v at hr
        cases hr
        rfl
      have hy : yielded ops a.tmps j = none := by
        unfold yielded
        rw [h2]
        simp only [Option.bind_some]
        simp only [Array.getD_eq_getD_getElem?] at hv
        cases hx : a.tmps[d]? with
        | none => rfl
        | some u => simp [hx] at hv; rw [hv]; rfl
      simp only [Region.wanted, h1, hy, ← hw]
      rfl
    · cases hw

/-- Behind a call on plain data the frame stands as it stood. -/
theorem step_call (i : Inv G h w) {St' : Nat → Nat} {w' : World} (hb : RowKit.Below w.heap.size w w') (hst : ∀ b, b < w.heap.size → St' b = G.St b) (hst' : ∀ b, 0 < St' b → b < w'.heap.size) : Step G h w ⟨St', G.hd⟩ h w' := by
  have hext : Ext G h w ⟨St', G.hd⟩ h w' := by
    refine ⟨⟨fun b => ?_, fun b j hj => ?_⟩, fun _ => Nat.le_refl _, fun _ _ => ⟨rfl, Body.like_refl _⟩⟩
    · show G.St b ≤ St' b
      rcases Nat.lt_or_ge b w.heap.size with hlt | hge
      · rw [hst b hlt]; exact Nat.le_refl _
      · have : ¬ 0 < G.St b := fun hp => by have := i.st b hp; omega
        omega
    · have hlt := i.st b (by omega)
      exact World.cell?_of_block (w := w) (a := ⟨b, j, none⟩) (hb.block b hlt)
  refine ⟨⟨hst', fun q => ?_, i.apart⟩, hext, ⟨hb.os, hb.tape, hb.output, hb.size, fun b hlt _ => ⟨hb.block b hlt, hst b hlt⟩⟩, fun q b hq => .inl ⟨q, hq⟩⟩
  have he := i.ent q
  cases hbk : (h q).body with
  | dead => trivial
  | box ds fz =>
    rw [hbk] at he
    obtain ⟨b', arr', el', hA, hh, hsz, hrel, hs⟩ := he
    have hlt := (Array.getElem?_eq_some_iff.1 hh).1
    exact ⟨b', arr', el', hA, (hb.block b' hlt).trans hh, hsz, fun j c hj => ⟨(hrel j c hj).1.ext hext, (hrel j c hj).2⟩, (hst b' hlt).trans hs⟩
  | row sz xs fz =>
    rw [hbk] at he
    cases fz with
    | true =>
      refine ⟨he.1.keeps hext.keeps, ?_⟩
      rcases he.2 with hc' | ⟨b', arr', el', hA, hh, h0, hsz, hs⟩
      · exact .inl hc'
      · have hlt := (Array.getElem?_eq_some_iff.1 hh).1
        exact .inr ⟨b', arr', el', hA, (hb.block b' hlt).trans hh, h0, hsz, (hst b' hlt).trans hs⟩
    | false =>
      rcases he with ⟨z1, z2, z3⟩ | ⟨b', arr', el', hA, hh, hsz, hcap, hm, hcs, hrel, hs⟩
      · exact .inl ⟨z1, z2, z3⟩
      have hlt := (Array.getElem?_eq_some_iff.1 hh).1
      exact .inr ⟨b', arr', el', hA, (hb.block b' hlt).trans hh, hsz, hcap, hm, hcs, fun p x hp j c hj => ⟨(hrel p x hp j c hj).1.keeps hext.keeps, (hrel p x hp j c hj).2⟩, (hst b' hlt).trans hs⟩

theorem handed_ok {us : List Value} {rs : List D} (hr : RelL G.St w us rs) : ARel G h w (handed us) (resA rs) := by
  obtain ⟨hl, hr⟩ := hr
  match us, rs, hl with
  | [u], [r], _ => exact .d _ _ (hr 0 r rfl)
  | [], [], _ => exact .tup #[] [] rfl (by simp)
  | u :: v :: us, r :: q :: rs, hl =>
    refine .tup _ _ (by simpa using hl) fun j c hj => ?_
    simp only [List.getElem?_map] at hj
    cases hx : (r :: q :: rs)[j]? with
    | none => simp [hx] at hj
    | some d =>
      simp only [hx, Option.map_some, Option.some.injEq] at hj
      subst hj
      have := hr j d hx
      refine .d _ _ ?_
      simpa [Array.getD_eq_getD_getElem?, List.getD_eq_getElem?_getD] using this

theorem callFunc_run {f : FuncId} (he : Enters P f) (args : Array Value) : (callFunc f args).run P w = .ok (.enter f args) w := by
  obtain ⟨fn, hf, hn, hb⟩ := he
  have : ¬ fn.body = none := by intro h; rw [h] at hb; cases hb
  simp [callFunc, program, hf, hn, this, Sem.run, Sem.run_bind, Sem.run_pure]

theorem args_rel (i : Inv G h w) {vs : List Value} {as : List AV} (hl : vs.length = as.length) (hr : ∀ (j : Nat) x, as[j]? = some x → ARel G h w (vs.getD j undef) x) {ds : List D} (hd : allD (toD h deep) as = some ds) :
    RelL (frzSt G h w (as.flatMap (sk h deep))) w vs ds := by
  obtain ⟨h1, h2⟩ := allD_some hd
  refine ⟨by omega, fun j d hj => ?_⟩
  have hlt : j < as.length := by have := (List.getElem?_eq_some_iff.1 hj).1; omega
  obtain ⟨d', hd', ht⟩ := h2 j _ (List.getElem?_eq_getElem hlt)
  rw [hd'] at hj
  cases hj
  exact toD_ok i _ deep (hr j _ (List.getElem?_eq_getElem hlt)) ht fun k hk => List.mem_flatMap.2 ⟨_, List.getElem_mem hlt, hk⟩

theorem zipmap_get {as : List Operand} {ts : List TypeId} (hl : as.length = ts.length) (s : Nat → AV) (j : Nat) (x : AV) (hj : (((as.zip ts).map fun p => copd P p.2 p.1).map (·.ev s))[j]? = some x) : ∃ y t, as[j]? = some y ∧ x = (copd P t y).ev s := by
  simp only [List.map_map, List.getElem?_map] at hj
  cases hp : (as.zip ts)[j]? with
  | none => simp [hp] at hj
  | some p =>
    simp only [hp, Option.map_some, Option.some.injEq, Function.comp] at hj
    obtain ⟨h1, h2⟩ := zip_at hl hp
    exact ⟨p.1, p.2, h1, hj.symm⟩

theorem runX_ok {ops : Array Oper} {n : Nat} {x : XOper} {st : S} {K : S → Prop} {Q : Exit → Act → World → Prop} (hc : coper P ops n o = some x) (fr : Fr n G st a w) (hr : runX P x st K) :
    o.wp P a w (fun a' w' => ∃ G' st', Fr n G' st' a' w' ∧ Step G st.h w G' st'.h w' ∧ a'.defers = a.defers ∧ K st') Q := by
  obtain ⟨hd1, hcop, hd2, _⟩ := coper_parts hc
  unfold runX at hr
  split at hr
  · -- a call
    rename_i f args hop
    obtain ⟨g, caps, rs, hx', hcal, hcx, hK⟩ := hr
    rw [hop] at hcop
    -- what the operation is
    have hshape : ∃ (c : Call) (f' : Operand) (as : List Operand) (ts : List TypeId), o.op = .call c ∧ c.callee = .value f' ∧ c.args.toList = as ∧ as.length = ts.length ∧ f = copd P 0 f' ∧ args = (as.zip ts).map fun p => copd P p.2 p.1 := by
      unfold cop at hcop
      split at hcop
      case h_21 c ho =>
        obtain ⟨cal, as_, ts⟩ := c
        simp only at hcop
        split at hcop
        · obtain ⟨e, he, hh⟩ := map_some hcop; cases hh
        · split at hcop
          · obtain ⟨e, he, hcop⟩ := bind_some hcop
            obtain ⟨sz, hn, hcop⟩ := bind_some hcop
            obtain ⟨b, hb, hcop⟩ := bind_some hcop
            split at hcop
            · cases hcop
            · cases hcop
          · cases hcop
        · cases hcop
        · cases hcop
        · rename_i f'
          split at hcop
          · rename_i hl
            cases hcop
            exact ⟨_, f', as_.toList, ts.toList, ho, rfl, rfl, hl, rfl, rfl⟩
          · cases hcop
        · cases hcop
      all_goals first
        | (cases hcop; done)
        | (obtain ⟨_, _, hcop⟩ := bind_some hcop; obtain ⟨_, _, hcop⟩ := bind_some hcop; obtain ⟨_, _, hcop⟩ := bind_some hcop; split at hcop <;> cases hcop; done)
        | (obtain ⟨_, _, hcop⟩ := bind_some hcop; obtain ⟨_, _, hcop⟩ := map_some hcop; cases hcop; done)
        | (obtain ⟨_, _, hcop⟩ := map_some hcop; cases hcop; done)
        | (split at hcop <;> first
            | (cases hcop; done)
            | (obtain ⟨_, _, hcop⟩ := map_some hcop; cases hcop; done)
            | (split at hcop <;> first
                | (cases hcop; done)
                | (obtain ⟨_, _, hcop⟩ := bind_some hcop; obtain ⟨_, _, hcop⟩ := map_some hcop; cases hcop; done)
                | (obtain ⟨_, _, hcop⟩ := bind_some hcop; obtain ⟨_, _, hcop⟩ := bind_some hcop; obtain ⟨_, _, hcop⟩ := bind_some hcop; obtain ⟨_, _, hcop⟩ := bind_some hcop; split at hcop <;> cases hcop; done))
            | (obtain ⟨_, _, hcop⟩ := bind_some hcop; obtain ⟨_, _, hcop⟩ := bind_some hcop; split at hcop <;> cases hcop; done)
            | (obtain ⟨_, _, hcop⟩ := bind_some hcop; obtain ⟨_, _, hcop⟩ := bind_some hcop; obtain ⟨_, _, hcop⟩ := map_some hcop; cases hcop; done))
    obtain ⟨c, f', as, ts, ho, hcc, has, hl, rfl, rfl⟩ := hshape
    -- the function value
    have hfr := copd_ok P fr.slots 0 f'
    have hfv : ∃ vs : Array Value, a.eval f' = .func (.func g) #[] vs ∧ vs.size = caps.length ∧ ∀ (j : Nat) y, caps[j]? = some y → ARel G st.h w (vs.getD j undef) y := by
      generalize a.eval f' = v at hfr
      unfold callee at hcal
      split at hcal
      · rename_i g' cs hcv
        rw [hcv] at hfr
        cases hcal
        have := hfr.d_inv
        cases this with
        | clo _ vs _ hn hr =>
          refine ⟨vs, rfl, by simpa using hn, fun j y hj => ?_⟩
          simp only [List.getElem?_map] at hj
          cases hx : cs[j]? with
          | none => simp [hx] at hj
          | some q =>
            simp only [hx, Option.map_some, Option.some.injEq] at hj
            subst hj
            exact .d _ _ (hr j q hx)
      · rename_i g' cs hcv
        rw [hcv] at hfr
        cases hcal
        cases hfr with
        | clo _ vs _ hn hr => exact ⟨vs, rfl, hn, hr⟩
      · cases hcal
    obtain ⟨cvs, hfe, hcsz, hcr⟩ := hfv
    -- the arguments
    have hallr : ∀ (j : Nat) y, (((as.zip ts).map fun p => copd P p.2 p.1).map (·.ev st.s) ++ caps)[j]? = some y → ARel G st.h w ((as.map a.eval ++ cvs.toList).getD j undef) y := by
      intro j y hj
      have hlz : (((as.zip ts).map fun p => copd P p.2 p.1).map (·.ev st.s)).length = as.length := by simp; omega
      rw [List.getElem?_append] at hj
      split at hj
      · rename_i hlt
        obtain ⟨x', t, hx', rfl⟩ := zipmap_get hl st.s j y hj
        have : (as.map a.eval ++ cvs.toList).getD j undef = a.eval x' := by
          rw [List.getD_eq_getElem?_getD, List.getElem?_append_left (by simp; omega)]
          simp [hx']
        rw [this]
        exact copd_ok P fr.slots t x'
      · rename_i hge
        have : (as.map a.eval ++ cvs.toList).getD j undef = cvs.getD (j - as.length) undef := by
          rw [List.getD_eq_getElem?_getD, List.getElem?_append_right (by simp; omega)]
          simp [Array.getD_eq_getD_getElem?]
        rw [this, ]
        rw [hlz] at hj
        exact hcr _ y hj
    have hlen : (as.map a.eval ++ cvs.toList).length = (((as.zip ts).map fun p => copd P p.2 p.1).map (·.ev st.s) ++ caps).length := by simp; omega
    have hrun : Enters P g → (execOp a.eval o).run P w = .ok (.enter g (as.map a.eval ++ cvs.toList).toArray) w := fun hent => by
      have hargs : c.args.map a.eval ++ cvs = (as.map a.eval ++ cvs.toList).toArray := by
        apply Array.ext'
        simp [← has]
      simp only [execOp, ho, resolve, hcc, Deferred.ofValue, hfe, Sem.run_bind, Sem.run_pure, Result.andThen_ok, invoke, Array.empty_append]
      rw [hargs]
      exact callFunc_run hent _
    rcases hcx with ⟨ds, hds, ⟨hent, hp⟩, rfl⟩ | ⟨h0, h1, ⟨hent, hov, hp⟩, hk0, rfl⟩ | ⟨ds, hds, ⟨hent, hp⟩, hflat, rfl⟩
    · have hrel := args_rel fr.inv (vs := as.map a.eval ++ cvs.toList) hlen hallr hds
      have hfs := frz_step fr.inv ((((as.zip ts).map fun p => copd P p.2 p.1).map (·.ev st.s) ++ caps).flatMap (sk st.h deep))
      have hcalls := hp _ w _ hfs.inv.st hrel
      unfold Oper.wp
      rw [hrun hent]
      rw [Oper.upon_enter]
      refine hcalls.mono fun e w' he => ?_
      obtain ⟨St', us, rfl, hus, hbel, hst, hst'⟩ := he
      have hstep := step_call hfs.inv hbel hst hst'
      refine ⟨_, _, ⟨hstep.inv, ?_, by rw [put_size]; exact fr.size⟩, hfs.trans hstep, put_defers, hK⟩
      have hres : ARel ⟨St', (frzG G st.h w ((((as.zip ts).map fun p => copd P p.2 p.1).map (·.ev st.s) ++ caps).flatMap (sk st.h deep))).hd⟩ (frz st.h ((((as.zip ts).map fun p => copd P p.2 p.1).map (·.ev st.s) ++ caps).flatMap (sk st.h deep))) w' (handed us) (resA rs) := handed_ok hus
      rw [hd1]
      exact ((fr.slots.ext hfs.ext).ext hstep.ext).put hres fr.size hd2
    · generalize hKs : (((as.zip ts).map fun p => copd P p.2 p.1).map (·.ev st.s) ++ caps).flatMap (sk st.h deep) = Ks at hov hp hk0 hK
      have hcalls := hp G (only Ks st.h) w _ (fun k hk => by rw [only_in hk]; exact hk0 k hk) (fun k hk => by rw [only_out hk]) (only_inv fr.inv Ks) hlen fun j y hj => (hallr j y hj).only Ks
      unfold Oper.wp
      rw [hrun hent]
      rw [Oper.upon_enter]
      refine hcalls.mono fun e w' he => ?_
      obtain ⟨G', h', us, rfl, hus, hk1, _, hst⟩ := he
      have hstep := mut_frame fr.inv hst hk1 hov
      refine ⟨_, _, ⟨hstep.inv, ?_, by rw [put_size]; exact fr.size⟩, hstep, put_defers, hK⟩
      have hres : ARel ⟨G'.St, fun k => if k ∈ Ks then G'.hd k else G.hd k⟩ (mergeK Ks h1 st.h) w' (handed us) (resA rs) := handed_ok hus
      rw [hd1]
      exact (fr.slots.ext hstep.ext).put hres fr.size hd2
    · have hrel := args_rel fr.inv (vs := as.map a.eval ++ cvs.toList) hlen hallr hds
      have hfs := frz_step fr.inv ((((as.zip ts).map fun p => copd P p.2 p.1).map (·.ev st.s) ++ caps).flatMap (sk st.h deep))
      have hcalls := hp _ w _ hfs.inv.st hrel
      unfold Oper.wp
      rw [hrun hent]
      rw [Oper.upon_enter]
      refine hcalls.mono fun e w' he => ?_
      obtain ⟨St', us, rfl, hus, hbel, hst, hst'⟩ := he
      have hstep := step_call fr.inv (St' := G.St) hbel (fun _ _ => rfl) fun b hb => Nat.lt_of_lt_of_le (fr.inv.st b hb) hbel.size
      refine ⟨⟨G.St, G.hd⟩, ⟨putS st.s x.dst (resA rs), st.h⟩, ⟨hstep.inv, ?_, by rw [put_size]; exact fr.size⟩, hstep, put_defers, hK⟩
      have hus' : RelL G.St w' us rs := ⟨hus.1, fun j d hj => (hus.2 j d hj).flat (hflat d (List.mem_of_getElem? hj))⟩
      have hres : ARel ⟨G.St, G.hd⟩ st.h w' (handed us) (resA rs) := handed_ok hus'
      show Slots _ _ _ _ (putS st.s x.dst (resA rs))
      rw [hd1]
      exact (fr.slots.ext hstep.ext).put hres fr.size hd2
  · -- any other
    obtain ⟨av, h', hact, hK⟩ := hr
    rw [hd1] at hact
    have hdid := cop_did fr.inv fr.slots hcop hact
    obtain ⟨v, w', G', hrun, hstep, hres⟩ := hdid
    have hend : ∃ G' st', Fr n G' st' (a.put o.dst v) w' ∧ Step G st.h w G' st'.h w' ∧ (a.put o.dst v).defers = a.defers ∧ K st' := by
      refine ⟨G', _, ⟨hstep.inv, ?_, by rw [put_size]; exact fr.size⟩, hstep, put_defers, hK⟩
      rw [hd1]
      exact (fr.slots.ext hstep.ext).put hres fr.size hd2
    unfold Oper.wp
    rcases hrun with hrun | ⟨hrun, hv⟩
    · rw [hrun]
      exact hend
    · rw [hrun]
      subst hv
      exact hend

end
end Ev
end Go.Proofs.Ytnkbhmafebngjaa
