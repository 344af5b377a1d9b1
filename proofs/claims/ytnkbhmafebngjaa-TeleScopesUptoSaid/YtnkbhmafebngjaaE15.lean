/- Code and functions: what is told in the small language the machine does. -/
import Derived.Test.YtnkbhmafebngjaaE14
namespace Go.Proofs.Ytnkbhmafebngjaa
namespace Ev
open Go
set_option linter.unusedVariables false
set_option linter.unusedSimpArgs false

inductive Ex where
  | normal
  | exit (id : Nat)
  | ret

def Ex.real : Ex → Exit
  | .normal => .normal
  | .exit id => .exit id
  | .ret => .ret

def Ex.then (next : S → Prop) (Q : Ex → S → Prop) : Ex → S → Prop
  | .normal, st => next st
  | e, st => Q e st

def Ex.inBlock (id : Nat) (Q : Ex → S → Prop) : Ex → S → Prop
  | .exit id', st => if id' = id then Q .normal st else Q (.exit id') st
  | e, st => Q e st

/-- THE MEANING OF CODE: what is asked of the state ahead of it, so that Q holds behind it. -/
def wpX (P : Program) : XCode → (Ex → S → Prop) → S → Prop
  | .skip, Q, st => Q .normal st
  | .region ops none, Q, st => wpO P ops st (Q .normal)
  | .region ops (some ds), Q, st => wpT P ops ds 0 [] st (Q .normal)
  | .seq a b, Q, st => wpX P a (Ex.then (wpX P b Q) Q) st
  | .cond c a b, Q, st => match c.ev st.s with
    | .d (.bool t) => if t then wpX P a Q st else wpX P b Q st
    | _ => False
  | .block id a, Q, st => wpX P a (Ex.inBlock id Q) st
  | .loop a, Q, st => ∃ (I : S → Prop) (μ : S → Nat), I st ∧ ∀ st, I st → wpX P a (Ex.then (fun st' => I st' ∧ μ st' < μ st) Q) st
  | .exit id, Q, st => Q (.exit id) st
  | .ret, Q, st => Q .ret st

section
variable {P : Program}

theorem wpO_mono {K K' : S → Prop} (hk : ∀ st, K st → K' st) : ∀ (ops : List XOper) (st : S), wpO P ops st K → wpO P ops st K'
  | [], st, h => hk st h
  | o :: os, st, h => by
    simp only [wpO] at h ⊢
    cases hw : wants o st.s with
    | none => rw [hw] at h; exact h
    | some b =>
      rw [hw] at h
      cases b with
      | true =>
        obtain ⟨st', h1, h2⟩ := runX_exists h
        simp only [runX] at h1 ⊢
        cases hop : o.op with
        | call f args =>
          rw [hop] at h1
          obtain ⟨g, caps, rs, h', a1, a2, rfl⟩ := h1
          exact ⟨g, caps, rs, h', a1, a2, wpO_mono hk os _ h2⟩
        | _ =>
          rw [hop] at h1
          obtain ⟨av, h', a1, rfl⟩ := h1
          exact ⟨av, h', a1, wpO_mono hk os _ h2⟩
      | false => exact wpO_mono hk os _ h

theorem least {p : Nat → Prop} (h : ∃ m, p m) : ∃ m, p m ∧ ∀ k, p k → m ≤ k := by
  obtain ⟨m, hm⟩ := h
  induction m using Nat.strongRecOn with
  | _ m ih =>
    by_cases hex : ∃ k, k < m ∧ p k
    · obtain ⟨k, hk, hp⟩ := hex
      exact ih k hk hp
    · exact ⟨m, hm, fun k hk => Nat.le_of_not_lt fun hlt => hex ⟨k, hlt, hk⟩⟩

open Classical in
noncomputable def lst (p : Nat → Prop) : Nat := if h : ∃ m, p m then Classical.choose (least h) else 0

theorem lst_spec {p : Nat → Prop} (h : ∃ m, p m) : p (lst p) ∧ ∀ k, p k → lst p ≤ k := by
  unfold lst
  rw [dif_pos h]
  exact Classical.choose_spec (least h)

/-- What the machine comes to. -/
def Post (n : Nat) (G : GS) (st : S) (a : Act) (w : World) (Q : Ex → S → Prop) : Exit → Act → World → Prop := fun e a' w' => ∃ ex G' st', e = ex.real ∧ Fr n G' st' a' w' ∧ Step G st.h w G' st'.h w' ∧ a'.defers = a.defers ∧ Q ex st'

theorem Post.from {n : Nat} {G G1 : GS} {st st1 : S} {a a1 : Act} {w w1 : World} {Q : Ex → S → Prop} (hs : Step G st.h w G1 st1.h w1) (hd : a1.defers = a.defers) {e : Exit} {a' : Act} {w' : World} (h : Post n G1 st1 a1 w1 Q e a' w') : Post n G st a w Q e a' w' := by
  obtain ⟨ex, G', st', he, fr, hs', hd', hq⟩ := h
  exact ⟨ex, G', st', he, fr, hs.trans hs', hd'.trans hd, hq⟩

theorem Post.mono {n : Nat} {G : GS} {st : S} {a : Act} {w : World} {Q Q' : Ex → S → Prop} (hq : ∀ e s, Q e s → Q' e s) {e : Exit} {a' : Act} {w' : World} (h : Post n G st a w Q e a' w') : Post n G st a w Q' e a' w' := by
  obtain ⟨ex, G', st', he, fr, hs', hd', hh⟩ := h
  exact ⟨ex, G', st', he, fr, hs', hd', hq _ _ hh⟩

theorem code_ok {n : Nat} (hm : P.follows .mixedOrders = true) : ∀ (c : Code) (x : XCode), ccode P n c = some x → ∀ (Q : Ex → S → Prop) (G : GS) (st : S) (a : Act) (w : World), wpX P x Q st → Fr n G st a w → c.wp P (Post n G st a w Q) a w
  | .skip, x, hc, Q, G, st, a, w, hw, fr => by
    simp only [ccode, Option.some.injEq] at hc
    subst hc
    exact wp_skip ⟨.normal, G, st, rfl, fr, .refl fr.inv, rfl, hw⟩
  | .region id ops dr, x, hc, Q, G, st, a, w, hw, fr => by
    simp only [ccode] at hc
    split at hc
    · rename_i xs hxs
      cases dr with
      | false =>
        simp only [Bool.false_eq_true, if_false, Option.some.injEq] at hc
        subst hc
        refine wp_region ?_
        rw [List.range_eq_range', ← Array.length_toList]
        exact list_ok ops.toList xs 0 hxs (by simp) fr hw fun a' w' G' st' fr' hs hd hK => ⟨.normal, G', st', rfl, fr', hs, hd, hK⟩
      | true =>
        simp only [if_true] at hc
        obtain ⟨ds, hds, rfl⟩ := map_some hc
        exact draw_ok hm hxs hds fr hw fun a' w' G' st' fr' hs hd hK => ⟨.normal, G', st', rfl, fr', hs, hd, hK⟩
    · cases hc
  | .seq c d, x, hc, Q, G, st, a, w, hw, fr => by
    simp only [ccode] at hc
    split at hc
    · rename_i xa xb ha hb
      cases hc
      refine wp_seq (wp_mono (code_ok hm c xa ha _ G st a w hw fr) ?_)
      rintro e a' w' ⟨ex, G', st', rfl, fr', hs, hd, hq⟩
      cases ex with
      | normal => exact wp_mono (code_ok hm d xb hb Q G' st' a' w' hq fr') fun e a2 w2 h2 => h2.from hs hd
      | exit id => exact ⟨.exit id, G', st', rfl, fr', hs, hd, hq⟩
      | ret => exact ⟨.ret, G', st', rfl, fr', hs, hd, hq⟩
    · cases hc
  | .cond c d f, x, hc, Q, G, st, a, w, hw, fr => by
    simp only [ccode] at hc
    split at hc
    · rename_i xa xb ha hb
      cases hc
      simp only [wpX] at hw
      split at hw
      · rename_i t ht
        have hr := copd_ok P fr.slots 0 c
        rw [ht] at hr
        refine wp_cond hr.of_bool ?_
        cases t with
        | true => exact code_ok hm d xa ha Q G st a w (by simpa using hw) fr
        | false => exact code_ok hm f xb hb Q G st a w (by simpa using hw) fr
      · exact hw.elim
    · cases hc
  | .block id c, x, hc, Q, G, st, a, w, hw, fr => by
    simp only [ccode] at hc
    obtain ⟨xa, ha, rfl⟩ := map_some hc
    refine wp_block (wp_mono (code_ok hm c xa ha _ G st a w hw fr) ?_)
    rintro e a' w' ⟨ex, G', st', rfl, fr', hs, hd, hq⟩
    cases ex with
    | normal => exact ⟨.normal, G', st', rfl, fr', hs, hd, hq⟩
    | exit id' =>
      simp only [Ex.real, Exit.inBlock]
      simp only [Ex.inBlock] at hq
      by_cases hi : id' = id
      · simp only [hi, if_true] at hq ⊢
        exact ⟨.normal, G', st', rfl, fr', hs, hd, hq⟩
      · simp only [hi, if_false] at hq ⊢
        exact ⟨.exit id', G', st', rfl, fr', hs, hd, hq⟩
    | ret => exact ⟨.ret, G', st', rfl, fr', hs, hd, hq⟩
  | .loop c, x, hc, Q, G, st, a, w, hw, fr => by
    simp only [ccode] at hc
    obtain ⟨xa, ha, rfl⟩ := map_some hc
    obtain ⟨I, μ, h0, hround⟩ := hw
    -- the states that stand at a round's head, by their measure
    let At : Nat → Act → World → Prop := fun m a1 w1 => ∃ G1 st1, Fr n G1 st1 a1 w1 ∧ Step G st.h w G1 st1.h w1 ∧ a1.defers = a.defers ∧ I st1 ∧ μ st1 = m
    refine wp_loop (fun a1 w1 => ∃ m, At m a1 w1) (fun a1 w1 => lst fun m => At m a1 w1) ⟨μ st, G, st, fr, .refl fr.inv, rfl, h0, rfl⟩ ?_
    intro a1 w1 hex
    have hmin := (lst_spec hex).1
    obtain ⟨G1, st1, fr1, hs1, hd1, hI, hμ⟩ := hmin
    refine wp_mono (code_ok hm c xa ha _ G1 st1 a1 w1 (hround st1 hI) fr1) ?_
    rintro e a' w' ⟨ex, G', st', rfl, fr', hs, hd, hq⟩
    cases ex with
    | normal =>
      obtain ⟨hI', hlt⟩ := hq
      have hex' : ∃ m, At m a' w' := ⟨μ st', G', st', fr', hs1.trans hs, hd.trans hd1, hI', rfl⟩
      refine ⟨hex', ?_⟩
      show (lst fun m => At m a' w') < lst fun m => At m a1 w1
      rw [← hμ]
      exact Nat.lt_of_le_of_lt ((lst_spec hex').2 _ ⟨G', st', fr', hs1.trans hs, hd.trans hd1, hI', rfl⟩) hlt
    | exit id => exact ⟨.exit id, G', st', rfl, fr', hs1.trans hs, hd.trans hd1, hq⟩
    | ret => exact ⟨.ret, G', st', rfl, fr', hs1.trans hs, hd.trans hd1, hq⟩
  | .exit id, x, hc, Q, G, st, a, w, hw, fr => by
    simp only [ccode, Option.some.injEq] at hc
    subst hc
    exact wp_exit ⟨.exit id, G, st, rfl, fr, .refl fr.inv, rfl, hw⟩
  | .ret, x, hc, Q, G, st, a, w, hw, fr => by
    simp only [ccode, Option.some.injEq] at hc
    subst hc
    exact wp_ret ⟨.ret, G, st, rfl, fr, .refl fr.inv, rfl, hw⟩
  | .rangeFunc _ _ _ _, x, hc, _, _, _, _, _, _, _ => by simp [ccode] at hc
  | .scope _, x, hc, _, _, _, _, _, _, _ => by simp [ccode] at hc
  | .label _, x, hc, _, _, _, _, _, _, _ => by simp [ccode] at hc
  | .goto _, x, hc, _, _, _, _, _, _, _ => by simp [ccode] at hc
  | .refuse _, x, hc, _, _, _, _, _, _, _ => by simp [ccode] at hc

/-! ### functions -/
/-- The slots of a frame that is entered with the arguments ds. -/
def initS (ds : List D) : Nat → AV := fun i => match ds[i]? with
  | some x => .d x
  | none => .skip

def resX (st : S) : XRes → Option AV
  | .tmp i => some (st.s i)
  | .cell i n g => loadA st.h n g (st.s i)

def resL (st : S) : List XRes → Option (List AV)
  | [] => some []
  | r :: rs => match resX st r, resL st rs with
    | some v, some vs => some (v :: vs)
    | _, _ => none

/-- What stands at a function's end. -/
def Ends (res : List XRes) (rs : List D) : Ex → S → Prop := fun e st => (e = .normal ∨ e = .ret) ∧ ∃ vs, resL st res = some vs ∧ allD (toD st.h deep) vs = some rs

theorem results_ok {G : GS} {st : S} {a : Act} {w : World} (i : Inv G st.h w) (sl : Slots G st.h w a st.s) : ∀ (rv : List ResultVar) (res : List XRes) (vs : List AV), cres P rv = some res → resL st res = some vs →
    ∃ us : List Value, Sem.run P (rv.mapM (fun (r : ResultVar) => (match r with | ResultVar.tmp t => (pure (a.tmps.getD t undef) : Sem Value) | ResultVar.cell b t => asAddr (a.tmps.getD b undef) >>= loadVar t))) w = Result.ok us w ∧ us.length = vs.length ∧ ∀ (j : Nat) v, vs[j]? = some v → ARel G st.h w (us.getD j undef) v
  | [], res, vs, hc, hr => by
    simp only [cres, Option.some.injEq] at hc
    subst hc
    simp only [resL, Option.some.injEq] at hr
    subst hr
    exact ⟨[], by simp [Sem.run_pure], rfl, by simp⟩
  | .tmp t :: rv, res, vs, hc, hr => by
    simp only [cres] at hc
    obtain ⟨res', hc', rfl⟩ := map_some hc
    simp only [resL, resX] at hr
    split at hr
    · rename_i v vs' hv hvs
      cases hr
      cases hv
      obtain ⟨us, h1, h2, h3⟩ := results_ok i sl rv res' vs' hc' hvs
      refine ⟨a.tmps.getD t undef :: us, ?_, by simp [h2], fun j v hj => ?_⟩
      · rw [List.mapM_cons]
        simp only [Sem.run_bind, Sem.run_pure, h1, Result.andThen_ok]
      · cases j with
        | zero => simp at hj; subst hj; exact sl t
        | succ j => simpa using h3 j v (by simpa using hj)
    · cases hr
  | .cell b t :: rv, res, vs, hc, hr => by
    simp only [cres] at hc
    split at hc
    · rename_i n g res' hn hg hc'
      cases hc
      simp only [resL, resX] at hr
      split at hr
      · rename_i v vs' hv hvs
        cases hr
        obtain ⟨us, h1, h2, h3⟩ := results_ok i sl rv res' vs' hc' hvs
        obtain ⟨ad, u, hu, hrun, har⟩ := load_core (P := P) i t (sl b) hn hg hv
        refine ⟨u :: us, ?_, by simp [h2], fun j v' hj => ?_⟩
        · have hasad : Sem.run P (asAddr (a.tmps.getD b undef) >>= loadVar t) w = .ok u w := by
            rw [hu]
            simp only [asAddr, Sem.run_bind, Sem.run_pure, Result.andThen_ok, hrun]
          rw [List.mapM_cons, Sem.run_bind, hasad, Result.andThen_ok, Sem.run_bind, h1, Result.andThen_ok, Sem.run_pure]
        · cases j with
          | zero => simp at hj; subst hj; exact har
          | succ j => simpa using h3 j v' (by simpa using hj)
      · cases hr
    · cases hc

theorem handed_eq (us : List Value) : (if h : us.toArray.size = 1 then us.toArray[0] else Value.tuple us.toArray) = handed us := by
  match us with
  | [] => rfl
  | [u] => rfl
  | u :: v :: us => simp [handed]

theorem run_results {fn : Func} {tmps : Array Value} {w : World} {us : List Value} (h : Sem.run P (fn.results.toList.mapM (fun (r : ResultVar) => (match r with | ResultVar.tmp t => (pure (tmps.getD t undef) : Sem Value) | ResultVar.cell b t => asAddr (tmps.getD b undef) >>= loadVar t))) w = Result.ok us w) :
    (results fn tmps).run P w = .ok (handed us) w := by
  unfold results
  rw [Array.mapM_eq_mapM_toList, ← bind_pure_comp, Sem.run_bind, Sem.run_bind]
  have h' := h
  generalize hm : (fn.results.toList.mapM (fun (r : ResultVar) => (match r with | ResultVar.tmp t => (pure (tmps.getD t undef) : Sem Value) | ResultVar.cell b t => asAddr (tmps.getD b undef) >>= loadVar t))) = m at h'
  refine Eq.trans (b := ((Sem.run P m w).andThen fun a w' => Sem.run P (pure a.toArray) w').andThen fun a w' => Sem.run P (pure (if h : a.size = 1 then a[0] else Value.tuple a)) w') ?_ ?_
  · rw [← hm]
  · rw [h']
    simp only [Result.andThen_ok, Sem.run_pure]
    rw [handed_eq]

/-- A FUNCTION KEEPS TO ITS CONTRACT where its code, told in the small language, does. -/
theorem pure_of {f : FuncId} {fn : Func} {x : XFn} (hm : P.follows .mixedOrders = true) (hf : P.funcs[f]? = some fn) (hx : cfn P fn = some x) {ds rs : List D} (hl : ds.length = x.np) (hw : wpX P x.code (Ends x.res rs) ⟨initS ds, none_⟩) : Pure P f ds rs := by
  unfold cfn at hx
  split at hx
  · rename_i c hb
    split at hx
    · cases hx
    · rename_i hname
      split at hx
      · rename_i xc r hcc hres
        split at hx
        · rename_i hnp
          cases hx
          simp only at hl hw
          refine ⟨⟨fn, hf, hname, by rw [hb]; rfl⟩, fun St w vs hst hrel => ?_⟩
          refine calls_of_wp hf hb ?_
          have hvl : vs.length = ds.length := hrel.1
          have fr : Fr fn.ntmps ⟨St, fun _ => ⟨none, 0⟩⟩ ⟨initS ds, none_⟩ { tmps := vs.toArray ++ Array.replicate (fn.ntmps - vs.toArray.size) undef, defers := [] } w := by
            refine ⟨⟨hst, fun k => trivial, fun k k' b h => h.elim⟩, fun i => ?_, by simp; omega⟩
            simp only [initS]
            cases hd : ds[i]? with
            | none =>
              have hge : ds.length ≤ i := List.getElem?_eq_none_iff.1 hd
              have : (vs.toArray ++ Array.replicate (fn.ntmps - vs.toArray.size) undef).getD i undef = undef := by
                rw [Array.getD_eq_getD_getElem?, Array.getElem?_append_right (by simp; omega), Array.getElem?_replicate]
                split <;> rfl
              rw [this]
              exact .skip
            | some d =>
              have hlt := (List.getElem?_eq_some_iff.1 hd).1
              have : (vs.toArray ++ Array.replicate (fn.ntmps - vs.toArray.size) undef).getD i undef = vs.getD i undef := by
                rw [Array.getD_eq_getD_getElem?, Array.getElem?_append_left (by simp; omega)]
                simp
              rw [this]
              exact .d _ _ (hrel.2 i d hd)
          refine wp_mono (code_ok hm c xc hcc _ _ _ _ _ hw fr) ?_
          rintro e a' w' ⟨ex, G', st', rfl, fr', hs, hd, hend, vs', hrv, hds⟩
          obtain ⟨us, h1, h2, h3⟩ := results_ok (P := P) fr'.inv fr'.slots _ _ _ hres hrv
          have hfin := args_rel fr'.inv h2 h3 hds
          have hall := hs.trans (frz_step fr'.inv (vs'.flatMap (sk st'.h deep)))
          have hno : ∀ b k, ¬ Owns (⟨St, fun _ => ⟨none, 0⟩⟩ : GS) k b ((none_ : Nat → Ent) k).body := fun b k h => h
          have hpost : (results fn a'.tmps).run P w' = .ok (handed us) w' := run_results h1
          have hR : ∃ St' us', Ending.returned (handed us) = .returned (handed us') ∧ RelL St' w' us' rs ∧ RowKit.Below w.heap.size w w' ∧ (∀ b, b < w.heap.size → St' b = St b) ∧ (∀ b, 0 < St' b → b < w'.heap.size) :=
            ⟨_, us, rfl, hfin, ⟨hall.left.os, hall.left.tape, hall.left.output, hall.left.size, fun b hb' => (hall.left.block b hb' (hno b)).1⟩, fun b hb' => (hall.left.block b hb' (hno b)).2, hall.inv.st⟩
          rcases hend with rfl | rfl
          · exact ⟨hd, handed us, hpost, hR⟩
          · exact ⟨hd, handed us, hpost, hR⟩
        · cases hx
      · cases hx
  · cases hx

def initA (as : List AV) : Nat → AV := fun i => match as[i]? with
  | some a => a
  | none => .skip

/-- What stands at the end of a function that is handed boxes and rows. -/
def EndsM (res : List XRes) (rs : List D) (K : List Nat) (h1 : Nat → Ent) : Ex → S → Prop := fun e st => (e = .normal ∨ e = .ret) ∧ ∃ vs, resL st res = some vs ∧ allD (toD st.h deep) vs = some rs ∧ ∀ k ∈ K, frz st.h (vs.flatMap (sk st.h deep)) k = h1 k

theorem mut_of {f : FuncId} {fn : Func} {x : XFn} (hm : P.follows .mixedOrders = true) (hf : P.funcs[f]? = some fn) (hx : cfn P fn = some x) {as : List AV} {rs : List D} {K : List Nat} {h0 h1 : Nat → Ent} (hl : as.length = x.np) (hov : ∀ k ∈ K, OverB K (h1 k).body)
    (hw : ∀ (G : GS) (h : Nat → Ent) (w : World) (vs : List Value), (∀ k ∈ K, h k = h0 k) → vs.length = as.length → (∀ (j : Nat) a, as[j]? = some a → ARel G h w (vs.getD j undef) a) → wpX P x.code (EndsM x.res rs K h1) ⟨initA as, h⟩) : MutC P f as K h0 rs h1 := by
  unfold cfn at hx
  split at hx
  · rename_i c hb
    split at hx
    · cases hx
    · rename_i hname
      split at hx
      · rename_i xc r hcc hres
        split at hx
        · rename_i hnp
          cases hx
          simp only at hl hw
          refine ⟨⟨fn, hf, hname, by rw [hb]; rfl⟩, hov, fun G h w vs hk _ hi hvl hrel => ?_⟩
          refine calls_of_wp hf hb ?_
          have hw := hw G h w vs hk hvl hrel
          have fr : Fr fn.ntmps G ⟨initA as, h⟩ { tmps := vs.toArray ++ Array.replicate (fn.ntmps - vs.toArray.size) undef, defers := [] } w := by
            refine ⟨hi, fun i => ?_, by simp; omega⟩
            simp only [initA]
            cases hd : as[i]? with
            | none =>
              have hge : as.length ≤ i := List.getElem?_eq_none_iff.1 hd
              have : (vs.toArray ++ Array.replicate (fn.ntmps - vs.toArray.size) undef).getD i undef = undef := by
                rw [Array.getD_eq_getD_getElem?, Array.getElem?_append_right (by simp; omega), Array.getElem?_replicate]
                split <;> rfl
              rw [this]
              exact .skip
            | some a =>
              have hlt := (List.getElem?_eq_some_iff.1 hd).1
              have : (vs.toArray ++ Array.replicate (fn.ntmps - vs.toArray.size) undef).getD i undef = vs.getD i undef := by
                rw [Array.getD_eq_getD_getElem?, Array.getElem?_append_left (by simp; omega)]
                simp
              rw [this]
              exact hrel i a hd
          refine wp_mono (code_ok hm c xc hcc _ _ _ _ _ hw fr) ?_
          rintro e a' w' ⟨ex, G', st', rfl, fr', hs, hd, hend, vs', hrv, hds, hK⟩
          obtain ⟨us, h1', h2, h3⟩ := results_ok (P := P) fr'.inv fr'.slots _ _ _ hres hrv
          have hfin := args_rel fr'.inv h2 h3 hds
          have hall := hs.trans (frz_step fr'.inv (vs'.flatMap (sk st'.h deep)))
          have hkill := hall.trans (only_step hall.inv K)
          have hpost : (results fn a'.tmps).run P w' = .ok (handed us) w' := run_results h1'
          have hR : ∃ G2 h2 us', Ending.returned (handed us) = .returned (handed us') ∧ RelL G2.St w' us' rs ∧ (∀ k ∈ K, h2 k = h1 k) ∧ (∀ k, k ∉ K → (h2 k).body = .dead) ∧ Step G h w G2 h2 w' :=
            ⟨_, _, us, rfl, hfin, fun k hm => by simp only [if_pos hm]; exact hK k hm, fun k hm => by simp only [if_neg hm], hkill⟩
          rcases hend with rfl | rfl
          · exact ⟨hd, handed us, hpost, hR⟩
          · exact ⟨hd, handed us, hpost, hR⟩
        · cases hx
      · cases hx
  · cases hx

end
end Ev
end Go.Proofs.Ytnkbhmafebngjaa
