/- A law whose code spoils what it was handed back: the rules. -/
import Derived.Test.YtncmainjcffanaaGreatN8
namespace Go.Proofs.YtncmainjcffanaaGreat
namespace Ev
open Go
set_option maxRecDepth 100000
set_option linter.unusedSimpArgs false
set_option linter.unusedVariables false
/-- What stands all along: nothing that was there at the start has changed. -/
structure Jn [Nw] (w0 : World) (G : GS) (h : Nat → Ent) (w : World) : Prop where
  below : RowKit.Below w0.heap.size w0 w
  own : ∀ k b, Owns G k b (h k).body → w0.heap.size ≤ b
  low : Nw.on = true → w0.heap.size ≤ Nw.n ∧ ∀ b, Nw.n ≤ b → 0 < G.St b → FreeB w b
theorem Jn.step [Nw] {w0 : World} {G G' : GS} {h h' : Nat → Ent} {w w' : World} (j : Jn w0 G h w) (s : Step G h w G' h' w') : Jn w0 G' h' w' := by
  refine ⟨⟨s.left.os.trans j.below.os, s.left.tape.trans j.below.tape, s.left.output.trans j.below.output, Nat.le_trans j.below.size s.left.size, fun b hb => ?_⟩, fun k b hk => ?_, fun hon => ⟨(j.low hon).1, fun b hb h0 => ?_⟩⟩
  · exact (s.left.block b (Nat.lt_of_lt_of_le hb j.below.size) (fun k hk => by have := j.own k b hk; omega)).1.trans (j.below.block b hb)
  · rcases s.grow k b hk with ⟨k', hk'⟩ | hle
    · exact j.own k' b hk'
    · exact Nat.le_trans j.below.size hle
  · rcases Nat.eq_zero_or_pos (G.St b) with hz | hp
    · exact s.fresh b hz h0
    · exact s.ext.keeps.free b hp ((j.low hon).2 b hb hp)
def FinB (P : Program) (fn : Func) (w0 : World) : Exit → Act → World → Prop := fun e a' w' => (e = .normal ∨ e = .ret) ∧ a'.defers = [] ∧ (results fn a'.tmps).run P w' = .ok (.bool true) w' ∧ RowKit.Below w0.heap.size w0 w'
/-- From this state the code comes to the answer true, and leaves alone what was there. -/
def Snd [Nw] (P : Program) (fn : Func) (res : List XRes) (w0 : World) (x : XCode) (st : S) : Prop := cres P fn.results.toList = some res → P.follows .mixedOrders = true → ∀ (c : Code) (G : GS) (a : Act) (w : World), ccode P fn.ntmps c = some x → Fr fn.ntmps G st a w → Jn w0 G st.h w → a.defers = [] → c.wp P (FinB P fn w0) a w
def Spd [Nw] (lim : Nat) (P : Program) (fn : Func) (res : List XRes) (w0 : World) (x : XCode) (st : S) : Prop := cres P fn.results.toList = some res → P.follows .mixedOrders = true → ∀ (c : Code) (G : GS) (a a' : Act) (w w' : World), ccode P fn.ntmps c = some x → Fr fn.ntmps G st a w → Jn w0 G st.h w → Chg (cutS true Nw.n G.St) w w' → a'.tmps.size = fn.ntmps → (∀ i, i < lim → a'.tmps.getD i undef = a.tmps.getD i undef) → a'.defers = [] → c.wp P (FinB P fn w0) a' w'
section
variable {P : Program} {fn : Func} {res : List XRes} {w0 : World}
theorem fin_of [Nw] (hres : cres P fn.results.toList = some res) {G : GS} {st : S} {a : Act} {w : World} (fr : Fr fn.ntmps G st a w) (j : Jn w0 G st.h w) (hd : a.defers = []) {e : Ex} (h : Ends res [.bool true] e st) : FinB P fn w0 e.real a w := by
  obtain ⟨he, vs, hrv, hds⟩ := h
  obtain ⟨us, h1, h2, h3⟩ := results_ok (P := P) fr.inv fr.slots _ _ _ hres hrv
  have hrel := args_rel fr.inv h2 h3 hds
  have hus : us = [.bool true] := by
    obtain ⟨hl, hr⟩ := hrel
    have h0 := hr 0 (.bool true) rfl
    match us, hl, h0 with
    | [u], _, h0 =>
      simp only [List.getD_cons_zero] at h0
      cases h0
      rfl
  subst hus
  refine ⟨by rcases he with rfl | rfl; exact .inl rfl; exact .inr rfl, hd, run_results h1, j.below⟩
theorem Snd.last {nwI : Nw} {x : XCode} {st : S} (h : wpX P x (Ends res [.bool true]) st) : Snd P fn res w0 x st := fun hres hm c G a w hc fr j hd => by
  refine wp_mono (code_ok hm c x hc _ _ _ _ _ h fr) ?_
  rintro e a' w' ⟨ex, G', st', rfl, fr', hs, hd', hend⟩
  exact fin_of hres fr' (j.step hs) (hd'.trans hd) hend
theorem Snd.seq {nwI : Nw} {x y : XCode} {st : S} (h : wpX P x (Ex.then (Snd P fn res w0 y) (Ends res [.bool true])) st) : Snd P fn res w0 (.seq x y) st := fun hres hm c G a w hc fr j hd => by
  obtain ⟨c1, c2, rfl, hc1, hc2⟩ := ccode_seq hc
  refine wp_seq (wp_mono (code_ok hm c1 x hc1 _ _ _ _ _ h fr) ?_)
  rintro e a' w' ⟨ex, G', st', rfl, fr', hs, hd', hend⟩
  cases ex with
  | normal => exact hend hres hm c2 G' a' w' hc2 fr' (j.step hs) (hd'.trans hd)
  | exit id => exact fin_of hres fr' (j.step hs) (hd'.trans hd) hend
  | ret => exact fin_of hres fr' (j.step hs) (hd'.trans hd) hend
/-- From here on new blocks are told. -/
theorem Snd.cut {x : XCode} {st : S} (h : ∀ m, @Snd (i1 m) P fn res w0 x (oldS st)) : @Snd i0 P fn res w0 x st := fun hres hm c G a w hc fr j hd => by
  refine h w.heap.size hres hm c G a w hc (old_fr fr) ?_ hd
  refine @Jn.mk (i1 w.heap.size) _ _ _ _ (@Jn.below i0 _ _ _ _ j) (fun k b hk => @Jn.own i0 _ _ _ _ j k b (oldE_owns.1 hk)) fun _ => ⟨(@Jn.below i0 _ _ _ _ j).size, fun b hb h0 => ?_⟩
  have := (@Fr.inv i0 _ _ _ _ _ fr).st b h0
  exact absurd hb (Nat.not_le.2 this)
theorem Spd.enter {nwI : Nw} (lim : Nat) {x : XCode} {st : S} (h : Spd lim P fn res w0 x st) : Snd P fn res w0 x st := fun hres hm c G a w hc fr j hd => h hres hm c G a a w w hc fr j (.refl _ _) fr.size (fun _ _ => rfl) hd
theorem Spd.leave {lim m : Nat} {x : XCode} {st : S} (h : @Snd i0 P fn res w0 x (aftS lim st)) : @Spd (i1 m) lim P fn res w0 x st := fun hres hm c G a a' w w' hc fr j hch hsz hs hd => by
  refine h hres hm c _ a' w' hc (aft_fr fr hch hsz hs) ?_ hd
  have jb := @Jn.below (i1 m) _ _ _ _ j
  have jl := (@Jn.low (i1 m) _ _ _ _ j rfl).1
  refine @Jn.mk i0 _ _ _ _ ⟨hch.os.trans jb.os, hch.tape.trans jb.tape, hch.output.trans jb.output, Nat.le_trans jb.size hch.size, fun b hb => ?_⟩ (fun k b hk => @Jn.own (i1 m) _ _ _ _ j k b (aftE_owns rfl hk)) fun h => by cases h
  refine (hch.block b (Nat.lt_of_lt_of_le hb jb.size) ?_).trans (jb.block b hb)
  show cutS true m G.St b = 0
  have hm : ¬ m ≤ b := fun hle => by have : w0.heap.size ≤ m := jl; omega
  simp [cutS, hm]
theorem law_of {f : FuncId} {x : XFn} (hm : P.follows .mixedOrders = true) (hf : P.funcs[f]? = some fn) (hx : cfn P fn = some x) {ds : List D} (hl : ds.length = x.np) (hw : ∀ w0, @Snd i0 P fn x.res w0 x.code ⟨initS ds, none_⟩) : Pure P f ds [.bool true] := by
  unfold cfn at hx
  split at hx
  · rename_i c hb
    split at hx
    · cases hx
    · rename_i hname
      split at hx
      · rename_i xc r hcc hres
        split at hx
        · rename_i hnp
          cases hx
          simp only at hl hw
          refine ⟨⟨fn, hf, hname, by rw [hb]; rfl⟩, fun St w vs hst hrel => ?_⟩
          refine calls_of_wp hf hb ?_
          have hvl : vs.length = ds.length := hrel.1
          have fr : @Fr i0 fn.ntmps ⟨St, fun _ => ⟨none, 0⟩⟩ ⟨initS ds, none_⟩ { tmps := vs.toArray ++ Array.replicate (fn.ntmps - vs.toArray.size) undef, defers := [] } w := by
            refine ⟨⟨hst, fun k => trivial, fun k k' b h => h.elim, Nat.zero_le _⟩, fun i => ?_, by simp; omega⟩
            simp only [initS]
            cases hd : ds[i]? with
            | none =>
              have hge : ds.length ≤ i := List.getElem?_eq_none_iff.1 hd
              have : (vs.toArray ++ Array.replicate (fn.ntmps - vs.toArray.size) undef).getD i undef = undef := by
                rw [Array.getD_eq_getD_getElem?, Array.getElem?_append_right (by simp; omega), Array.getElem?_replicate]
                split <;> rfl
              rw [this]
              exact .skip
            | some d =>
              have hlt := (List.getElem?_eq_some_iff.1 hd).1
              have : (vs.toArray ++ Array.replicate (fn.ntmps - vs.toArray.size) undef).getD i undef = vs.getD i undef := by
                rw [Array.getD_eq_getD_getElem?, Array.getElem?_append_left (by simp; omega)]
                simp
              rw [this]
              exact .d _ _ (hrel.2 i d hd)
          refine wp_mono (hw w hres hm c _ _ _ hcc fr ⟨RowKit.Below.refl _ _, fun k b h => h.elim, fun h => by cases h⟩ rfl) ?_
          rintro e a' w' ⟨he, hd, hpost, hbel⟩
          have hR : ∃ St' us', Ending.returned (.bool true) = .returned (handed us') ∧ RelL St' w' us' [.bool true] ∧ RowKit.Below w.heap.size w w' ∧ (∀ b, b < w.heap.size → St' b = St b) ∧ (∀ b, 0 < St' b → b < w'.heap.size) ∧ (∀ b, w.heap.size ≤ b → 0 < St' b → FreeB w' b) :=
            ⟨St, [.bool true], rfl, ⟨rfl, fun j d hj => by
              cases j with
              | zero => cases hj; exact .bool true
              | succ j => cases hj⟩, hbel, fun _ _ => rfl, fun b hb => Nat.lt_of_lt_of_le (hst b hb) hbel.size, fun b hb h0 => by have := hst b h0; omega⟩
          rcases he with rfl | rfl
          · exact ⟨hd, _, hpost, hR⟩
          · exact ⟨hd, _, hpost, hR⟩
        · cases hx
      · cases hx
  · cases hx
end
end Ev
end Go.Proofs.YtncmainjcffanaaGreat
