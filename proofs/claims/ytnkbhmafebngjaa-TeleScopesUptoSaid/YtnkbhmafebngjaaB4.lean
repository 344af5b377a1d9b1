/- tele.nest. -/
import Derived.Test.YtnkbhmafebngjaaB6
import Derived.Test.YtnkbhmafebngjaaR4
namespace Go.Proofs.Ytnkbhmafebngjaa
namespace Ev
open Go Go.RowKit
set_option linter.unusedVariables false
set_option linter.unusedSimpArgs false
set_option maxRecDepth 100000

/-- The term so far, by the indices that have come. -/
def nestP (k : Int) (l : List T) (t : T) (pre : List Nat) : T := pre.foldl (fun o i => .mk k 0 [(l[i]?).getD (.mk 0 0 []), o]) t
def nestT (k : Int) (l : List T) (t : T) : T := l.foldr (fun a o => .mk k 0 [a, o]) t
theorem nestP_all (k : Int) (l : List T) (t : T) : nestP k l t (bupto l.length l.length) = nestT k l t := by
  have e : (bupto l.length l.length).map (fun i => (l[i]?).getD (.mk 0 0 [])) = l.reverse := by
    refine List.ext_getElem (by simp [bupto]) fun i h1 h2 => ?_
    simp [bupto] at h1
    have h3 : l.length - 1 - i < l.length := by omega
    simp [bupto, List.getElem?_eq_getElem h3]
  have e2 : nestP k l t (bupto l.length l.length) = ((bupto l.length l.length).map (fun i => (l[i]?).getD (.mk 0 0 []))).foldl (fun o a => .mk k 0 [a, o]) t := by
    rw [List.foldl_map]
    rfl
  rw [e2, e, List.foldl_reverse]
  rfl
theorem nest_ok (k : Int) (l : List T) (t : T) (hl : l.length ≤ 1000000000) (ht : okT t) (hol : okTs l) : Pure Try.prog 55 [.int .i64 k, eTs l, .agg (cT t)] [.agg (cT (nestT k l t))] := by
  obtain ⟨r0, r1, r2, id1, ag, bd, c3, hb, k0, k1, k2, k3, k4, k5⟩ := nest_parts
  refine ⟨⟨Try.f55, Try.func55, by decide, by rw [hb]; rfl⟩, fun St w vs hst0 hrel => ?_⟩
  refine (callsIn_wide (n := 5)).1 (callsIn_of_wp_marks (F := FR none) Try.func55 hb trivial ?_ rfl)
  have hvl : vs.length = 3 := hrel.1
  have fr : Fr 23 ⟨St, fun _ => ⟨none, 0⟩⟩ ⟨initS [.int .i64 k, eTs l, .agg (cT t)], none_⟩ { tmps := vs.toArray ++ Array.replicate (Try.f55.ntmps - vs.toArray.size) undef, defers := [] } w := by
    have hnt : Try.f55.ntmps = 23 := Try.ntmps55
    refine ⟨⟨hst0, fun k => trivial, fun k k' b h => h.elim⟩, fun i => ?_, by rw [hnt]; simp; omega⟩
    simp only [initS]
    cases hd : ([.int .i64 k, eTs l, .agg (cT t)] : List D)[i]? with
    | none =>
      have hge := List.getElem?_eq_none_iff.1 hd
      have : (vs.toArray ++ Array.replicate (Try.f55.ntmps - vs.toArray.size) undef).getD i undef = undef := by
        rw [Array.getD_eq_getD_getElem?, Array.getElem?_append_right (by simp at hge ⊢; omega), Array.getElem?_replicate]
        split <;> rfl
      rw [this]
      exact .skip
    | some d =>
      have hlt := (List.getElem?_eq_some_iff.1 hd).1
      have : (vs.toArray ++ Array.replicate (Try.f55.ntmps - vs.toArray.size) undef).getD i undef = vs.getD i undef := by
        rw [Array.getD_eq_getD_getElem?, Array.getElem?_append_left (by simp at hlt ⊢; omega)]
        simp
      rw [this]
      exact .d _ _ (hrel.2 i d hd)
  obtain ⟨a0, ha0⟩ : ∃ a0 : Act, a0 = { tmps := vs.toArray ++ Array.replicate (Try.f55.ntmps - vs.toArray.size) undef, defers := [] } := ⟨_, rfl⟩
  rw [← ha0] at fr ⊢
  have hd0 : a0.defers = [] := by rw [ha0]
  refine wpIn_seq (wpIn_mono (code_in (r := none) hm r0 y0 k0 _ _ _ _ _ (nest_first k l t ht) fr) ?_)
  rintro e a1 w1 ⟨ex, G1, st1, rfl, fr1, hs1, hd1, rfl, hw1⟩
  refine wpIn_seq (wpIn_mono (code_in (r := none) hm r1 y1 k1 _ _ _ _ _ hw1 fr1) ?_)
  rintro e a2 w2 ⟨ex, G2, st2, rfl, fr2, hs2, hd2, rfl, hw2⟩
  refine wpIn_seq (wpIn_seq (wpIn_mono (code_in (r := none) hm r2 y2 k2 _ _ _ _ _ hw2 fr2) ?_))
  rintro e a3 w3 ⟨ex, G3, st3, rfl, fr3, hs3, hd3, rfl, hps, hph⟩
  have hs03 : Step ⟨St, fun _ => ⟨none, 0⟩⟩ none_ w G3 st3.h w3 := (hs1.trans hs2).trans hs3
  have hd3' : a3.defers = [] := by rw [hd3, hd2, hd1, hd0]
  refine wpIn_block ?_
  -- the iterator
  have hclo := fr3.slots 13
  rw [hps.2.2.2] at hclo
  obtain ⟨Bs, o, A, cap, vs0, hv13, hst, hcell, hrow, hel⟩ := clo_inv hclo.d_inv
  -- elements beyond the last: none
  obtain ⟨vs', hvs'⟩ : ∃ vs' : Nat → Nat → Value, vs' = fun i j => if i < l.length then vs0 i j else (if j < 2 then .int .i64 0 else .slice none 0 0) := ⟨_, rfl⟩
  have hlo : ∀ i j, i < l.length → vs' i j = vs0 i j := fun i j h => by rw [hvs']; simp only [h, if_true]
  obtain ⟨el, hel0⟩ : ∃ el : Nat → T, el = fun i => (l[i]?).getD (.mk 0 0 []) := ⟨_, rfl⟩
  have hok : ∀ i, okT (el i) := fun i => by
    rw [hel0]
    cases hi : l[i]? with
    | none => simp only [hi, Option.getD_none]; exact okT_leaf (k := 0) (n := 0) (by omega) (by omega)
    | some x => simp only [hi, Option.getD_some]; exact hol.2 x (List.mem_of_getElem? hi)
  have hrel' : ∀ i, Rel G3.St w3 (.agg #[vs' i 0, vs' i 1, vs' i 2]) (.agg (cT (el i))) := fun i => by
    rcases Nat.lt_or_ge i l.length with hlt | hge
    · have := hel i hlt
      rw [hlo i 0 hlt, hlo i 1 hlt, hlo i 2 hlt, hel0]
      simp only [List.getElem?_eq_getElem hlt, Option.getD_some]
      exact this
    · have hn : ¬ i < l.length := by omega
      have e0 : el i = .mk 0 0 [] := by rw [hel0]; simp only [List.getElem?_eq_none_iff.2 hge, Option.getD_none]
      rw [e0, hvs']
      simp only [hn, if_false]
      refine .agg _ _ rfl fun j c hj => ?_
      match j, hj with
      | 0, hj => cases hj; exact .int _ _
      | 1, hj => cases hj; exact .int _ _
      | 2, hj => cases hj; exact .sl none 0 3 0 0 [] (by simp) (by simp) (by simp) (by simp) (fun _ _ => undef) (by simp) (by simp) (by simp)
  have hseq := back_stops (FR none) 4 trivial rfl (by omega) G3.St Bs o A l.length cap vs' (by omega) w3 fr3.inv.st hst hcell (fun hp => by
    obtain ⟨b, off, e1, e2, e3⟩ := hrow hp
    exact ⟨b, off, e1, e2, fun i j hi hj => by rw [hlo i j hi]; exact e3 i j hi hj⟩)
  let I : List Nat → World → Prop := fun pre W => ∃ G h, Step G3 st3.h w3 G h W ∧ PH k (nestP k l t pre) h
  let Ax : Nat → Act → World → Prop := fun x a' W => ∃ G st o, Fr 23 G st a' W ∧ Step G3 st3.h w3 G st.h W ∧ PH k o st.h ∧ wpX Try.prog y4 (fun e st => e = .normal ∧ PH k (.mk k 0 [el x, o]) st.h) st
  have hI : OwnFrom w3.heap.size I := fun pre W W' row hi hg hr => by
    obtain ⟨G, h, hs, hp⟩ := hi
    exact ⟨G, h, step_grown hs fr3.inv.st hg hr, hp⟩
  have hAx : ∀ x a', OwnFrom w3.heap.size (fun (_ : Unit) W => Ax x a' W) := fun x a' _ W W' row hi hg hr => by
    obtain ⟨G, st, o, fr, hs, hp, hw⟩ := hi
    exact ⟨G, st, o, fr.reads (reads_grown hg fun r e => (hr r e).2), step_grown hs fr3.inv.st hg hr, hp, hw⟩
  have hd7 : ∀ {G : GS} {h : Nat → Ent} {W : World} {o : T}, Step G3 st3.h w3 G h W → PH k o h → G.hd 7 = G3.hd 7 := fun {G h W o} hs hp => by
    obtain ⟨_, _, cs, e, _⟩ := hp
    obtain ⟨_, _, cs3, e3, _⟩ := hph
    exact (hs.ext.same 7 (by rw [e, e3])).1
  refine wpIn_rangeFunc_ownH (F := FR none) (n := 5) (α := Nat) rfl (by omega) (gf := 119) (lb := #[.pointer (some ⟨Bs, o, none⟩)]) hv13 trivial (Go.Proofs.enters_of Try.func119 (by kernel_rfl) rfl) hseq
    (fun h k => Kp.trans h k) ?_ (Below.refl _ _) (fun _ => rfl) I (fun _ _ _ => False) hI (fun _ _ _ _ _ hs _ _ => hs) ⟨G3, st3.h, .refl fr3.inv, by rw [nestP]; exact hph⟩ Ax hAx ?assign ?body ?done ?stop
  · intro W b ob ob' hb hbe _ _
    refine ⟨by simp [World.putObj], fun c i hi => ?_⟩
    have hlt := fr3.inv.st c (by omega)
    exact World.cell?_of_block (World.putObj_heap_other (by show c ≠ b; omega))
  case assign =>
    rintro r pre x W K ⟨G, h, hs, hp⟩ hK
    have fra : Fr 23 G ⟨upd (upd st3.s 14 (.d (.int .i64 (x : Int)))) 15 (.d (.agg (cT (el x)))), h⟩ { tmps := ((#[14, 15] : Array Tmp).zip #[Value.int .i64 (x : Int), .agg #[vs' x 0, vs' x 1, vs' x 2]]).foldl (fun t (p, v) => t.setIfInBounds p v) a3.tmps, defers := [] } W := by
      have hz : ((#[14, 15] : Array Tmp).zip #[Value.int .i64 (x : Int), .agg #[vs' x 0, vs' x 1, vs' x 2]]) = #[(14, Value.int .i64 (x : Int)), (15, .agg #[vs' x 0, vs' x 1, vs' x 2])] := by simp
      rw [hz]
      refine ⟨hs.inv, fun i => ?_, by simp [fr3.size]⟩
      have hsz := fr3.size
      simp only [List.foldl_toArray', List.foldl_cons, List.foldl_nil, Array.getD_eq_getD_getElem?, Array.getElem?_setIfInBounds, Array.size_setIfInBounds, upd]
      by_cases h15 : i = 15
      · subst h15
        simp only [if_true, hsz]
        exact .d _ _ ((hrel' x).keeps hs.ext.keeps)
      · by_cases h14 : i = 14
        · subst h14
          simp only [if_true, hsz, show ¬ (15 = 14) by omega, if_false, show ¬ (14 = 15) by omega]
          exact .d _ _ (.int _ _)
        · simp only [if_neg h15, if_neg h14, if_neg (Ne.symm h15), if_neg (Ne.symm h14)]
          have := (fr3.slots i).ext hs.ext
          rwa [Array.getD_eq_getD_getElem?] at this
    refine wpIn_mono (code_in (r := some r) (m := 3) hm ag y3 k3 _ _ _ _ _ (nest_round k _ (el x) (hok x) _ h l (by simpa [PS, upd] using hps) rfl hp) fra) ?_
    rintro e a' W' ⟨ex, G', st', rfl, fr', hs', _, rfl, hp', hw'⟩
    exact hK a' W' (hs'.keepsFrom hs.inv _) (hs.kp hs') ⟨G', st'.h, hs.trans hs', hp'⟩ ⟨G', st', _, fr', hs.trans hs', hp', hw'⟩
  case body =>
    rintro r pre x a' W hr _ ⟨G1, h1, hs1', hp1⟩ ⟨G, st, o', fr, hs, hp, hw⟩ _
    have ho : nestP k l t pre = o' := PH_uniq hs1'.inv hs.inv hp1 hp ((hd7 hs1' hp1).trans (hd7 hs hp).symm)
    subst ho
    refine wpIn_mono (code_in (r := some r) (m := 3) hm bd y4 k4 _ _ _ _ _ hw fr) ?_
    rintro e a2 W' ⟨ex, G', st', rfl, fr', hs', _, rfl, hp'⟩
    refine ⟨hs'.keepsFrom fr.inv _, hs.kp hs', ⟨G', st'.h, hs.trans hs', ?_⟩⟩
    simp only [nestP, List.foldl_append, List.foldl_cons, List.foldl_nil]
    rw [hel0] at hp'
    exact hp'
  case done =>
    rintro D xs W hD rfl ⟨G, h, hs, hp⟩ hK
    rw [nestP_all] at hp
    have frd : Fr 23 G ⟨st3.s, h⟩ { a3 with defers := { target := .collected D, args := #[] } :: a3.defers } W := ⟨hs.inv, fun i => (fr3.slots i).ext hs.ext, fr3.size⟩
    refine wpIn_mono (code_in (r := none) hm c3 y5 k5 _ _ _ _ _ (nest_last k _ _ h l hps hp) frd) ?_
    rintro e a' W' ⟨ex, G', st', rfl, fr', hs', hd', hend, vs2, hrv, hds⟩
    have hK' : W'.heap[D]? = some (.deferred (some [])) := (hs'.keepsFrom hs.inv 0).same D _ (Nat.zero_le _) hK rfl
    have hR1 : Reads1 W' (W'.putObj D (.deferred none)) := reads_grown (grownBy_putObj' _ D _) (fun r e => by cases e; exact ⟨_, hK', rfl⟩)
    have hall0 : Step ⟨St, fun _ => ⟨none, 0⟩⟩ none_ w G' st'.h W' := hs03.trans (hs.trans hs')
    have hall1 := step_grown hall0 hst0 (grownBy_putObj' W' D (.deferred none)) fun r e => by
      cases e
      exact ⟨Nat.le_trans hs03.left.size hD, _, hK', rfl⟩
    obtain ⟨us, h1, h2, h3⟩ := results_ok (P := Try.prog) (a := a') hall1.inv (fun i => (fr'.slots i).reads hR1) Try.f55.results.toList _ _ (by kernel_rfl) hrv
    have hfin := args_rel hall1.inv h2 h3 hds
    have hall := hall1.trans (frz_step hall1.inv (vs2.flatMap (sk st'.h deep)))
    have hno : ∀ b k, ¬ Owns (⟨St, fun _ => ⟨none, 0⟩⟩ : GS) k b ((none_ : Nat → Ent) k).body := fun b k h => h
    have hpost : (results Try.f55 a'.tmps).run Try.prog (W'.putObj D (.deferred none)) = .ok (handed us) (W'.putObj D (.deferred none)) := run_results h1
    have hL : LeavesInM (FR none) 5 Try.prog Try.f55 a'.tmps (fun e w' => ∃ St' us, e = .returned (handed us) ∧ RelL St' w' us [.agg (cT (nestT k l t))] ∧ Below w.heap.size w w' ∧ (∀ b, b < w.heap.size → St' b = St b) ∧ (∀ b, 0 < St' b → b < w'.heap.size)) a'.defers .returning W' := by
      rw [hd', hd3']
      refine ⟨by simp, .inl ⟨D, _, rfl, run_takeDeferred hK', handed us, hpost, ?_⟩⟩
      exact ⟨_, us, rfl, hfin, ⟨hall.left.os, hall.left.tape, hall.left.output, hall.left.size, fun b hb' => (hall.left.block b hb' (hno b)).1⟩, fun b hb' => (hall.left.block b hb' (hno b)).2, hall.inv.st⟩
    rcases hend with rfl | rfl
    · exact hL
    · exact hL
  case stop =>
    rintro D c pre W _ _ h _
    exact h.elim
end Ev
end Go.Proofs.Ytnkbhmafebngjaa
