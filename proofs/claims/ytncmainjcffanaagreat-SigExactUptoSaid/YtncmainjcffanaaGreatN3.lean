/- New memory: tele.nest. -/
import Derived.Test.YtncmainjcffanaaGreatN2
namespace Go.Proofs.YtncmainjcffanaaGreat
namespace Ev
open Go
set_option maxRecDepth 100000
set_option linter.unusedSimpArgs false
set_option linter.unusedVariables false
section
attribute [local simp] allD_map_d sks_map_d tk tn tks
/-- What the boxes hold: the kind, the result's place, the term so far: all new. -/
def PHN (k : Int) (o : T) (h : Nat → Ent) : Prop := h 3 = ⟨1, .box [.d (.int .i64 k)] false⟩ ∧ h 6 = ⟨1, .box [.d (.int .i64 0), .d (.int .i64 0), .fsl 3 []] false⟩ ∧
  h 7 = ⟨1, .box [.d (.int .i64 o.kind), .d (.int .i64 o.num), .n true (.sl 3 (o.kids.map eT))] false⟩
theorem nestN_first (nn : Nat) (k : Int) (l : List T) (t : T) (ht : okT t) : @wpX (i1 nn) Tryz.prog y0 (fun e st => e = .normal ∧ @wpX (i1 nn) Tryz.prog y1 (fun e st => e = .normal ∧ @wpX (i1 nn) Tryz.prog y2 (fun e st => e = .normal ∧ PS l st.s ∧ PHN k t st.h) st) st) ⟨initS [.int .i64 k, eTs l, .agg (cT t)], none_⟩ := by
  have h1 := ntwin_ok t ht
  have h2 := back_ok l
  simp only [cT] at h1
  simp only [eTs] at h2
  simp -dsimp [y0, y1, y2, cT, eTs]
  refine callN_of h1 ?_
  simp -dsimp
  refine call_of h2 ?_
  simp -dsimp [PS, PHN, eTs]
theorem nestN_round (nn : Nat) (k : Int) (o a : T) (ha : okT a) (s : Nat → AV) (h : Nat → Ent) (l : List T) (hs : PS l s) (h15 : s 15 = .d (.agg (cT a))) (hh : PHN k o h) :
    @wpX (i1 nn) Tryz.prog y3 (fun e st => e = .normal ∧ PHN k o st.h ∧ @wpX (i1 nn) Tryz.prog y4 (fun e st => e = .normal ∧ PHN k (.mk k 0 [a, o]) st.h) st) ⟨s, h⟩ := by
  obtain ⟨s1, s2, s3, s4⟩ := hs
  obtain ⟨e1, e2, e3⟩ := hh
  have h1 := ntwin_ok a ha
  have h2 := node_ok k [a, o]
  simp only [cT] at h1
  simp only [List.map_cons, List.map_nil, eT_eq, cT] at h2
  simp -dsimp [y3, y4, cT, s1, s2, s3, s4, h15, e1, e2, e3]
  refine ⟨?_, ?_⟩
  · simp [PHN, e1, e2, e3]
  refine callN_of h1 ?_
  simp -dsimp [s1, s2, s3, s4, h15, e1, e2, e3]
  refine callH_of (by simp -dsimp) h2 ?_
  simp -dsimp [s1, s2, s3, s4, h15, e1, e2, e3, PHN, eT_eq, cT]
theorem nestN_last (nn : Nat) (k : Int) (o : T) (s : Nat → AV) (h : Nat → Ent) (l : List T) (hs : PS l s) (hh : PHN k o h) : @wpX (i1 nn) Tryz.prog y5 (@EndsN (i1 nn) [.cell 6 3 true] [.agg (cT o)]) ⟨s, h⟩ := by
  obtain ⟨s1, s2, s3, s4⟩ := hs
  obtain ⟨e1, e2, e3⟩ := hh
  simp -dsimp [y5, cT, s1, s2, s3, s4, e1, e2, e3]
end
section
open Go.RowKit
theorem PHN_uniq [Nw] {k : Int} {o o' : T} {G G' : GS} {h h' : Nat → Ent} {w : World} (i : Inv G h w) (i' : Inv G' h' w) (p : PHN k o h) (p' : PHN k o' h') (hd : G.hd 7 = G'.hd 7) : o = o' := by
  obtain ⟨_, _, e⟩ := p
  obtain ⟨_, _, e'⟩ := p'
  have a := i.ent 7
  have a' := i'.ent 7
  rw [e] at a
  rw [e'] at a'
  obtain ⟨b, arr, el, hA, hh, hs, hr, _⟩ := a
  obtain ⟨b', arr', el', hA', hh', hs', hr', _⟩ := a'
  rw [hd, hA'] at hA
  simp only [Option.some.injEq, Addr.mk.injEq, and_true] at hA
  subst hA
  rw [hh] at hh'
  simp only [Option.some.injEq, Obj.cells.injEq, and_true] at hh'
  obtain ⟨rfl, _⟩ := hh'
  have fin : ∀ {G : GS} {h : Nat → Ent} {o : T}, (∀ (j : Nat) c, [AV.d (.int .i64 o.kind), .d (.int .i64 o.num), .n true (.sl 3 (o.kids.map eT))][j]? = some c → ARel G h w (arr.getD j undef) c ∧ (arr.getD j undef).oneCell' = true) →
      ∀ (j : Nat) c, (cT o)[j]? = some c → Rel G.St w (arr.getD j undef) c := by
    intro G h o hr j c hj
    have hlt := (List.getElem?_eq_some_iff.1 hj).1
    have hl3 : j < 3 := by simpa [cT] using hlt
    match j, hl3, hj with
    | 0, _, hj => cases hj; exact (hr 0 _ rfl).1.d_inv
    | 1, _, hj => cases hj; exact (hr 1 _ rfl).1.d_inv
    | 2, _, hj => cases hj; exact (hr 2 _ rfl).1.nInv
  exact T_uniq o o' _ _ _ w (fin hr) (fin hr')
theorem nnest_of (k : Int) (l : List T) (t : T) (hl : l.length ≤ 1000000000) (ht : okT t) (hol : okTs l) : PureN Tryz.prog 122 [.int .i64 k, eTs l, .agg (cT t)] [.agg (cT (nestT k l t))] := by
  obtain ⟨r0, r1, r2, id1, ag, bd, c3, hb, k0, k1, k2, k3, k4, k5⟩ := nest_parts
  refine ⟨⟨Tryz.f122, Tryz.func122, by decide, by rw [hb]; rfl⟩, fun St w vs hst0 hrel => ?_⟩
  refine (callsIn_wide (n := 5)).1 (callsIn_of_wp_marks (F := FR none) Tryz.func122 hb trivial ?_ rfl)
  have hvl : vs.length = 3 := hrel.1
  letI : Nw := i1 w.heap.size
  have fr : Fr 23 ⟨St, fun _ => ⟨none, 0⟩⟩ ⟨initS [.int .i64 k, eTs l, .agg (cT t)], none_⟩ { tmps := vs.toArray ++ Array.replicate (Tryz.f122.ntmps - vs.toArray.size) undef, defers := [] } w := by
    have hnt : Tryz.f122.ntmps = 23 := Tryz.ntmps122
    refine ⟨⟨hst0, fun k => trivial, fun k k' b h => h.elim, Nat.le_refl _⟩, fun i => ?_, by rw [hnt]; simp; omega⟩
    simp only [initS]
    cases hd : ([.int .i64 k, eTs l, .agg (cT t)] : List D)[i]? with
    | none =>
      have hge := List.getElem?_eq_none_iff.1 hd
      have : (vs.toArray ++ Array.replicate (Tryz.f122.ntmps - vs.toArray.size) undef).getD i undef = undef := by
        rw [Array.getD_eq_getD_getElem?, Array.getElem?_append_right (by simp at hge ⊢; omega), Array.getElem?_replicate]
        split <;> rfl
      rw [this]
      exact .skip
    | some d =>
      have hlt := (List.getElem?_eq_some_iff.1 hd).1
      have : (vs.toArray ++ Array.replicate (Tryz.f122.ntmps - vs.toArray.size) undef).getD i undef = vs.getD i undef := by
        rw [Array.getD_eq_getD_getElem?, Array.getElem?_append_left (by simp at hlt ⊢; omega)]
        simp
      rw [this]
      exact .d _ _ (hrel.2 i d hd)
  obtain ⟨a0, ha0⟩ : ∃ a0 : Act, a0 = { tmps := vs.toArray ++ Array.replicate (Tryz.f122.ntmps - vs.toArray.size) undef, defers := [] } := ⟨_, rfl⟩
  rw [← ha0] at fr ⊢
  have hd0 : a0.defers = [] := by rw [ha0]
  refine wpIn_seq (wpIn_mono (code_in (r := none) hm r0 y0 k0 _ _ _ _ _ (nestN_first w.heap.size k l t ht) fr) ?_)
  rintro e a1 w1 ⟨ex, G1, st1, rfl, fr1, hs1, hd1, rfl, hw1⟩
  refine wpIn_seq (wpIn_mono (code_in (r := none) hm r1 y1 k1 _ _ _ _ _ hw1 fr1) ?_)
  rintro e a2 w2 ⟨ex, G2, st2, rfl, fr2, hs2, hd2, rfl, hw2⟩
  refine wpIn_seq (wpIn_seq (wpIn_mono (code_in (r := none) hm r2 y2 k2 _ _ _ _ _ hw2 fr2) ?_))
  rintro e a3 w3 ⟨ex, G3, st3, rfl, fr3, hs3, hd3, rfl, hps, hph⟩
  have hs03 : Step ⟨St, fun _ => ⟨none, 0⟩⟩ none_ w G3 st3.h w3 := (hs1.trans hs2).trans hs3
  have hd3' : a3.defers = [] := by rw [hd3, hd2, hd1, hd0]
  refine wpIn_block ?_
  -- the iterator
  have hclo := fr3.slots 13
  rw [hps.2.2.2] at hclo
  obtain ⟨Bs, o, A, cap, vs0, hv13, hst, hcell, hrow, hel⟩ := clo_inv hclo.d_inv
  -- elements beyond the last: none
  obtain ⟨vs', hvs'⟩ : ∃ vs' : Nat → Nat → Value, vs' = fun i j => if i < l.length then vs0 i j else (if j < 2 then .int .i64 0 else .slice none 0 0) := ⟨_, rfl⟩
  have hlo : ∀ i j, i < l.length → vs' i j = vs0 i j := fun i j h => by rw [hvs']; simp only [h, if_true]
  obtain ⟨el, hel0⟩ : ∃ el : Nat → T, el = fun i => (l[i]?).getD (.mk 0 0 []) := ⟨_, rfl⟩
  have hok : ∀ i, okT (el i) := fun i => by
    rw [hel0]
    cases hi : l[i]? with
    | none => simp only [hi, Option.getD_none]; exact okT_leaf (k := 0) (n := 0) (by omega) (by omega)
    | some x => simp only [hi, Option.getD_some]; exact hol.2 x (List.mem_of_getElem? hi)
  have hrel' : ∀ i, Rel G3.St w3 (.agg #[vs' i 0, vs' i 1, vs' i 2]) (.agg (cT (el i))) := fun i => by
    rcases Nat.lt_or_ge i l.length with hlt | hge
    · have := hel i hlt
      rw [hlo i 0 hlt, hlo i 1 hlt, hlo i 2 hlt, hel0]
      simp only [List.getElem?_eq_getElem hlt, Option.getD_some]
      exact this
    · have hn : ¬ i < l.length := by omega
      have e0 : el i = .mk 0 0 [] := by rw [hel0]; simp only [List.getElem?_eq_none_iff.2 hge, Option.getD_none]
      rw [e0, hvs']
      simp only [hn, if_false]
      refine .agg _ _ rfl fun j c hj => ?_
      match j, hj with
      | 0, hj => cases hj; exact .int _ _
      | 1, hj => cases hj; exact .int _ _
      | 2, hj => cases hj; exact .sl none 0 3 0 0 [] (by simp) (by simp) (by simp) (by simp) (fun _ _ => undef) (by simp) (by simp) (by simp)
  have hseq := back_stops (FR none) 4 trivial rfl (by omega) G3.St Bs o A l.length cap vs' (by omega) w3 fr3.inv.st hst hcell (fun hp => by
    obtain ⟨b, off, e1, e2, e3⟩ := hrow hp
    exact ⟨b, off, e1, e2, fun i j hi hj => by rw [hlo i j hi]; exact e3 i j hi hj⟩)
  let I : List Nat → World → Prop := fun pre W => ∃ G h, Step G3 st3.h w3 G h W ∧ PHN k (nestP k l t pre) h
  let Ax : Nat → Act → World → Prop := fun x a' W => ∃ G st o, Fr 23 G st a' W ∧ Step G3 st3.h w3 G st.h W ∧ PHN k o st.h ∧ @wpX (i1 w.heap.size) Tryz.prog y4 (fun e st => e = .normal ∧ PHN k (.mk k 0 [el x, o]) st.h) st
  have hI : OwnFrom w3.heap.size I := fun pre W W' row hi hg hr => by
    obtain ⟨G, h, hs, hp⟩ := hi
    exact ⟨G, h, step_grown hs fr3.inv.st hg hr, hp⟩
  have hAx : ∀ x a', OwnFrom w3.heap.size (fun (_ : Unit) W => Ax x a' W) := fun x a' _ W W' row hi hg hr => by
    obtain ⟨G, st, o, fr, hs, hp, hw⟩ := hi
    exact ⟨G, st, o, fr.reads (reads_grown hg fun r e => (hr r e).2), step_grown hs fr3.inv.st hg hr, hp, hw⟩
  have hd7 : ∀ {G : GS} {h : Nat → Ent} {W : World} {o : T}, Step G3 st3.h w3 G h W → PHN k o h → G.hd 7 = G3.hd 7 := fun {G h W o} hs hp => by
    obtain ⟨_, _, e⟩ := hp
    obtain ⟨_, _, e3⟩ := hph
    exact (hs.ext.same 7 (by rw [e, e3])).1
  refine wpIn_rangeFunc_ownH (F := FR none) (n := 5) (α := Nat) rfl (by omega) (gf := 201) (lb := #[.pointer (some ⟨Bs, o, none⟩)]) hv13 trivial (Go.Proofs.enters_of Tryz.func201 (by kernel_rfl) rfl) hseq
    (fun h k => Kp.trans h k) ?_ (Below.refl _ _) (fun _ => rfl) I (fun _ _ _ => False) hI (fun _ _ _ _ _ hs _ _ => hs) ⟨G3, st3.h, .refl fr3.inv, by rw [nestP]; exact hph⟩ Ax hAx ?assign ?body ?done ?stop
  · intro W b ob ob' hb hbe _ _
    refine ⟨by simp [World.putObj], fun c i hi => ?_⟩
    have hlt := fr3.inv.st c (by omega)
    exact World.cell?_of_block (World.putObj_heap_other (by show c ≠ b; omega))
  case assign =>
    rintro r pre x W K ⟨G, h, hs, hp⟩ hK
    have fra : Fr 23 G ⟨upd (upd st3.s 14 (.d (.int .i64 (x : Int)))) 15 (.d (.agg (cT (el x)))), h⟩ { tmps := ((#[14, 15] : Array Tmp).zip #[Value.int .i64 (x : Int), .agg #[vs' x 0, vs' x 1, vs' x 2]]).foldl (fun t (p, v) => t.setIfInBounds p v) a3.tmps, defers := [] } W := by
      have hz : ((#[14, 15] : Array Tmp).zip #[Value.int .i64 (x : Int), .agg #[vs' x 0, vs' x 1, vs' x 2]]) = #[(14, Value.int .i64 (x : Int)), (15, .agg #[vs' x 0, vs' x 1, vs' x 2])] := by simp
      rw [hz]
      refine ⟨hs.inv, fun i => ?_, by simp [fr3.size]⟩
      have hsz := fr3.size
      simp only [List.foldl_toArray', List.foldl_cons, List.foldl_nil, Array.getD_eq_getD_getElem?, Array.getElem?_setIfInBounds, Array.size_setIfInBounds, upd]
      by_cases h15 : i = 15
      · subst h15
        simp only [if_true, hsz]
        exact .d _ _ ((hrel' x).keeps hs.ext.keeps)
      · by_cases h14 : i = 14
        · subst h14
          simp only [if_true, hsz, show ¬ (15 = 14) by omega, if_false, show ¬ (14 = 15) by omega]
          exact .d _ _ (.int _ _)
        · simp only [if_neg h15, if_neg h14, if_neg (Ne.symm h15), if_neg (Ne.symm h14)]
          have := (fr3.slots i).ext hs.ext
          rwa [Array.getD_eq_getD_getElem?] at this
    refine wpIn_mono (code_in (r := some r) (m := 3) hm ag y3 k3 _ _ _ _ _ (nestN_round w.heap.size k _ (el x) (hok x) _ h l (by simpa [PS, upd] using hps) rfl hp) fra) ?_
    rintro e a' W' ⟨ex, G', st', rfl, fr', hs', _, rfl, hp', hw'⟩
    exact hK a' W' (hs'.keepsFrom hs.inv _) (hs.kp hs') ⟨G', st'.h, hs.trans hs', hp'⟩ ⟨G', st', _, fr', hs.trans hs', hp', hw'⟩
  case body =>
    rintro r pre x a' W hr _ ⟨G1, h1, hs1', hp1⟩ ⟨G, st, o', fr, hs, hp, hw⟩ _
    have ho : nestP k l t pre = o' := PHN_uniq hs1'.inv hs.inv hp1 hp ((hd7 hs1' hp1).trans (hd7 hs hp).symm)
    subst ho
    refine wpIn_mono (code_in (r := some r) (m := 3) hm bd y4 k4 _ _ _ _ _ hw fr) ?_
    rintro e a2 W' ⟨ex, G', st', rfl, fr', hs', _, rfl, hp'⟩
    refine ⟨hs'.keepsFrom fr.inv _, hs.kp hs', ⟨G', st'.h, hs.trans hs', ?_⟩⟩
    simp only [nestP, List.foldl_append, List.foldl_cons, List.foldl_nil]
    rw [hel0] at hp'
    exact hp'
  case done =>
    rintro D xs W hD rfl ⟨G, h, hs, hp⟩ hK
    rw [nestP_all] at hp
    have frd : Fr 23 G ⟨st3.s, h⟩ { a3 with defers := { target := .collected D, args := #[] } :: a3.defers } W := ⟨hs.inv, fun i => (fr3.slots i).ext hs.ext, fr3.size⟩
    refine wpIn_mono (code_in (r := none) hm c3 y5 k5 _ _ _ _ _ (nestN_last w.heap.size k _ _ h l hps hp) frd) ?_
    rintro e a' W' ⟨ex, G', st', rfl, fr', hs', hd', hend, vs2, hrv, hds, hhi⟩
    have hK' : W'.heap[D]? = some (.deferred (some [])) := (hs'.keepsFrom hs.inv 0).same D _ (Nat.zero_le _) hK rfl
    have hR1 : Reads1 W' (W'.putObj D (.deferred none)) := reads_grown (grownBy_putObj' _ D _) (fun r e => by cases e; exact ⟨_, hK', rfl⟩)
    have hall0 : Step ⟨St, fun _ => ⟨none, 0⟩⟩ none_ w G' st'.h W' := hs03.trans (hs.trans hs')
    have hall1 := step_grown hall0 hst0 (grownBy_putObj' W' D (.deferred none)) fun r e => by
      cases e
      exact ⟨Nat.le_trans hs03.left.size hD, _, hK', rfl⟩
    obtain ⟨us, h1, h2, h3⟩ := results_ok (P := Tryz.prog) (a := a') hall1.inv (fun i => (fr'.slots i).reads hR1) Tryz.f122.results.toList _ _ (by kernel_rfl) hrv
    have hown : ∀ k b, Owns G' k b (st'.h k).body → Nw.n ≤ b := fun k b ho => by
      rcases hall1.grow k b ho with ⟨k', ho'⟩ | hge
      · exact ho'.elim
      · exact hge
    have hfin : RelL (cutS true w.heap.size (frzSt G' st'.h (W'.putObj D (.deferred none)) (vs2.flatMap (sk st'.h deep)))) (W'.putObj D (.deferred none)) us [.agg (cT (nestT k l t))] := by
      obtain ⟨q1, q2⟩ := allD_some hds
      refine ⟨by omega, fun j d hj => ?_⟩
      have hlt : j < vs2.length := by have := (List.getElem?_eq_some_iff.1 hj).1; omega
      obtain ⟨d', hd', ht⟩ := q2 j _ (List.getElem?_eq_getElem hlt)
      rw [hd'] at hj
      cases hj
      exact hiV_rel hall1.inv hown _ (h3 j _ (List.getElem?_eq_getElem hlt)) (hhi _ (List.getElem_mem hlt)) ht fun k hk => List.mem_flatMap.2 ⟨_, List.getElem_mem hlt, hk⟩
    have hall := hall1.trans (frz_step hall1.inv (vs2.flatMap (sk st'.h deep)))
    have hno : ∀ b k, ¬ Owns (⟨St, fun _ => ⟨none, 0⟩⟩ : GS) k b ((none_ : Nat → Ent) k).body := fun b k h => h
    have hpost : (results Tryz.f122 a'.tmps).run Tryz.prog (W'.putObj D (.deferred none)) = .ok (handed us) (W'.putObj D (.deferred none)) := run_results h1
    have hL : LeavesInM (FR none) 5 Tryz.prog Tryz.f122 a'.tmps (fun e w' => ∃ St' us, e = .returned (handed us) ∧ RelL (cutS true w.heap.size St') w' us [.agg (cT (nestT k l t))] ∧ Below w.heap.size w w' ∧ (∀ b, b < w.heap.size → St' b = St b) ∧ (∀ b, 0 < St' b → b < w'.heap.size) ∧ (∀ b, w.heap.size ≤ b → 0 < St' b → FreeB w' b)) a'.defers .returning W' := by
      rw [hd', hd3']
      refine ⟨by simp, .inl ⟨D, _, rfl, run_takeDeferred hK', handed us, hpost, ?_⟩⟩
      exact ⟨_, us, rfl, hfin, ⟨hall.left.os, hall.left.tape, hall.left.output, hall.left.size, fun b hb' => (hall.left.block b hb' (hno b)).1⟩, fun b hb' => (hall.left.block b hb' (hno b)).2, hall.inv.st, fun b hb' h0 => hall.fresh b (Nat.eq_zero_of_not_pos fun hp => by have := hst0 b hp; omega) h0⟩
    rcases hend with rfl | rfl
    · exact hL
    · exact hL
  case stop =>
    rintro D c pre W _ _ h _
    exact h.elim
end
theorem nnest_ok (k : Int) (l : List T) (t : T) (hl : l.length ≤ 1000000000) (ht : okT t) (hol : okTs l) : PureN Tryz.prog n_tele_nest [.int .i64 k, eTs l, .agg (cT t)] [.agg (cT (nestT k l t))] := nnest_of k l t hl ht hol
attribute [local simp] allD_map_d sks_map_d tk tn tks
theorem npis_ok (l : List T) (t : T) (hl : l.length ≤ 1000000000) (ht : okT t) (hol : okTs l) : PureN Tryz.prog n_tele_Pis [eTs l, .agg (cT t)] [.agg (cT (nestT 4 l t))] := by
  refine new_small false hm Tryz.func54 c_tele_Pis rfl fun hs n => ?_
  have h := nnest_ok 4 l t hl ht hol
  simp only [cT, eTs] at h
  simp -dsimp [x_tele_Pis, cT, eTs]
  refine callN_of h ?_
  simp -dsimp [cT]
theorem nlams_ok (l : List T) (t : T) (hl : l.length ≤ 1000000000) (ht : okT t) (hol : okTs l) : PureN Tryz.prog n_tele_Lams [eTs l, .agg (cT t)] [.agg (cT (nestT 5 l t))] := by
  refine new_small false hm Tryz.func188 c_tele_Lams rfl fun hs n => ?_
  have h := nnest_ok 5 l t hl ht hol
  simp only [cT, eTs] at h
  simp -dsimp [x_tele_Lams, cT, eTs]
  refine callN_of h ?_
  simp -dsimp [cT]
end Ev
end Go.Proofs.YtncmainjcffanaaGreat
