/- Texts of this claim, in one. -/
import Derived.Test.YtncmainjcffanaaGreatMa
import Derived.Test.YtncmainjcffanaaGreatXd
import Derived.Test.YtncmainjcffanaaGreatXe
set_option maxRecDepth 100000
set_option linter.unusedSimpArgs false
set_option linter.unusedVariables false
namespace Go.Proofs.YtncmainjcffanaaGreat
namespace Ev
open Go
section
section
attribute [local simp] zac zag tk tn tks
def PHN (k : Int) (o : T) (h : Nat → Ent) : Prop := h 3 = ⟨1, .box [.d (.int .i64 k)] false⟩ ∧ h 6 = ⟨1, .box [.d (.int .i64 0), .d (.int .i64 0), .fsl 3 []] false⟩ ∧
  h 7 = ⟨1, .box [.d (.int .i64 o.kind), .d (.int .i64 o.num), .n true (.sl 3 (o.kids.map eT))] false⟩
theorem zFj (nn : Nat) (k : Int) (l : List T) (t : T) (ht : okT t) : @wpX (i1 nn) Tryz.prog y0 (fun e st => e = .normal ∧ @wpX (i1 nn) Tryz.prog y1 (fun e st => e = .normal ∧ @wpX (i1 nn) Tryz.prog y2 (fun e st => e = .normal ∧ PS l st.s ∧ PHN k t st.h) st) st) ⟨zkl [.int .i64 k, eTs l, .agg (cT t)], za2⟩ := by
  have h1 := zw0 t ht
  have h2 := zI2 l
  simp only [cT] at h1
  simp only [eTs] at h2
  simp -dsimp [y0, y1, y2, cT, eTs]
  refine zfc h1 ?_
  simp -dsimp
  refine zaa h2 ?_
  simp -dsimp [PS, PHN, eTs]
theorem zEn (nn : Nat) (k : Int) (o a : T) (ha : okT a) (s : Nat → AV) (h : Nat → Ent) (l : List T) (hs : PS l s) (h15 : s 15 = .d (.agg (cT a))) (hh : PHN k o h) :
    @wpX (i1 nn) Tryz.prog y3 (fun e st => e = .normal ∧ PHN k o st.h ∧ @wpX (i1 nn) Tryz.prog y4 (fun e st => e = .normal ∧ PHN k (.mk k 0 [a, o]) st.h) st) ⟨s, h⟩ := by
  obtain ⟨s1, s2, s3, s4⟩ := hs
  obtain ⟨e1, e2, e3⟩ := hh
  have h1 := zw0 a ha
  have h2 := zt7 k [a, o]
  simp only [cT] at h1
  simp only [List.map_cons, List.map_nil, zbq, cT] at h2
  simp -dsimp [y3, y4, cT, s1, s2, s3, s4, h15, e1, e2, e3]
  refine ⟨?_, ?_⟩
  · simp [PHN, e1, e2, e3]
  refine zfc h1 ?_
  simp -dsimp [s1, s2, s3, s4, h15, e1, e2, e3]
  refine zwr (by simp -dsimp) h2 ?_
  simp -dsimp [s1, s2, s3, s4, h15, e1, e2, e3, PHN, zbq, cT]
theorem zHq (nn : Nat) (k : Int) (o : T) (s : Nat → AV) (h : Nat → Ent) (l : List T) (hs : PS l s) (hh : PHN k o h) : @wpX (i1 nn) Tryz.prog y5 (@zMv (i1 nn) [.cell 6 3 true] [.agg (cT o)]) ⟨s, h⟩ := by
  obtain ⟨s1, s2, s3, s4⟩ := hs
  obtain ⟨e1, e2, e3⟩ := hh
  simp -dsimp [y5, cT, s1, s2, s3, s4, e1, e2, e3]
end
section
open Go.RowKit
theorem zL6 [Nw] {k : Int} {o o' : T} {G G' : GS} {h h' : Nat → Ent} {w : World} (i : Inv G h w) (i' : Inv G' h' w) (p : PHN k o h) (p' : PHN k o' h') (hd : G.hd 7 = G'.hd 7) : o = o' := by
  obtain ⟨_, _, e⟩ := p
  obtain ⟨_, _, e'⟩ := p'
  have a := i.ent 7
  have a' := i'.ent 7
  rw [e] at a
  rw [e'] at a'
  obtain ⟨b, arr, el, hA, hh, hs, hr, _⟩ := a
  obtain ⟨b', arr', el', hA', hh', hs', hr', _⟩ := a'
  rw [hd, hA'] at hA
  simp only [Option.some.injEq, Addr.mk.injEq, and_true] at hA
  subst hA
  rw [hh] at hh'
  simp only [Option.some.injEq, Obj.cells.injEq, and_true] at hh'
  obtain ⟨rfl, _⟩ := hh'
  have fin : ∀ {G : GS} {h : Nat → Ent} {o : T}, (∀ (j : Nat) c, [AV.d (.int .i64 o.kind), .d (.int .i64 o.num), .n true (.sl 3 (o.kids.map eT))][j]? = some c → ARel G h w (arr.getD j undef) c ∧ (arr.getD j undef).oneCell' = true) →
      ∀ (j : Nat) c, (cT o)[j]? = some c → Rel G.St w (arr.getD j undef) c := by
    intro G h o hr j c hj
    have hlt := (List.getElem?_eq_some_iff.1 hj).1
    have hl3 : j < 3 := by simpa [cT] using hlt
    match j, hl3, hj with
    | 0, _, hj => cases hj; exact (hr 0 _ rfl).1.d_inv
    | 1, _, hj => cases hj; exact (hr 1 _ rfl).1.d_inv
    | 2, _, hj => cases hj; exact (hr 2 _ rfl).1.nInv
  exact zOu o o' _ _ _ w (fin hr) (fin hr')
theorem zMr (k : Int) (l : List T) (t : T) (hl : l.length ≤ 1000000000) (ht : okT t) (hol : okTs l) : zoc Tryz.prog 122 [.int .i64 k, eTs l, .agg (cT t)] [.agg (cT (zcm k l t))] := by
  obtain ⟨r0, r1, r2, id1, ag, bd, c3, hb, k0, k1, k2, k3, k4, k5⟩ := zzg
  refine ⟨⟨Tryz.f122, Tryz.func122, by decide, by rw [hb]; rfl⟩, fun St w vs hst0 hrel => ?_⟩
  refine (callsIn_wide (n := 5)).1 (callsIn_of_wp_marks (F := FR none) Tryz.func122 hb trivial ?_ rfl)
  have hvl : vs.length = 3 := hrel.1
  letI : Nw := i1 w.heap.size
  have fr : Fr 23 ⟨St, fun _ => ⟨none, 0⟩⟩ ⟨zkl [.int .i64 k, eTs l, .agg (cT t)], za2⟩ { tmps := vs.toArray ++ Array.replicate (Tryz.f122.ntmps - vs.toArray.size) undef, defers := [] } w := by
    have hnt : Tryz.f122.ntmps = 23 := Tryz.ntmps122
    refine ⟨⟨hst0, fun k => trivial, fun k k' b h => h.elim, Nat.le_refl _⟩, fun i => ?_, by rw [hnt]; simp; omega⟩
    simp only [zkl]
    cases hd : ([.int .i64 k, eTs l, .agg (cT t)] : List D)[i]? with
    | none =>
      have hge := List.getElem?_eq_none_iff.1 hd
      have : (vs.toArray ++ Array.replicate (Tryz.f122.ntmps - vs.toArray.size) undef).getD i undef = undef := by
        rw [Array.getD_eq_getD_getElem?, Array.getElem?_append_right (by simp at hge ⊢; omega), Array.getElem?_replicate]
        split <;> rfl
      rw [this]
      exact .skip
    | some d =>
      have hlt := (List.getElem?_eq_some_iff.1 hd).1
      have : (vs.toArray ++ Array.replicate (Tryz.f122.ntmps - vs.toArray.size) undef).getD i undef = vs.getD i undef := by
        rw [Array.getD_eq_getD_getElem?, Array.getElem?_append_left (by simp at hlt ⊢; omega)]
        simp
      rw [this]
      exact .d _ _ (hrel.2 i d hd)
  obtain ⟨a0, ha0⟩ : ∃ a0 : Act, a0 = { tmps := vs.toArray ++ Array.replicate (Tryz.f122.ntmps - vs.toArray.size) undef, defers := [] } := ⟨_, rfl⟩
  rw [← ha0] at fr ⊢
  have hd0 : a0.defers = [] := by rw [ha0]
  refine wpIn_seq (wpIn_mono (ze8 (r := none) hm r0 y0 k0 _ _ _ _ _ (zFj w.heap.size k l t ht) fr) ?_)
  rintro e a1 w1 ⟨ex, G1, st1, rfl, fr1, hs1, hd1, rfl, hw1⟩
  refine wpIn_seq (wpIn_mono (ze8 (r := none) hm r1 y1 k1 _ _ _ _ _ hw1 fr1) ?_)
  rintro e a2 w2 ⟨ex, G2, st2, rfl, fr2, hs2, hd2, rfl, hw2⟩
  refine wpIn_seq (wpIn_seq (wpIn_mono (ze8 (r := none) hm r2 y2 k2 _ _ _ _ _ hw2 fr2) ?_))
  rintro e a3 w3 ⟨ex, G3, st3, rfl, fr3, hs3, hd3, rfl, hps, hph⟩
  have hs03 : Step ⟨St, fun _ => ⟨none, 0⟩⟩ za2 w G3 st3.h w3 := (hs1.trans hs2).trans hs3
  have hd3' : a3.defers = [] := by rw [hd3, hd2, hd1, hd0]
  refine wpIn_block ?_
  have hclo := fr3.slots 13
  rw [hps.2.2.2] at hclo
  obtain ⟨Bs, o, A, cap, vs0, hv13, hst, hcell, hrow, hel⟩ := zLc hclo.d_inv
  obtain ⟨vs', hvs'⟩ : ∃ vs' : Nat → Nat → Value, vs' = fun i j => if i < l.length then vs0 i j else (if j < 2 then .int .i64 0 else .slice none 0 0) := ⟨_, rfl⟩
  have hlo : ∀ i j, i < l.length → vs' i j = vs0 i j := fun i j h => by rw [hvs']; simp only [h, if_true]
  obtain ⟨el, hel0⟩ : ∃ el : Nat → T, el = fun i => (l[i]?).getD (.mk 0 0 []) := ⟨_, rfl⟩
  have hok : ∀ i, okT (el i) := fun i => by
    rw [hel0]
    cases hi : l[i]? with
    | none => simp only [hi, Option.getD_none]; exact zkf (k := 0) (n := 0) (by omega) (by omega)
    | some x => simp only [hi, Option.getD_some]; exact hol.2 x (List.mem_of_getElem? hi)
  have hrel' : ∀ i, Rel G3.St w3 (.agg #[vs' i 0, vs' i 1, vs' i 2]) (.agg (cT (el i))) := fun i => by
    rcases Nat.lt_or_ge i l.length with hlt | hge
    · have := hel i hlt
      rw [hlo i 0 hlt, hlo i 1 hlt, hlo i 2 hlt, hel0]
      simp only [List.getElem?_eq_getElem hlt, Option.getD_some]
      exact this
    · have hn : ¬ i < l.length := by omega
      have e0 : el i = .mk 0 0 [] := by rw [hel0]; simp only [List.getElem?_eq_none_iff.2 hge, Option.getD_none]
      rw [e0, hvs']
      simp only [hn, if_false]
      refine .agg _ _ rfl fun j c hj => ?_
      match j, hj with
      | 0, hj => cases hj; exact .int _ _
      | 1, hj => cases hj; exact .int _ _
      | 2, hj => cases hj; exact .sl none 0 3 0 0 [] (by simp) (by simp) (by simp) (by simp) (fun _ _ => undef) (by simp) (by simp) (by simp)
  have hseq := zzt (FR none) 4 trivial rfl (by omega) G3.St Bs o A l.length cap vs' (by omega) w3 fr3.inv.st hst hcell (fun hp => by
    obtain ⟨b, off, e1, e2, e3⟩ := hrow hp
    exact ⟨b, off, e1, e2, fun i j hi hj => by rw [hlo i j hi]; exact e3 i j hi hj⟩)
  let I : List Nat → World → Prop := fun pre W => ∃ G h, Step G3 st3.h w3 G h W ∧ PHN k (zy0 k l t pre) h
  let Ax : Nat → Act → World → Prop := fun x a' W => ∃ G st o, Fr 23 G st a' W ∧ Step G3 st3.h w3 G st.h W ∧ PHN k o st.h ∧ @wpX (i1 w.heap.size) Tryz.prog y4 (fun e st => e = .normal ∧ PHN k (.mk k 0 [el x, o]) st.h) st
  have hI : OwnFrom w3.heap.size I := fun pre W W' row hi hg hr => by
    obtain ⟨G, h, hs, hp⟩ := hi
    exact ⟨G, h, zkn hs fr3.inv.st hg hr, hp⟩
  have hAx : ∀ x a', OwnFrom w3.heap.size (fun (_ : Unit) W => Ax x a' W) := fun x a' _ W W' row hi hg hr => by
    obtain ⟨G, st, o, fr, hs, hp, hw⟩ := hi
    exact ⟨G, st, o, fr.reads (zlh hg fun r e => (hr r e).2), zkn hs fr3.inv.st hg hr, hp, hw⟩
  have hd7 : ∀ {G : GS} {h : Nat → Ent} {W : World} {o : T}, Step G3 st3.h w3 G h W → PHN k o h → G.hd 7 = G3.hd 7 := fun {G h W o} hs hp => by
    obtain ⟨_, _, e⟩ := hp
    obtain ⟨_, _, e3⟩ := hph
    exact (hs.ext.same 7 (by rw [e, e3])).1
  refine wpIn_rangeFunc_ownH (F := FR none) (n := 5) (α := Nat) rfl (by omega) (gf := 201) (lb := #[.pointer (some ⟨Bs, o, none⟩)]) hv13 trivial (Go.Proofs.enters_of Tryz.func201 (by kernel_rfl) rfl) hseq
    (fun h k => Kp.trans h k) ?_ (Below.refl _ _) (fun _ => rfl) I (fun _ _ _ => False) hI (fun _ _ _ _ _ hs _ _ => hs) ⟨G3, st3.h, .refl fr3.inv, by rw [zy0]; exact hph⟩ Ax hAx ?assign ?body ?done ?stop
  · intro W b ob ob' hb hbe _ _
    refine ⟨by simp [World.putObj], fun c i hi => ?_⟩
    have hlt := fr3.inv.st c (by omega)
    exact World.cell?_of_block (World.putObj_heap_other (by show c ≠ b; omega))
  case assign =>
    rintro r pre x W K ⟨G, h, hs, hp⟩ hK
    have fra : Fr 23 G ⟨upd (upd st3.s 14 (.d (.int .i64 (x : Int)))) 15 (.d (.agg (cT (el x)))), h⟩ { tmps := ((#[14, 15] : Array Tmp).zip #[Value.int .i64 (x : Int), .agg #[vs' x 0, vs' x 1, vs' x 2]]).foldl (fun t (p, v) => t.setIfInBounds p v) a3.tmps, defers := [] } W := by
      have hz : ((#[14, 15] : Array Tmp).zip #[Value.int .i64 (x : Int), .agg #[vs' x 0, vs' x 1, vs' x 2]]) = #[(14, Value.int .i64 (x : Int)), (15, .agg #[vs' x 0, vs' x 1, vs' x 2])] := by simp
      rw [hz]
      refine ⟨hs.inv, fun i => ?_, by simp [fr3.size]⟩
      have hsz := fr3.size
      simp only [List.foldl_toArray', List.foldl_cons, List.foldl_nil, Array.getD_eq_getD_getElem?, Array.getElem?_setIfInBounds, Array.size_setIfInBounds, upd]
      by_cases h15 : i = 15
      · subst h15
        simp only [if_true, hsz]
        exact .d _ _ ((hrel' x).keeps hs.ext.keeps)
      · by_cases h14 : i = 14
        · subst h14
          simp only [if_true, hsz, show ¬ (15 = 14) by omega, if_false, show ¬ (14 = 15) by omega]
          exact .d _ _ (.int _ _)
        · simp only [if_neg h15, if_neg h14, if_neg (Ne.symm h15), if_neg (Ne.symm h14)]
          have := (fr3.slots i).ext hs.ext
          rwa [Array.getD_eq_getD_getElem?] at this
    refine wpIn_mono (ze8 (r := some r) (m := 3) hm ag y3 k3 _ _ _ _ _ (zEn w.heap.size k _ (el x) (hok x) _ h l (by simpa [PS, upd] using hps) rfl hp) fra) ?_
    rintro e a' W' ⟨ex, G', st', rfl, fr', hs', _, rfl, hp', hw'⟩
    exact hK a' W' (hs'.keepsFrom hs.inv _) (hs.kp hs') ⟨G', st'.h, hs.trans hs', hp'⟩ ⟨G', st', _, fr', hs.trans hs', hp', hw'⟩
  case body =>
    rintro r pre x a' W hr _ ⟨G1, h1, hs1', hp1⟩ ⟨G, st, o', fr, hs, hp, hw⟩ _
    have ho : zy0 k l t pre = o' := zL6 hs1'.inv hs.inv hp1 hp ((hd7 hs1' hp1).trans (hd7 hs hp).symm)
    subst ho
    refine wpIn_mono (ze8 (r := some r) (m := 3) hm bd y4 k4 _ _ _ _ _ hw fr) ?_
    rintro e a2 W' ⟨ex, G', st', rfl, fr', hs', _, rfl, hp'⟩
    refine ⟨hs'.keepsFrom fr.inv _, hs.kp hs', ⟨G', st'.h, hs.trans hs', ?_⟩⟩
    simp only [zy0, List.foldl_append, List.foldl_cons, List.foldl_nil]
    rw [hel0] at hp'
    exact hp'
  case done =>
    rintro D xs W hD rfl ⟨G, h, hs, hp⟩ hK
    rw [zCj] at hp
    have frd : Fr 23 G ⟨st3.s, h⟩ { a3 with defers := { target := .collected D, args := #[] } :: a3.defers } W := ⟨hs.inv, fun i => (fr3.slots i).ext hs.ext, fr3.size⟩
    refine wpIn_mono (ze8 (r := none) hm c3 y5 k5 _ _ _ _ _ (zHq w.heap.size k _ _ h l hps hp) frd) ?_
    rintro e a' W' ⟨ex, G', st', rfl, fr', hs', hd', hend, vs2, hrv, hds, hhi⟩
    have hK' : W'.heap[D]? = some (.deferred (some [])) := (hs'.keepsFrom hs.inv 0).same D _ (Nat.zero_le _) hK rfl
    have hR1 : zqv W' (W'.putObj D (.deferred none)) := zlh (grownBy_putObj' _ D _) (fun r e => by cases e; exact ⟨_, hK', rfl⟩)
    have hall0 : Step ⟨St, fun _ => ⟨none, 0⟩⟩ za2 w G' st'.h W' := hs03.trans (hs.trans hs')
    have hall1 := zkn hall0 hst0 (grownBy_putObj' W' D (.deferred none)) fun r e => by
      cases e
      exact ⟨Nat.le_trans hs03.left.size hD, _, hK', rfl⟩
    obtain ⟨us, h1, h2, h3⟩ := zgc (P := Tryz.prog) (a := a') hall1.inv (fun i => (fr'.slots i).reads hR1) Tryz.f122.results.toList _ _ (by kernel_rfl) hrv
    have hown : ∀ k b, Owns G' k b (st'.h k).body → Nw.n ≤ b := fun k b ho => by
      rcases hall1.grow k b ho with ⟨k', ho'⟩ | hge
      · exact ho'.elim
      · exact hge
    have hfin : RelL (cutS true w.heap.size (zdi G' st'.h (W'.putObj D (.deferred none)) (vs2.flatMap (sk st'.h deep)))) (W'.putObj D (.deferred none)) us [.agg (cT (zcm k l t))] := by
      obtain ⟨q1, q2⟩ := zfx hds
      refine ⟨by omega, fun j d hj => ?_⟩
      have hlt : j < vs2.length := by have := (List.getElem?_eq_some_iff.1 hj).1; omega
      obtain ⟨d', hd', ht⟩ := q2 j _ (List.getElem?_eq_getElem hlt)
      rw [hd'] at hj
      cases hj
      exact zJv hall1.inv hown _ (h3 j _ (List.getElem?_eq_getElem hlt)) (hhi _ (List.getElem_mem hlt)) ht fun k hk => List.mem_flatMap.2 ⟨_, List.getElem_mem hlt, hk⟩
    have hall := hall1.trans (zb0 hall1.inv (vs2.flatMap (sk st'.h deep)))
    have hno : ∀ b k, ¬ Owns (⟨St, fun _ => ⟨none, 0⟩⟩ : GS) k b ((za2 : Nat → Ent) k).body := fun b k h => h
    have hpost : (results Tryz.f122 a'.tmps).run Tryz.prog (W'.putObj D (.deferred none)) = .ok (zbe us) (W'.putObj D (.deferred none)) := zg5 h1
    have hL : LeavesInM (FR none) 5 Tryz.prog Tryz.f122 a'.tmps (fun e w' => ∃ St' us, e = .returned (zbe us) ∧ RelL (cutS true w.heap.size St') w' us [.agg (cT (zcm k l t))] ∧ Below w.heap.size w w' ∧ (∀ b, b < w.heap.size → St' b = St b) ∧ (∀ b, 0 < St' b → b < w'.heap.size) ∧ (∀ b, w.heap.size ≤ b → 0 < St' b → zhq w' b)) a'.defers .returning W' := by
      rw [hd', hd3']
      refine ⟨by simp, .inl ⟨D, _, rfl, run_takeDeferred hK', zbe us, hpost, ?_⟩⟩
      exact ⟨_, us, rfl, hfin, ⟨hall.left.os, hall.left.tape, hall.left.output, hall.left.size, fun b hb' => (hall.left.block b hb' (hno b)).1⟩, fun b hb' => (hall.left.block b hb' (hno b)).2, hall.inv.st, fun b hb' h0 => hall.fresh b (Nat.eq_zero_of_not_pos fun hp => by have := hst0 b hp; omega) h0⟩
    rcases hend with rfl | rfl
    · exact hL
    · exact hL
  case stop =>
    rintro D c pre W _ _ h _
    exact h.elim
end
theorem zM0 (k : Int) (l : List T) (t : T) (hl : l.length ≤ 1000000000) (ht : okT t) (hol : okTs l) : zoc Tryz.prog zsh [.int .i64 k, eTs l, .agg (cT t)] [.agg (cT (zcm k l t))] := zMr k l t hl ht hol
attribute [local simp] zac zag tk tn tks
theorem zRs (l : List T) (t : T) (hl : l.length ≤ 1000000000) (ht : okT t) (hol : okTs l) : zoc Tryz.prog zko [eTs l, .agg (cT t)] [.agg (cT (zcm 4 l t))] := by
  refine zht false hm Tryz.func54 zzy rfl fun hs n => ?_
  have h := zM0 4 l t hl ht hol
  simp only [cT, eTs] at h
  simp -dsimp [zqd, cT, eTs]
  refine zfc h ?_
  simp -dsimp [cT]
end
section
attribute [local simp] zac zag tk tn tks zc4 zdf zch zci zcj zei
theorem zE1 (b : Bl) (hf : Fit b) (base : Int) (a : Ar) (h : okAr a) (fA : FineAr a) : Pure Tryz.prog zfw [eBl b, .int .i64 base, .agg (cAr a)] [.agg (cT (zg4 b base a))] := by
  refine zpe rfl fun hs => ?_
  have d1 := fA.domL
  have i1 := fA.idxL
  have hF := zz0 b hf base a.sort
  have hC := zM9 (if zbl b base a.sort < 0 then 0 else zbl b base a.sort)
  rw [show T.mk 3 (if zbl b base a.sort < 0 then 0 else zbl b base a.sort) [] = fmT b base a.sort from by
    rw [fmT, tC]; congr 1; split <;> split <;> omega] at hC
  have hS := zjo (fmT b base a.sort) a.idx (by omega) (zDq _ _ _) h.idx
  have hP := zBi a.dom (spT (fmT b base a.sort) a.idx) (by omega) (zew _ _ (zDq _ _ _) h.idx.2) h.dom
  have hT := zk4 a.ty h.ty
  cases hr : a.rc with
  | false =>
    have e : zg4 b base a = a.ty := by rw [zg4, hr]; rfl
    rw [e]
    simp only [cT] at hT
    simp -dsimp [zdn, eBl, cBl, cAr, cT, hr]
    refine zaa hT ?_
    simp -dsimp
  | true =>
    have e : zg4 b base a = zcm 4 a.dom (spT (fmT b base a.sort) a.idx) := by rw [zg4, hr]; rfl
    rw [e]
    generalize zcm 4 a.dom (spT (fmT b base a.sort) a.idx) = P at hP
    generalize spT (fmT b base a.sort) a.idx = Sp at hS hP
    generalize fmT b base a.sort = F at hC hS
    simp only [eBl, cBl, cT, eTs] at hF hC hS hP
    simp -dsimp [zdn, eBl, cBl, cAr, cT, eTs, hr]
    refine zaa hF ?_
    simp -dsimp [hr]
    refine zaa hC ?_
    simp -dsimp [hr]
    refine zaa hS ?_
    simp -dsimp [hr]
    refine zaa hP ?_
    simp -dsimp [hr]
theorem zGp (t : T) : Pure Tryz.prog zet [.agg (cT t)] [.agg (cT (zda t)), .int .i64 (zbp t)] := by
  refine zsf rfl fun hs => ?_
  have h := zCo t
  simp only [cT] at h
  simp -dsimp [zhd, cT]
  refine zaa h ?_
  simp -dsimp
  (first | refine zal ?_ ?_ | refine zam ?_ ?_) <;> intro h1 <;> (try simp only [nrm] at h1) <;> simp -dsimp [h1]
  · have : zda t = zT := by rw [zda, if_neg h1]
    simp -dsimp [this, zT, cT]
  · have : zda t = t := by rw [zda, if_pos h1]
    simp -dsimp [this, h1]
end
section
section
attribute [local simp] zac zag tk tn tks zc4 zdf zch zci zcj zei
structure Pl where
  b : Bl
  base : Int
  args : List Ar
  more : Int
def cPl (p : Pl) : List D := cBl p.b ++ [.int .i64 p.base, eArs p.args, .int .i64 p.more]
def Pl.fwd (p : Pl) (n : Int) : Pl := ⟨p.b, p.base, p.args, p.more + n⟩
theorem zGa (p : Pl) (n : Int) (h0 : 0 ≤ p.more) (h1 : p.more ≤ 1000000000) (h2 : 0 ≤ n) (h3 : n ≤ 1000000) : Pure Tryz.prog zex [.agg (cPl p), .int .i64 n] [.agg (cPl (p.fwd n))] := by
  refine zv6 rfl fun hs => ?_
  have w1 : IntKind.i64.wrap (p.more + n) = p.more + n := zab (by omega) (by omega)
  simp -dsimp [zj9, cPl, cBl, Pl.fwd, w1]
def zfa (p : Pl) (t : T) : Option Nat := if t.kind = 1 ∧ p.more ≤ t.num ∧ t.num - p.more < p.args.length then some (p.args.length - 1 - (t.num - p.more).toNat) else none
def za7 (p : Pl) (t : T) : Bool := match zfa p t with
  | some j => match p.args[j]? with
    | some a => a.rc
    | none => false
  | none => false
def zd3 (p : Pl) (t : T) : Int := match zfa p t with
  | some j => j
  | none => 0
theorem zms (p : Pl) (t : T) (h0 : 0 ≤ p.more) (h1 : p.more ≤ 1000000000) (hl : p.args.length ≤ 1000000) (hn : n64 t.num) : Pure Tryz.prog zbi [.agg (cPl p), .agg (cT t)] [.int .i64 (zd3 p t), .bool (za7 p t)] := by
  refine zpt rfl fun hs => ?_
  obtain ⟨n0, n1⟩ := hn
  simp -dsimp [zfj, cPl, cBl, cT, eArs]
  by_cases c1 : t.kind = 1
  case neg =>
    have hJ : zfa p t = none := by rw [zfa, if_neg (fun h => c1 h.1)]
    simp -dsimp [c1, zd3, za7, hJ]
  by_cases c2 : t.num < p.more
  · have hJ : zfa p t = none := by rw [zfa, if_neg (fun h => by omega)]
    simp -dsimp [c1, c2, zd3, za7, hJ]
  have w1 : IntKind.i64.wrap ((p.args.length : Int) - 1) = (p.args.length : Int) - 1 := zab (by omega) (by omega)
  have w2 : IntKind.i64.wrap (t.num - p.more) = t.num - p.more := zab (by omega) (by omega)
  have w3 : IntKind.i64.wrap ((p.args.length : Int) - 1 - (t.num - p.more)) = (p.args.length : Int) - 1 - (t.num - p.more) := zab (by omega) (by omega)
  by_cases c3 : (p.args.length : Int) - 1 - (t.num - p.more) < 0
  · have hJ : zfa p t = none := by rw [zfa, if_neg (fun h => by omega)]
    simp -dsimp [c1, c2, c3, w1, w2, w3, zd3, za7, hJ]
  · have hJ : zfa p t = some (p.args.length - 1 - (t.num - p.more).toNat) := by rw [zfa, if_pos ⟨c1, by omega, by omega⟩]
    have hj : (p.args.length : Int) - 1 - (t.num - p.more) = ((p.args.length - 1 - (t.num - p.more).toNat : Nat) : Int) := by omega
    have hlt : p.args.length - 1 - (t.num - p.more).toNat < p.args.length := by omega
    rw [hj] at w3 c3
    generalize p.args.length - 1 - (t.num - p.more).toNat = j at *
    have hge : p.args[j]? = some p.args[j] := List.getElem?_eq_getElem hlt
    generalize hA : p.args[j] = A at *
    simp -dsimp [c1, c2, c3, w1, w2, w3, hj, zd3, za7, hJ, hlt, hge, hA, eAr, cAr, cT]
def decG (cl : T → Bool) (p : Pl) (t : T) : Bool := if (spH t).kind = 3 then if (ofM p.b p.base (spH t).num).1 = 4 then match p.b.sorts[(ofM p.b p.base (spH t).num).2.toNat]? with
      | some s => if ((spA t).length : Int) = s.idx.length + 1 then
          (match (spA t).reverse.getLast? with
          | some z => za7 p (spH z) && (((spA t).reverse.dropLast.all cl) && ((spA z).reverse.all cl))
          | none => false) else false
      | none => false else false else false
def zae : Nat → Pl → T → Bool
  | 0, _, _ => true
  | n + 1, p, t => if t.kind = 1 then !za7 p t else if t.kind = 3 then decide ((ofM p.b p.base t.num).1 = 0) else if t.kind = 6 ∧ decG (zae n p) p t = true then true else allI (fun i x => zae n (p.fwd (zan t.kind i)) x) 0 t.kids
theorem zEj (p : Pl) (l : List T) (cl : T → Bool) (hl : l.length ≤ 1000000) (h : ∀ x ∈ l, Pure Tryz.prog zau [.agg (cPl p), .agg (cT x)] [.bool (cl x)]) : Pure Tryz.prog zeg [.agg (cPl p), eTs l] [.bool (l.all cl)] := by
  refine zul rfl fun hs => ?_
  have hC := zf7 l zg2 [.rp (cPl p)] (fun t => !cl t) (fun x hx => by
    refine zr8 rfl fun hs => ?_
    have hx' := h x hx
    simp only [cPl, cBl, cT, List.cons_append, List.nil_append] at hx'
    simp -dsimp [zgz, cPl, cBl, cT]
    refine zaa hx' ?_
    simp -dsimp)
  simp only [cPl, cBl, eTs, List.cons_append, List.nil_append] at hC
  simp -dsimp [zjh, cPl, cBl, eTs]
  refine zaa hC ?_
  simp -dsimp
  rw [List.all_eq_not_any_not, Bool.not_not]
theorem zEd {b : Bl} {base n : Int} (h : (ofM b base n).1 ≠ 0) : 0 ≤ (ofM b base n).2 ∧ ((ofM b base n).1 = 3 ∧ (ofM b base n).2 < b.sorts.length ∨ (ofM b base n).1 = 4 ∧ (ofM b base n).2 < b.sorts.length ∨ (ofM b base n).1 = 5 ∧ (ofM b base n).2 < b.cons.length ∨ (ofM b base n).1 = 6 ∧ (ofM b base n).2 < b.sorts.length) := by
  rw [ofM] at h ⊢
  split at h
  · exact absurd rfl h
  rename_i hc
  rw [if_neg hc]
  cases hs : seek n (tab b base) with
  | none => rw [hs] at h; exact absurd rfl h
  | some q =>
    obtain ⟨e, he, k, hk, _, rfl⟩ := zs5 hs
    simp only [tab, List.mem_cons, List.not_mem_nil, or_false] at he
    rcases he with rfl | rfl | rfl | rfl
    all_goals
      simp only [hs, Option.getD_some]
      first
        | (have hk' : k < b.sorts.length := hk; simp; exact hk')
        | (have hk' : k < b.cons.length := hk; simp; exact hk')
theorem ztd (t : T) : (spA t).length ≤ zai t := by
  refine T.ind (p := fun t => (spA t).length ≤ zai t) ?_ t
  intro k n ks ih
  by_cases hc : k = 6 ∧ ∃ a b, ks = [a, b]
  · obtain ⟨rfl, a, b, rfl⟩ := hc
    rw [(ziv n a b).1, List.length_cons, zzu]
    have := ih a (by simp)
    omega
  · rw [(zgo hc).1]
    simp
theorem zkz (t : T) : (∀ x ∈ spA t, zai x < zai t) ∧ (okT t → okT (spH t) ∧ ∀ x ∈ spA t, okT x) := by
  refine T.ind (p := fun t => (∀ x ∈ spA t, zai x < zai t) ∧ (okT t → okT (spH t) ∧ ∀ x ∈ spA t, okT x)) ?_ t
  intro k n ks ih
  by_cases hc : k = 6 ∧ ∃ a b, ks = [a, b]
  · obtain ⟨rfl, a, b, rfl⟩ := hc
    obtain ⟨i1, i2⟩ := ih a (by simp)
    rw [(ziv n a b).1, (ziv n a b).2, zzu]
    refine ⟨fun x hx => ?_, fun ho => ?_⟩
    · rcases List.mem_cons.1 hx with rfl | hx
      · omega
      · have := i1 x hx; omega
    · have hk := ho.kids.2
      obtain ⟨j1, j2⟩ := i2 (hk a (by simp))
      refine ⟨j1, fun x hx => ?_⟩
      rcases List.mem_cons.1 hx with rfl | hx
      · exact hk _ (by simp)
      · exact j2 x hx
  · rw [(zgo hc).1, (zgo hc).2]
    exact ⟨by simp, fun ho => ⟨ho, by simp⟩⟩
theorem okT.num64 {t : T} (h : okT t) : n64 t.num := by
  cases h with
  | mk k n ks hk hn hl h => exact hn
theorem zIf (p : Pl) (h0 : 0 ≤ p.more) (h1 : p.more ≤ 1000000000) (hl : p.args.length ≤ 1000000) (t : T) (ot : okT t) (hn : zai t ≤ 1000000) (hsl' : ∀ s ∈ p.b.sorts, s.idx.length ≤ 1000000) (cl : T → Bool) (h : ∀ x, okT x → zai x < zai t → Pure Tryz.prog zau [.agg (cPl p), .agg (cT x)] [.bool (cl x)]) :
    Pure Tryz.prog zfr [.agg (cPl p), .agg (cT t)] [.bool (decG cl p t)] := by
  refine zoi rfl fun hs => ?_
  have hsl := ztd t
  have hS := zww t (by omega)
  have hO := zMf p.b p.base (spH t).num
  obtain ⟨m1, m2⟩ := zkz t
  obtain ⟨_, m3⟩ := m2 ot
  have hm : ∀ x ∈ (spA t).reverse, zai x < zai t ∧ okT x := fun x hx => ⟨m1 x (by simpa using hx), m3 x (by simpa using hx)⟩
  have hAL : (spA t).length = (spA t).reverse.length := by simp
  have hD : decG cl p t = if (spH t).kind = 3 then if (ofM p.b p.base (spH t).num).1 = 4 then match p.b.sorts[(ofM p.b p.base (spH t).num).2.toNat]? with
      | some s => if ((spA t).reverse.length : Int) = s.idx.length + 1 then
          (match (spA t).reverse.getLast? with
          | some z => za7 p (spH z) && (((spA t).reverse.dropLast.all cl) && ((spA z).reverse.all cl))
          | none => false) else false
      | none => false else false else false := by rw [decG, hAL]
  rw [hAL] at hsl
  clear hAL m1 m2 m3
  rw [hD]
  clear hD
  simp only [cPl, cBl, eBl, cT, eTs, List.cons_append, List.nil_append] at hS hO h
  generalize (spA t).reverse = A at *
  generalize spH t = H at *
  simp -dsimp [zfm, cPl, cBl, cT]
  refine zaa hS ?_
  by_cases c1 : H.kind = 3
  case neg => simp -dsimp [c1]
  simp -dsimp [c1]
  refine zaa hO ?_
  have hk := zEd (b := p.b) (base := p.base) (n := H.num)
  generalize hof : ofM p.b p.base H.num = o at *
  by_cases c2 : o.1 = 4
  case neg => simp -dsimp [c1, c2]
  obtain ⟨k0, k1⟩ := hk (by omega)
  have hlt : o.2.toNat < p.b.sorts.length := by omega
  have hget : p.b.sorts[o.2.toNat]? = some p.b.sorts[o.2.toNat] := List.getElem?_eq_getElem hlt
  generalize hS' : p.b.sorts[o.2.toNat] = S at *
  have hsm : S.idx.length ≤ 1000000 := hsl' S (List.mem_of_getElem? hget)
  have w1 : IntKind.i64.wrap ((S.idx.length : Int) + 1) = (S.idx.length : Int) + 1 := zab (by omega) (by omega)
  simp -dsimp [c1, c2, k0, hget, hlt, hS', eSos, eSo, cSo, eArs, cT, w1]
  by_cases c3 : (A.length : Int) = S.idx.length + 1
  case neg => simp -dsimp [c3, c1, c2, hget]
  have hAl : A.length = S.idx.length + 1 := by omega
  have hz : S.idx.length < A.length := by omega
  have hgl : A.getLast? = some A[S.idx.length] := by rw [List.getLast?_eq_getElem?, hAl, Nat.add_sub_cancel, List.getElem?_eq_getElem hz]
  have hdl : A.dropLast = A.take S.idx.length := by rw [List.dropLast_eq_take, hAl, Nat.add_sub_cancel]
  rw [hgl, hdl]
  simp only [c1, c2, hget, c3, if_true]
  obtain ⟨z1, z2⟩ := hm _ (List.getElem_mem hz)
  generalize hZ : A[S.idx.length] = z at *
  obtain ⟨n1, n2⟩ := zkz z
  obtain ⟨oH, n3⟩ := n2 z2
  have hSz := zww z (by have := ztd z; omega)
  have hG := zms p (spH z) h0 h1 hl oH.num64
  have a1 := zEj p (A.take S.idx.length) cl (by rw [List.length_take]; omega) (fun x hx => by have := hm x (List.mem_of_mem_take hx); simpa only [cPl, cBl, cT, List.cons_append, List.nil_append] using h x this.2 this.1)
  have a2 := zEj p (spA z).reverse cl (by rw [List.length_reverse]; have := ztd z; omega) (fun x hx => by have := n1 x (by simpa using hx); simpa only [cPl, cBl, cT, List.cons_append, List.nil_append] using h x (n3 x (by simpa using hx)) (by omega))
  have hZa : (spA z).all cl = (spA z).reverse.all cl := by simp
  generalize (spA z).reverse = Z at *
  generalize spH z = Hz at *
  simp only [cPl, cBl, cT, eTs, List.cons_append, List.nil_append, List.map_take] at hSz hG a1 a2
  have w2 : IntKind.i64.wrap (S.idx.length : Int) = S.idx.length := zab (by omega) (by omega)
  have hle : (S.idx.length : Int) ≤ A.length := by omega
  simp -dsimp [c3, w2, hz, hZ, zbq, cT]
  refine zaa hSz ?_
  simp -dsimp
  refine zaa hG ?_
  cases hgB : za7 p Hz with
  | false => simp -dsimp [c1, c2, hget]
  | true =>
    simp -dsimp [hle]
    refine zaa a1 ?_
    cases h3 : (A.take S.idx.length).all cl with
    | false => simp -dsimp [c1, c2, hget]
    | true =>
      simp -dsimp
      refine zaa a2 ?_
      simp -dsimp [c1, c2, hget, c3, hZa]
theorem zjs (t : T) : 1 ≤ zai t := by obtain ⟨k, n, ks⟩ := t; rw [zai]; omega
theorem zxx (t : T) {x : T} (h : x ∈ t.kids) : zai x + 1 ≤ zai t := by obtain ⟨k, n, ks⟩ := t; exact zfo h
theorem zJp {t x : T} (ot : okT t) (h : x ∈ t.kids) : okT x := by obtain ⟨k, n, ks⟩ := t; exact ot.kids.2 x h
theorem zGy {t : T} (ot : okT t) : t.kids.length * 40 ≤ 140737488351232 := by obtain ⟨k, n, ks⟩ := t; exact ot.kids.1
theorem zm2 (n : Nat) (hN : n ≤ 1000000) : ∀ (p : Pl) (t : T), 0 ≤ p.more → p.more + zai t ≤ 1000000000 → p.args.length ≤ 1000000 → (∀ s ∈ p.b.sorts, s.idx.length ≤ 1000000) → okT t → zai t ≤ n →
    Pure Tryz.prog zau [.agg (cPl p), .agg (cT t)] [.bool (zae n p t)] := by
  induction n with
  | zero => intro p t _ _ _ _ _ h; have := zjs t; omega
  | succ n ih =>
    intro p t h0 h1 hl hsl ot hn
    have hrec : ∀ x, okT x → zai x < zai t → Pure Tryz.prog zau [.agg (cPl p), .agg (cT x)] [.bool (zae n p x)] := fun x ox hx => ih (by omega) p x h0 (by omega) hl hsl ox (by omega)
    have hkl := zGy ot
    have hG := zms p t h0 (by omega) hl ot.num64
    have hO := zMf p.b p.base t.num
    have hDe := zIf p h0 (by omega) hl t ot (by omega) hsl (zae n p) hrec
    refine zq6 rfl fun hs => ?_
    simp only [cPl, cBl, eBl, cT, List.cons_append, List.nil_append] at hG hO hDe
    simp -dsimp [zg3, cPl, cBl, cT]
    by_cases c1 : t.kind = 1
    · simp -dsimp [c1]
      rw [c1] at hG
      refine zaa hG ?_
      simp -dsimp [zae, c1]
    by_cases c3 : t.kind = 3
    · simp -dsimp [c1, c3]
      refine zaa hO ?_
      simp -dsimp [zae, c1, c3]
    by_cases c6 : t.kind = 6
    · simp -dsimp [c1, c3, c6]
      rw [c6] at hDe
      refine zaa hDe ?_
      cases hd : decG (zae n p) p t with
      | true =>
        have hv : zae (n + 1) p t = true := by rw [zae, if_neg c1, if_neg c3, if_pos ⟨c6, hd⟩]
        simp -dsimp [hv]
      | false =>
        have hv : zae (n + 1) p t = allI (fun i x => zae n (p.fwd (zan t.kind i)) x) 0 t.kids := by rw [zae, if_neg c1, if_neg c3, if_neg (fun h => by rw [hd] at h; cases h.2)]
        simp -dsimp [c1, c3, c6]
        refine zaj t.kids.length (fun i st => st.s 2 = .ptr 2 1 0 ∧ st.s 3 = .ptr 3 1 0 ∧ st.s 43 = .d (eTs t.kids) ∧ st.s 44 = .d (.int .i64 t.kids.length) ∧ st.s 45 = .d (.int .i64 i) ∧
          st.h 2 = ⟨1, .box [.d (eSos p.b.sorts), .d (eCos p.b.cons), .d (.int .i64 p.b.elim), .d (.int .i64 p.base), .d (eArs p.args), .d (.int .i64 p.more)] false⟩ ∧
          st.h 3 = ⟨1, .box [.d (.int .i64 t.kind), .d (.int .i64 t.num), .d (.sl 3 (t.kids.map eT))] false⟩ ∧ ∀ (j : Nat) (hj : j < t.kids.length), j < i → zae n (p.fwd (zan t.kind j)) t.kids[j] = true) ?_ ?_
        · simp -dsimp [eTs, c1, c3, c6]
        · rintro i ⟨s, hp⟩ hi ⟨g2, g3, g43, g44, g45, k2, k3, g⟩
          dsimp only at g2 g3 g43 g44 g45 k2 k3
          simp only [eTs] at g43
          rcases Nat.lt_or_ge i t.kids.length with hlt | hge
          · have w1 : IntKind.i64.wrap ((i : Int) + 1) = (i : Int) + 1 := zab (by omega) (by omega)
            have hbl := zgg t.kind i
            have hkn := zxx t (List.getElem_mem hlt)
            have hB := zwp t.kind i
            have hP := zGa p (zan t.kind i) h0 (by omega) (by omega) (by omega)
            have hI := ih (by omega) (p.fwd (zan t.kind i)) t.kids[i] (by simp only [Pl.fwd]; omega) (by simp only [Pl.fwd]; omega) hl hsl (zJp ot (List.getElem_mem hlt)) (by omega)
            have hgi := g
            generalize hX : t.kids[i] = X at *
            simp only [cPl, cBl, cT, Pl.fwd, List.cons_append, List.nil_append] at hP hI
            simp -dsimp [g2, g3, g43, g44, g45, k2, k3, hlt, hX, cT]
            refine zaa hB ?_
            simp -dsimp [g2, g3, g43, g44, g45, k2, k3, hlt, hX, cT]
            refine zaa hP ?_
            simp -dsimp [g2, g3, g43, g44, g45, k2, k3, hlt, hX, cT]
            refine zaa hI ?_
            cases hc : zae n (p.fwd (zan t.kind i)) X with
            | true =>
              simp only [Pl.fwd] at hc
              simp -dsimp [g2, g3, g43, g44, g45, k2, k3, hlt, hX, cT, hc, w1, eTs]
              intro j hj hji
              rcases Nat.lt_or_ge j i with h' | h'
              · exact g j hj h'
              · have : j = i := by omega
                subst this
                rw [hX]; exact hc
            | false =>
              have hz : allI (fun i x => zae n (p.fwd (zan t.kind i)) x) 0 t.kids = false := by
                rw [Bool.eq_false_iff]
                intro h
                have := (zaq _ _ _).1 h i hlt
                rw [Nat.zero_add, hX, hc] at this
                cases this
              simp only [Pl.fwd] at hc
              rw [hv, hz]
              simp -dsimp [g2, g3, g43, g44, g45, k2, k3, hlt, hX, cT, hc]
          · have e : i = t.kids.length := by omega
            subst e
            have hz : allI (fun i x => zae n (p.fwd (zan t.kind i)) x) 0 t.kids = true := (zaq _ _ _).2 fun j hj => by rw [Nat.zero_add]; exact g j hj hj
            rw [hv, hz]
            simp -dsimp [g2, g3, g43, g44, g45, k2, k3]
    · have hv : zae (n + 1) p t = allI (fun i x => zae n (p.fwd (zan t.kind i)) x) 0 t.kids := by rw [zae, if_neg c1, if_neg c3, if_neg (fun h => c6 h.1)]
      simp -dsimp [c1, c3, c6]
      refine zaj t.kids.length (fun i st => st.s 2 = .ptr 2 1 0 ∧ st.s 3 = .ptr 3 1 0 ∧ st.s 43 = .d (eTs t.kids) ∧ st.s 44 = .d (.int .i64 t.kids.length) ∧ st.s 45 = .d (.int .i64 i) ∧
        st.h 2 = ⟨1, .box [.d (eSos p.b.sorts), .d (eCos p.b.cons), .d (.int .i64 p.b.elim), .d (.int .i64 p.base), .d (eArs p.args), .d (.int .i64 p.more)] false⟩ ∧
        st.h 3 = ⟨1, .box [.d (.int .i64 t.kind), .d (.int .i64 t.num), .d (.sl 3 (t.kids.map eT))] false⟩ ∧ ∀ (j : Nat) (hj : j < t.kids.length), j < i → zae n (p.fwd (zan t.kind j)) t.kids[j] = true) ?_ ?_
      · simp -dsimp [eTs, c1, c3, c6]
      · rintro i ⟨s, hp⟩ hi ⟨g2, g3, g43, g44, g45, k2, k3, g⟩
        dsimp only at g2 g3 g43 g44 g45 k2 k3
        simp only [eTs] at g43
        rcases Nat.lt_or_ge i t.kids.length with hlt | hge
        · have w1 : IntKind.i64.wrap ((i : Int) + 1) = (i : Int) + 1 := zab (by omega) (by omega)
          have hbl := zgg t.kind i
          have hkn := zxx t (List.getElem_mem hlt)
          have hB := zwp t.kind i
          have hP := zGa p (zan t.kind i) h0 (by omega) (by omega) (by omega)
          have hI := ih (by omega) (p.fwd (zan t.kind i)) t.kids[i] (by simp only [Pl.fwd]; omega) (by simp only [Pl.fwd]; omega) hl hsl (zJp ot (List.getElem_mem hlt)) (by omega)
          have hgi := g
          generalize hX : t.kids[i] = X at *
          simp only [cPl, cBl, cT, Pl.fwd, List.cons_append, List.nil_append] at hP hI
          simp -dsimp [g2, g3, g43, g44, g45, k2, k3, hlt, hX, cT]
          refine zaa hB ?_
          simp -dsimp [g2, g3, g43, g44, g45, k2, k3, hlt, hX, cT]
          refine zaa hP ?_
          simp -dsimp [g2, g3, g43, g44, g45, k2, k3, hlt, hX, cT]
          refine zaa hI ?_
          cases hc : zae n (p.fwd (zan t.kind i)) X with
          | true =>
            simp only [Pl.fwd] at hc
            simp -dsimp [g2, g3, g43, g44, g45, k2, k3, hlt, hX, cT, hc, w1, eTs]
            intro j hj hji
            rcases Nat.lt_or_ge j i with h' | h'
            · exact g j hj h'
            · have : j = i := by omega
              subst this
              rw [hX]; exact hc
          | false =>
            have hz : allI (fun i x => zae n (p.fwd (zan t.kind i)) x) 0 t.kids = false := by
              rw [Bool.eq_false_iff]
              intro h
              have := (zaq _ _ _).1 h i hlt
              rw [Nat.zero_add, hX, hc] at this
              cases this
            simp only [Pl.fwd] at hc
            rw [hv, hz]
            simp -dsimp [g2, g3, g43, g44, g45, k2, k3, hlt, hX, cT, hc]
        · have e : i = t.kids.length := by omega
          subst e
          have hz : allI (fun i x => zae n (p.fwd (zan t.kind i)) x) 0 t.kids = true := (zaq _ _ _).2 fun j hj => by rw [Nat.zero_add]; exact g j hj hj
          rw [hv, hz]
          simp -dsimp [g2, g3, g43, g44, g45, k2, k3]
end
end
section
section
attribute [local simp] zac zag tk tn tks zc4 zdf zch zci zcj zei
def fitA (cl gd : T → Bool) (p : Pl) (a : Ar) (x : T) : Bool := if a.rc then if a.dom.length = 0 then gd x else za7 p x else cl x
def zBn (cl gd : T → Bool) (p : Pl) (t : T) (cons : Int) : Bool :=
  if za7 p (spH t) then (match p.args[(zd3 p (spH t)).toNat]? with
    | some a => decide ((spA t).reverse.length = a.dom.length) && (spA t).reverse.all cl
    | none => false)
  else if (spH t).kind = 3 then if (ofM p.b p.base (spH t).num).1 = 5 then if (ofM p.b p.base (spH t).num).2 < cons then match p.b.cons[(ofM p.b p.base (spH t).num).2.toNat]? with
      | some c => if (spA t).reverse.length = c.args.length then allI (fun i a => match (spA t).reverse[i]? with | some x => fitA cl gd p a x | none => false) 0 c.args else false
      | none => false else false else false
  else false
def zcy : Nat → Pl → T → Int → Bool
  | 0, _, _, _ => true
  | n + 1, p, t, cons => zBn (zae n p) (fun x => zcy n p x cons) p t cons
theorem zRl (n : Nat) (hN : n ≤ 1000000) : ∀ (p : Pl) (t : T) (cons : Int), 0 ≤ p.more → p.more + zai t ≤ 1000000000 → p.args.length ≤ 1000000 → (∀ s ∈ p.b.sorts, s.idx.length ≤ 1000000) → (∀ c ∈ p.b.cons, c.args.length ≤ 1000000) → okT t → zai t ≤ n →
    Pure Tryz.prog zfe [.agg (cPl p), .agg (cT t), .int .i64 cons] [.bool (zcy n p t cons)] := by
  induction n with
  | zero => intro p t _ _ _ _ _ _ _ h; have := zjs t; omega
  | succ n ih =>
    intro p t cons h0 h1 hl hsl hcl ot hn
    have hA := ztd t
    have hS := zww t (by omega)
    obtain ⟨m1, m2⟩ := zkz t
    obtain ⟨oH, m3⟩ := m2 ot
    have hm : ∀ x ∈ (spA t).reverse, zai x < zai t ∧ okT x := fun x hx => ⟨m1 x (by simpa using hx), m3 x (by simpa using hx)⟩
    have hG := zms p (spH t) h0 (by omega) hl oH.num64
    have hO := zMf p.b p.base (spH t).num
    have hAl := zEj p (spA t).reverse (zae n p) (by rw [List.length_reverse]; omega) (fun x hx => zm2 n (by omega) p x h0 (by have := (hm x hx).1; omega) hl hsl (hm x hx).2 (by have := (hm x hx).1; omega))
    refine zt0 rfl fun hs => ?_
    have hV : zcy (n + 1) p t cons = zBn (zae n p) (fun x => zcy n p x cons) p t cons := rfl
    have hW : zBn (zae n p) (fun x => zcy n p x cons) p t cons = if za7 p (spH t) then (match p.args[(zd3 p (spH t)).toNat]? with
        | some a => decide ((spA t).reverse.length = a.dom.length) && (spA t).reverse.all (zae n p)
        | none => false)
      else if (spH t).kind = 3 then if (ofM p.b p.base (spH t).num).1 = 5 then if (ofM p.b p.base (spH t).num).2 < cons then match p.b.cons[(ofM p.b p.base (spH t).num).2.toNat]? with
          | some c => if (spA t).reverse.length = c.args.length then allI (fun i a => match (spA t).reverse[i]? with | some x => fitA (zae n p) (fun x => zcy n p x cons) p a x | none => false) 0 c.args else false
          | none => false else false else false
      else false := by rw [zBn]
    rw [hV]
    rw [← List.length_reverse] at hA
    generalize zBn (zae n p) (fun x => zcy n p x cons) p t cons = W at *
    generalize (spA t).reverse = A at *
    generalize spH t = H at *
    simp only [cPl, cBl, eBl, cT, eTs, List.cons_append, List.nil_append] at hS hG hO hAl
    simp -dsimp [zic, cPl, cBl, cT]
    refine zaa hS ?_
    simp -dsimp
    refine zaa hG ?_
    cases hg : za7 p H with
    | true =>
      obtain ⟨j, hj, hja⟩ : ∃ j, zfa p H = some j ∧ ∃ a, p.args[j]? = some a := by
        rw [za7] at hg
        cases hJ : zfa p H with
        | none => rw [hJ] at hg; cases hg
        | some j =>
          rw [hJ] at hg
          cases ha : p.args[j]? with
          | none => simp [ha] at hg
          | some a => exact ⟨j, rfl, a, ha⟩
      obtain ⟨a, ha⟩ := hja
      have hN' : zd3 p H = j := by rw [zd3, hj]
      have hjl := (List.getElem?_eq_some_iff.1 ha).1
      rw [hg, if_pos rfl, hN', Int.toNat_natCast, ha] at hW
      simp only at hW
      rw [hN']
      simp -dsimp [eArs, ha, eAr, cAr, cT, eTs]
      by_cases hc : A.length = a.dom.length
      · have hc' : (A.length : Int) = a.dom.length := by omega
        have hw : W = A.all (zae n p) := by rw [hW]; simp [hc]
        simp -dsimp [hc', hc]
        refine zaa hAl ?_
        simp -dsimp [hc', hc, hw]
      · have hc' : ¬ (A.length : Int) = a.dom.length := by omega
        have hw : W = false := by rw [hW]; simp [hc]
        simp -dsimp [hc', hc, hw]
    | false =>
      rw [hg, if_neg (by simp)] at hW
      simp -dsimp
      by_cases c1 : H.kind = 3
      case neg =>
        rw [if_neg c1] at hW
        simp -dsimp [c1, hW]
      rw [if_pos c1] at hW
      simp -dsimp [c1]
      refine zaa hO ?_
      have hk := zEd (b := p.b) (base := p.base) (n := H.num)
      generalize hof : ofM p.b p.base H.num = o at *
      by_cases c2 : o.1 = 5
      case neg =>
        rw [if_neg c2] at hW
        simp -dsimp [c1, c2, hW]
      rw [if_pos c2] at hW
      obtain ⟨k0, k1⟩ := hk (by omega)
      have hlt : o.2.toNat < p.b.cons.length := by omega
      have hget : p.b.cons[o.2.toNat]? = some p.b.cons[o.2.toNat] := List.getElem?_eq_getElem hlt
      rw [hget] at hW
      generalize hS' : p.b.cons[o.2.toNat] = S at *
      have hsm : S.args.length ≤ 1000000 := hcl S (List.mem_of_getElem? hget)
      by_cases c3 : o.2 < cons
      case neg =>
        rw [if_neg c3] at hW
        have c3' : cons ≤ o.2 := by omega
        simp -dsimp [c1, c2, c3, c3', hW]
      rw [if_pos c3] at hW
      simp only at hW
      have c3' : ¬ cons ≤ o.2 := by omega
      simp -dsimp [c1, c2, c3, c3', k0, hget, hlt, hS', eCos, eCo, cCo, eArs, cT]
      by_cases c4 : A.length = S.args.length
      case neg =>
        rw [if_neg c4] at hW
        have c4' : ¬ (A.length : Int) = S.args.length := by omega
        simp -dsimp [c1, c2, c3, c4, c4', hget, hW]
      rw [if_pos c4] at hW
      have c4' : (A.length : Int) = S.args.length := by omega
      simp -dsimp [c1, c2, c3, c3', c4', k0, hget, hlt, hS', eCos, eCo, cCo, eArs, cT]
      have hfit : ∀ (i : Nat) (hi : i < S.args.length), (match A[i]? with | some x => fitA (zae n p) (fun x => zcy n p x cons) p S.args[i] x | none => false) = fitA (zae n p) (fun x => zcy n p x cons) p S.args[i] (A[i]'(by omega)) := fun i hi => by rw [List.getElem?_eq_getElem (by omega : i < A.length)]
      have hVt : (∀ (i : Nat) (hi : i < S.args.length), fitA (zae n p) (fun x => zcy n p x cons) p S.args[i] (A[i]'(by omega)) = true) → W = true := fun h => by
        rw [hW]
        exact (zaq _ _ _).2 fun j hj => by simp only [Nat.zero_add]; rw [hfit j hj]; exact h j hj
      have hVf : ∀ (i : Nat) (hi : i < S.args.length), fitA (zae n p) (fun x => zcy n p x cons) p S.args[i] (A[i]'(by omega)) = false → W = false := fun i hi h => by
        rw [hW, Bool.eq_false_iff]
        intro h2
        have := (zaq _ _ _).1 h2 i hi
        simp only [Nat.zero_add] at this
        rw [hfit i hi, h] at this
        cases this
      refine zaj S.args.length (fun i st => st.s 2 = .d (.int .i64 cons) ∧ st.s 3 = .ptr 3 1 0 ∧ st.s 8 = .d (eTs A) ∧ st.s 83 = .d (eArs S.args) ∧ st.s 84 = .d (.int .i64 S.args.length) ∧ st.s 85 = .d (.int .i64 i) ∧
        st.h 3 = ⟨1, .box [.d (eSos p.b.sorts), .d (eCos p.b.cons), .d (.int .i64 p.b.elim), .d (.int .i64 p.base), .d (eArs p.args), .d (.int .i64 p.more)] false⟩ ∧
        ∀ (j : Nat) (hj : j < S.args.length), j < i → fitA (zae n p) (fun x => zcy n p x cons) p S.args[j] (A[j]'(by omega)) = true) ?_ ?_
      · simp -dsimp [eTs, eArs, eCos]
      · rintro i ⟨s, hp⟩ hi ⟨g2, g3, g8, g83, g84, g85, k3, g⟩
        dsimp only at g2 g3 g8 g83 g84 g85 k3
        simp only [eTs, eArs] at g8 g83
        rcases Nat.lt_or_ge i S.args.length with hlt2 | hge
        · have w1 : IntKind.i64.wrap ((i : Int) + 1) = (i : Int) + 1 := zab (by omega) (by omega)
          have hiA : i < A.length := by omega
          obtain ⟨x1, x2⟩ := hm _ (List.getElem_mem hiA)
          have hcv := hVf i hlt2
          have hfi : ∀ h : fitA (zae n p) (fun x => zcy n p x cons) p S.args[i] A[i] = true, ∀ (j : Nat) (hj : j < S.args.length), j < i + 1 → fitA (zae n p) (fun x => zcy n p x cons) p S.args[j] (A[j]'(by omega)) = true := fun h j hj hji => by
            rcases Nat.lt_or_ge j i with h' | h'
            · exact g j hj h'
            · have : j = i := by omega
              subst this
              exact h
          have hGx := zms p A[i] h0 (by omega) hl x2.num64
          have hCx := zm2 n (by omega) p A[i] h0 (by omega) hl hsl x2 (by omega)
          have hDx := ih (by omega) p A[i] cons h0 (by omega) hl hsl hcl x2 (by omega)
          generalize hX : A[i] = X at *
          generalize hAr : S.args[i] = R at *
          simp only [cPl, cBl, cT, List.cons_append, List.nil_append] at hGx hCx hDx
          simp -dsimp [g2, g3, g8, g83, g84, g85, k3, hlt2, hiA, hX, hAr, eAr, cAr, cT]
          refine zaa hGx ?_
          simp -dsimp [g2, g3, g8, g83, g84, g85, k3, hlt2, hiA, hX, hAr, eAr, cAr, cT]
          cases hr : R.rc with
          | false =>
            simp -dsimp [g2, g3, g8, g83, g84, g85, k3, hlt2, hiA, hX, hAr, eAr, cAr, cT]
            refine zaa hCx ?_
            cases hc : zae n p X with
            | false =>
              have hw := hcv (by simp [fitA, hr, hc])
              simp -dsimp [g2, g3, g8, g83, g84, g85, k3, hlt2, hiA, hX, hAr, eAr, cAr, cT, hr, hw]
            | true =>
              have hnx := hfi (by simp [fitA, hr, hc])
              simp -dsimp [g2, g3, g8, g83, g84, g85, k3, hlt2, hiA, hX, hAr, eAr, cAr, cT, hr, w1, eTs, eArs]
              exact hnx
          | true =>
            by_cases hd : R.dom.length = 0
            · have hd' : (R.dom.length : Int) = 0 := by omega
              have hdn : R.dom = [] := List.length_eq_zero_iff.1 hd
              simp -dsimp [g2, g3, g8, g83, g84, g85, k3, hlt2, hiA, hX, hAr, eAr, cAr, cT, hr, hdn, eTs]
              refine zaa hDx ?_
              cases hc : zcy n p X cons with
              | false =>
                have hw := hcv (by simp [fitA, hr, hd, hc])
                simp -dsimp [g2, g3, g8, g83, g84, g85, k3, hlt2, hiA, hX, hAr, eAr, cAr, cT, hr, hdn, eTs, hw]
              | true =>
                have hnx := hfi (by simp [fitA, hr, hd, hc])
                simp -dsimp [g2, g3, g8, g83, g84, g85, k3, hlt2, hiA, hX, hAr, eAr, cAr, cT, hr, hdn, w1, eTs, eArs]
                exact hnx
            · have hd' : ¬ (R.dom.length : Int) = 0 := by omega
              have hd2 : (0 : Int) < R.dom.length := by omega
              have hdn : ¬ R.dom = [] := fun h => hd (by rw [h]; rfl)
              have hd3 : 0 < R.dom.length := by omega
              cases hc : za7 p X with
              | false =>
                have hw := hcv (by simp [fitA, hr, hdn, hc])
                simp -dsimp [g2, g3, g8, g83, g84, g85, k3, hlt2, hiA, hX, hAr, eAr, cAr, cT, hr, hdn, hd', hd2, hd3, eTs, hw]
              | true =>
                have hnx := hfi (by simp [fitA, hr, hdn, hc])
                simp -dsimp [g2, g3, g8, g83, g84, g85, k3, hlt2, hiA, hX, hAr, eAr, cAr, cT, hr, hdn, hd', hd2, hd3, w1, eTs, eArs]
                exact hnx
        · have e : i = S.args.length := by omega
          subst e
          have hz := hVt fun j hj => g j hj hj
          simp -dsimp [g2, g3, g8, g83, g84, g85, k3, hz]
def indF (n : Nat) (p : Pl) (so : So) (l : List T) (cons : Int) : Bool := allI (fun i a => match l[i]? with | some x => if a.rc then zcy n p x cons else zae n p x | none => false) 0 so.idx
theorem zzm (n : Nat) (hN : n ≤ 1000000) (p : Pl) (k : Int) (so : So) (hk0 : 0 ≤ k) (hk : p.b.sorts[k.toNat]? = some so) (l : List T) (cons : Int) (hll : l.length = so.idx.length) (h0 : 0 ≤ p.more) (hm : p.more ≤ 1000000) (hl : p.args.length ≤ 1000000) (hsl : ∀ s ∈ p.b.sorts, s.idx.length ≤ 1000000) (hcl : ∀ c ∈ p.b.cons, c.args.length ≤ 1000000)
    (ol : ∀ x ∈ l, okT x ∧ zai x ≤ n) : Pure Tryz.prog zdr [.agg (cPl p), .int .i64 k, eTs l, .int .i64 cons] [.bool (indF n p so l cons)] := by
  refine zo6 rfl fun hs => ?_
  have hsm := hsl so (List.mem_of_getElem? hk)
  have hklt := (List.getElem?_eq_some_iff.1 hk).1
  simp -dsimp [zfn, cPl, cBl, eTs]
  simp -dsimp [eSos, hk0, hk, eSo, cSo, cT, eArs]
  generalize hV : indF n p so l cons = V
  have hfit : ∀ (i : Nat) (hi : i < so.idx.length), (match l[i]? with | some x => if so.idx[i].rc then zcy n p x cons else zae n p x | none => false) = if so.idx[i].rc then zcy n p (l[i]'(by omega)) cons else zae n p (l[i]'(by omega)) := fun i hi => by rw [List.getElem?_eq_getElem (by omega : i < l.length)]
  have hVt : (∀ (i : Nat) (hi : i < so.idx.length), (if so.idx[i].rc then zcy n p (l[i]'(by omega)) cons else zae n p (l[i]'(by omega))) = true) → V = true := fun h => by
    rw [← hV]
    exact (zaq _ _ _).2 fun j hj => by simp only [Nat.zero_add]; rw [hfit j hj]; exact h j hj
  have hVf : ∀ (i : Nat) (hi : i < so.idx.length), (if so.idx[i].rc then zcy n p (l[i]'(by omega)) cons else zae n p (l[i]'(by omega))) = false → V = false := fun i hi h => by
    rw [← hV, Bool.eq_false_iff]
    intro h2
    have := (zaq _ _ _).1 h2 i hi
    simp only [Nat.zero_add] at this
    rw [hfit i hi, h] at this
    cases this
  refine zaj so.idx.length (fun i st => st.s 2 = .d (eTs l) ∧ st.s 3 = .d (.int .i64 cons) ∧ st.s 4 = .ptr 4 1 0 ∧ st.s 17 = .d (eArs so.idx) ∧ st.s 18 = .d (.int .i64 so.idx.length) ∧ st.s 19 = .d (.int .i64 i) ∧
    st.h 4 = ⟨1, .box [.d (eSos p.b.sorts), .d (eCos p.b.cons), .d (.int .i64 p.b.elim), .d (.int .i64 p.base), .d (eArs p.args), .d (.int .i64 p.more)] false⟩ ∧
    ∀ (j : Nat) (hj : j < so.idx.length), j < i → (if so.idx[j].rc then zcy n p (l[j]'(by omega)) cons else zae n p (l[j]'(by omega))) = true) ?_ ?_
  · simp -dsimp [eTs, eArs, eSos]
  · rintro i ⟨s, hp⟩ hi ⟨g1, g2, g3, g17, g18, g19, k4, g⟩
    dsimp only at g1 g2 g3 g17 g18 g19 k4
    simp only [eTs, eArs] at g1 g17
    rcases Nat.lt_or_ge i so.idx.length with hlt | hge
    · have w1 : IntKind.i64.wrap ((i : Int) + 1) = (i : Int) + 1 := zab (by omega) (by omega)
      have hiA : i < l.length := by omega
      obtain ⟨x1, x2⟩ := ol _ (List.getElem_mem hiA)
      have hcv := hVf i hlt
      have hfi : ∀ h : (if so.idx[i].rc then zcy n p l[i] cons else zae n p l[i]) = true, ∀ (j : Nat) (hj : j < so.idx.length), j < i + 1 → (if so.idx[j].rc then zcy n p (l[j]'(by omega)) cons else zae n p (l[j]'(by omega))) = true := fun h j hj hji => by
        rcases Nat.lt_or_ge j i with h' | h'
        · exact g j hj h'
        · have : j = i := by omega
          subst this
          exact h
      have hCx := zm2 n hN p l[i] h0 (by omega) hl hsl x1 x2
      have hDx := zRl n hN p l[i] cons h0 (by omega) hl hsl hcl x1 x2
      generalize hX : l[i] = X at *
      generalize hAr : so.idx[i] = R at *
      simp only [cPl, cBl, cT, List.cons_append, List.nil_append] at hCx hDx
      simp -dsimp [g1, g2, g3, g17, g18, g19, k4, hlt, hiA, hX, hAr, eAr, cAr, cT]
      cases hr : R.rc with
      | false =>
        rw [hr] at hcv hfi
        simp only [Bool.false_eq_true, if_false] at hcv hfi
        simp -dsimp [g1, g2, g3, g17, g18, g19, k4, hlt, hiA, hX, hAr, eAr, cAr, cT, hr]
        refine zaa hCx ?_
        cases hc : zae n p X with
        | false => simp -dsimp [g1, g2, g3, g17, g18, g19, k4, hlt, hiA, hX, hAr, eAr, cAr, cT, hr, hcv hc]
        | true =>
          have hnx := hfi hc
          simp -dsimp [g1, g2, g3, g17, g18, g19, k4, hlt, hiA, hX, hAr, eAr, cAr, cT, hr, w1, eTs, eArs]
          simpa using hnx
      | true =>
        rw [hr] at hcv hfi
        simp only [if_true] at hcv hfi
        simp -dsimp [g1, g2, g3, g17, g18, g19, k4, hlt, hiA, hX, hAr, eAr, cAr, cT, hr]
        refine zaa hDx ?_
        cases hc : zcy n p X cons with
        | false => simp -dsimp [g1, g2, g3, g17, g18, g19, k4, hlt, hiA, hX, hAr, eAr, cAr, cT, hr, hcv hc]
        | true =>
          have hnx := hfi hc
          simp -dsimp [g1, g2, g3, g17, g18, g19, k4, hlt, hiA, hX, hAr, eAr, cAr, cT, hr, w1, eTs, eArs]
          simpa using hnx
    · have e : i = so.idx.length := by omega
      subst e
      have hz := hVt fun j hj => g j hj hj
      simp -dsimp [g1, g2, g3, g17, g18, g19, k4, hz]
end
end
section
section
attribute [local simp] zac zag tk tn tks zc4 zdf zch zci zcj zei
def argF (n : Nat) (b : Bl) (base : Int) (l : List Ar) (cons : Int) (i : Nat) (a : Ar) : Bool :=
  if a.rc then (allI (fun j d => zae n ⟨b, base, l.take i, (j : Int)⟩ d) 0 a.dom) && (match b.sorts[a.sort.toNat]? with
    | some so => indF n ⟨b, base, l.take i, (a.dom.length : Int)⟩ so a.idx cons
    | none => false)
  else zae n ⟨b, base, l.take i, 0⟩ a.ty
def rowF (n : Nat) (b : Bl) (base : Int) (l : List Ar) (cons : Int) : Bool := allI (fun i a => argF n b base l cons i a) 0 l
theorem zKf (n : Nat) (hN : n ≤ 1000000) (b : Bl) (base : Int) (l : List Ar) (cons : Int) (hl : l.length ≤ 1000000) (hsl : ∀ s ∈ b.sorts, s.idx.length ≤ 1000000) (hcl : ∀ c ∈ b.cons, c.args.length ≤ 1000000)
    (hty : ∀ a ∈ l, a.rc = false → okT a.ty ∧ zai a.ty ≤ n) (hrc : ∀ a ∈ l, a.rc = true → a.dom.length ≤ 60 ∧ (∀ x ∈ a.dom, okT x ∧ zai x ≤ n) ∧ (∀ x ∈ a.idx, okT x ∧ zai x ≤ n) ∧ 0 ≤ a.sort ∧ ∃ so, b.sorts[a.sort.toNat]? = some so ∧ a.idx.length = so.idx.length) :
    Pure Tryz.prog zn0 [eBl b, .int .i64 base, eArs l, .int .i64 cons] [.bool (rowF n b base l cons)] := by
  refine zFa rfl fun hs => ?_
  generalize hV : rowF n b base l cons = V
  have hVt : (∀ (i : Nat) (hi : i < l.length), argF n b base l cons i l[i] = true) → V = true := fun h => by
    rw [← hV]
    exact (zaq _ _ _).2 fun j hj => by simp only [Nat.zero_add]; exact h j hj
  have hVf : ∀ (i : Nat) (hi : i < l.length), argF n b base l cons i l[i] = false → V = false := fun i hi h => by
    rw [← hV, Bool.eq_false_iff]
    intro h2
    have := (zaq _ _ _).1 h2 i hi
    simp only [Nat.zero_add] at this
    rw [h] at this
    cases this
  simp -dsimp [zsa, eBl, cBl, eArs]
  refine zaj l.length (fun i st => st.s 1 = .d (.int .i64 base) ∧ st.s 2 = .d (eArs l) ∧ st.s 3 = .d (.int .i64 cons) ∧ st.s 4 = .ptr 4 1 0 ∧ st.s 14 = .d (eArs l) ∧ st.s 15 = .d (.int .i64 l.length) ∧ st.s 16 = .d (.int .i64 i) ∧
    st.h 4 = ⟨1, .box [.d (eSos b.sorts), .d (eCos b.cons), .d (.int .i64 b.elim)] false⟩ ∧ ∀ (j : Nat) (hj : j < l.length), j < i → argF n b base l cons j l[j] = true) ?_ ?_
  · simp -dsimp [eArs]
  · rintro i ⟨s, hp⟩ hi ⟨g1, g2, g3, g4, g14, g15, g16, k4, g⟩
    dsimp only at g1 g2 g3 g4 g14 g15 g16 k4
    simp only [eArs] at g2 g14
    rcases Nat.lt_or_ge i l.length with hlt | hge
    · have w1 : IntKind.i64.wrap ((i : Int) + 1) = (i : Int) + 1 := zab (by omega) (by omega)
      have hile : i ≤ l.length := hi
      have hcv := hVf i hlt
      have hmem := List.getElem_mem hlt
      have h1 := hty _ hmem
      have h2 := hrc _ hmem
      have hfi : ∀ h : argF n b base l cons i l[i] = true, ∀ (j : Nat) (hj : j < l.length), j < i + 1 → argF n b base l cons j l[j] = true := fun h j hj hji => by
        rcases Nat.lt_or_ge j i with h' | h'
        · exact g j hj h'
        · have : j = i := by omega
          subst this
          exact h
      generalize hAr : l[i] = R at *
      simp -dsimp [g1, g2, g3, g4, g14, g15, g16, k4, hlt, hile, hAr, eAr, cAr, cT]
      cases hr : R.rc with
      | false =>
        obtain ⟨o1, o2⟩ := h1 hr
        have hC := zm2 n hN ⟨b, base, l.take i, 0⟩ R.ty (by simp) (by simp; omega) (by simp; omega) hsl o1 o2
        have hAF : argF n b base l cons i R = zae n ⟨b, base, l.take i, 0⟩ R.ty := by rw [argF, hr, if_neg (by simp)]
        rw [hAF] at hcv hfi
        simp only [cPl, cBl, cT, eArs, List.cons_append, List.nil_append, List.map_take] at hC
        simp -dsimp [g1, g2, g3, g4, g14, g15, g16, k4, hlt, hile, hAr, eAr, cAr, cT, hr]
        refine zaa hC ?_
        cases hc : zae n ⟨b, base, l.take i, 0⟩ R.ty with
        | false => simp -dsimp [g1, g2, g3, g4, g14, g15, g16, k4, hlt, hile, hAr, eAr, cAr, cT, hr, hcv hc]
        | true =>
          have hnx := hfi hc
          simp -dsimp [g1, g2, g3, g4, g14, g15, g16, k4, hlt, hile, hAr, eAr, cAr, cT, hr, w1, eArs]
          simpa using hnx
      | true =>
        obtain ⟨r1, r2, r3, r4, so, hso, r5⟩ := h2 hr
        have hAF : argF n b base l cons i R = ((allI (fun j d => zae n ⟨b, base, l.take i, (j : Int)⟩ d) 0 R.dom) && indF n ⟨b, base, l.take i, (R.dom.length : Int)⟩ so R.idx cons) := by rw [argF, hr, if_pos rfl, hso]
        rw [hAF] at hcv hfi
        simp -dsimp [g1, g2, g3, g4, g14, g15, g16, k4, hlt, hile, hAr, eAr, cAr, cT, hr]
        simp -dsimp [eTs]
        refine zaj R.dom.length (fun j st => st.s 1 = .d (.int .i64 base) ∧ st.s 2 = .d (eArs l) ∧ st.s 3 = .d (.int .i64 cons) ∧ st.s 4 = .ptr 4 1 0 ∧ st.s 10 = .ptr 10 ((hp 10).ver + 1) 0 ∧ st.s 11 = .ptr 11 ((hp 11).ver + 1) 0 ∧ st.s 14 = .d (eArs l) ∧ st.s 15 = .d (.int .i64 l.length) ∧ st.s 16 = .d (.int .i64 i) ∧
          st.s 36 = .d (eTs R.dom) ∧ st.s 37 = .d (.int .i64 R.dom.length) ∧ st.s 38 = .d (.int .i64 j) ∧
          st.h 4 = ⟨1, .box [.d (eSos b.sorts), .d (eCos b.cons), .d (.int .i64 b.elim)] false⟩ ∧
          st.h 10 = ⟨(hp 10).ver + 1, .box [.d (.bool true), .d (.int .i64 R.ty.kind), .d (.int .i64 R.ty.num), .d (.sl 3 (R.ty.kids.map eT)), .d (eTs R.dom), .d (.int .i64 R.sort), .d (eTs R.idx)] false⟩ ∧
          st.h 11 = ⟨(hp 11).ver + 1, .box [.d (eSos b.sorts), .d (eCos b.cons), .d (.int .i64 b.elim), .d (.int .i64 base), .d (eArs (l.take i)), .d (.int .i64 0)] false⟩ ∧
          ∀ (q : Nat) (hq : q < R.dom.length), q < j → zae n ⟨b, base, l.take i, (q : Int)⟩ R.dom[q] = true) ?_ ?_
        · simp -dsimp [g1, g2, g3, g4, g14, g15, g16, k4, hlt, hile, hAr, eAr, cAr, cT, hr, eArs, eTs]
        · clear g1 g2 g3 g4 g14 g15 g16 k4
          rintro j ⟨s, hq⟩ hj ⟨g1, g2, g3, g4, g10, g11, g14, g15, g16, g36, g37, g38, k4, k10, k11, gd⟩
          dsimp only at g1 g2 g3 g4 g10 g11 g14 g15 g16 g36 g37 g38 k4 k10 k11
          simp only [eTs, eArs] at g2 g14 g36 k11
          rcases Nat.lt_or_ge j R.dom.length with hlt2 | hge2
          · have w2 : IntKind.i64.wrap ((j : Int) + 1) = (j : Int) + 1 := zab (by omega) (by omega)
            obtain ⟨d1, d2⟩ := r2 _ (List.getElem_mem hlt2)
            have hP := zGa ⟨b, base, l.take i, 0⟩ (j : Int) (by simp) (by simp) (by omega) (by omega)
            have hC := zm2 n hN ⟨b, base, l.take i, (j : Int)⟩ R.dom[j] (by simp) (by simp; omega) (by simp; omega) hsl d1 d2
            generalize hX : R.dom[j] = X at *
            simp only [cPl, cBl, cT, eArs, Pl.fwd, Int.zero_add, List.cons_append, List.nil_append, List.map_take] at hP hC
            simp -dsimp [g1, g2, g3, g4, g10, g11, g14, g15, g16, g36, g37, g38, k4, k10, k11, hlt2, hX, cT]
            refine zaa hP ?_
            simp -dsimp [g1, g2, g3, g4, g10, g11, g14, g15, g16, g36, g37, g38, k4, k10, k11, hlt2, hX, cT]
            refine zaa hC ?_
            cases hc : zae n ⟨b, base, l.take i, (j : Int)⟩ X with
            | false =>
              have hz : allI (fun j d => zae n ⟨b, base, l.take i, (j : Int)⟩ d) 0 R.dom = false := by
                rw [Bool.eq_false_iff]
                intro h
                have := (zaq _ _ _).1 h j hlt2
                rw [Nat.zero_add, hX, hc] at this
                cases this
              simp -dsimp [g1, g2, g3, g4, g10, g11, g14, g15, g16, g36, g37, g38, k4, k10, k11, hcv (by rw [hz]; rfl)]
            | true =>
              simp -dsimp [g1, g2, g3, g4, g10, g11, g14, g15, g16, g36, g37, g38, k4, k10, k11, hlt2, hX, cT, w2, eTs, eArs]
              intro q hq' hqj
              rcases Nat.lt_or_ge q j with h' | h'
              · exact gd q hq' h'
              · have : q = j := by omega
                subst this
                rw [hX]; exact hc
          · have ej : j = R.dom.length := by omega
            subst ej
            have hz : allI (fun j d => zae n ⟨b, base, l.take i, (j : Int)⟩ d) 0 R.dom = true := (zaq _ _ _).2 fun q hq' => by rw [Nat.zero_add]; exact gd q hq' hq'
            rw [hz, Bool.true_and] at hcv hfi
            have hP := zGa ⟨b, base, l.take i, 0⟩ (R.dom.length : Int) (by simp) (by simp) (by omega) (by omega)
            have hI := zzm n hN ⟨b, base, l.take i, (R.dom.length : Int)⟩ R.sort so r4 hso R.idx cons r5 (by simp) (by simp; omega) (by simp; omega) hsl hcl r3
            simp only [cPl, cBl, cT, eTs, eArs, Pl.fwd, Int.zero_add, List.cons_append, List.nil_append, List.map_take] at hP hI
            simp -dsimp [g1, g2, g3, g4, g10, g11, g14, g15, g16, g36, g37, g38, k4, k10, k11, eTs]
            refine zaa hP ?_
            simp -dsimp [g1, g2, g3, g4, g10, g11, g14, g15, g16, g36, g37, g38, k4, k10, k11, eTs]
            refine zaa hI ?_
            cases hc : indF n ⟨b, base, l.take i, (R.dom.length : Int)⟩ so R.idx cons with
            | false => simp -dsimp [g1, g2, g3, g4, g10, g11, g14, g15, g16, g36, g37, g38, k4, k10, k11, hcv hc]
            | true =>
              have hnx := hfi hc
              simp -dsimp [g1, g2, g3, g4, g10, g11, g14, g15, g16, g36, g37, g38, k4, k10, k11, w1, eArs]
              exact ⟨hlt, hnx⟩
    · have e : i = l.length := by omega
      subst e
      have hz := hVt fun j hj => g j hj hj
      simp -dsimp [g1, g2, g3, g4, g14, g15, g16, k4, hz]
end
end
section
section
attribute [local simp] zac zag tk tn tks zc4 zdf zch zci zcj zei
def zmc (n : Nat) (b : Bl) (base : Int) (so : So) : Bool := rowF n b base so.idx 0 && (!so.dec || zae n ⟨b, base, so.idx, 0⟩ so.dty)
def conF (n : Nat) (b : Bl) (base : Int) (c : Nat) (co : Co) : Bool := rowF n b base co.args c && match b.sorts[co.sort.toNat]? with
  | some so => indF n ⟨b, base, co.args, 0⟩ so co.idx c && (!so.dec || zae n ⟨b, base, co.args, 0⟩ co.dec)
  | none => false
def posF (n : Nat) (b : Bl) (base : Int) : Bool := allI (fun _ s => zmc n b base s) 0 b.sorts && allI (fun c x => conF n b base c x) 0 b.cons
def zef (n : Nat) (b : Bl) (base : Int) : Int := if zfq b = 0 then if base < 0 ∨ 65535 < base then 1 else if posF n b base then 0 else 11 else zfq b
structure Ready (n : Nat) (b : Bl) : Prop where
  s : ∀ s ∈ b.sorts, s.idx.length ≤ 1000000
  c : ∀ c ∈ b.cons, c.args.length ≤ 1000000
theorem zzr {n : Nat} (hn : 9000 ≤ n) {b : Bl} {l : List Ar} (ol : zyy l) (fl : zpc l) (hr : rowM b l = true) :
    (∀ a ∈ l, a.rc = false → okT a.ty ∧ zai a.ty ≤ n) ∧ (∀ a ∈ l, a.rc = true → a.dom.length ≤ 60 ∧ (∀ x ∈ a.dom, okT x ∧ zai x ≤ n) ∧ (∀ x ∈ a.idx, okT x ∧ zai x ≤ n) ∧ 0 ≤ a.sort ∧ ∃ so, b.sorts[a.sort.toNat]? = some so ∧ a.idx.length = so.idx.length) := by
  refine ⟨fun a ha _ => ⟨(ol.2 a ha).ty, by have := (fl.2 a ha).ty; omega⟩, fun a ha hrc => ?_⟩
  have oa := ol.2 a ha
  have fa := fl.2 a ha
  refine ⟨fa.domL, fun x hx => ⟨oa.dom.2 x hx, ?_⟩, fun x hx => ⟨oa.idx.2 x hx, ?_⟩, ?_⟩
  · have := Nat.le_trans (ze6 (List.mem_map.2 ⟨x, hx, rfl⟩)) fa.dom; omega
  · have := Nat.le_trans (ze6 (List.mem_map.2 ⟨x, hx, rfl⟩)) fa.idx; omega
  · rw [rowM] at hr
    split at hr
    · cases hr
    obtain ⟨i, hi, rfl⟩ := List.mem_iff_getElem.1 ha
    have hA := (zaq _ _ _).1 hr i hi
    rw [Nat.zero_add, argM, if_pos hrc] at hA
    split at hA
    case isFalse => cases hA
    split at hA
    · cases hA
    split at hA
    · cases hA
    split at hA
    · cases hA
    rename_i so hso
    split at hA
    case isFalse => cases hA
    rename_i hlen
    exact ⟨by omega, so, hso, by omega⟩
theorem zpn {b : Bl} {c : Co} (h : conM b c = true) : rowM b c.args = true ∧ 0 ≤ c.sort ∧ ∃ so, b.sorts[c.sort.toNat]? = some so ∧ c.idx.length = so.idx.length := by
  rw [conM] at h
  split at h
  · cases h
  split at h
  case isFalse => cases h
  rename_i h1
  split at h
  · cases h
  rename_i so hso
  split at h
  case isFalse => cases h
  exact ⟨h1, by omega, so, hso, by omega⟩
theorem zth {b : Bl} {k : Nat} {s : So} (h : zhp b k s = true) : rowM b s.idx = true := by
  rw [zhp] at h
  split at h
  · assumption
  · cases h
theorem zNi (n : Nat) (hn : 9000 ≤ n) (hN : n ≤ 1000000) (b : Bl) (ob : okBl b) (fb : FineBl b) (base : Int) : Pure Tryz.prog znk [eBl b, .int .i64 base] [.int .i64 (zef n b base)] := by
  refine zz9 rfl fun hs => ?_
  have hC := zK2 b
  have hbs := fb.s
  have hbc := fb.c
  have hsl : ∀ s ∈ b.sorts, s.idx.length ≤ 1000000 := fun s hs => by have := (fb.sorts s hs).idx.1; omega
  have hcl : ∀ c ∈ b.cons, c.args.length ≤ 1000000 := fun c hc => by have := (fb.cons c hc).args.1; omega
  simp only [eBl, cBl] at hC
  generalize hE : zef n b base = E
  simp -dsimp [znt, eBl, cBl]
  refine zaa hC ?_
  by_cases hz : zfq b = 0
  case neg =>
    rw [zef, if_neg hz] at hE
    simp -dsimp [hz, ← hE]
  rw [zef, if_pos hz] at hE
  obtain ⟨z1, z4, z8, zl, zs, zc⟩ := (zbn b).1 hz
  simp -dsimp [hz]
  by_cases b1 : base < 0
  · rw [if_pos (.inl b1)] at hE
    simp -dsimp [b1, ← hE]
  by_cases b2 : 65535 < base
  · rw [if_pos (.inr b2)] at hE
    simp -dsimp [b1, b2, ← hE]
  rw [if_neg (by omega)] at hE
  simp -dsimp [b1, b2, eSos]
  have hbad : posF n b base = false → E = 11 := fun h => by rw [← hE, h]; rfl
  have hgood : posF n b base = true → E = 0 := fun h => by rw [← hE, h]; rfl
  have hbs1 : ∀ (i : Nat) (hi : i < b.sorts.length), zmc n b base b.sorts[i] = false → E = 11 := fun i hi h => hbad (by
    rw [posF, Bool.and_eq_false_iff]
    refine .inl (Bool.eq_false_iff.2 fun h2 => ?_)
    have := (zaq _ _ _).1 h2 i hi
    rw [h] at this
    cases this)
  have hbc1 : ∀ (i : Nat) (hi : i < b.cons.length), conF n b base i b.cons[i] = false → E = 11 := fun i hi h => hbad (by
    rw [posF, Bool.and_eq_false_iff]
    refine .inr (Bool.eq_false_iff.2 fun h2 => ?_)
    have := (zaq _ _ _).1 h2 i hi
    rw [Nat.zero_add, h] at this
    cases this)
  refine zaj b.sorts.length (fun i st => st.s 1 = .d (.int .i64 base) ∧ st.s 2 = .ptr 2 1 0 ∧ st.s 26 = .d (eSos b.sorts) ∧ st.s 27 = .d (.int .i64 b.sorts.length) ∧ st.s 28 = .d (.int .i64 i) ∧
    st.h 2 = ⟨1, .box [.d (eSos b.sorts), .d (eCos b.cons), .d (.int .i64 b.elim)] false⟩ ∧ ∀ (j : Nat) (hj : j < b.sorts.length), j < i → zmc n b base b.sorts[j] = true) ?_ ?_
  · simp -dsimp [eSos]
  · rintro i ⟨s, hp⟩ hi ⟨g1, g2, g26, g27, g28, k2, g⟩
    dsimp only at g1 g2 g26 g27 g28 k2
    simp only [eSos] at g26
    rcases Nat.lt_or_ge i b.sorts.length with hlt | hge
    · have w1 : IntKind.i64.wrap ((i : Int) + 1) = (i : Int) + 1 := zab (by omega) (by omega)
      have hcv := hbs1 i hlt
      have hmem := List.getElem_mem hlt
      have os := ob.sorts _ hmem
      have fs := fb.sorts _ hmem
      obtain ⟨q1, q2⟩ := zzr (b := b) hn os.idx fs.idx (zth (zs i hlt))
      have hfi : zmc n b base b.sorts[i] = true → ∀ (j : Nat) (hj : j < b.sorts.length), j < i + 1 → zmc n b base b.sorts[j] = true := fun h j hj hji => by
        rcases Nat.lt_or_ge j i with h' | h'
        · exact g j hj h'
        · have : j = i := by omega
          subst this
          exact h
      generalize hS : b.sorts[i] = S at *
      have hR := zKf n hN b base S.idx 0 (by have := fs.idx.1; omega) hsl hcl q1 q2
      have hD := zm2 n hN ⟨b, base, S.idx, 0⟩ S.dty (by simp) (by have := fs.dty; simp; omega) (by have := fs.idx.1; simp; omega) hsl os.dty (by have := fs.dty; omega)
      simp only [cPl, cBl, eBl, cT, eArs, List.cons_append, List.nil_append] at hR hD
      simp -dsimp [g1, g2, g26, g27, g28, k2, hlt, hS, eSo, cSo, cT, eArs]
      refine zaa hR ?_
      cases hr : rowF n b base S.idx 0 with
      | false =>
        have hw := hcv (by rw [zmc, hr]; rfl)
        simp -dsimp [g1, g2, g26, g27, g28, k2, hlt, hS, eSo, cSo, cT, eArs, hw]
      | true =>
        cases hd : S.dec with
        | false =>
          have hnx := hfi (by rw [zmc, hr, hd]; rfl)
          simp -dsimp [g1, g2, g26, g27, g28, k2, hlt, hS, eSo, cSo, cT, eArs, hd, w1, eSos]
          exact hnx
        | true =>
          simp -dsimp [g1, g2, g26, g27, g28, k2, hlt, hS, eSo, cSo, cT, eArs, hd]
          refine zaa hD ?_
          cases hc : zae n ⟨b, base, S.idx, 0⟩ S.dty with
          | false =>
            have hw := hcv (by rw [zmc, hr, hd, hc]; rfl)
            simp -dsimp [g1, g2, g26, g27, g28, k2, hlt, hS, eSo, cSo, cT, eArs, hd, hw]
          | true =>
            have hnx := hfi (by rw [zmc, hr, hd, hc]; rfl)
            simp -dsimp [g1, g2, g26, g27, g28, k2, hlt, hS, eSo, cSo, cT, eArs, hd, w1, eSos]
            exact hnx
    · have e : i = b.sorts.length := by omega
      subst e
      have hzs : allI (fun _ s => zmc n b base s) 0 b.sorts = true := (zaq _ _ _).2 fun j hj => g j hj hj
      simp -dsimp [g1, g2, g26, g27, g28, k2, eCos]
      refine zaj b.cons.length (fun i st => st.s 1 = .d (.int .i64 base) ∧ st.s 2 = .ptr 2 1 0 ∧ st.s 56 = .d (eCos b.cons) ∧ st.s 57 = .d (.int .i64 b.cons.length) ∧ st.s 58 = .d (.int .i64 i) ∧
        st.h 2 = ⟨1, .box [.d (eSos b.sorts), .d (eCos b.cons), .d (.int .i64 b.elim)] false⟩ ∧ ∀ (j : Nat) (hj : j < b.cons.length), j < i → conF n b base j b.cons[j] = true) ?_ ?_
      · simp -dsimp [eSos, eCos, g1, g2, k2]
      · clear g1 g2 g26 g27 g28 k2
        rintro i ⟨s, hp⟩ hi ⟨g1, g2, g56, g57, g58, k2, g⟩
        dsimp only at g1 g2 g56 g57 g58 k2
        simp only [eCos] at g56
        rcases Nat.lt_or_ge i b.cons.length with hlt | hge
        · have w1 : IntKind.i64.wrap ((i : Int) + 1) = (i : Int) + 1 := zab (by omega) (by omega)
          have hcv := hbc1 i hlt
          have hmem := List.getElem_mem hlt
          have os := ob.cons _ hmem
          have fs := fb.cons _ hmem
          obtain ⟨hrow, c0, so, hso, hil⟩ := zpn (zc _ hmem)
          obtain ⟨q1, q2⟩ := zzr (b := b) hn os.args fs.args hrow
          have hsolt := (List.getElem?_eq_some_iff.1 hso).1
          have hso' := (List.getElem?_eq_some_iff.1 hso).2
          have hfi : conF n b base i b.cons[i] = true → ∀ (j : Nat) (hj : j < b.cons.length), j < i + 1 → conF n b base j b.cons[j] = true := fun h j hj hji => by
            rcases Nat.lt_or_ge j i with h' | h'
            · exact g j hj h'
            · have : j = i := by omega
              subst this
              exact h
          generalize hS : b.cons[i] = S at *
          have hR := zKf n hN b base S.args (i : Int) (by have := fs.args.1; omega) hsl hcl q1 q2
          have hI := zzm n hN ⟨b, base, S.args, 0⟩ S.sort so c0 hso S.idx (i : Int) hil (by simp) (by simp) (by have := fs.args.1; simp; omega) hsl hcl (fun x hx => ⟨os.idx.2 x hx, by have := Nat.le_trans (ze6 (List.mem_map.2 ⟨x, hx, rfl⟩)) fs.idx; omega⟩)
          have hD := zm2 n hN ⟨b, base, S.args, 0⟩ S.dec (by simp) (by have := fs.dec; simp; omega) (by have := fs.args.1; simp; omega) hsl os.dec (by have := fs.dec; omega)
          simp only [cPl, cBl, eBl, cT, eTs, eArs, List.cons_append, List.nil_append] at hR hI hD
          have hF : conF n b base i S = (rowF n b base S.args i && (indF n ⟨b, base, S.args, 0⟩ so S.idx i && (!so.dec || zae n ⟨b, base, S.args, 0⟩ S.dec))) := by rw [conF, hso]
          simp -dsimp [g1, g2, g56, g57, g58, k2, hlt, hS, eCo, cCo, cT, eArs]
          refine zaa hR ?_
          cases hr : rowF n b base S.args i with
          | false =>
            have hw := hcv (by rw [hF, hr]; rfl)
            simp -dsimp [g1, g2, g56, g57, g58, k2, hlt, hS, eCo, cCo, cT, eArs, hw]
          | true =>
            simp -dsimp [g1, g2, g56, g57, g58, k2, hlt, hS, eCo, cCo, cT, eArs, eTs]
            refine zaa hI ?_
            cases hii : indF n ⟨b, base, S.args, 0⟩ so S.idx i with
            | false =>
              have hw := hcv (by rw [hF, hr, hii]; rfl)
              simp -dsimp [g1, g2, g56, g57, g58, k2, hlt, hS, eCo, cCo, cT, eArs, hw]
            | true =>
              cases hd : so.dec with
              | false =>
                have hnx := hfi (by rw [hF, hr, hii, hd]; rfl)
                simp -dsimp [g1, g2, g56, g57, g58, k2, hlt, hS, eCo, cCo, cT, eArs, eSos, eTs, c0, hso, hsolt, hso', eSo, cSo, hd, w1]
                exact ⟨rfl, hnx⟩
              | true =>
                simp -dsimp [g1, g2, g56, g57, g58, k2, hlt, hS, eCo, cCo, cT, eArs, eSos, eTs, c0, hso, hsolt, hso', eSo, cSo, hd]
                refine zaa hD ?_
                cases hc : zae n ⟨b, base, S.args, 0⟩ S.dec with
                | false =>
                  have hw := hcv (by rw [hF, hr, hii, hd, hc]; rfl)
                  simp -dsimp [g1, g2, g56, g57, g58, k2, hlt, hS, eCo, cCo, cT, eArs, eSos, eTs, c0, hso, hsolt, hso', eSo, cSo, hd, hw]
                | true =>
                  have hnx := hfi (by rw [hF, hr, hii, hd, hc]; rfl)
                  simp -dsimp [g1, g2, g56, g57, g58, k2, hlt, hS, eCo, cCo, cT, eArs, eSos, eTs, c0, hso, hsolt, hso', eSo, cSo, hd, w1]
                  exact ⟨rfl, hnx⟩
        · have e : i = b.cons.length := by omega
          subst e
          have hzc : allI (fun c x => conF n b base c x) 0 b.cons = true := (zaq _ _ _).2 fun j hj => by rw [Nat.zero_add]; exact g j hj hj
          have hw := hgood (by rw [posF, hzs, hzc]; rfl)
          simp -dsimp [g1, g2, g56, g57, g58, k2, hw]
end
end
section
structure Few (b b' : Bl) (base : Int) (m : Int) : Prop where
  s : b'.sorts = b.sorts
  h0 : ∀ c, n64 c → (ofM b base c).1 = 0 → (ofM b' base c).1 = 0
  h4 : ∀ c, n64 c → (ofM b base c).1 = 4 → ofM b' base c = ofM b base c
  h5 : ∀ c, n64 c → (ofM b base c).1 = 5 → (ofM b base c).2 < m → ofM b' base c = ofM b base c
  c : ∀ j : Nat, (j : Int) < m → b'.cons[j]? = b.cons[j]?
theorem zQr {b : Bl} {base n : Int} (h : (ofM b base n).1 = 4) : ∃ k : Nat, k < b.sorts.length ∧ zdy b base k = n ∧ ofM b base n = (4, (k : Int)) := by
  have h0 := h
  rw [ofM] at h
  split at h
  · cases h
  rename_i hc
  cases hs : seek n (tab b base) with
  | none => rw [hs] at h; cases h
  | some q =>
    obtain ⟨e, he, k, hk, hn, rfl⟩ := zs5 hs
    rw [hs] at h
    simp only [Option.getD_some] at h
    have e0 : ofM b base n = (e.kind, (k : Int)) := by rw [ofM, if_neg hc, hs]; rfl
    rw [h] at e0
    simp only [tab, List.mem_cons, List.not_mem_nil, or_false] at he
    rcases he with rfl | rfl | rfl | rfl
    · cases h
    · exact ⟨k, hk, hn, e0⟩
    · cases h
    · cases h
theorem zD6 {b : Bl} {base n : Int} (h : (ofM b base n).1 = 5) : ∃ k : Nat, k < b.cons.length ∧ zak b base k = n ∧ ofM b base n = (5, (k : Int)) := by
  have h0 := h
  rw [ofM] at h
  split at h
  · cases h
  rename_i hc
  cases hs : seek n (tab b base) with
  | none => rw [hs] at h; cases h
  | some q =>
    obtain ⟨e, he, k, hk, hn, rfl⟩ := zs5 hs
    rw [hs] at h
    simp only [Option.getD_some] at h
    have e0 : ofM b base n = (e.kind, (k : Int)) := by rw [ofM, if_neg hc, hs]; rfl
    rw [h] at e0
    simp only [tab, List.mem_cons, List.not_mem_nil, or_false] at he
    rcases he with rfl | rfl | rfl | rfl
    · cases h
    · cases h
    · exact ⟨k, hk, hn, e0⟩
    · cases h
end
section
attribute [local simp] zac zag tk tn tks zch zci zcj zei
theorem zy8 {b : Bl} {a : Ar} {i : Int} (h : argM b a i = true) (hr : a.rc = false) : inM a.ty i = true := by
  rw [argM, hr] at h
  simp only [Bool.false_eq_true, if_false] at h
  split at h
  · assumption
  · cases h
theorem zwq {b : Bl} {a : Ar} {i : Int} (h : argM b a i = true) (hr : a.rc = true) (h0 : 0 ≤ i) (h1 : i ≤ 1000) : zx9 a.ty = true ∧ 0 ≤ a.sort ∧ a.sort < b.sorts.length ∧ a.dom.length ≤ 12 ∧
    (∃ s, b.sorts[a.sort.toNat]? = some s ∧ a.idx.length = s.idx.length) ∧ (∀ (j : Nat) (hj : j < a.dom.length), inM a.dom[j] (i + j) = true) ∧ ∀ x ∈ a.idx, inM x (i + a.dom.length) = true := by
  rw [argM, hr] at h
  simp only [if_true] at h
  split at h
  · rename_i hn
    split at h
    · cases h
    · rename_i hd
      split at h
      · cases h
      · rename_i hs
        split at h
        · cases h
        · rename_i s hs2
          split at h
          · rename_i hl
            rw [Bool.and_eq_true] at h
            have hlt := (List.getElem?_eq_some_iff.1 hs2).1
            refine ⟨hn, by omega, by omega, by omega, ⟨s, hs2, by omega⟩, fun j hj => ?_, fun x hx => ?_⟩
            · have := (zaq _ _ 0).1 h.1 j hj
              rw [Nat.zero_add, zev (by omega) (by omega)] at this
              exact this
            · have h2 := h.2
              rw [zev (by omega) (by omega), allM, Bool.not_eq_true', List.any_eq_false] at h2
              have := h2 x hx
              simpa using this
          · cases h
  · cases h
theorem zd5 {t : T} {v : Int} (h : inM t v = true) (h0 : 0 ≤ v) (h1 : v ≤ 60000) (hn : zai t ≤ 1048576) : wiT t v 65536 = true ∧ zaf t = true ∧ zbp t = 0 := by
  obtain ⟨h2, h3⟩ := (zKu h0 (by omega) (by omega)).1 h
  exact ⟨h3, zJd h2, h2⟩
theorem tC_wi {n v c : Int} (h : n < c) : wiT (tC n) v c = true := by simp [tC, wiT, h]
theorem zGi {l : List T} {x : T} (h : x ∈ l) : zai x ≤ (l.map zai).sum := ze6 (List.mem_map.2 ⟨x, h, rfl⟩)
theorem zx0 {b : Bl} {base : Int} {a : Ar} (fa : FineAr a) : zai (zg4 b base a) ≤ 20000 := by
  have h1 := fa.ty
  have h2 := fa.dom
  have h3 := fa.domL
  have h4 := fa.idx
  have h5 := fa.idxL
  rw [zg4]
  split
  · rw [zHh, zKw, fmT, tC, zzv]
    omega
  · omega
theorem zEh {b : Bl} {l : List Ar} (h : rowM b l = true) : l.length ≤ 12 ∧ ∀ (j : Nat) (hj : j < l.length), argM b l[j] j = true := by
  rw [rowM] at h
  split at h
  · cases h
  · refine ⟨by omega, fun j hj => ?_⟩
    have := (zaq _ _ 0).1 h j hj
    rwa [Nat.zero_add] at this
end
section
section
attribute [local simp] zac zag tk tn tks zc4 zdf zch zci zcj zei
structure Vw where
  b : Bl
  base : Int
  args : List Ar
  pos : List Int
  fin : Int
def cVw (v : Vw) : List D := cBl v.b ++ [.int .i64 v.base, eArs v.args, .sl 1 (v.pos.map (.int .i64)), .int .i64 v.fin]
def posL : Int → List Ar → List Int
  | _, [] => []
  | e, a :: l => e :: posL (if a.rc then e + 2 else e + 1) l
def finL : Int → List Ar → Int
  | e, [] => e
  | e, a :: l => finL (if a.rc then e + 2 else e + 1) l
theorem zBl : ∀ (l : List Ar) (e : Int) (i : Nat) (h : i < l.length), finL e (l.take (i + 1)) = if l[i].rc then finL e (l.take i) + 2 else finL e (l.take i) + 1
  | a :: l, e, 0, h => by simp [finL]
  | a :: l, e, i + 1, h => by
    simp only [List.take_succ_cons, finL, List.getElem_cons_succ]
    exact zBl l _ i (by simpa using h)
theorem zz8 : ∀ (l : List Ar) (e : Int) (i : Nat) (_ : i < l.length), posL e (l.take (i + 1)) = posL e (l.take i) ++ [finL e (l.take i)]
  | a :: l, e, 0, h => by simp [posL, finL]
  | a :: l, e, i + 1, h => by
    simp only [List.take_succ_cons, posL, finL, List.cons_append]
    rw [zz8 l _ i (by simpa using h)]
theorem zfh : ∀ (l : List Ar) (e : Int), (posL e l).length = l.length
  | [], e => rfl
  | a :: l, e => by rw [posL, List.length_cons, zfh l, List.length_cons]
theorem zqu : ∀ (l : List Ar) (e : Int), e ≤ finL e l ∧ finL e l ≤ e + 2 * l.length
  | [], e => by simp [finL]
  | a :: l, e => by
    have h := zqu l (if a.rc then e + 2 else e + 1)
    rw [finL]
    simp only [List.length_cons]
    split <;> rename_i hr <;> simp only [hr, if_true, if_false, Bool.false_eq_true] at h <;> omega
theorem zOw : ∀ (l : List Ar) (e : Int) (i : Nat) (h : i < (posL e l).length), (posL e l)[i] = finL e (l.take i)
  | a :: l, e, 0, h => by simp [posL, finL]
  | a :: l, e, i + 1, h => by
    simp only [posL, List.getElem_cons_succ, List.take_succ_cons, finL]
    exact zOw l _ i _
theorem zBk (b : Bl) (base from_ : Int) (l : List Ar) (hl : l.length ≤ 20) (h0 : 0 ≤ from_) (h1 : from_ ≤ 1000) : Pure Tryz.prog zne [eBl b, .int .i64 base, eArs l, .int .i64 from_] [.rp (cVw ⟨b, base, l, posL from_ l, finL from_ l⟩)] := by
  refine zEg rfl fun hs => ?_
  simp -dsimp [zqz, eBl, cBl, eArs, cVw]
  refine zaj l.length (fun i st => st.s 18 = .d (eArs l) ∧ st.s 19 = .d (.int .i64 l.length) ∧ st.s 20 = .d (.int .i64 i) ∧ st.s 9 = .ptr 17 1 0 ∧ ∃ c, st.h 17 = ⟨1, .box [.d (eSos b.sorts), .d (eCos b.cons), .d (.int .i64 b.elim), .d (.int .i64 base), .d (eArs l), c, .d (.int .i64 (finL from_ (l.take i)))] false⟩ ∧
    ((i = 0 ∧ c = .fsl 1 []) ∨ (0 < i ∧ ∃ v, c = .rsl 34 v ∧ st.h 34 = ⟨v, .row 1 ((posL from_ (l.take i)).map (.int .i64)) false⟩))) ?_ ?_
  · simp -dsimp [eArs, finL]
  · rintro i ⟨s, hp⟩ hi ⟨g18, g19, g20, g9, c, k17, k34⟩
    dsimp only at g18 g19 g20 g9 k17 k34
    simp only [eArs] at g18 k17
    rcases Nat.lt_or_ge i l.length with hlt | hge
    · have w1 : IntKind.i64.wrap ((i : Int) + 1) = (i : Int) + 1 := zab (by omega) (by omega)
      have hfl := zqu (l.take i) from_
      rw [List.length_take] at hfl
      have hfs := zBl l from_ i hlt
      have hps := zz8 l from_ i hlt
      have hpl := zfh (l.take i) from_
      rw [List.length_take] at hpl
      generalize finL from_ (l.take (i + 1)) = F' at *
      generalize finL from_ (l.take i) = F at *
      generalize posL from_ (l.take (i + 1)) = P' at *
      generalize posL from_ (l.take i) = P at *
      subst hps
      generalize hR : l[i] = R at *
      have w2 : IntKind.i64.wrap (F + 1) = F + 1 := zab (by omega) (by omega)
      have w3 : IntKind.i64.wrap (F + 1 + 1) = F + 2 := by rw [zab (by omega) (by omega)]; omega
      have hr : (P.length + 1) * 8 ≤ zah := by simp only [zah]; omega
      have hP0 : i = 0 → P = [] := fun h => List.length_eq_zero_iff.1 (by omega)
      rcases k34 with ⟨rfl, rfl⟩ | ⟨hi0, v, rfl, k34⟩
      · have hPn := hP0 rfl
        subst hPn
        have w1' : IntKind.i64.wrap 1 = 1 := by rfl
        cases hrc : R.rc with
        | true =>
          rw [hrc, if_pos rfl] at hfs
          simp -dsimp [g18, g19, g20, g9, k17, hlt, hR, hrc, eAr, cAr, cT, w1', w2, w3, (by decide : 8 ≤ zah), eArs, hfs]
        | false =>
          rw [hrc, if_neg (by simp)] at hfs
          simp -dsimp [g18, g19, g20, g9, k17, hlt, hR, hrc, eAr, cAr, cT, w1', w2, w3, (by decide : 8 ≤ zah), eArs, hfs]
      · cases hrc : R.rc with
        | true =>
          rw [hrc, if_pos rfl] at hfs
          simp -dsimp [g18, g19, g20, g9, k17, k34, hlt, hR, hrc, eAr, cAr, cT, w1, w2, w3, hr, eArs, hfs]
        | false =>
          rw [hrc, if_neg (by simp)] at hfs
          simp -dsimp [g18, g19, g20, g9, k17, k34, hlt, hR, hrc, eAr, cAr, cT, w1, w2, w3, hr, eArs, hfs]
    · have e : i = l.length := by omega
      subst e
      rw [List.take_length] at k17 k34
      rcases k34 with ⟨hz, rfl⟩ | ⟨hi0, v, rfl, k34⟩
      · have hl0 : l = [] := List.length_eq_zero_iff.1 hz
        subst hl0
        simp -dsimp [g18, g19, g20, g9, k17, posL]
      · simp -dsimp [g18, g19, g20, g9, k17, k34]
def lv (l vars : Int) : T := .mk 1 (vars - 1 - l) []
theorem zlf (l vars : Int) (h0 : -1000000 ≤ l) (h1 : l ≤ 1000000) (h2 : -1000000 ≤ vars) (h3 : vars ≤ 1000000) : Pure Tryz.prog zej [.int .i64 l, .int .i64 vars] [.agg (cT (lv l vars))] := by
  refine zDy rfl fun hs => ?_
  have w1 : IntKind.i64.wrap (vars - 1) = vars - 1 := zab (by omega) (by omega)
  have w2 : IntKind.i64.wrap (vars - 1 - l) = vars - 1 - l := zab (by omega) (by omega)
  have hV := v_ok (vars - 1 - l)
  simp only [cT, tk, tn, tks, List.map_nil] at hV
  simp -dsimp [zoq, w1, w2]
  refine zaa hV ?_
  simp -dsimp [lv, cT]
def putF (pos : List Int) (first : Nat) (more vars n b : Int) : T :=
  if n < more + b ∨ (first : Int) ≤ n - (more + b) then .mk 1 n [] else .mk 1 (vars - 1 - (pos[first - 1 - (n - (more + b)).toNat]?).getD 0 + (more + b)) []
def putT (v : Vw) (t : T) (first : Nat) (more vars : Int) : T := mapT (putF v.pos first more vars) t 0
structure Pos (v : Vw) : Prop where
  len : v.pos.length ≤ 1000
  at_ : ∀ p ∈ v.pos, 0 ≤ p ∧ p ≤ 10000
theorem zRb (v : Vw) (hp : Pos v) (first : Nat) (hf : first ≤ v.pos.length) (more vars : Int) (h0 : 0 ≤ more) (h1 : more ≤ 10000) (h2 : 0 ≤ vars) (h3 : vars ≤ 10000) (n b : Int) (hn0 : 0 ≤ n) (hn1 : n ≤ 65535) (hb0 : 0 ≤ b) (hb1 : b ≤ 1099511627776) :
    Pure Tryz.prog zf1 [.int .i64 n, .int .i64 b, .rp [.int .i64 more], .rp [.int .i64 first], .rp [.rp (cVw v)], .rp [.int .i64 vars]] [.agg (cT (putF v.pos first more vars n b))] := by
  refine zuy rfl fun hs => ?_
  have hpl := hp.len
  have w1 : IntKind.i64.wrap (more + b) = more + b := zab (by omega) (by omega)
  have w2 : IntKind.i64.wrap (n - (more + b)) = n - (more + b) := zab (by omega) (by omega)
  have hV1 := v_ok n
  simp only [cT, tk, tn, tks, List.map_nil] at hV1
  simp -dsimp [zi5, w1]
  by_cases c1 : n < more + b
  · have e : putF v.pos first more vars n b = .mk 1 n [] := by rw [putF, if_pos (.inl c1)]
    rw [e]
    simp -dsimp [c1]
    refine zaa hV1 ?_
    simp -dsimp [cT]
  by_cases c2 : (first : Int) ≤ n - (more + b)
  · have e : putF v.pos first more vars n b = .mk 1 n [] := by rw [putF, if_pos (.inr c2)]
    rw [e]
    simp -dsimp [c1, c2, w2]
    refine zaa hV1 ?_
    simp -dsimp [cT]
  obtain ⟨j, hj⟩ : ∃ j : Nat, (first : Int) - 1 - (n - (more + b)) = j := ⟨((first : Int) - 1 - (n - (more + b))).toNat, by omega⟩
  have hjl : j < v.pos.length := by omega
  have hje : first - 1 - (n - (more + b)).toNat = j := by omega
  have hge : v.pos[j]? = some v.pos[j] := List.getElem?_eq_getElem hjl
  have e : putF v.pos first more vars n b = .mk 1 (vars - 1 - v.pos[j] + (more + b)) [] := by rw [putF, if_neg (by omega), hje, hge]; rfl
  have hpj := hp.at_ _ (List.getElem_mem hjl)
  generalize hP : v.pos[j] = p at *
  rw [e]
  have w3 : IntKind.i64.wrap ((first : Int) - 1) = (first : Int) - 1 := zab (by omega) (by omega)
  have w4 : IntKind.i64.wrap ((first : Int) - 1 - (n - (more + b))) = (j : Int) := by rw [zab (by omega) (by omega), hj]
  have w5 : IntKind.i64.wrap (vars - 1) = vars - 1 := zab (by omega) (by omega)
  have w6 : IntKind.i64.wrap (vars - 1 - p) = vars - 1 - p := zab (by omega) (by omega)
  have w7 : IntKind.i64.wrap (vars - 1 - p + (more + b)) = vars - 1 - p + (more + b) := zab (by omega) (by omega)
  have hV2 := v_ok (vars - 1 - p + (more + b))
  simp only [cT, tk, tn, tks, List.map_nil] at hV2
  simp -dsimp [c1, c2, w2, w3, w4, w5, w6, w7, cVw, cBl, hjl, hge, hP]
  refine zaa hV2 ?_
  simp -dsimp [cT]
theorem zJa (v : Vw) (hp : Pos v) (t : T) (ft : VokT t) (hn : zai t ≤ 1000000) (first : Nat) (hf : first ≤ v.pos.length) (more vars : Int) (h0 : 0 ≤ more) (h1 : more ≤ 10000) (h2 : 0 ≤ vars) (h3 : vars ≤ 10000) :
    Pure Tryz.prog zbj [.rp (cVw v), .agg (cT t), .int .i64 first, .int .i64 more, .int .i64 vars] [.agg (cT (putT v t first more vars))] := by
  refine zxl rfl fun hs => ?_
  have hM := zSb (putF v.pos first more vars) zf1 [.rp [.int .i64 more], .rp [.int .i64 first], .rp [.rp (cVw v)], .rp [.int .i64 vars]] (fun n b hn0 hn1 hb0 hb1 => zRb v hp first hf more vars h0 h1 h2 h3 n b hn0 hn1 hb0 hb1) t 0 ft (by omega) (by omega)
  simp only [cVw, cBl, cT, List.cons_append, List.nil_append] at hM
  simp -dsimp [zli, cT, cVw, cBl]
  refine zaa hM ?_
  simp -dsimp [cT, putT]
theorem zAq (v : Vw) (hp : Pos v) (t : T) (ft : zaf t = true) (hn : zai t ≤ 1000000) (first : Nat) (hf : first ≤ v.pos.length) (more vars : Int) (h0 : 0 ≤ more) (h1 : more ≤ 10000) (h2 : 0 ≤ vars) (h3 : vars ≤ 10000) :
    Pure Tryz.prog zbj [.rp (cVw v), .agg (cT t), .int .i64 first, .int .i64 more, .int .i64 vars] [.agg (cT (putT v t first more vars))] := zJa v hp t (zvo t ft) hn first hf more vars h0 h1 h2 h3
end
end
section
section
attribute [local simp] zac zag tk tn tks zc4 zdf zch zci zcj zei
theorem zRw {f : Int → Int → T} (hf : ∀ n b : Int, 0 ≤ n → n ≤ 65535 → 0 ≤ b → b ≤ 1099511627776 → okT (f n b)) (t : T) : ∀ b : Int, VokT t → okT t → 0 ≤ b → b + zai t ≤ 1099511627776 → okT (mapT f t b) := by
  refine T.ind (p := fun t => ∀ b : Int, VokT t → okT t → 0 ≤ b → b + zai t ≤ 1099511627776 → okT (mapT f t b)) ?_ t
  intro k n ks ih b fm ho h0 hb
  obtain ⟨hvn, _, hsk⟩ := fm.out
  rw [mapT]
  split
  · rename_i h1
    have hn := (hvn h1).1
    exact hf n b hn.1 hn.2 h0 (by omega)
  · cases ho with
    | mk _ _ _ hk hn hl h =>
      refine .mk k n _ hk hn (by rw [zjl]; exact hl) fun x hx => ?_
      obtain ⟨j, hj, rfl⟩ := List.mem_iff_getElem.1 hx
      rw [zjl] at hj
      rw [zny f k b ks 0 j hj]
      have hkn := zfo (k := k) (n := n) (List.getElem_mem hj : ks[j] ∈ ks)
      have hbl := zgg k (0 + j : Nat)
      exact ih _ (List.getElem_mem hj) _ (hsk _ (List.getElem_mem hj)) (h _ (List.getElem_mem hj)) (by omega) (by omega)
theorem zAw {v : Vw} (hp : Pos v) {t : T} (ft : VokT t) (ot : okT t) (hn : zai t ≤ 1000000) (first : Nat) (more vars : Int) (h0 : 0 ≤ more) (h1 : more ≤ 10000) (h2 : 0 ≤ vars) (h3 : vars ≤ 10000) : okT (putT v t first more vars) := by
  refine zRw (fun n b a1 a2 a3 a4 => ?_) t 0 ft ot (by omega) (by omega)
  rw [putF]
  split
  · exact .mk _ _ _ (by simp only [n64]; omega) (by simp only [n64]; omega) (by simp) (by simp)
  · have hpj : 0 ≤ (v.pos[first - 1 - (n - (more + b)).toNat]?).getD 0 ∧ (v.pos[first - 1 - (n - (more + b)).toNat]?).getD 0 ≤ 10000 := by
      cases hg : v.pos[first - 1 - (n - (more + b)).toNat]? with
      | none => simp
      | some p => exact hp.at_ _ (List.mem_of_getElem? hg)
    generalize (v.pos[first - 1 - (n - (more + b)).toNat]?).getD 0 = p at hpj
    exact .mk _ _ _ (by simp only [n64]; omega) (by simp only [n64]; omega) (by simp) (by simp)
theorem zl8 {v : Vw} (hp : Pos v) {t : T} (ft : zaf t = true) (ot : okT t) (hn : zai t ≤ 1000000) (first : Nat) (more vars : Int) (h0 : 0 ≤ more) (h1 : more ≤ 10000) (h2 : 0 ≤ vars) (h3 : vars ≤ 10000) : okT (putT v t first more vars) :=
  zAw hp (zvo t ft) ot hn first more vars h0 h1 h2 h3
theorem zP3 (v : Vw) (hp : Pos v) (l : List T) (hl : l.length ≤ 1000000) (hf : ∀ x ∈ l, zaf x = true ∧ zai x ≤ 1000000) (first : Nat) (hfi : first ≤ v.pos.length) (more vars : Int) (h0 : 0 ≤ more) (h1 : more ≤ 10000) (h2 : 0 ≤ vars) (h3 : vars ≤ 10000) :
    Pure Tryz.prog zj8 [.rp (cVw v), eTs l, .int .i64 first, .int .i64 more, .int .i64 vars] [eTs (l.map fun x => putT v x first more vars)] := by
  refine zvy rfl fun hs => ?_
  simp -dsimp [zj1, eTs]
  refine zaj l.length (fun i st => (st.s 0 = .d (.rp (cVw v)) ∧ st.s 2 = .d (.int .i64 first) ∧ st.s 3 = .d (.int .i64 more) ∧ st.s 4 = .d (.int .i64 vars)) ∧ (st.s 10 = .rsl 10 1 ∧ st.h 10 = ⟨1, .row 3 [] false⟩) ∧ (st.s 14 = .d (eTs l) ∧ st.s 15 = .d (.int .i64 l.length)) ∧ st.s 16 = .d (.int .i64 i) ∧
    ∃ u, st.s 11 = .rsl 11 u ∧ st.h 11 = ⟨u, .row 3 (((l.map fun x => putT v x first more vars).take i).map eT) false⟩) ?_ ?_
  · simp -dsimp [eTs]
  · rintro i ⟨s, hp'⟩ hi ⟨⟨g0, g2, g3, g4⟩, ⟨g10, k10⟩, ⟨g14, g15⟩, g16, u, g11, k11⟩
    dsimp only at g0 g2 g3 g4 g10 k10 g14 g15 g16 g11 k11
    simp only [eTs] at g14
    rcases Nat.lt_or_ge i l.length with hlt | hge
    · have w1 : IntKind.i64.wrap ((i : Int) + 1) = (i : Int) + 1 := zab (by omega) (by omega)
      obtain ⟨x1, x2⟩ := hf _ (List.getElem_mem hlt)
      have hP := zAq v hp l[i] x1 x2 first hfi more vars h0 h1 h2 h3
      have hn : ((l.map fun x => putT v x first more vars).take (i + 1)).map eT = ((l.map fun x => putT v x first more vars).take i).map eT ++ [.agg (cT (putT v l[i] first more vars))] := by
        rw [zdd (List.getElem?_eq_getElem (by simpa using hlt)), List.map_append]
        simp [zbq]
      generalize hX : putT v l[i] first more vars = X at *
      generalize hM : (l.map fun x => putT v x first more vars) = M at *
      have hMl : M.length = l.length := by rw [← hM, List.length_map]
      have hr : (min i M.length + 1) * 40 ≤ zah := by simp only [zah]; omega
      rw [hn]
      simp only [cT] at hP
      simp -dsimp [g0, g2, g3, g4, g10, k10, g14, g15, g16, g11, k11, hlt, cT]
      refine zaa hP ?_
      simp -dsimp [g0, g2, g3, g4, g10, k10, g14, g15, g16, g11, k11, hlt, cT, hr, w1, eTs]
      try exact hlt
    · have e : i = l.length := by omega
      subst e
      rw [List.take_of_length_le (by simp)] at k11
      simp -dsimp [g0, g2, g3, g4, g10, k10, g14, g15, g16, g11, k11]
theorem zmv (t : T) : zaf t = true → zaf (spH t) = true ∧ ∀ x ∈ spA t, zaf x = true := by
  refine T.ind (p := fun t => zaf t = true → zaf (spH t) = true ∧ ∀ x ∈ spA t, zaf x = true) ?_ t
  intro k n ks ih hf
  by_cases hc : k = 6 ∧ ∃ a b, ks = [a, b]
  · obtain ⟨rfl, a, b, rfl⟩ := hc
    have ha := zdt hf a (by simp)
    have hb := zdt hf b (by simp)
    obtain ⟨i1, i2⟩ := ih a (by simp) ha
    rw [(ziv n a b).1, (ziv n a b).2]
    refine ⟨i1, fun x hx => ?_⟩
    rcases List.mem_cons.1 hx with rfl | hx
    · exact hb
    · exact i2 x hx
  · rw [(zgo hc).1, (zgo hc).2]
    exact ⟨hf, by simp⟩
theorem zp7 {p : Pl} {t : T} (h : za7 p t = true) : t.kind = 1 ∧ ∃ j : Nat, zd3 p t = j ∧ j < p.args.length := by
  rw [za7] at h
  cases hJ : zfa p t with
  | none => rw [hJ] at h; cases h
  | some j =>
    have e : zd3 p t = j := by rw [zd3, hJ]
    rw [zfa] at hJ
    split at hJ
    · rename_i hh
      cases hJ
      exact ⟨hh.1, _, e, by omega⟩
    · cases hJ
def gdI (l : List Ar) (more : Int) (t : T) : Int := if za7 ⟨⟨[], [], 0⟩, 0, l, more⟩ t then zd3 ⟨⟨[], [], 0⟩, 0, l, more⟩ t else -1
theorem gd_ok (l : List Ar) (more : Int) (t : T) (h0 : 0 ≤ more) (h1 : more ≤ 1000000000) (hl : l.length ≤ 1000000) (hn : n64 t.num) : Pure Tryz.prog zlg [eArs l, .int .i64 more, .agg (cT t)] [.int .i64 (gdI l more t)] := by
  refine zxg rfl fun hs => ?_
  have hG := zms ⟨⟨[], [], 0⟩, 0, l, more⟩ t h0 h1 hl hn
  rw [gdI]
  simp only [cPl, cBl, cT, eSos, eCos, eArs, List.map_nil, List.cons_append, List.nil_append] at hG
  simp -dsimp [zk9, cT, eArs]
  refine zaa hG ?_
  cases hb : za7 ⟨⟨[], [], 0⟩, 0, l, more⟩ t with
  | true => simp -dsimp [hb]
  | false => simp -dsimp [hb]
def shA (pt sh : T → T) : List Ar → List T → List T
  | a :: ar, x :: xs => pt x :: (if a.rc then sh x :: shA pt sh ar xs else shA pt sh ar xs)
  | _, _ => []
theorem ztk (pt sh : T → T) : ∀ (ar : List Ar) (xs : List T) (i : Nat) (h : i < ar.length) (h' : i < xs.length), shA pt sh (ar.take (i + 1)) xs = shA pt sh (ar.take i) xs ++ (pt xs[i] :: if ar[i].rc then [sh xs[i]] else [])
  | a :: ar, x :: xs, 0, h, h' => by cases hr : a.rc <;> simp [shA, hr]
  | a :: ar, x :: xs, i + 1, h, h' => by
    have ih := ztk pt sh ar xs i (by simpa using h) (by simpa using h')
    simp only [List.take_succ_cons, shA, List.getElem_cons_succ]
    rw [ih]
    cases a.rc <;> simp
theorem znj (pt sh : T → T) : ∀ (ar : List Ar) (xs : List T), (shA pt sh ar xs).length ≤ 2 * ar.length
  | [], xs => by simp [shA]
  | a :: ar, [] => by simp [shA]
  | a :: ar, x :: xs => by
    have := znj pt sh ar xs
    rw [shA]
    cases a.rc <;> simp <;> omega
theorem zx5 {pt sh : T → T} {q : T → Prop} : ∀ (ar : List Ar) (xs : List T), (∀ (i : Nat) (h : i < ar.length) (h' : i < xs.length), q (pt xs[i]) ∧ (ar[i].rc = true → q (sh xs[i]))) → ∀ y ∈ shA pt sh ar xs, q y
  | [], xs, _, y, hy => by simp [shA] at hy
  | a :: ar, [], _, y, hy => by simp [shA] at hy
  | a :: ar, x :: xs, h, y, hy => by
    have h0 := h 0 (by simp) (by simp)
    simp only [List.getElem_cons_zero] at h0
    have ih := zx5 ar xs (q := q) fun i hi hi' => by
      have := h (i + 1) (by simpa using hi) (by simpa using hi')
      simpa only [List.getElem_cons_succ] using this
    rw [shA] at hy
    cases hr : a.rc with
    | true =>
      rw [hr] at hy
      simp only [if_true, List.mem_cons] at hy
      rcases hy with rfl | rfl | hy
      · exact h0.1
      · exact h0.2 hr
      · exact ih y hy
    | false =>
      rw [hr] at hy
      simp only [Bool.false_eq_true, if_false, List.mem_cons] at hy
      rcases hy with rfl | hy
      · exact h0.1
      · exact ih y hy
def plV (v : Vw) (first : Nat) (more : Int) : Pl := ⟨v.b, v.base, v.args.take first, more⟩
def shT (v : Vw) (first : Nat) (more vars : Int) : Nat → T → T
  | 0, _ => zT
  | n + 1, t =>
    if za7 (plV v first more) (spH t) then spT (lv ((v.pos[(zd3 (plV v first more) (spH t)).toNat]?).getD 0 + 1) (vars + more)) ((spA t).reverse.map fun x => putT v x first more vars)
    else spT (lv (v.b.sorts.length + (ofM v.b v.base (spH t).num).2) (vars + more)) (match v.b.cons[(ofM v.b v.base (spH t).num).2.toNat]? with
      | some c => shA (fun x => putT v x first more vars) (shT v first more vars n) c.args (spA t).reverse
      | none => [])
theorem zjp {l vars : Int} (h0 : -1000000 ≤ l) (h1 : l ≤ 1000000) (h2 : -1000000 ≤ vars) (h3 : vars ≤ 1000000) : okT (lv l vars) := .mk _ _ _ (by simp only [n64]; omega) (by simp only [n64]; omega) (by simp) (by simp)
structure VwOk (v : Vw) : Prop where
  pos : Pos v
  len : v.pos.length = v.args.length
  al : v.args.length ≤ 20
  sl : v.b.sorts.length ≤ 10
  cl : v.b.cons.length ≤ 20
  ca : ∀ c ∈ v.b.cons, c.args.length ≤ 20
  si : ∀ s ∈ v.b.sorts, s.idx.length ≤ 20
theorem zzp {n : Nat} (h : n ≤ 40) : (n + 1 + 1) * 40 ≤ zah := by simp only [zah]; omega
theorem zk2 {n : Nat} (h : n ≤ 40) (_ : True) : (n + 1) * 40 ≤ zah := by simp only [zah]; omega
set_option maxHeartbeats 1000000 in
theorem zM8 (v : Vw) (hv : VwOk v) (first : Nat) (hfi : first ≤ v.args.length) (more vars : Int) (h0 : 0 ≤ more) (h1 : more ≤ 1000) (h2 : 0 ≤ vars) (h3 : vars ≤ 1000) (cons : Int) : ∀ (n : Nat) (t : T), n ≤ 1000000 → zaf t = true → okT t → zai t ≤ n →
    (za7 (plV v first more) (spH t) = true ∨ zcy n (plV v first more) t cons = true) →
    Pure Tryz.prog zc2 [.rp (cVw v), .agg (cT t), .int .i64 first, .int .i64 more, .int .i64 vars] [.agg (cT (shT v first more vars n t))] ∧ okT (shT v first more vars n t) := by
  intro n
  induction n with
  | zero => intro t _ _ _ h; have := zjs t; omega
  | succ n ih =>
    intro t hN ft ot hn hg
    have hp := hv.pos
    have hpl := hv.len
    have hal := hv.al
    have hsl := hv.sl
    have hcl := hv.cl
    have hA := ztd t
    have hS := zww t (by omega)
    obtain ⟨m1, m2⟩ := zkz t
    obtain ⟨oH, m3⟩ := m2 ot
    obtain ⟨fH, m4⟩ := zmv t ft
    have hm : ∀ x ∈ (spA t).reverse, zai x < zai t ∧ okT x ∧ zaf x = true := fun x hx => ⟨m1 x (by simpa using hx), m3 x (by simpa using hx), m4 x (by simpa using hx)⟩
    have hAl : (spA t).reverse.length ≤ 1000000 := by rw [List.length_reverse]; omega
    have hG := gd_ok (v.args.take first) more (spH t) h0 (by omega) (by rw [List.length_take]; omega) oH.num64
    have hO := zMf v.b v.base (spH t).num
    have hgB : za7 ⟨⟨[], [], 0⟩, 0, v.args.take first, more⟩ (spH t) = za7 (plV v first more) (spH t) := rfl
    have hgN : zd3 ⟨⟨[], [], 0⟩, 0, v.args.take first, more⟩ (spH t) = zd3 (plV v first more) (spH t) := rfl
    rw [gdI, hgB, hgN] at hG
    have wv : IntKind.i64.wrap (vars + more) = vars + more := zab (by omega) (by omega)
    by_cases hb : za7 (plV v first more) (spH t) = true
    · obtain ⟨_, j, hj, hjl⟩ := zp7 hb
      have hjl' : j < v.pos.length := by simp only [plV, List.length_take] at hjl; omega
      have hge : v.pos[j]? = some v.pos[j] := List.getElem?_eq_getElem hjl'
      have hpj := hp.at_ _ (List.getElem_mem hjl')
      have e : shT v first more vars (n + 1) t = spT (lv (v.pos[j] + 1) (vars + more)) ((spA t).reverse.map fun x => putT v x first more vars) := by
        rw [shT, if_pos hb, hj, Int.toNat_natCast, hge]; rfl
      rw [if_pos hb, hj] at hG
      rw [e]
      have oL : okT (lv (v.pos[j] + 1) (vars + more)) := zjp (by omega) (by omega) (by omega) (by omega)
      have oP : ∀ x ∈ (spA t).reverse.map (fun x => putT v x first more vars), okT x := fun y hy => by
        obtain ⟨x, hx, rfl⟩ := List.mem_map.1 hy
        exact zl8 hp (hm x hx).2.2 (hm x hx).2.1 (by have := (hm x hx).1; omega) first more vars h0 (by omega) h2 (by omega)
      refine ⟨?_, zew _ _ oL oP⟩
      have hL := zlf (v.pos[j] + 1) (vars + more) (by omega) (by omega) (by omega) (by omega)
      have hPs := zP3 v hp (spA t).reverse hAl (fun x hx => ⟨(hm x hx).2.2, by have := (hm x hx).1; omega⟩) first (by omega) more vars h0 (by omega) h2 (by omega)
      have hSp := zkk (lv (v.pos[j] + 1) (vars + more)) ((spA t).reverse.map fun x => putT v x first more vars) (by rw [List.length_map]; omega) oL ⟨by rw [List.length_map]; omega, oP⟩
      have w1 : IntKind.i64.wrap (v.pos[j] + 1) = v.pos[j] + 1 := zab (by omega) (by omega)
      generalize spT (lv (v.pos[j] + 1) (vars + more)) ((spA t).reverse.map fun x => putT v x first more vars) = R at *
      generalize ((spA t).reverse.map fun x => putT v x first more vars) = M at *
      generalize (spA t).reverse = A at *
      generalize spH t = H at *
      generalize hPj : v.pos[j] = p at *
      generalize lv (p + 1) (vars + more) = L at *
      refine zmk rfl fun hs => ?_
      simp only [cVw, cBl, cT, eTs, eArs, List.map_take, List.cons_append, List.nil_append] at hS hG hL hPs hSp
      simp -dsimp [zga, cT, cVw, cBl]
      refine zaa hS ?_
      have hfl : (first : Int) ≤ v.args.length := by omega
      simp -dsimp [eArs, hfl, hfi]
      refine zaa hG ?_
      simp -dsimp [hjl', hge, hPj, w1, wv]
      refine zaa hL ?_
      simp -dsimp
      refine zaa hPs ?_
      simp -dsimp
      refine zaa hSp ?_
      simp -dsimp [cT]
    · have hgood := hg.resolve_left hb
      rw [zcy] at hgood
      simp only [zBn] at hgood
      rw [if_neg hb] at hgood
      have hb' : za7 (plV v first more) (spH t) = false := by simpa using hb
      by_cases k3 : (spH t).kind = 3
      case neg => rw [if_neg k3] at hgood; cases hgood
      rw [if_pos k3] at hgood
      have eb : (plV v first more).b = v.b := rfl
      have ebase : (plV v first more).base = v.base := rfl
      rw [eb, ebase] at hgood
      by_cases k5 : (ofM v.b v.base (spH t).num).1 = 5
      case neg => rw [if_neg k5] at hgood; cases hgood
      rw [if_pos k5] at hgood
      by_cases k6 : (ofM v.b v.base (spH t).num).2 < cons
      case neg => rw [if_neg k6] at hgood; cases hgood
      rw [if_pos k6] at hgood
      obtain ⟨c, c1, c2, c3⟩ := zD6 k5
      have hgc : v.b.cons[c]? = some v.b.cons[c] := List.getElem?_eq_getElem c1
      have e : shT v first more vars (n + 1) t = spT (lv (v.b.sorts.length + c) (vars + more)) (shA (fun x => putT v x first more vars) (shT v first more vars n) v.b.cons[c].args (spA t).reverse) := by
        rw [shT, if_neg hb, c3]
        simp only [Int.toNat_natCast, hgc]
      rw [c3] at hgood
      simp only [Int.toNat_natCast, hgc] at hgood
      have hcal := hv.ca _ (List.getElem_mem c1)
      by_cases k7 : (spA t).reverse.length = v.b.cons[c].args.length
      case neg => rw [if_neg k7] at hgood; cases hgood
      rw [if_pos k7] at hgood
      have hrec : ∀ (i : Nat) (h : i < v.b.cons[c].args.length) (h' : i < (spA t).reverse.length), v.b.cons[c].args[i].rc = true →
          Pure Tryz.prog zc2 [.rp (cVw v), .agg (cT (spA t).reverse[i]), .int .i64 first, .int .i64 more, .int .i64 vars] [.agg (cT (shT v first more vars n (spA t).reverse[i]))] ∧ okT (shT v first more vars n (spA t).reverse[i]) := fun i h h' hr => by
        obtain ⟨x1, x2, x3⟩ := hm _ (List.getElem_mem h')
        refine ih _ (by omega) x3 x2 (by omega) ?_
        have hA := (zaq _ _ _).1 hgood i h
        rw [Nat.zero_add, List.getElem?_eq_getElem h'] at hA
        simp only [fitA, hr, if_true] at hA
        split at hA
        · exact .inr hA
        · have hk := (zp7 hA).1
          refine .inl ?_
          have : spH (spA t).reverse[i] = (spA t).reverse[i] := by
            generalize (spA t).reverse[i] = x at hk
            obtain ⟨k, m, ks⟩ := x
            have hk' : k = 1 := hk
            exact (zgo (fun h => by omega)).2
          rw [this]
          exact hA
      have hput : ∀ (i : Nat) (h' : i < (spA t).reverse.length), Pure Tryz.prog zbj [.rp (cVw v), .agg (cT (spA t).reverse[i]), .int .i64 first, .int .i64 more, .int .i64 vars] [.agg (cT (putT v (spA t).reverse[i] first more vars))] := fun i h' => by
        obtain ⟨x1, x2, x3⟩ := hm _ (List.getElem_mem h')
        exact zAq v hp _ x3 (by omega) first (by omega) more vars h0 (by omega) h2 (by omega)
      have oAll : ∀ y ∈ shA (fun x => putT v x first more vars) (shT v first more vars n) v.b.cons[c].args (spA t).reverse, okT y := zx5 _ _ fun i h h' => by
        obtain ⟨x1, x2, x3⟩ := hm _ (List.getElem_mem h')
        exact ⟨zl8 hp x3 x2 (by omega) first more vars h0 (by omega) h2 (by omega), fun hr => (hrec i h h' hr).2⟩
      have oL : okT (lv (v.b.sorts.length + c) (vars + more)) := zjp (by omega) (by omega) (by omega) (by omega)
      rw [e]
      refine ⟨?_, zew _ _ oL oAll⟩
      have hlen := znj (fun x => putT v x first more vars) (shT v first more vars n) v.b.cons[c].args (spA t).reverse
      have hL := zlf (v.b.sorts.length + c) (vars + more) (by omega) (by omega) (by omega) (by omega)
      have hSp := zkk (lv (v.b.sorts.length + c) (vars + more)) _ (by omega : (shA (fun x => putT v x first more vars) (shT v first more vars n) v.b.cons[c].args (spA t).reverse).length ≤ 100000000) oL ⟨by omega, oAll⟩
      have w1 : IntKind.i64.wrap ((v.b.sorts.length : Int) + (c : Int)) = v.b.sorts.length + c := zab (by omega) (by omega)
      rw [if_neg hb] at hG
      rw [c3] at hO
      generalize spT (lv (v.b.sorts.length + c) (vars + more)) (shA (fun x => putT v x first more vars) (shT v first more vars n) v.b.cons[c].args (spA t).reverse) = R at *
      have hsn := ztk (fun x => putT v x first more vars) (shT v first more vars n) v.b.cons[c].args (spA t).reverse
      have hsl2 := fun i => znj (fun x => putT v x first more vars) (shT v first more vars n) (v.b.cons[c].args.take i) (spA t).reverse
      clear hgood oAll oL hm m1 m2 m3 m4 e ih
      generalize (spA t).reverse = A at *
      generalize spH t = H at *
      generalize lv (v.b.sorts.length + c) (vars + more) = L at *
      refine zmk rfl fun hs => ?_
      simp only [cVw, cBl, eBl, cT, eTs, eArs, List.map_take, List.cons_append, List.nil_append] at hS hG hO hL hSp
      simp -dsimp [zga, cT, cVw, cBl]
      refine zaa hS ?_
      have hfl : (first : Int) ≤ v.args.length := by omega
      simp -dsimp [eArs, hfl, hfi]
      refine zaa hG ?_
      simp -dsimp
      refine zaa hO ?_
      generalize hCc : v.b.cons[c] = C at *
      simp -dsimp [c1, hgc, hCc, eCos, eCo, cCo, cT, eArs]
      refine zaj C.args.length (fun i st => (st.s 0 = .d (.rp (cVw v)) ∧ st.s 2 = .d (.int .i64 first) ∧ st.s 3 = .d (.int .i64 more) ∧ st.s 4 = .d (.int .i64 vars)) ∧ (st.s 10 = .ptr 10 1 0 ∧ st.h 10 = ⟨1, .box [.d (.int .i64 0), .d (.int .i64 0), .fsl 3 []] false⟩) ∧
        (st.s 12 = .d (eTs A) ∧ st.s 15 = .d (.int .i64 c)) ∧ (st.s 76 = .d (eArs C.args) ∧ st.s 77 = .d (.int .i64 C.args.length)) ∧ st.s 78 = .d (.int .i64 i) ∧
        ∃ u, st.s 16 = .rsl 16 u ∧ st.h 16 = ⟨u, .row 3 ((shA (fun x => putT v x first more vars) (shT v first more vars n) (C.args.take i) A).map eT) false⟩) ?_ ?_
      · simp -dsimp [cVw, cBl, eTs, eArs, eCos, shA]
      · rintro i ⟨s, hp'⟩ hi ⟨⟨g0, g2, g3, g4⟩, ⟨g10, k10⟩, ⟨g12, g15⟩, ⟨g76, g77⟩, g78, u, g16, k16⟩
        dsimp only at g0 g2 g3 g4 g10 k10 g12 g15 g76 g77 g78 g16 k16
        simp only [eTs, eArs] at g12 g76
        rcases Nat.lt_or_ge i C.args.length with hlt | hge
        · have w2 : IntKind.i64.wrap ((i : Int) + 1) = (i : Int) + 1 := zab (by omega) (by omega)
          have hltA : i < A.length := by omega
          have hsn1 := hsn i hlt hltA
          have hsl1 := hsl2 i
          rw [List.length_take] at hsl1
          have hPi := hput i hltA
          have hRi := hrec i hlt hltA
          generalize hAr : C.args[i] = Ar_ at *
          generalize hX : A[i] = X at *
          rw [hsn1]
          generalize shA (fun x => putT v x first more vars) (shT v first more vars n) (C.args.take i) A = G at *
          have hgl : G.length ≤ 40 := by omega
          have r1 : (G.length + 1) * 40 ≤ zah := zk2 hgl trivial
          have r2 : (G.length + 1 + 1) * 40 ≤ zah := zzp hgl
          simp only [cT] at hPi hRi
          simp -dsimp [g0, g2, g3, g4, g10, k10, g12, g15, g76, g77, g78, g16, k16, hlt, hltA, hAr, hX, eAr, cAr, cT]
          refine zaa hPi ?_
          cases hr : Ar_.rc with
          | false => simp -dsimp [g0, g2, g3, g4, g10, k10, g12, g15, g76, g77, g78, g16, k16, hlt, hltA, hAr, hX, eAr, cAr, cT, hr, r1, w2, zbq, eTs, eArs]
          | true =>
            have hRi' := (hRi hr).1
            simp -dsimp [g0, g2, g3, g4, g10, k10, g12, g15, g76, g77, g78, g16, k16, hlt, hltA, hAr, hX, eAr, cAr, cT, hr, r1]
            refine zaa hRi' ?_
            simp -dsimp [g0, g2, g3, g4, g10, k10, g12, g15, g76, g77, g78, g16, k16, hlt, hltA, hAr, hX, eAr, cAr, cT, hr, r1, r2, w2, zbq, eTs, eArs]
        · have e : i = C.args.length := by omega
          subst e
          rw [List.take_length] at k16
          simp -dsimp [g0, g2, g3, g4, g10, k10, g12, g15, g76, g77, g78, g16, k16, cVw, cBl, eSos, w1, wv]
          refine zaa hL ?_
          simp -dsimp [g0, g2, g3, g4, g10, k10, g12, g15, g76, g77, g78, g16, k16, cT]
          refine zaa hSp ?_
          simp -dsimp [g10, k10, cT]
end
end
section
section
attribute [local simp] zac zag tk tn tks zc4 zdf zch zci zcj zei
def inT (v : Vw) (n : Nat) (so : So) (l : List T) (first : Nat) (more vars : Int) : List T := shA (fun x => putT v x first more vars) (shT v first more vars n) so.idx l
theorem zld (v : Vw) (hv : VwOk v) (n : Nat) (hN : n ≤ 1000000) (k : Int) (so : So) (hk0 : 0 ≤ k) (hk : v.b.sorts[k.toNat]? = some so) (l : List T) (hll : l.length = so.idx.length) (first : Nat) (hfi : first ≤ v.args.length) (more vars : Int) (h0 : 0 ≤ more) (h1 : more ≤ 1000) (h2 : 0 ≤ vars) (h3 : vars ≤ 1000) (cons : Int)
    (hl : ∀ x ∈ l, zaf x = true ∧ okT x ∧ zai x ≤ n) (hg : indF n (plV v first more) so l cons = true) :
    OwnC Tryz.prog zeq [.rp (cVw v), .int .i64 k, eTs l, .int .i64 first, .int .i64 more, .int .i64 vars] [.one (.row 3 ((inT v n so l first more vars).map eT) false)] ∧ (∀ y ∈ inT v n so l first more vars, okT y) ∧ (inT v n so l first more vars).length ≤ 40 := by
  have hp := hv.pos
  have hpl := hv.len
  have hal := hv.al
  have hsil := hv.si _ (List.mem_of_getElem? hk)
  have hklt := (List.getElem?_eq_some_iff.1 hk).1
  have hk' := (List.getElem?_eq_some_iff.1 hk).2
  have hrec : ∀ (i : Nat) (h : i < so.idx.length) (h' : i < l.length), so.idx[i].rc = true →
      Pure Tryz.prog zc2 [.rp (cVw v), .agg (cT l[i]), .int .i64 first, .int .i64 more, .int .i64 vars] [.agg (cT (shT v first more vars n l[i]))] ∧ okT (shT v first more vars n l[i]) := fun i h h' hr => by
    obtain ⟨x1, x2, x3⟩ := hl _ (List.getElem_mem h')
    refine zM8 v hv first hfi more vars h0 h1 h2 h3 cons n _ hN x1 x2 x3 (.inr ?_)
    rw [indF] at hg
    have hA := (zaq _ _ _).1 hg i h
    rw [Nat.zero_add, List.getElem?_eq_getElem h'] at hA
    simpa only [hr, if_true] using hA
  have hput : ∀ (i : Nat) (h' : i < l.length), Pure Tryz.prog zbj [.rp (cVw v), .agg (cT l[i]), .int .i64 first, .int .i64 more, .int .i64 vars] [.agg (cT (putT v l[i] first more vars))] := fun i h' => by
    obtain ⟨x1, x2, x3⟩ := hl _ (List.getElem_mem h')
    exact zAq v hp _ x1 (by omega) first (by omega) more vars h0 (by omega) h2 (by omega)
  have oAll : ∀ y ∈ inT v n so l first more vars, okT y := zx5 _ _ fun i h h' => by
    obtain ⟨x1, x2, x3⟩ := hl _ (List.getElem_mem h')
    exact ⟨zl8 hp x1 x2 (by omega) first more vars h0 (by omega) h2 (by omega), fun hr => (hrec i h h' hr).2⟩
  have hlen := znj (fun x => putT v x first more vars) (shT v first more vars n) so.idx l
  refine ⟨?_, oAll, by rw [inT]; omega⟩
  have hsn := ztk (fun x => putT v x first more vars) (shT v first more vars n) so.idx l
  have hsl2 := fun i => znj (fun x => putT v x first more vars) (shT v first more vars n) (so.idx.take i) l
  rw [inT]
  clear oAll hl hg hlen
  refine zr5 rfl fun hs => ?_
  simp -dsimp [zgx, cVw, cBl, eTs, eSos, hk0, hklt, hk, hk', eSo, cSo, eArs, cT]
  refine zaj so.idx.length (fun i st => (st.s 0 = .d (.rp (cVw v)) ∧ st.s 2 = .d (eTs l) ∧ st.s 3 = .d (.int .i64 first) ∧ st.s 4 = .d (.int .i64 more) ∧ st.s 5 = .d (.int .i64 vars)) ∧ (st.s 12 = .rsl 12 1 ∧ st.h 12 = ⟨1, .row 3 [] false⟩) ∧
    (st.s 24 = .d (eArs so.idx) ∧ st.s 25 = .d (.int .i64 so.idx.length)) ∧ st.s 26 = .d (.int .i64 i) ∧
    ∃ u, st.s 13 = .rsl 13 u ∧ st.h 13 = ⟨u, .row 3 ((shA (fun x => putT v x first more vars) (shT v first more vars n) (so.idx.take i) l).map eT) false⟩) ?_ ?_
  · simp -dsimp [cVw, cBl, eTs, eArs, eSos, shA]
  · rintro i ⟨s, hp'⟩ hi ⟨⟨g0, g2, g3, g4, g5⟩, ⟨g12, k12⟩, ⟨g24, g25⟩, g26, u, g13, k13⟩
    dsimp only at g0 g2 g3 g4 g5 g12 k12 g24 g25 g26 g13 k13
    simp only [eTs, eArs] at g2 g24
    rcases Nat.lt_or_ge i so.idx.length with hlt | hge
    · have w2 : IntKind.i64.wrap ((i : Int) + 1) = (i : Int) + 1 := zab (by omega) (by omega)
      have hltA : i < l.length := by omega
      have hsn1 := hsn i hlt hltA
      have hsl1 := hsl2 i
      rw [List.length_take] at hsl1
      have hPi := hput i hltA
      have hRi := hrec i hlt hltA
      generalize hAr : so.idx[i] = Ar_ at *
      generalize hX : l[i] = X at *
      rw [hsn1]
      generalize shA (fun x => putT v x first more vars) (shT v first more vars n) (so.idx.take i) l = G at *
      have hgl : G.length ≤ 40 := by omega
      have r1 : (G.length + 1) * 40 ≤ zah := zk2 hgl trivial
      have r2 : (G.length + 1 + 1) * 40 ≤ zah := zzp hgl
      simp only [cT] at hPi hRi
      simp -dsimp [g0, g2, g3, g4, g5, g12, k12, g24, g25, g26, g13, k13, hlt, hltA, hAr, hX, eAr, cAr, cT]
      refine zaa hPi ?_
      cases hr : Ar_.rc with
      | false => simp -dsimp [g0, g2, g3, g4, g5, g12, k12, g24, g25, g26, g13, k13, hlt, hltA, hAr, hX, eAr, cAr, cT, hr, r1, w2, zbq, eTs, eArs]
      | true =>
        have hRi' := (hRi hr).1
        simp -dsimp [g0, g2, g3, g4, g5, g12, k12, g24, g25, g26, g13, k13, hlt, hltA, hAr, hX, eAr, cAr, cT, hr, r1]
        refine zaa hRi' ?_
        simp -dsimp [g0, g2, g3, g4, g5, g12, k12, g24, g25, g26, g13, k13, hlt, hltA, hAr, hX, eAr, cAr, cT, hr, r1, r2, w2, zbq, eTs, eArs]
    · have e : i = so.idx.length := by omega
      subst e
      rw [List.take_length] at k13
      simp -dsimp [g0, g2, g3, g4, g5, g12, k12, g24, g25, g26, g13, k13]
theorem zuu (v : Vw) (hv : VwOk v) (vars : Int) (h2 : 0 ≤ vars) (h3 : vars ≤ 1000) : Pure Tryz.prog zhs [.rp (cVw v), .int .i64 vars] [eTs (v.pos.map fun p => lv p vars)] ∧ ∀ y ∈ v.pos.map (fun p => lv p vars), okT y := by
  have hp := hv.pos
  have hpl := hv.len
  have hal := hv.al
  refine ⟨?_, fun y hy => ?_⟩
  case refine_2 =>
    obtain ⟨p, hpm, rfl⟩ := List.mem_map.1 hy
    have := hp.at_ p hpm
    exact zjp (by omega) (by omega) (by omega) (by omega)
  refine zyq rfl fun hs => ?_
  simp -dsimp [zlc, cVw, cBl]
  refine zaj v.pos.length (fun i st => st.s 1 = .d (.int .i64 vars) ∧ (st.s 4 = .rsl 4 1 ∧ st.h 4 = ⟨1, .row 3 [] false⟩) ∧ (st.s 11 = .d (.sl 1 (v.pos.map (.int .i64))) ∧ st.s 12 = .d (.int .i64 v.pos.length)) ∧ st.s 13 = .d (.int .i64 i) ∧
    ∃ u, st.s 5 = .rsl 5 u ∧ st.h 5 = ⟨u, .row 3 (((v.pos.map fun p => lv p vars).take i).map eT) false⟩) ?_ ?_
  · simp -dsimp
  · rintro i ⟨s, hp'⟩ hi ⟨g1, ⟨g4, k4⟩, ⟨g11, g12⟩, g13, u, g5, k5⟩
    dsimp only at g1 g4 k4 g11 g12 g13 g5 k5
    rcases Nat.lt_or_ge i v.pos.length with hlt | hge
    · have w1 : IntKind.i64.wrap ((i : Int) + 1) = (i : Int) + 1 := zab (by omega) (by omega)
      have hpj := hp.at_ _ (List.getElem_mem hlt)
      have hP := zlf v.pos[i] vars (by omega) (by omega) (by omega) (by omega)
      have hn : ((v.pos.map fun p => lv p vars).take (i + 1)).map eT = ((v.pos.map fun p => lv p vars).take i).map eT ++ [.agg (cT (lv v.pos[i] vars))] := by
        rw [zdd (List.getElem?_eq_getElem (by simpa using hlt)), List.map_append]
        simp [zbq]
      generalize hX : lv v.pos[i] vars = X at *
      generalize hM : (v.pos.map fun p => lv p vars) = M at *
      have hMl : M.length = v.pos.length := by rw [← hM, List.length_map]
      have hr : (min i M.length + 1) * 40 ≤ zah := by simp only [zah]; omega
      rw [hn]
      simp only [cT] at hP
      simp -dsimp [g1, g4, k4, g11, g12, g13, g5, k5, hlt, cT]
      refine zaa hP ?_
      simp -dsimp [g1, g4, k4, g11, g12, g13, g5, k5, hlt, cT, hr, w1]
      try exact hlt
    · have e : i = v.pos.length := by omega
      subst e
      rw [List.take_of_length_le (by simp)] at k5
      simp -dsimp [g1, g4, k4, g11, g12, g13, g5, k5, eTs]
def dmP (v : Vw) (first : Nat) (vars : Int) : Nat → List T → List T
  | _, [] => []
  | j, d :: ds => putT v d first j vars :: dmP v first vars (j + 1) ds
theorem zBx (v : Vw) (first : Nat) (vars : Int) : ∀ (l : List T) (j i : Nat) (h : i < l.length), dmP v first vars j (l.take (i + 1)) = dmP v first vars j (l.take i) ++ [putT v l[i] first ((j + i : Nat) : Int) vars]
  | d :: ds, j, 0, h => by simp [dmP]
  | d :: ds, j, i + 1, h => by
    simp only [List.take_succ_cons, dmP, List.getElem_cons_succ, List.cons_append]
    rw [zBx v first vars ds (j + 1) i (by simpa using h)]
    congr 4
    omega
theorem zFl (v : Vw) (first : Nat) (vars : Int) : ∀ (l : List T) (j : Nat), (dmP v first vars j l).length = l.length
  | [], j => rfl
  | d :: ds, j => by rw [dmP, List.length_cons, zFl v first vars ds, List.length_cons]
theorem zxo {v : Vw} {first : Nat} {vars : Int} {q : T → Prop} : ∀ (l : List T) (j : Nat), (∀ (i : Nat) (h : i < l.length), q (putT v l[i] first ((j + i : Nat) : Int) vars)) → ∀ y ∈ dmP v first vars j l, q y
  | [], j, _, y, hy => by simp [dmP] at hy
  | d :: ds, j, h, y, hy => by
    rw [dmP] at hy
    rcases List.mem_cons.1 hy with rfl | hy
    · have := h 0 (by simp)
      simpa using this
    · refine zxo ds (j + 1) (fun i hi => ?_) y hy
      have := h (i + 1) (by simpa using hi)
      simp only [List.getElem_cons_succ] at this
      rwa [show j + 1 + i = j + (i + 1) by omega]
def tyA (v : Vw) (n : Nat) (i : Nat) (p : Int) (a : Ar) : List T :=
  putT v (zg4 v.b v.base a) i 0 p :: (if a.rc then [zcm 4 (dmP v i (p + 1) 0 a.dom) (spT (lv a.sort (p + 1 + a.dom.length)) ((match v.b.sorts[a.sort.toNat]? with
    | some so => inT v n so a.idx i a.dom.length (p + 1)
    | none => []) ++ [spT (lv p (p + 1 + a.dom.length)) (zgs a.dom.length)]))] else [])
def tyL (v : Vw) (n : Nat) : Nat → List Ar → List T
  | _, [] => []
  | i, a :: l => tyA v n i ((v.pos[i]?).getD 0) a ++ tyL v n (i + 1) l
theorem zBa (v : Vw) (n : Nat) : ∀ (l : List Ar) (i j : Nat) (h : j < l.length), tyL v n i (l.take (j + 1)) = tyL v n i (l.take j) ++ tyA v n (i + j) ((v.pos[i + j]?).getD 0) l[j]
  | a :: l, i, 0, h => by simp [tyL]
  | a :: l, i, j + 1, h => by
    simp only [List.take_succ_cons, tyL, List.getElem_cons_succ, List.append_assoc]
    rw [zBa v n l (i + 1) j (by simpa using h), show i + 1 + j = i + (j + 1) by omega]
theorem zQn (n : Nat) (h : n ≤ 65536) : zAv n = zgs n := by
  rw [zAv]
  split
  · have : n = 0 := by omega
    subst this; rfl
  · rw [Int.toNat_natCast]
theorem zwy (n : Nat) (h : n ≤ 65536) : ∀ y ∈ zgs n, okT y := fun y hy => by
  simp only [zgs, List.mem_map, List.mem_range] at hy
  obtain ⟨i, hi, rfl⟩ := hy
  exact zkf (by omega) (by omega)
theorem zFe {c c' : Int} (hc : c ≤ c') (t : T) : ∀ v : Int, wiT t v c = true → wiT t v c' = true := by
  refine T.ind (p := fun t => ∀ v : Int, wiT t v c = true → wiT t v c' = true) ?_ t
  intro k n ks ih v h
  rw [wiT] at h ⊢
  by_cases h1 : k = 1
  · rw [if_pos h1] at h ⊢; exact h
  rw [if_neg h1] at h ⊢
  by_cases h2 : k = 2
  · rw [if_pos h2] at h ⊢; exact h
  rw [if_neg h2] at h ⊢
  by_cases h3 : k = 3
  · rw [if_pos h3] at h ⊢
    simp only [decide_eq_true_eq] at h ⊢
    omega
  rw [if_neg h3] at h ⊢
  have go : ∀ (l : List T) (i : Nat), (∀ x ∈ l, x ∈ ks) → wiL k v c i l = true → wiL k v c' i l = true := by
    intro l
    induction l with
    | nil => intro i _ _; rw [wiL]
    | cons x l ihl =>
      intro i hm hw
      rw [wiL, Bool.and_eq_true] at hw ⊢
      exact ⟨ih x (hm x (by simp)) _ hw.1, ihl (i + 1) (fun y hy => hm y (by simp [hy])) hw.2⟩
  exact go ks 0 (fun _ h => h) h
theorem zK1 {k n : Int} {a b : T} (hk : 4 ≤ k) (ha : VokT a) (hb : VokT b) : VokT (.mk k n [a, b]) :=
  .mk _ _ _ (fun h => by omega) (fun h => by omega) (by simp) (by intro x hx; simp at hx; rcases hx with rfl | rfl <;> assumption)
theorem zF5 {k : Int} (hk : 4 ≤ k) (t : T) (ht : VokT t) : ∀ l : List T, (∀ x ∈ l, VokT x) → VokT (zcm k l t)
  | [], _ => ht
  | a :: l, h => zK1 hk (h a (by simp)) (zF5 hk t ht l fun x hx => h x (by simp [hx]))
theorem zO9 : ∀ (l : List T) (f : T), VokT f → (∀ x ∈ l, VokT x) → VokT (spT f l)
  | [], f, hf, _ => by simpa [spT] using hf
  | a :: l, f, hf, h => zO9 l (.mk 6 0 [f, a]) (zK1 (by omega) hf (h a (by simp))) fun x hx => h x (by simp [hx])
theorem zC5 {b : Bl} (hf : Fit b) {base : Int} (h0 : 0 ≤ base) (h1 : base ≤ 65535) {a : Ar} (fa : FineAr a) {i : Nat} (hi : i ≤ 1000) (h : argM b a i = true) : wiT (zg4 b base a) i 100000 = true ∧ VokT (zg4 b base a) := by
  have hfs := hf.s
  rw [zg4]
  split
  · rename_i hr
    obtain ⟨_, s0, s1, d1, _, hd, hx⟩ := zwq h hr (by omega) (by omega)
    have e : zbl b base a.sort = base + a.sort := by rw [zk0 hf h0 (by omega), if_pos ⟨s0, s1⟩]
    have hd' : ∀ (j : Nat) (hj : j < a.dom.length), wiT a.dom[j] (i + j) 100000 = true ∧ VokT a.dom[j] := fun j hj => by
      obtain ⟨q1, q2, _⟩ := zd5 (hd j hj) (by omega) (by omega) (by have := zGi (List.getElem_mem hj); have := fa.dom; omega)
      exact ⟨zFe (by omega) _ _ q1, zvo _ q2⟩
    have hx' : ∀ x ∈ a.idx, wiT x (i + a.dom.length) 100000 = true ∧ VokT x := fun x hm => by
      obtain ⟨q1, q2, _⟩ := zd5 (hx x hm) (by omega) (by omega) (by have := zGi hm; have := fa.idx; omega)
      exact ⟨zFe (by omega) _ _ q1, zvo _ q2⟩
    refine ⟨zJx (.inl rfl) _ _ _ (fun j hj => (hd' j hj).1) ?_, zF5 (by omega) _ (zO9 _ _ (.mk _ _ _ (fun h => by omega) (fun _ => rfl) (by simp) (by simp)) fun x hm => (hx' x hm).2) _ fun x hm => ?_⟩
    · rw [zSr, fmT, e, tC_wi (by split <;> omega), Bool.true_and, List.all_eq_true]
      exact fun x hm => (hx' x hm).1
    · obtain ⟨j, hj, rfl⟩ := List.mem_iff_getElem.1 hm
      exact (hd' j hj).2
  · rename_i hr
    have hr' : a.rc = false := by cases h' : a.rc <;> simp_all
    obtain ⟨q1, q2, _⟩ := zd5 (zy8 h hr') (by omega) (by omega) (by have := fa.ty; omega)
    exact ⟨zFe (by omega) _ _ q1, zvo _ q2⟩
structure TyOk (v : Vw) (n : Nat) (cons : Int) : Prop where
  vw : VwOk v
  fit : Fit v.b
  b0 : 0 ≤ v.base
  b1 : v.base ≤ 65535
  pos : ∀ p ∈ v.pos, p ≤ 900
  ok : zyy v.args
  fine : zpc v.args
  row : rowM v.b v.args = true
  good : rowF n v.b v.base v.args cons = true
set_option maxHeartbeats 2000000 in
theorem zCv (v : Vw) (n : Nat) (hN : n ≤ 1000000) (hn9 : 9000 ≤ n) (cons : Int) (H : TyOk v n cons) : Pure Tryz.prog zi7 [.rp (cVw v)] [eTs (tyL v n 0 v.args)] ∧ (∀ y ∈ tyL v n 0 v.args, okT y) ∧ (tyL v n 0 v.args).length ≤ 40 := by
  have hv := H.vw
  have hp := hv.pos
  have hpl := hv.len
  have hal := hv.al
  have hsl := H.fit.s
  obtain ⟨hr1, hr2⟩ := zEh H.row
  have hsn := zBa v n v.args 0
  have hA : ∀ (i : Nat) (hi : i < v.args.length), ∃ p : Int, v.pos[i]? = some p ∧ 0 ≤ p ∧ p ≤ 900 := fun i hi =>
    ⟨_, List.getElem?_eq_getElem (by omega), (hp.at_ _ (List.getElem_mem _)).1, H.pos _ (List.getElem_mem (by omega))⟩
  have hty : ∀ (i : Nat) (hi : i < v.args.length), VokT (zg4 v.b v.base v.args[i]) ∧ okT (zg4 v.b v.base v.args[i]) ∧ zai (zg4 v.b v.base v.args[i]) ≤ 1000000 := fun i hi => by
    have fa := H.fine.2 _ (List.getElem_mem hi)
    have oa := H.ok.2 _ (List.getElem_mem hi)
    have := zx0 (b := v.b) (base := v.base) fa
    exact ⟨(zC5 H.fit H.b0 H.b1 fa (by omega) (hr2 i hi)).2, zCe _ _ oa, by omega⟩
  have hrc : ∀ (i : Nat) (hi : i < v.args.length), v.args[i].rc = true → 0 ≤ v.args[i].sort ∧ v.args[i].dom.length ≤ 12 ∧ (∀ x ∈ v.args[i].dom, zaf x = true ∧ okT x ∧ zai x ≤ n) ∧ (∀ x ∈ v.args[i].idx, zaf x = true ∧ okT x ∧ zai x ≤ n) ∧
      ∃ so, v.b.sorts[v.args[i].sort.toNat]? = some so ∧ v.args[i].idx.length = so.idx.length ∧ indF n (plV v i v.args[i].dom.length) so v.args[i].idx cons = true := fun i hi hr => by
    have fa := H.fine.2 _ (List.getElem_mem hi)
    have oa := H.ok.2 _ (List.getElem_mem hi)
    obtain ⟨_, s0, s1, d1, ⟨so, hso, hil⟩, hd, hx⟩ := zwq (hr2 i hi) hr (by omega) (by omega)
    refine ⟨s0, d1, fun x hxm => ?_, fun x hxm => ?_, so, hso, hil, ?_⟩
    · obtain ⟨j, hj, rfl⟩ := List.mem_iff_getElem.1 hxm
      have hnx : zai v.args[i].dom[j] ≤ 9000 := Nat.le_trans (ze6 (List.mem_map.2 ⟨_, hxm, rfl⟩)) fa.dom
      exact ⟨(zd5 (hd j hj) (by omega) (by omega) (by omega)).2.1, oa.dom.2 _ hxm, by omega⟩
    · have hnx : zai x ≤ 9000 := Nat.le_trans (ze6 (List.mem_map.2 ⟨_, hxm, rfl⟩)) fa.idx
      exact ⟨(zd5 (hx x hxm) (by omega) (by omega) (by omega)).2.1, oa.idx.2 _ hxm, by omega⟩
    · have hg := (zaq _ _ _).1 H.good i hi
      rw [Nat.zero_add, argF, if_pos hr, hso, Bool.and_eq_true] at hg
      exact hg.2
  have hTok : ∀ (i : Nat) (hi : i < v.args.length) (p : Int), v.pos[i]? = some p → 0 ≤ p → p ≤ 900 → ∀ y ∈ tyA v n i p v.args[i], okT y := fun i hi p hpi p0 p1 y hy => by
    obtain ⟨t1, t2, t3⟩ := hty i hi
    rw [tyA] at hy
    rcases List.mem_cons.1 hy with rfl | hy
    · exact zAw hp t1 t2 t3 i 0 p (by omega) (by omega) p0 (by omega)
    · split at hy
      · rename_i hr
        obtain ⟨s0, d1, hd, hx, so, hso, hil, hg⟩ := hrc i hi hr
        have hsb := (List.getElem?_eq_some_iff.1 hso).1
        rw [List.mem_singleton] at hy
        subst hy
        rw [hso]
        have hI := zld v hv n hN v.args[i].sort so s0 hso v.args[i].idx hil i (by omega) v.args[i].dom.length (p + 1) (by omega) (by omega) (by omega) (by omega) cons hx hg
        refine zwx (by omega) _ (zew _ _ (zjp (by omega) (by omega) (by omega) (by omega)) fun z hz => ?_) _ (zxo _ _ fun j hj => ?_)
        · rcases List.mem_append.1 hz with hz | hz
          · exact hI.2.1 z hz
          · rw [List.mem_singleton] at hz
            subst hz
            exact zew _ _ (zjp (by omega) (by omega) (by omega) (by omega)) (zwy _ (by omega))
        · obtain ⟨x1, x2, x3⟩ := hd _ (List.getElem_mem hj)
          exact zl8 hp x1 x2 (by omega) i _ (p + 1) (by omega) (by omega) (by omega) (by omega)
      · simp at hy
  have hlen : ∀ (l : List Ar) (i : Nat), (tyL v n i l).length ≤ 2 * l.length := by
    intro l
    induction l with
    | nil => intro i; simp [tyL]
    | cons a l ih =>
      intro i
      have := ih (i + 1)
      rw [tyL, List.length_append, tyA, List.length_cons, List.length_cons]
      split <;> simp <;> omega
  have hAll : ∀ y ∈ tyL v n 0 v.args, okT y := by
    have go : ∀ j, j ≤ v.args.length → ∀ y ∈ tyL v n 0 (v.args.take j), okT y := by
      intro j
      induction j with
      | zero => intro _ y hy; simp [tyL] at hy
      | succ j ih =>
        intro hj y hy
        rw [hsn j (by omega)] at hy
        rcases List.mem_append.1 hy with hy | hy
        · exact ih (by omega) y hy
        · obtain ⟨p, hpi, p0, p1⟩ := hA j (by omega)
          rw [Nat.zero_add, hpi] at hy
          exact hTok j (by omega) p hpi p0 p1 y hy
    have := go v.args.length (Nat.le_refl _)
    rwa [List.take_length] at this
  refine ⟨?_, hAll, by have := hlen v.args 0; omega⟩
  refine zt6 rfl fun hs => ?_
  simp -dsimp [zi3, cVw, cBl, eArs]
  refine zaj v.args.length (fun i st => st.s 0 = .d (.rp (cVw v)) ∧ (st.s 2 = .rsl 2 1 ∧ st.h 2 = ⟨1, .row 3 [] false⟩) ∧ (st.s 15 = .d (eArs v.args) ∧ st.s 16 = .d (.int .i64 v.args.length)) ∧ st.s 17 = .d (.int .i64 i) ∧
    ∃ u, st.s 3 = .rsl 3 u ∧ st.h 3 = ⟨u, .row 3 ((tyL v n 0 (v.args.take i)).map eT) false⟩) ?_ ?_
  · simp -dsimp [cVw, cBl, eArs, tyL]
  · rintro i ⟨s, hp'⟩ hi ⟨g0, ⟨g2, k2⟩, ⟨g15, g16⟩, g17, u, g3, k3⟩
    dsimp only at g0 g2 k2 g15 g16 g17 g3 k3
    simp only [eArs] at g15
    rcases Nat.lt_or_ge i v.args.length with hlt | hge
    · have w1 : IntKind.i64.wrap ((i : Int) + 1) = (i : Int) + 1 := zab (by omega) (by omega)
      obtain ⟨p, hpi, p0, p1⟩ := hA i hlt
      have hlp : i < v.pos.length := by omega
      have hpi' : v.pos[i] = p := by have := (List.getElem?_eq_some_iff.1 hpi).2; exact this
      have hs1 := hsn i hlt
      rw [Nat.zero_add, hpi] at hs1
      have hl1 := hlen (v.args.take i) 0
      rw [List.length_take] at hl1
      rw [hs1]
      generalize tyL v n 0 (v.args.take i) = G at *
      have hgl : G.length ≤ 40 := by omega
      have hAT := zId v.b v.base v.args[i] (H.ok.2 _ (List.getElem_mem hlt)) (H.fine.2 _ (List.getElem_mem hlt))
      obtain ⟨t1, t2, t3⟩ := hty i hlt
      have hPT := zJa v hp (zg4 v.b v.base v.args[i]) t1 t3 i (by omega) 0 p (by omega) (by omega) p0 (by omega)
      have hrci := hrc i hlt
      clear hsn hA hty hrc hTok hlen hAll
      simp only [Option.getD_some, tyA]
      generalize hR : v.args[i] = R at *
      generalize putT v (zg4 v.b v.base R) i 0 p = PT at *
      generalize zg4 v.b v.base R = AT at *
      simp only [eBl, cBl, cAr, cT, List.cons_append, List.nil_append] at hAT hPT
      simp -dsimp [g0, g2, k2, g15, g16, g17, g3, k3, hlt, hR, eAr, cAr, cT, cVw, cBl]
      refine zaa hAT ?_
      simp -dsimp [g0, g2, k2, g15, g16, g17, g3, k3, hlt, hR, eAr, cAr, cT, cVw, cBl, hlp, hpi, hpi']
      simp only [cVw, cBl, List.cons_append, List.nil_append] at hPT
      refine zaa hPT ?_
      cases hr : R.rc with
      | false =>
        simp -dsimp [g0, g2, k2, g15, g16, g17, g3, k3, hlt, hR, eAr, cAr, cT, cVw, cBl, hr, zk2 hgl trivial, w1, zbq, eArs]
        done
      | true =>
        obtain ⟨s0, d1, hd, hx, so, hso, hil, hg⟩ := hrci hr
        have hI := zld v hv n hN R.sort so s0 hso R.idx hil i (by omega) R.dom.length (p + 1) (by omega) (by omega) (by omega) (by omega) cons hx hg
        have v1 : IntKind.i64.wrap (p + 1) = p + 1 := zab (by omega) (by omega)
        have v2 : IntKind.i64.wrap (p + 1 + (R.dom.length : Int)) = p + 1 + R.dom.length := zab (by omega) (by omega)
        have hdl := zFl v i (p + 1)
        have hds := zBx v i (p + 1) R.dom 0
        have hPd : ∀ (j : Nat) (hj : j < R.dom.length), Pure Tryz.prog zbj [.rp (cVw v), .agg (cT R.dom[j]), .int .i64 i, .int .i64 j, .int .i64 (p + 1)] [.agg (cT (putT v R.dom[j] i j (p + 1)))] := fun j hj => by
          obtain ⟨x1, x2, x3⟩ := hd _ (List.getElem_mem hj)
          exact zAq v hp _ x1 (by omega) i (by omega) j (p + 1) (by omega) (by omega) (by omega) (by omega)
        have hssl := (List.getElem?_eq_some_iff.1 hso).1
        have hsr : R.sort ≤ 10 := by omega
        have hL1 := zlf p (p + 1 + R.dom.length) (by omega) (by omega) (by omega) (by omega)
        have oL1 := zjp (l := p) (vars := p + 1 + R.dom.length) (by omega) (by omega) (by omega) (by omega)
        have hV := zQa (R.dom.length : Int)
        rw [zQn _ (by omega)] at hV
        have oV := zwy R.dom.length (by omega)
        have hVl := zs8 R.dom.length
        have hS1 := zkk (lv p (p + 1 + R.dom.length)) (zgs R.dom.length) (by omega) oL1 ⟨by omega, oV⟩
        have oS1 := zew (zgs R.dom.length) _ oL1 oV
        have hL2 := zlf R.sort (p + 1 + R.dom.length) (by omega) (by omega) (by omega) (by omega)
        have oL2 := zjp (l := R.sort) (vars := p + 1 + R.dom.length) (by omega) (by omega) (by omega) (by omega)
        obtain ⟨hI1, hI2, hI3⟩ := hI
        rw [hso]
        simp only
        generalize inT v n so R.idx i R.dom.length (p + 1) = J at *
        generalize spT (lv p (p + 1 + R.dom.length)) (zgs R.dom.length) = S1 at *
        generalize lv p (p + 1 + R.dom.length) = L1 at *
        generalize zgs R.dom.length = Vs at *
        generalize lv R.sort (p + 1 + R.dom.length) = L2 at *
        have oJ : ∀ y ∈ J ++ [S1], okT y := fun y hy => by
          rcases List.mem_append.1 hy with hy | hy
          · exact hI2 y hy
          · rw [List.mem_singleton] at hy; subst hy; exact oS1
        have hS2 := zkk L2 (J ++ [S1]) (by rw [List.length_append, List.length_singleton]; omega) oL2 ⟨by rw [List.length_append, List.length_singleton]; omega, oJ⟩
        have oS2 := zew (J ++ [S1]) _ oL2 oJ
        generalize spT L2 (J ++ [S1]) = S2 at *
        have oD : ∀ y ∈ dmP v i (p + 1) 0 R.dom, okT y := zxo _ _ fun j hj => by
          obtain ⟨x1, x2, x3⟩ := hd _ (List.getElem_mem hj)
          exact zl8 hp x1 x2 (by omega) i _ (p + 1) (by omega) (by omega) (by omega) (by omega)
        have hPi := zJ2 (dmP v i (p + 1) 0 R.dom) S2 (by rw [hdl]; omega) oS2 ⟨by rw [hdl]; omega, oD⟩
        generalize zcm 4 (dmP v i (p + 1) 0 R.dom) S2 = PI at *
        simp only [cVw, cBl, cT, eTs, List.map_append, List.map_cons, List.map_nil, zbq, List.cons_append, List.nil_append] at hI1 hL1 hV hS1 hL2 hS2
        simp only [cT, eTs] at hPi
        simp -dsimp [g0, g2, k2, g15, g16, g17, g3, k3, hlt, hR, eAr, cAr, cT, cVw, cBl, hr, zk2 hgl trivial, w1, hlp, hpi, hpi', v1, eTs, eArs]
        refine zaj R.dom.length (fun j st => (st.s 0 = .d (.rp (cVw v)) ∧ st.s 4 = .d (.int .i64 i) ∧ st.s 6 = .d (.int .i64 (p + 1)) ∧ st.s 7 = .d (.int .i64 R.dom.length)) ∧ (st.s 2 = .rsl 2 1 ∧ st.h 2 = ⟨1, .row 3 [] false⟩) ∧ (st.s 15 = .d (eArs v.args) ∧ st.s 16 = .d (.int .i64 v.args.length)) ∧ st.s 17 = .d (.int .i64 i) ∧
          (st.s 3 = .rsl 3 (u + 1) ∧ st.h 3 = ⟨u + 1, .row 3 (G.map eT ++ [.agg (cT PT)]) false⟩) ∧
          (st.s 5 = .ptr 5 ((hp' 5).ver + 1) 0 ∧ st.h 5 = ⟨(hp' 5).ver + 1, .box [.d (.bool true), .d (.int .i64 R.ty.kind), .d (.int .i64 R.ty.num), .d (.sl 3 (R.ty.kids.map eT)), .d (eTs R.dom), .d (.int .i64 R.sort), .d (eTs R.idx)] false⟩) ∧
          (st.s 60 = .d (eTs R.dom) ∧ st.s 61 = .d (.int .i64 R.dom.length)) ∧ st.s 62 = .d (.int .i64 j) ∧ ∃ w, st.s 8 = .rsl 8 w ∧ st.h 8 = ⟨w, .row 3 ((dmP v i (p + 1) 0 (R.dom.take j)).map eT) false⟩) ?_ ?_
        · simp -dsimp [g0, g2, k2, g15, g16, g17, g3, k3, hR, eAr, cAr, cT, cVw, cBl, hr, eTs, eArs, dmP]
        · clear g0 g2 k2 g15 g16 g17 g3 k3
          rintro j ⟨s, hq⟩ hj ⟨⟨g0, g4, g6, g7⟩, ⟨g2, k2⟩, ⟨g15, g16⟩, g17, ⟨g3, k3⟩, ⟨g5, k5⟩, ⟨g60, g61⟩, g62, w, g8, k8⟩
          dsimp only at g0 g4 g6 g7 g2 k2 g15 g16 g17 g3 k3 g5 k5 g60 g61 g62 g8 k8
          simp only [eTs, eArs] at g15 k5 g60
          rcases Nat.lt_or_ge j R.dom.length with hlt2 | hge2
          · have w2 : IntKind.i64.wrap ((j : Int) + 1) = (j : Int) + 1 := zab (by omega) (by omega)
            have hPj := hPd j hlt2
            have hds1 := hds j hlt2
            have hdl1 := hdl (R.dom.take j) 0
            rw [List.length_take] at hdl1
            rw [Nat.zero_add] at hds1
            rw [hds1]
            generalize dmP v i (p + 1) 0 (R.dom.take j) = E at *
            have hel : E.length ≤ 40 := by omega
            generalize putT v R.dom[j] i j (p + 1) = Y at *
            generalize hX : R.dom[j] = X at *
            simp only [cVw, cBl, cT, List.cons_append, List.nil_append] at hPj
            simp -dsimp [g0, g4, g6, g7, g2, k2, g15, g16, g17, g3, k3, g5, k5, g60, g61, g62, g8, k8, hlt2, hX, cT, cVw, cBl]
            refine zaa hPj ?_
            simp -dsimp [g0, g4, g6, g7, g2, k2, g15, g16, g17, g3, k3, g5, k5, g60, g61, g62, g8, k8, hlt2, hX, cT, cVw, cBl, zk2 hel trivial, w2, zbq, eTs, eArs]
            done
          · have ej : j = R.dom.length := by omega
            subst ej
            rw [List.take_length] at k8
            simp only [cVw, cBl, eTs, List.cons_append, List.nil_append] at g0 hI1
            simp -dsimp [g0, g4, g6, g7, g2, k2, g15, g16, g17, g3, k3, g5, k5, g60, g61, g62, g8, k8, eTs]
            refine zce hI1 (by simp [zaz, zbv, RV.cells]) ?_
            simp -dsimp [g0, g4, g6, g7, g2, k2, g15, g16, g17, g3, k3, g5, k5, g60, g61, g62, g8, k8, hlp, hpi, hpi', v2]
            refine zaa hL1 ?_
            simp -dsimp [g0, g4, g6, g7, g2, k2, g15, g16, g17, g3, k3, g5, k5, g60, g61, g62, g8, k8, cT]
            refine zaa hV ?_
            simp -dsimp [g0, g4, g6, g7, g2, k2, g15, g16, g17, g3, k3, g5, k5, g60, g61, g62, g8, k8, cT]
            refine zaa hS1 ?_
            simp -dsimp [g0, g4, g6, g7, g2, k2, g15, g16, g17, g3, k3, g5, k5, g60, g61, g62, g8, k8, cT, zk2 hI3 trivial, v2]
            refine zaa hL2 ?_
            simp -dsimp [g0, g4, g6, g7, g2, k2, g15, g16, g17, g3, k3, g5, k5, g60, g61, g62, g8, k8, cT]
            refine zaa hS2 ?_
            simp -dsimp [g0, g4, g6, g7, g2, k2, g15, g16, g17, g3, k3, g5, k5, g60, g61, g62, g8, k8, cT]
            refine zaa hPi ?_
            simp -dsimp [g0, g4, g6, g7, g2, k2, g15, g16, g17, g3, k3, g5, k5, g60, g61, g62, g8, k8, cT, zzp hgl, w1, zbq, cVw, cBl, eArs]
            try exact hlt
    · have e : i = v.args.length := by omega
      subst e
      rw [List.take_length] at k3
      simp -dsimp [g0, g2, k2, g15, g16, g17, g3, k3, eTs]
end
end
section
section
attribute [local simp] zac zag tk tn tks zc4 zdf zch zci zcj zei
theorem zD5 : ∀ (l : List Ar) (e p : Int), p ∈ posL e l → e ≤ p ∧ p ≤ e + 2 * l.length
  | [], e, p, h => by simp [posL] at h
  | a :: l, e, p, h => by
    rw [posL] at h
    simp only [List.length_cons]
    rcases List.mem_cons.1 h with rfl | h
    · omega
    · have ih := zD5 l _ p h
      split at ih <;> omega
def vwOf (b : Bl) (base : Int) (l : List Ar) (e : Int) : Vw := ⟨b, base, l, posL e l, finL e l⟩
theorem vw_ok {b : Bl} (hz : zfq b = 0) (fb : FineBl b) (base : Int) {l : List Ar} (hl : l.length ≤ 20) {e : Int} (h0 : 0 ≤ e) (h1 : e ≤ 100) : VwOk (vwOf b base l e) := by
  refine ⟨⟨by simp only [vwOf, zfh]; omega, fun p hp => ?_⟩, by simp only [vwOf, zfh], hl, fb.s, fb.c, fun c hc => (fb.cons c hc).args.1, fun s hs => (fb.sorts s hs).idx.1⟩
  have := zD5 l e p hp
  omega
theorem zHj {b : Bl} (hz : zfq b = 0) (fb : FineBl b) (hf : Fit b) {base : Int} (b0 : 0 ≤ base) (b1 : base ≤ 65535) {l : List Ar} (ol : zyy l) (fl : zpc l) (hr : rowM b l = true) {n : Nat} {cons : Int} (hg : rowF n b base l cons = true) {e : Int} (h0 : 0 ≤ e) (h1 : e ≤ 100) : TyOk (vwOf b base l e) n cons :=
  ⟨vw_ok hz fb base fl.1 h0 h1, hf, b0, b1, fun p hp => by have := zD5 l e p hp; have := fl.1; omega, ol, fl, hr, hg⟩
theorem zGc (v : Vw) (n : Nat) (hN : n ≤ 1000000) (hn9 : 9000 ≤ n) (cons : Int) (H : TyOk v n cons) (body : T) (ob : okT body) : Pure Tryz.prog zey [.rp (cVw v), .agg (cT body)] [.agg (cT (zda (zcm 4 (tyL v n 0 v.args) body))), .int .i64 (zbp (zcm 4 (tyL v n 0 v.args) body))] := by
  refine zv2 rfl fun hs => ?_
  obtain ⟨h1, h2, h3⟩ := zCv v n hN hn9 cons H
  have hP := zJ2 (tyL v n 0 v.args) body (by omega) ob ⟨by omega, h2⟩
  generalize tyL v n 0 v.args = L at *
  have hC := zA6 (zcm 4 L body)
  generalize zcm 4 L body = R at *
  simp only [cT, eTs] at h1 hP hC
  simp -dsimp [zgu, cT]
  refine zaa h1 ?_
  simp -dsimp
  refine zaa hP ?_
  simp -dsimp [cT]
  refine zaa hC ?_
  by_cases hc : zbp R = 0
  · simp -dsimp [hc, zda, cT]
  · simp -dsimp [hc, zda, cT, zT]
def mayP (b : Bl) (base k many : Int) : Int := if zef 9000 b base = 0 ∧ (k < 0 ∨ many ≤ k) then 1 else zef 9000 b base
theorem zAr (b : Bl) (ob : okBl b) (fb : FineBl b) (base k many : Int) : Pure Tryz.prog zp2 [eBl b, .int .i64 base, .int .i64 k, .int .i64 many] [.int .i64 (mayP b base k many)] := by
  refine zHt rfl fun hs => ?_
  have hP := zNi 9000 (by omega) (by omega) b ob fb base
  rw [mayP]
  generalize zef 9000 b base = E at *
  simp only [eBl, cBl] at hP
  simp -dsimp [zuc, eBl, cBl]
  refine zaa hP ?_
  by_cases h1 : E = 0
  · by_cases h2 : k < 0
    · simp -dsimp [h1, h2]
    · by_cases h3 : many ≤ k
      · simp -dsimp [h1, h2, h3]
      · simp -dsimp [h1, h2, h3]
  · simp -dsimp [h1]
def motT (b : Bl) (base k : Int) (so : So) : T :=
  zcm 4 (tyL (vwOf b base so.idx k) 9000 0 so.idx) (.mk 4 0 [spT (tC (zbl b base k)) ((posL k so.idx).map fun p => lv p (finL k so.idx)), .mk 2 b.elim []])
def motE (b : Bl) (base k : Int) : Int := if mayP b base k b.sorts.length = 0 then (match b.sorts[k.toNat]? with | some so => zbp (motT b base k so) | none => 1) else mayP b base k b.sorts.length
def motR (b : Bl) (base k : Int) : T := if motE b base k = 0 then (match b.sorts[k.toNat]? with | some so => motT b base k so | none => zT) else zT
theorem zsi {b : Bl} {base k many : Int} (h : mayP b base k many = 0) : zef 9000 b base = 0 ∧ 0 ≤ k ∧ k < many := by
  rw [mayP] at h
  split at h
  · cases h
  · rename_i hc
    exact ⟨h, by omega, by omega⟩
theorem zi9 {n : Nat} {b : Bl} {base : Int} (h : zef n b base = 0) : zfq b = 0 ∧ 0 ≤ base ∧ base ≤ 65535 ∧ posF n b base = true := by
  rw [zef] at h
  split at h
  · rename_i hz
    split at h
    · cases h
    · split at h
      · rename_i hp
        exact ⟨hz, by omega, by omega, hp⟩
      · cases h
  · rename_i hz
    exact absurd h hz
theorem zyh {n : Nat} {b : Bl} {base : Int} (h : posF n b base = true) {k : Nat} {so : So} (hk : b.sorts[k]? = some so) : rowF n b base so.idx 0 = true := by
  rw [posF, Bool.and_eq_true] at h
  obtain ⟨hlt, rfl⟩ := List.getElem?_eq_some_iff.1 hk
  have := (zaq _ _ _).1 h.1 k hlt
  rw [zmc, Bool.and_eq_true] at this
  exact this.1
theorem zwm {n : Nat} {b : Bl} {base : Int} (h : posF n b base = true) {c : Nat} {x : Co} (hk : b.cons[c]? = some x) : rowF n b base x.args c = true ∧ ∃ so, b.sorts[x.sort.toNat]? = some so ∧ indF n ⟨b, base, x.args, 0⟩ so x.idx c = true := by
  rw [posF, Bool.and_eq_true] at h
  obtain ⟨hlt, rfl⟩ := List.getElem?_eq_some_iff.1 hk
  have := (zaq _ _ _).1 h.2 c hlt
  rw [Nat.zero_add, conF, Bool.and_eq_true] at this
  refine ⟨this.1, ?_⟩
  have h2 := this.2
  split at h2
  · rename_i so hso
    rw [Bool.and_eq_true] at h2
    exact ⟨so, hso, h2.1⟩
  · cases h2
set_option maxHeartbeats 2000000 in
theorem zKe (b : Bl) (ob : okBl b) (fb : FineBl b) (hf : Fit b) (base k : Int) : Pure Tryz.prog zhw [eBl b, .int .i64 base, .int .i64 k] [.agg (cT (motR b base k)), .int .i64 (motE b base k)] := by
  have hM := zAr b ob fb base k b.sorts.length
  by_cases hm : mayP b base k b.sorts.length = 0
  case neg =>
    have e1 : motE b base k = mayP b base k b.sorts.length := by rw [motE, if_neg hm]
    have e2 : motR b base k = zT := by rw [motR, if_neg (by rw [e1]; exact hm)]
    rw [e1, e2]
    generalize mayP b base k b.sorts.length = E at *
    refine zsq rfl fun hs => ?_
    simp only [eBl, cBl] at hM
    simp -dsimp [zf6, eBl, cBl, eSos]
    simp only [eSos] at hM
    refine zaa hM ?_
    simp -dsimp [hm, zT, cT]
  obtain ⟨hp, k0, k1⟩ := zsi hm
  obtain ⟨hz, b0, b1, hpos⟩ := zi9 hp
  obtain ⟨z1, z4, z8, zl, zs, zc⟩ := (zbn b).1 hz
  have hlt : k.toNat < b.sorts.length := by omega
  have hget : b.sorts[k.toNat]? = some b.sorts[k.toNat] := List.getElem?_eq_getElem hlt
  have hsg := zyh hpos hget
  have os := ob.sorts _ (List.getElem_mem hlt)
  have fs := fb.sorts _ (List.getElem_mem hlt)
  have hrow := zth (zs _ hlt)
  generalize hS : b.sorts[k.toNat] = S at *
  have hT := zHj hz fb hf b0 b1 os.idx fs.idx hrow hsg (e := k) k0 (by omega)
  have hv := hT.vw
  have hfl := zqu S.idx k
  have hil := fs.idx.1
  obtain ⟨hOwn, oOwn⟩ := zuu (vwOf b base S.idx k) hv (finL k S.idx) (by omega) (by omega)
  have hSh := zBk b base k S.idx hil k0 (by omega)
  have hF := ztb b base k
  have hfi := zk0 hf b0 (by omega : base ≤ 65535) k
  rw [if_pos ⟨k0, k1⟩] at hfi
  have hC := zKt (zbl b base k)
  have oC : okT (tC (zbl b base k)) := zkf (by omega) (by omega)
  have hSp := zkk (tC (zbl b base k)) ((posL k S.idx).map fun p => lv p (finL k S.idx)) (by rw [List.length_map, zfh]; omega) oC ⟨by rw [List.length_map, zfh]; omega, oOwn⟩
  have oSp := zew _ _ oC oOwn
  have hU := zT9 b.elim
  have hN := zt7 4 [spT (tC (zbl b base k)) ((posL k S.idx).map fun p => lv p (finL k S.idx)), .mk 2 b.elim []]
  have oB : okT (.mk 4 0 [spT (tC (zbl b base k)) ((posL k S.idx).map fun p => lv p (finL k S.idx)), .mk 2 b.elim []]) := zNg (by omega) oSp (.mk _ _ _ (by simp only [n64]; omega) ob.elim (by simp) (by simp)) (by omega)
  have hD := zGc (vwOf b base S.idx k) 9000 (by omega) (by omega) 0 hT _ oB
  have e0 : (vwOf b base S.idx k).args = S.idx := rfl
  have e1 : motE b base k = zbp (motT b base k S) := by rw [motE, if_pos hm, hget]
  have e2 : motR b base k = zda (motT b base k S) := by rw [motR, zda, e1, hget]
  rw [e0, ← motT] at hD
  rw [e1, e2]
  rw [hm] at hM
  clear e1 e2 e0 hT hv oOwn oC oSp oB hrow hsg os fs
  have e3 : (vwOf b base S.idx k).pos = posL k S.idx := rfl
  rw [e3] at hOwn
  have e4 : cVw (vwOf b base S.idx k) = cBl b ++ [.int .i64 base, eArs S.idx, .sl 1 ((posL k S.idx).map (.int .i64)), .int .i64 (finL k S.idx)] := rfl
  have e5 : cVw ⟨b, base, S.idx, posL k S.idx, finL k S.idx⟩ = cBl b ++ [.int .i64 base, eArs S.idx, .sl 1 ((posL k S.idx).map (.int .i64)), .int .i64 (finL k S.idx)] := rfl
  rw [e4] at hOwn hD
  rw [e5] at hSh
  generalize zbp (motT b base k S) = CE at *
  generalize zda (motT b base k S) = RT at *
  generalize spT (tC (zbl b base k)) ((posL k S.idx).map fun p => lv p (finL k S.idx)) = SP at *
  generalize ((posL k S.idx).map fun p => lv p (finL k S.idx)) = OW at *
  generalize zbl b base k = FO at *
  refine zsq rfl fun hs => ?_
  simp only [eBl, cBl, eSos, cT, eTs, eArs, tC, tk, tn, tks, List.map_nil, List.map_cons, zbq, List.cons_append, List.nil_append] at hM hOwn hSh hF hC hSp hU hN hD
  simp -dsimp [zf6, eBl, cBl, eSos]
  refine zaa hM ?_
  simp -dsimp [k0, hlt, hS, hget, eSo, cSo, cT, eArs]
  refine zaa hSh ?_
  simp -dsimp
  refine zaa hF ?_
  simp -dsimp
  refine zaa hC ?_
  simp -dsimp
  refine zaa hOwn ?_
  simp -dsimp
  refine zaa hSp ?_
  simp -dsimp [cT]
  refine zaa hU ?_
  simp -dsimp [cT]
  refine zaa hN ?_
  simp -dsimp [cT]
  refine zaa hD ?_
  simp -dsimp [cT]
end
end
section
section
attribute [local simp] zac zag tk tn tks zc4 zdf zch zci zcj zei
def metV (b : Bl) (base c : Int) (x : Co) : Vw := vwOf b base x.args (b.sorts.length + c)
def metT (b : Bl) (base c : Int) (x : Co) (so : So) : T :=
  zcm 4 (tyL (metV b base c x) 9000 0 x.args) (spT (lv x.sort (metV b base c x).fin) (inT (metV b base c x) 9000 so x.idx x.args.length 0 (metV b base c x).fin ++ [spT (tC (zak b base c)) ((metV b base c x).pos.map fun p => lv p (metV b base c x).fin)]))
def metA (b : Bl) (base c : Int) : Option T := match b.cons[c.toNat]? with
  | some x => match b.sorts[x.sort.toNat]? with
    | some so => some (metT b base c x so)
    | none => none
  | none => none
def metE (b : Bl) (base c : Int) : Int := if mayP b base c b.cons.length = 0 then (match metA b base c with | some t => zbp t | none => 1) else mayP b base c b.cons.length
def metR (b : Bl) (base c : Int) : T := if metE b base c = 0 then (metA b base c).getD zT else zT
theorem zEb {b : Bl} {c : Co} (h : conM b c = true) {x : T} (hx : x ∈ c.idx) : inM x c.args.length = true := by
  rw [conM] at h
  split at h
  · cases h
  split at h
  case isFalse => cases h
  split at h
  · cases h
  split at h
  case isFalse => cases h
  split at h
  case isFalse => cases h
  rename_i hA
  rw [allM, Bool.not_eq_true', List.any_eq_false] at hA
  have := hA x hx
  simpa using this
set_option maxHeartbeats 2000000 in
theorem zDr (b : Bl) (ob : okBl b) (fb : FineBl b) (hf : Fit b) (base c : Int) : Pure Tryz.prog zgb [eBl b, .int .i64 base, .int .i64 c] [.agg (cT (metR b base c)), .int .i64 (metE b base c)] := by
  have hM := zAr b ob fb base c b.cons.length
  by_cases hm : mayP b base c b.cons.length = 0
  case neg =>
    have e1 : metE b base c = mayP b base c b.cons.length := by rw [metE, if_neg hm]
    have e2 : metR b base c = zT := by rw [metR, if_neg (by rw [e1]; exact hm)]
    rw [e1, e2]
    generalize mayP b base c b.cons.length = E at *
    refine zs9 rfl fun hs => ?_
    simp only [eBl, cBl] at hM
    simp -dsimp [zgd, eBl, cBl, eCos]
    simp only [eCos] at hM
    refine zaa hM ?_
    simp -dsimp [hm, zT, cT]
  obtain ⟨hp, k0, k1⟩ := zsi hm
  obtain ⟨hz, b0, b1, hpos⟩ := zi9 hp
  obtain ⟨z1, z4, z8, zl, zs, zc⟩ := (zbn b).1 hz
  have hlt : c.toNat < b.cons.length := by omega
  have hget : b.cons[c.toNat]? = some b.cons[c.toNat] := List.getElem?_eq_getElem hlt
  obtain ⟨hsg, so, hso, hig⟩ := zwm hpos hget
  have os := ob.cons _ (List.getElem_mem hlt)
  have fs := fb.cons _ (List.getElem_mem hlt)
  obtain ⟨hrow, s0, so2, hso2, hil2⟩ := zpn (zc _ (List.getElem_mem hlt))
  have hcon := zc _ (List.getElem_mem hlt)
  have hao : metA b base c = some (metT b base c b.cons[c.toNat] so) := by rw [metA, hget]; simp only [hso]
  generalize hS : b.cons[c.toNat] = S at *
  rw [hso] at hso2
  cases hso2
  rw [show ((c.toNat : Nat) : Int) = c by omega] at hsg hig
  have hT := zHj hz fb hf b0 b1 os.args fs.args hrow hsg (e := b.sorts.length + c) (by omega) (by omega)
  have hv := hT.vw
  have hfl := zqu S.args (b.sorts.length + c)
  have hal := fs.args.1
  have hsl := (List.getElem?_eq_some_iff.1 hso).1
  obtain ⟨hOwn, oOwn⟩ := zuu (vwOf b base S.args (b.sorts.length + c)) hv (finL (b.sorts.length + c) S.args) (by omega) (by omega)
  have e3 : (vwOf b base S.args (b.sorts.length + c)).pos = posL (b.sorts.length + c) S.args := rfl
  rw [e3] at hOwn oOwn
  have hSh := zBk b base (b.sorts.length + c) S.args hal (by omega) (by omega)
  have hxf : ∀ x ∈ S.idx, zaf x = true ∧ okT x ∧ zai x ≤ 9000 := fun x hx => by
    have hnx : zai x ≤ 9000 := Nat.le_trans (ze6 (List.mem_map.2 ⟨_, hx, rfl⟩)) fs.idx
    have hin : inM x S.args.length = true := zEb hcon hx
    exact ⟨(zd5 hin (by omega) (by omega) (by omega)).2.1, os.idx.2 _ hx, hnx⟩
  have hig' : indF 9000 (plV (vwOf b base S.args (b.sorts.length + c)) S.args.length 0) so S.idx c = true := by
    have e : plV (vwOf b base S.args (b.sorts.length + c)) S.args.length 0 = ⟨b, base, S.args, 0⟩ := by simp only [plV, vwOf, List.take_length]
    rw [e]; exact hig
  have hI := zld (vwOf b base S.args (b.sorts.length + c)) hv 9000 (by omega) S.sort so s0 hso S.idx hil2 S.args.length (Nat.le_refl _) 0 (finL (b.sorts.length + c) S.args) (by omega) (by omega) (by omega) (by omega) c hxf hig'
  have hF := zma b base c
  have hfi := ze0 hf b0 (by omega : base ≤ 65535) c
  rw [if_pos ⟨k0, k1⟩] at hfi
  have hdl := zij b.sorts
  have hC := zKt (zak b base c)
  have oC : okT (tC (zak b base c)) := zkf (by omega) (by omega)
  have hSp := zkk (tC (zak b base c)) ((posL (b.sorts.length + c) S.args).map fun p => lv p (finL (b.sorts.length + c) S.args)) (by rw [List.length_map, zfh]; omega) oC ⟨by rw [List.length_map, zfh]; omega, oOwn⟩
  have oSp := zew _ _ oC oOwn
  have hL := zlf S.sort (finL (b.sorts.length + c) S.args) (by omega) (by omega) (by omega) (by omega)
  have oL := zjp (l := S.sort) (vars := finL (b.sorts.length + c) S.args) (by omega) (by omega) (by omega) (by omega)
  obtain ⟨hI1, hI2, hI3⟩ := hI
  have eT' : metT b base c S so = zcm 4 (tyL (vwOf b base S.args (b.sorts.length + c)) 9000 0 S.args) (spT (lv S.sort (finL (b.sorts.length + c) S.args)) (inT (vwOf b base S.args (b.sorts.length + c)) 9000 so S.idx S.args.length 0 (finL (b.sorts.length + c) S.args) ++ [spT (tC (zak b base c)) ((posL (b.sorts.length + c) S.args).map fun p => lv p (finL (b.sorts.length + c) S.args))])) := rfl
  have e1 : metE b base c = zbp (metT b base c S so) := by rw [metE, if_pos hm, hao]
  have e2 : metR b base c = zda (metT b base c S so) := by rw [metR, zda, e1, hao]; rfl
  rw [e1, e2]
  rw [eT']
  clear e1 e2 eT'
  rw [hm] at hM
  generalize spT (tC (zak b base c)) ((posL (b.sorts.length + c) S.args).map fun p => lv p (finL (b.sorts.length + c) S.args)) = SP at *
  generalize inT (vwOf b base S.args (b.sorts.length + c)) 9000 so S.idx S.args.length 0 (finL (b.sorts.length + c) S.args) = J at *
  generalize lv S.sort (finL (b.sorts.length + c) S.args) = L2 at *
  have oJ : ∀ y ∈ J ++ [SP], okT y := fun y hy => by
    rcases List.mem_append.1 hy with hy | hy
    · exact hI2 y hy
    · rw [List.mem_singleton] at hy; subst hy; exact oSp
  have hS2 := zkk L2 (J ++ [SP]) (by rw [List.length_append, List.length_singleton]; omega) oL ⟨by rw [List.length_append, List.length_singleton]; omega, oJ⟩
  have oS2 := zew (J ++ [SP]) _ oL oJ
  generalize spT L2 (J ++ [SP]) = S2 at *
  have hD := zGc (vwOf b base S.args (b.sorts.length + c)) 9000 (by omega) (by omega) c hT _ oS2
  have e0 : (vwOf b base S.args (b.sorts.length + c)).args = S.args := rfl
  rw [e0] at hD
  clear hT hv oOwn oC oSp hrow hsg os fs oJ oS2 hig hig' hxf hcon
  have w1 : IntKind.i64.wrap ((b.sorts.length : Int) + c) = b.sorts.length + c := zab (by omega) (by omega)
  have e4 : cVw (vwOf b base S.args (b.sorts.length + c)) = cBl b ++ [.int .i64 base, eArs S.args, .sl 1 ((posL (b.sorts.length + c) S.args).map (.int .i64)), .int .i64 (finL (b.sorts.length + c) S.args)] := rfl
  have e5 : cVw ⟨b, base, S.args, posL (b.sorts.length + c) S.args, finL (b.sorts.length + c) S.args⟩ = cBl b ++ [.int .i64 base, eArs S.args, .sl 1 ((posL (b.sorts.length + c) S.args).map (.int .i64)), .int .i64 (finL (b.sorts.length + c) S.args)] := rfl
  rw [e4] at hOwn hD hI1
  rw [e5] at hSh
  generalize zcm 4 (tyL (vwOf b base S.args (b.sorts.length + c)) 9000 0 S.args) S2 = MT at *
  generalize zbp MT = CE at *
  generalize zda MT = RT at *
  generalize ((posL (b.sorts.length + c) S.args).map fun p => lv p (finL (b.sorts.length + c) S.args)) = OW at *
  generalize zak b base c = FO at *
  refine zs9 rfl fun hs => ?_
  simp only [eBl, cBl, eCos, cT, eTs, eArs, tC, tk, tn, tks, List.map_nil, List.map_cons, List.map_append, zbq, List.cons_append, List.nil_append] at hM hOwn hSh hF hC hSp hL hS2 hD hI1
  simp -dsimp [zgd, eBl, cBl, eCos]
  refine zaa hM ?_
  simp -dsimp [k0, hlt, hS, hget, eCo, cCo, cT, eArs, eTs, w1, eSos]
  simp only [eSos] at hSh hF hI1 hD hOwn
  refine zaa hSh ?_
  simp -dsimp
  refine zce hI1 (by simp [zaz, zbv, RV.cells]) ?_
  simp -dsimp
  refine zaa hF ?_
  simp -dsimp
  refine zaa hC ?_
  simp -dsimp
  refine zaa hOwn ?_
  simp -dsimp
  refine zaa hSp ?_
  simp -dsimp [cT, zk2 hI3 trivial]
  refine zaa hL ?_
  simp -dsimp [cT]
  refine zaa hS2 ?_
  simp -dsimp [cT]
  refine zaa hD ?_
  simp -dsimp [cT]
end
end
section
section
attribute [local simp] zac zag tk tn tks zc4 zdf zch zci zcj zei
theorem zLp (b : Bl) (base from_ : Int) (l : List Ar) (hl : l.length ≤ 20) (h0 : 0 ≤ from_) (h1 : from_ ≤ 1000) : Pure Tryz.prog zf8 [eBl b, .int .i64 base, eArs l, .int .i64 from_] [.rp (cVw ⟨b, base, l, posL from_ l, finL from_ l⟩)] := by
  refine zu2 rfl fun hs => ?_
  simp -dsimp [zjc, eBl, cBl, eArs, cVw]
  refine zaj l.length (fun i st => st.s 2 = .d (eArs l) ∧ st.s 10 = .d (.int .i64 i) ∧ st.s 9 = .ptr 16 1 0 ∧ ∃ c, st.h 16 = ⟨1, .box [.d (eSos b.sorts), .d (eCos b.cons), .d (.int .i64 b.elim), .d (.int .i64 base), .d (eArs l), c, .d (.int .i64 (finL from_ (l.take i)))] false⟩ ∧
    ((i = 0 ∧ c = .fsl 1 []) ∨ (0 < i ∧ ∃ v, c = .rsl 33 v ∧ st.h 33 = ⟨v, .row 1 ((posL from_ (l.take i)).map (.int .i64)) false⟩))) ?_ ?_
  · simp -dsimp [eArs, finL]
  · rintro i ⟨s, hp⟩ hi ⟨g2, g10, g9, c, k16, k33⟩
    dsimp only at g2 g10 g9 k16 k33
    simp only [eArs] at g2 k16
    rcases Nat.lt_or_ge i l.length with hlt | hge
    · have w1 : IntKind.i64.wrap ((i : Int) + 1) = (i : Int) + 1 := zab (by omega) (by omega)
      have hfl := zqu (l.take i) from_
      rw [List.length_take] at hfl
      have hfs := zBl l from_ i hlt
      have hps := zz8 l from_ i hlt
      have hpl := zfh (l.take i) from_
      rw [List.length_take] at hpl
      generalize finL from_ (l.take (i + 1)) = F' at *
      generalize finL from_ (l.take i) = F at *
      generalize posL from_ (l.take (i + 1)) = P' at *
      generalize posL from_ (l.take i) = P at *
      subst hps
      generalize hR : l[i] = R at *
      have w2 : IntKind.i64.wrap (F + 1) = F + 1 := zab (by omega) (by omega)
      have w3 : IntKind.i64.wrap (F + 1 + 1) = F + 2 := by rw [zab (by omega) (by omega)]; omega
      have hr : (P.length + 1) * 8 ≤ zah := by simp only [zah]; omega
      have hP0 : i = 0 → P = [] := fun h => List.length_eq_zero_iff.1 (by omega)
      rcases k33 with ⟨rfl, rfl⟩ | ⟨hi0, v, rfl, k33⟩
      · have hPn := hP0 rfl
        subst hPn
        have w1' : IntKind.i64.wrap 1 = 1 := by rfl
        cases hrc : R.rc with
        | true =>
          rw [hrc, if_pos rfl] at hfs
          simp -dsimp [g2, g10, g9, k16, hlt, hR, hrc, eAr, cAr, cT, w1', w2, w3, (by decide : 8 ≤ zah), eArs, hfs]
        | false =>
          rw [hrc, if_neg (by simp)] at hfs
          simp -dsimp [g2, g10, g9, k16, hlt, hR, hrc, eAr, cAr, cT, w1', w2, w3, (by decide : 8 ≤ zah), eArs, hfs]
      · cases hrc : R.rc with
        | true =>
          rw [hrc, if_pos rfl] at hfs
          simp -dsimp [g2, g10, g9, k16, k33, hlt, hR, hrc, eAr, cAr, cT, w1, w2, w3, hr, eArs, hfs]
        | false =>
          rw [hrc, if_neg (by simp)] at hfs
          simp -dsimp [g2, g10, g9, k16, k33, hlt, hR, hrc, eAr, cAr, cT, w1, w2, w3, hr, eArs, hfs]
    · have e : i = l.length := by omega
      subst e
      rw [List.take_length] at k16 k33
      rcases k33 with ⟨hz, rfl⟩ | ⟨hi0, v, rfl, k33⟩
      · have hl0 : l = [] := List.length_eq_zero_iff.1 hz
        subst hl0
        simp -dsimp [g2, g10, g9, k16, posL]
      · simp -dsimp [g2, g10, g9, k16, k33]
theorem zk7 (l vars : Int) (h0 : -1000000 ≤ l) (h1 : l ≤ 1000000) (h2 : -1000000 ≤ vars) (h3 : vars ≤ 1000000) : Pure Tryz.prog zbb [.int .i64 l, .int .i64 vars] [.agg (cT (lv l vars))] := by
  refine zr4 rfl fun hs => ?_
  have w1 : IntKind.i64.wrap (vars - 1) = vars - 1 := zab (by omega) (by omega)
  have w2 : IntKind.i64.wrap (vars - 1 - l) = vars - 1 - l := zab (by omega) (by omega)
  have hV := zRi (vars - 1 - l)
  simp only [cT, tk, tn, tks, List.map_nil] at hV
  simp -dsimp [zg8, w1, w2]
  refine zaa hV ?_
  simp -dsimp [lv, cT]
theorem zCt (f g : Int → Int → T) (v c : Int) (h : ∀ n b : Int, 0 ≤ n → n ≤ 65535 → 0 ≤ b → b ≤ 4194304 → n < v + b → f n b = g n b) (t : T) : ∀ b : Int, VokT t → 0 ≤ b → b + zai t ≤ 4194304 → wiT t (v + b) c = true → mapT f t b = mapT g t b := by
  refine T.ind (p := fun t => ∀ b : Int, VokT t → 0 ≤ b → b + zai t ≤ 4194304 → wiT t (v + b) c = true → mapT f t b = mapT g t b) ?_ t
  intro k n ks ih b hvk h0 hb hw
  obtain ⟨hvn, hln, hsk⟩ := hvk.out
  rw [mapT, mapT]
  by_cases h1 : k = 1
  · have hn := (hvn h1).1
    rw [wiT, if_pos h1, decide_eq_true_eq] at hw
    rw [if_pos h1, if_pos h1, h n b hn.1 hn.2 h0 (by omega) hw]
  · rw [if_neg h1, if_neg h1]
    congr 1
    have hws : ∀ (j : Nat) (hj : j < ks.length), wiT ks[j] (v + b + zan k j) c = true := by
      by_cases h23 : k = 2 ∨ k = 3
      · have hz := hvk.leaf (.inr h23)
        subst hz; intro j hj; simp at hj
      · rw [wiT, if_neg h1, if_neg (by omega), if_neg (by omega), zOo] at hw
        intro j hj
        have := hw j hj
        rw [Nat.zero_add] at this
        exact this
    refine List.ext_getElem (by rw [zjl, zjl]) fun j h2 h3 => ?_
    rw [zjl] at h2
    rw [zny f k b ks 0 j h2, zny g k b ks 0 j h2, Nat.zero_add]
    have hbl := zgg k j
    have hkn := zfo (k := k) (n := n) (List.getElem_mem h2)
    exact ih ks[j] (List.getElem_mem _) _ (hsk _ (List.getElem_mem _)) (by omega) (by omega) (by rw [← Int.add_assoc]; exact hws j h2)
def lvl (v : Vw) (i : Nat) (depth : Int) : List T := (v.pos.take i).map fun p => lv p depth
theorem zK8 {v : Vw} {i : Nat} (h : i ≤ v.pos.length) (depth : Int) : (lvl v i depth).length = i := by simp [lvl]; omega
theorem zNf {v : Vw} (hp : Pos v) {i : Nat} (hi : i ≤ v.pos.length) {depth r : Int} (h0 : 0 ≤ depth) (h1 : depth ≤ 10000) (r0 : 0 ≤ r) (r1 : r ≤ 10000) (hlt : ∀ p ∈ v.pos.take i, p < depth) {t : T} (hv : VokT t) (hn : zai t ≤ 1000000) {c : Int} (hw : wiT t (i + r) c = true) :
    mapT (zsz (lvl v i depth) r) t 0 = putT v t i r depth := by
  rw [putT]
  refine zCt _ _ (i + r) c (fun n b a1 a2 a3 a4 a5 => ?_) t 0 hv (by omega) (by omega) (by rwa [Int.add_zero])
  have hpl := hp.len
  rw [zsz, zK8 hi, putF]
  by_cases c1 : n < r + b
  · have hW : zn7 i r n b = -1 := by rw [zn7, if_pos (.inl c1)]
    rw [hW, if_neg (by omega), if_neg (by omega), if_pos (.inl c1)]
  · obtain ⟨j, hj⟩ : ∃ j : Nat, (i : Int) - 1 - (n - (r + b)) = j := ⟨((i : Int) - 1 - (n - (r + b))).toNat, by omega⟩
    have hW : zn7 i r n b = j := by rw [zn7, if_neg (by omega)]; exact hj
    have hji : j < i := by omega
    have hje : i - 1 - (n - (r + b)).toNat = j := by omega
    have hjp : j < v.pos.length := by omega
    have hge : v.pos[j]? = some v.pos[j] := List.getElem?_eq_getElem hjp
    have hpj := hp.at_ _ (List.getElem_mem hjp)
    have hpd : v.pos[j] < depth := hlt _ (by rw [List.mem_take_iff_getElem]; exact ⟨j, by omega, rfl⟩)
    have hl : (lvl v i depth)[j]? = some (lv v.pos[j] depth) := by
      rw [lvl, List.getElem?_map, List.getElem?_take_of_lt hji, hge]; rfl
    rw [hW, if_pos (by omega), Int.toNat_natCast, hl, if_neg (by omega), hje, hge]
    simp only [Option.getD_some, lv, zFy, zEv]
    have ww : w64 (r + b) = r + b := zev (by omega) (by omega)
    rw [if_pos (by omega), ww, zev (by omega) (by omega)]
theorem zGg (v : Vw) (hp : Pos v) (i : Nat) (hi : i ≤ v.pos.length) (depth r : Int) (h0 : 0 ≤ depth) (h1 : depth ≤ 10000) (r0 : 0 ≤ r) (r1 : r ≤ 10000) (hlt : ∀ p ∈ v.pos.take i, p < depth) (t : T) (hv : VokT t) (hn : zai t ≤ 1000000) {c : Int} (hw : wiT t (i + r) c = true) :
    Pure Tryz.prog zax [.rp (cVw v), .agg (cT t), .int .i64 i, .int .i64 depth, .int .i64 r] [.agg (cT (putT v t i r depth))] := by
  refine zm6 rfl fun hs => ?_
  have hpl := hp.len
  have hll := zK8 hi depth
  have hF := zQg (lvl v i depth) (by omega) (fun x hx => by
    simp only [lvl, List.mem_map] at hx
    obtain ⟨p, hpm, rfl⟩ := hx
    have := hp.at_ p (List.mem_of_mem_take hpm)
    have := hlt p hpm
    exact ⟨zAx (by omega), by rw [lv, zzv]; omega⟩) r (by omega) t hv (by omega)
  rw [zNf hp hi h0 h1 r0 r1 hlt hv hn hw] at hF
  generalize putT v t i r depth = R at *
  simp only [cT, eTs] at hF
  simp -dsimp [zem, cT, cVw, cBl]
  refine zaj i (fun j st => (st.s 0 = .d (.rp (cVw v)) ∧ st.s 2 = .d (.int .i64 i) ∧ st.s 3 = .d (.int .i64 depth) ∧ st.s 4 = .d (.int .i64 r)) ∧ (st.s 6 = .ptr 6 1 0 ∧ st.h 6 = ⟨1, .box [.d (.int .i64 t.kind), .d (.int .i64 t.num), .d (.sl 3 (t.kids.map eT))] false⟩) ∧ (st.s 10 = .ptr 10 1 0 ∧ st.h 10 = ⟨1, .box [.d (.int .i64 0), .d (.int .i64 0), .fsl 3 []] false⟩) ∧ st.s 12 = .d (.int .i64 j) ∧
    ∃ u, st.s 11 = .rsl 11 u ∧ st.h 11 = ⟨u, .row 3 (((lvl v i depth).take j).map eT) false⟩) ?_ ?_
  · simp -dsimp [cVw, cBl]
  · rintro j ⟨s, hp'⟩ hj ⟨⟨g0, g2, g3, g4⟩, ⟨g6, k6⟩, ⟨g10, k10⟩, g12, u, g11, k11⟩
    dsimp only at g0 g2 g3 g4 g6 k6 g10 k10 g12 g11 k11
    rcases Nat.lt_or_ge j i with hlt' | hge
    · have w1 : IntKind.i64.wrap ((j : Int) + 1) = (j : Int) + 1 := zab (by omega) (by omega)
      have hjp : j < v.pos.length := by omega
      have hge : v.pos[j]? = some v.pos[j] := List.getElem?_eq_getElem hjp
      have hpj := hp.at_ _ (List.getElem_mem hjp)
      have hL := zk7 v.pos[j] depth (by omega) (by omega) (by omega) (by omega)
      have hjl : (lvl v i depth)[j]? = some (lv v.pos[j] depth) := by rw [lvl, List.getElem?_map, List.getElem?_take_of_lt hlt', hge]; rfl
      have hnn : ((lvl v i depth).take (j + 1)).map eT = ((lvl v i depth).take j).map eT ++ [.agg (cT (lv v.pos[j] depth))] := by
        rw [zdd hjl, List.map_append]
        simp [zbq]
      rw [hnn]
      generalize lvl v i depth = M at *
      generalize lv v.pos[j] depth = X at *
      generalize hPj : v.pos[j] = p at *
      have hr : (min j M.length + 1) * 40 ≤ zah := by simp only [zah]; omega
      simp only [cVw, cBl, List.cons_append, List.nil_append] at g0
      simp only [cT] at hL
      simp -dsimp [g0, g2, g3, g4, g6, k6, g10, k10, g12, g11, k11, hlt', hjp, hge, hPj, cT]
      refine zaa hL ?_
      simp -dsimp [g0, g2, g3, g4, g6, k6, g10, k10, g12, g11, k11, hlt', w1, hr, cT, cVw, cBl]
    · have e : j = i := by omega
      subst e
      rw [List.take_of_length_le (by omega)] at k11
      simp only [cVw, cBl, List.cons_append, List.nil_append] at g0
      simp -dsimp [g0, g2, g3, g4, g6, k6, g10, k10, g12, g11, k11]
      refine zaa hF ?_
      simp -dsimp [g0, g2, g3, g4, g6, k6, g10, k10, g12, g11, k11, cT]
theorem zIl (v : Vw) (hp : Pos v) (n : Int) (i : Nat) (depth r : Int) (h0 : 0 ≤ depth) (h1 : depth ≤ 10000) (r0 : 0 ≤ r) (r1 : r ≤ 10000) (j : Nat) (hj : j < v.pos.length) (hji : (i : Int) - 1 - (n - r) = j) (hn : 0 ≤ n ∧ n ≤ 100000) :
    Pure Tryz.prog zb5 [.rp (cVw v), .int .i64 n, .int .i64 i, .int .i64 depth, .int .i64 r] [.agg (cT (lv (v.pos[j] + 1) (depth + r)))] := by
  refine znx rfl fun hs => ?_
  have hge : v.pos[j]? = some v.pos[j] := List.getElem?_eq_getElem hj
  have hpj := hp.at_ _ (List.getElem_mem hj)
  have hpl := hp.len
  have hL := zk7 (v.pos[j] + 1) (depth + r) (by omega) (by omega) (by omega) (by omega)
  generalize lv (v.pos[j] + 1) (depth + r) = R at *
  generalize hPj : v.pos[j] = p at *
  have w1 : IntKind.i64.wrap ((i : Int) - 1) = i - 1 := zab (by omega) (by omega)
  have w2 : IntKind.i64.wrap (n - r) = n - r := zab (by omega) (by omega)
  have w3 : IntKind.i64.wrap ((i : Int) - 1 - (n - r)) = j := by rw [zab (by omega) (by omega), hji]
  have w4 : IntKind.i64.wrap (p + 1) = p + 1 := zab (by omega) (by omega)
  have w5 : IntKind.i64.wrap (depth + r) = depth + r := zab (by omega) (by omega)
  simp only [cT] at hL
  simp -dsimp [zen, cVw, cBl, w1, w2, w3, hj, hge, hPj, w4, w5]
  refine zaa hL ?_
  simp -dsimp [cT]
theorem zzj (v : Vw) (hv : VwOk v) (h2 : 0 ≤ v.fin) (h3 : v.fin ≤ 1000) : Pure Tryz.prog zcq [.rp (cVw v)] [eTs (v.pos.map fun p => lv p v.fin)] := by
  have hp := hv.pos
  have hpl := hv.len
  have hal := hv.al
  refine zme rfl fun hs => ?_
  simp -dsimp [zed, cVw, cBl]
  refine zaj v.pos.length (fun i st => st.s 0 = .d (.rp (cVw v)) ∧ (st.s 2 = .rsl 2 1 ∧ st.h 2 = ⟨1, .row 3 [] false⟩) ∧ st.s 4 = .d (.int .i64 i) ∧
    ∃ u, st.s 3 = .rsl 3 u ∧ st.h 3 = ⟨u, .row 3 (((v.pos.map fun p => lv p v.fin).take i).map eT) false⟩) ?_ ?_
  · simp -dsimp [cVw, cBl]
  · rintro i ⟨s, hp'⟩ hi ⟨g0, ⟨g2, k2⟩, g4, u, g3, k3⟩
    dsimp only at g0 g2 k2 g4 g3 k3
    simp only [cVw, cBl, List.cons_append, List.nil_append] at g0
    rcases Nat.lt_or_ge i v.pos.length with hlt | hge
    · have w1 : IntKind.i64.wrap ((i : Int) + 1) = (i : Int) + 1 := zab (by omega) (by omega)
      have hpj := hp.at_ _ (List.getElem_mem hlt)
      have hP := zk7 v.pos[i] v.fin (by omega) (by omega) (by omega) (by omega)
      have hn : ((v.pos.map fun p => lv p v.fin).take (i + 1)).map eT = ((v.pos.map fun p => lv p v.fin).take i).map eT ++ [.agg (cT (lv v.pos[i] v.fin))] := by
        rw [zdd (List.getElem?_eq_getElem (by simpa using hlt)), List.map_append]
        simp [zbq]
      generalize hX : lv v.pos[i] v.fin = X at *
      generalize hM : (v.pos.map fun p => lv p v.fin) = M at *
      have hMl : M.length = v.pos.length := by rw [← hM, List.length_map]
      have hr : (min i M.length + 1) * 40 ≤ zah := by simp only [zah]; omega
      rw [hn]
      simp only [cT] at hP
      simp -dsimp [g0, g2, k2, g4, g3, k3, hlt, cT]
      refine zaa hP ?_
      simp -dsimp [g0, g2, k2, g4, g3, k3, hlt, cT, hr, w1, cVw, cBl]
      try exact hlt
    · have e : i = v.pos.length := by omega
      subst e
      rw [List.take_of_length_le (by simp)] at k3
      simp -dsimp [g0, g2, k2, g4, g3, k3, eTs]
end
end
section
section
attribute [local simp] zac zag tk tn tks zc4 zdf zch zci zcj zei
theorem zC8 (t : T) (ho : okT t) (hb : (spA t).length ≤ 1000000) : Pure Tryz.prog za1 [.agg (cT t)] [.agg (cT (spH t)), eTs (spA t).reverse] := by
  have h := (zlp t ho hb).pure
  simpa [cT, eTs, RV.data, RC.data] using h
theorem zt9 {p : Pl} {t : T} (h : za7 p t = true) : t.kind = 1 ∧ ∃ j : Nat, zd3 p t = j ∧ j < p.args.length ∧ (p.args.length : Int) - 1 - (t.num - p.more) = j ∧ p.more ≤ t.num := by
  rw [za7] at h
  cases hJ : zfa p t with
  | none => rw [hJ] at h; cases h
  | some j =>
    have e : zd3 p t = j := by rw [zd3, hJ]
    rw [zfa] at hJ
    split at hJ
    · rename_i hh
      cases hJ
      exact ⟨hh.1, _, e, by omega, by omega, hh.2.1⟩
    · cases hJ
theorem zTw (v c : Int) (t : T) : wiT t v c = true → wiT (spH t) v c = true ∧ ∀ x ∈ spA t, wiT x v c = true := by
  refine T.ind (p := fun t => wiT t v c = true → wiT (spH t) v c = true ∧ ∀ x ∈ spA t, wiT x v c = true) ?_ t
  intro k n ks ih hw
  by_cases hc : k = 6 ∧ ∃ a b, ks = [a, b]
  · obtain ⟨rfl, a, b, rfl⟩ := hc
    rw [wiT] at hw
    simp [wiL, zO2] at hw
    obtain ⟨i1, i2⟩ := ih a (by simp) hw.1
    rw [(ziv n a b).1, (ziv n a b).2]
    refine ⟨i1, fun x hx => ?_⟩
    rcases List.mem_cons.1 hx with rfl | hx
    · exact hw.2
    · exact i2 x hx
  · rw [(zgo hc).1, (zgo hc).2]
    exact ⟨hw, by simp⟩
theorem zS7 (v : Vw) (first : Nat) (more vars : Int) (n : Nat) (x : T) (hn : 1 ≤ n) (hb : za7 (plV v first more) x = true) {j : Nat} (hj : zd3 (plV v first more) x = j) (hjl : j < v.pos.length) : shT v first more vars n x = lv (v.pos[j] + 1) (vars + more) := by
  have hk := (zt9 hb).1
  have hs : spH x = x ∧ spA x = [] := by
    obtain ⟨k, m, ks⟩ := x
    have hk' : k = 1 := hk
    exact ⟨(zgo (fun h => by omega)).2, (zgo (fun h => by omega)).1⟩
  obtain ⟨n, rfl⟩ : ∃ m, n = m + 1 := ⟨n - 1, by omega⟩
  rw [shT, hs.1, if_pos hb, hs.2, hj, Int.toNat_natCast, List.getElem?_eq_getElem hjl]
  rfl
set_option maxHeartbeats 1000000 in
theorem zMm (v : Vw) (hv : VwOk v) (hf : Fit v.b) (first : Nat) (hfi : first ≤ v.args.length) (more vars : Int) (h0 : 0 ≤ more) (h1 : more ≤ 1000) (h2 : 0 ≤ vars) (h3 : vars ≤ 1000) (hlt : ∀ p ∈ v.pos.take first, p < vars) (c : Int) (cons : Int) : ∀ (n : Nat) (t : T), n ≤ 1000000 → zaf t = true → okT t → zai t ≤ n → wiT t (first + more) c = true →
    (za7 (plV v first more) (spH t) = true ∨ zcy n (plV v first more) t cons = true) →
    Pure Tryz.prog zbh [.rp (cVw v), .agg (cT t), .int .i64 first, .int .i64 vars, .int .i64 more] [.agg (cT (shT v first more vars n t))] ∧ okT (shT v first more vars n t) := by
  intro n
  induction n with
  | zero => intro t _ _ _ h; have := zjs t; omega
  | succ n ih =>
    intro t hN ft ot hn hw hg
    have hp := hv.pos
    have hpl := hv.len
    have hal := hv.al
    have hsl := hv.sl
    have hcl := hv.cl
    have hA := ztd t
    have hS := zC8 t ot (by omega)
    obtain ⟨m1, m2⟩ := zkz t
    obtain ⟨oH, m3⟩ := m2 ot
    obtain ⟨fH, m4⟩ := zmv t ft
    obtain ⟨wH, m5⟩ := zTw _ _ t hw
    have hm : ∀ x ∈ (spA t).reverse, zai x < zai t ∧ okT x ∧ zaf x = true ∧ wiT x (first + more) c = true := fun x hx => ⟨m1 x (by simpa using hx), m3 x (by simpa using hx), m4 x (by simpa using hx), m5 x (by simpa using hx)⟩
    have hAl : (spA t).reverse.length ≤ 1000000 := by rw [List.length_reverse]; omega
    have hput : ∀ (i : Nat) (h' : i < (spA t).reverse.length), Pure Tryz.prog zax [.rp (cVw v), .agg (cT (spA t).reverse[i]), .int .i64 first, .int .i64 vars, .int .i64 more] [.agg (cT (putT v (spA t).reverse[i] first more vars))] := fun i h' => by
      obtain ⟨x1, x2, x3, x4⟩ := hm _ (List.getElem_mem h')
      exact zGg v hp first (by omega) vars more h2 (by omega) h0 (by omega) hlt _ (zvo _ x3) (by omega) x4
    have wv : IntKind.i64.wrap (vars + more) = vars + more := zab (by omega) (by omega)
    have hfin : first ≤ v.pos.length := by omega
    by_cases hb : za7 (plV v first more) (spH t) = true
    · obtain ⟨kH, j, hj, hjl, hjn, hmo⟩ := zt9 hb
      have hlen : (plV v first more).args.length = first := by simp only [plV, List.length_take]; omega
      rw [hlen] at hjl hjn
      have hmr : (plV v first more).more = more := rfl
      rw [hmr] at hjn hmo
      have hjl' : j < v.pos.length := by omega
      have hge : v.pos[j]? = some v.pos[j] := List.getElem?_eq_getElem hjl'
      have hpj := hp.at_ _ (List.getElem_mem hjl')
      have e : shT v first more vars (n + 1) t = spT (lv (v.pos[j] + 1) (vars + more)) ((spA t).reverse.map fun x => putT v x first more vars) := by
        rw [shT, if_pos hb, hj, Int.toNat_natCast, hge]; rfl
      rw [e]
      have oL : okT (lv (v.pos[j] + 1) (vars + more)) := zjp (by omega) (by omega) (by omega) (by omega)
      have oP : ∀ x ∈ (spA t).reverse.map (fun x => putT v x first more vars), okT x := fun y hy => by
        obtain ⟨x, hx, rfl⟩ := List.mem_map.1 hy
        exact zl8 hp (hm x hx).2.2.1 (hm x hx).2.1 (by have := (hm x hx).1; omega) first more vars h0 (by omega) h2 (by omega)
      refine ⟨?_, zew _ _ oL oP⟩
      have hn1 : (spH t).num ≤ 100000 := by omega
      have hO := zIl v hp (spH t).num first vars more h2 (by omega) h0 (by omega) j hjl' hjn (by omega)
      have hSp := zjo (lv (v.pos[j] + 1) (vars + more)) ((spA t).reverse.map fun x => putT v x first more vars) (by rw [List.length_map]; omega) oL ⟨by rw [List.length_map]; omega, oP⟩
      have hMl : ((spA t).reverse.map fun x => putT v x first more vars).length = (spA t).reverse.length := List.length_map ..
      have hnx : ∀ (i : Nat) (h : i < (spA t).reverse.length), (((spA t).reverse.map fun x => putT v x first more vars).take (i + 1)).map eT = (((spA t).reverse.map fun x => putT v x first more vars).take i).map eT ++ [.agg (cT (putT v (spA t).reverse[i] first more vars))] := fun i h => by
        rw [zdd (List.getElem?_eq_getElem (by simpa using h)), List.map_append]
        simp [zbq]
      clear hm m1 m2 m3 m4 m5 ih hg oP oL e
      generalize spT (lv (v.pos[j] + 1) (vars + more)) ((spA t).reverse.map fun x => putT v x first more vars) = R at *
      generalize ((spA t).reverse.map fun x => putT v x first more vars) = M at *
      generalize (spA t).reverse = A at *
      generalize spH t = H at *
      generalize lv (v.pos[j] + 1) (vars + more) = L at *
      refine zhl rfl fun hs => ?_
      simp only [cVw, cBl, cT, eTs, eArs, List.cons_append, List.nil_append] at hS hput hO hSp
      simp -dsimp [zco, cT, cVw, cBl]
      refine zaa hS ?_
      simp -dsimp [kH, eArs]
      refine zaj A.length (fun i st => (st.s 0 = .d (.rp (cVw v)) ∧ st.s 2 = .d (.int .i64 first) ∧ st.s 3 = .d (.int .i64 vars) ∧ st.s 4 = .d (.int .i64 more)) ∧ (st.s 10 = .ptr 10 1 0 ∧ st.h 10 = ⟨1, .box [.d (.int .i64 0), .d (.int .i64 0), .fsl 3 []] false⟩) ∧
        (st.s 11 = .ptr 11 1 0 ∧ st.h 11 = ⟨1, .box [.d (.int .i64 1), .d (.int .i64 H.num), .d (.sl 3 (H.kids.map eT))] false⟩) ∧ st.s 12 = .d (eTs A) ∧ st.s 14 = .d (.int .i64 i) ∧
        ∃ u, st.s 13 = .rsl 13 u ∧ st.h 13 = ⟨u, .row 3 ((M.take i).map eT) false⟩) ?_ ?_
      · simp -dsimp [cVw, cBl, eTs, eArs, kH]
      · rintro i ⟨s, hp'⟩ hi ⟨⟨g0, g2, g3, g4⟩, ⟨g10, k10⟩, ⟨g11, k11⟩, g12, g14, u, g13, k13⟩
        dsimp only at g0 g2 g3 g4 g10 k10 g11 k11 g12 g14 g13 k13
        simp only [eTs, cVw, cBl, eArs, List.cons_append, List.nil_append] at g12 g0
        rcases Nat.lt_or_ge i A.length with hlt2 | hge2
        · have w1 : IntKind.i64.wrap ((i : Int) + 1) = (i : Int) + 1 := zab (by omega) (by omega)
          have hPi := hput i hlt2
          have hni := hnx i hlt2
          rw [hni]
          generalize hX : A[i] = X at *
          have hr : (min i M.length + 1) * 40 ≤ zah := by simp only [zah]; omega
          simp -dsimp [g0, g2, g3, g4, g10, k10, g11, k11, g12, g14, g13, k13, hlt2, hX, cT]
          refine zaa hPi ?_
          simp -dsimp [g0, g2, g3, g4, g10, k10, g11, k11, g12, g14, g13, k13, hlt2, hX, cT, hr, w1, eTs, cVw, cBl, eArs]
          try exact hlt2
        · have ei : i = A.length := by omega
          subst ei
          rw [List.take_of_length_le (by omega)] at k13
          simp -dsimp [g0, g2, g3, g4, g10, k10, g11, k11, g12, g14, g13, k13]
          refine zaa hO ?_
          simp -dsimp [g0, g2, g3, g4, g10, k10, g11, k11, g12, g14, g13, k13]
          refine zaa hSp ?_
          simp -dsimp [g0, g2, g3, g4, g10, k10, g11, k11, g12, g14, g13, k13, cT]
    · have hgood := hg.resolve_left hb
      rw [zcy] at hgood
      simp only [zBn] at hgood
      rw [if_neg hb] at hgood
      have hb' : za7 (plV v first more) (spH t) = false := by simpa using hb
      by_cases k3 : (spH t).kind = 3
      case neg => rw [if_neg k3] at hgood; cases hgood
      rw [if_pos k3] at hgood
      have eb : (plV v first more).b = v.b := rfl
      have ebase : (plV v first more).base = v.base := rfl
      rw [eb, ebase] at hgood
      by_cases k5 : (ofM v.b v.base (spH t).num).1 = 5
      case neg => rw [if_neg k5] at hgood; cases hgood
      rw [if_pos k5] at hgood
      by_cases k6 : (ofM v.b v.base (spH t).num).2 < cons
      case neg => rw [if_neg k6] at hgood; cases hgood
      rw [if_pos k6] at hgood
      obtain ⟨cc, c1, c2, c3⟩ := zD6 k5
      have hgc : v.b.cons[cc]? = some v.b.cons[cc] := List.getElem?_eq_getElem c1
      have e : shT v first more vars (n + 1) t = spT (lv (v.b.sorts.length + cc) (vars + more)) (shA (fun x => putT v x first more vars) (shT v first more vars n) v.b.cons[cc].args (spA t).reverse) := by
        rw [shT, if_neg hb, c3]
        simp only [Int.toNat_natCast, hgc]
      rw [c3] at hgood
      simp only [Int.toNat_natCast, hgc] at hgood
      have hcal := hv.ca _ (List.getElem_mem c1)
      by_cases k7 : (spA t).reverse.length = v.b.cons[cc].args.length
      case neg => rw [if_neg k7] at hgood; cases hgood
      rw [if_pos k7] at hgood
      have hO := zF9 v.b hf v.base (spH t).num (oH.num64)
      rw [c3] at hO
      have hfit : ∀ (i : Nat) (h : i < v.b.cons[cc].args.length) (h' : i < (spA t).reverse.length), fitA (zae n (plV v first more)) (fun x => zcy n (plV v first more) x cons) (plV v first more) v.b.cons[cc].args[i] (spA t).reverse[i] = true := fun i h h' => by
        have hA := (zaq _ _ _).1 hgood i h
        rw [Nat.zero_add, List.getElem?_eq_getElem h'] at hA
        exact hA
      have hown : ∀ (i : Nat) (h : i < v.b.cons[cc].args.length) (h' : i < (spA t).reverse.length), v.b.cons[cc].args[i].rc = true → v.b.cons[cc].args[i].dom.length ≠ 0 →
          Pure Tryz.prog zb5 [.rp (cVw v), .int .i64 (spA t).reverse[i].num, .int .i64 first, .int .i64 vars, .int .i64 more] [.agg (cT (shT v first more vars n (spA t).reverse[i]))] ∧ okT (shT v first more vars n (spA t).reverse[i]) := fun i h h' hr hd => by
        have hA := hfit i h h'
        obtain ⟨x1, x2, x3, x4⟩ := hm _ (List.getElem_mem h')
        simp only [fitA, hr, if_true, hd, if_false] at hA
        obtain ⟨kH, j, hj, hjl, hjn, hmo⟩ := zt9 hA
        have hlen : (plV v first more).args.length = first := by simp only [plV, List.length_take]; omega
        rw [hlen] at hjl hjn
        have hmr : (plV v first more).more = more := rfl
        rw [hmr] at hjn hmo
        have hjl' : j < v.pos.length := by omega
        have hpj := hp.at_ _ (List.getElem_mem hjl')
        have hnp := zjs (spA t).reverse[i]
        rw [zS7 v first more vars n _ (by omega) hA hj hjl']
        exact ⟨zIl v hp _ first vars more h2 (by omega) h0 (by omega) j hjl' hjn (by omega), zjp (by omega) (by omega) (by omega) (by omega)⟩
      have hrec : ∀ (i : Nat) (h : i < v.b.cons[cc].args.length) (h' : i < (spA t).reverse.length), v.b.cons[cc].args[i].rc = true → v.b.cons[cc].args[i].dom.length = 0 →
          Pure Tryz.prog zbh [.rp (cVw v), .agg (cT (spA t).reverse[i]), .int .i64 first, .int .i64 vars, .int .i64 more] [.agg (cT (shT v first more vars n (spA t).reverse[i]))] ∧ okT (shT v first more vars n (spA t).reverse[i]) := fun i h h' hr hd => by
        obtain ⟨x1, x2, x3, x4⟩ := hm _ (List.getElem_mem h')
        have hA := hfit i h h'
        simp only [fitA, hr, if_true, hd] at hA
        exact ih _ (by omega) x3 x2 (by omega) x4 (.inr hA)
      have oAll : ∀ y ∈ shA (fun x => putT v x first more vars) (shT v first more vars n) v.b.cons[cc].args (spA t).reverse, okT y := zx5 _ _ fun i h h' => by
        obtain ⟨x1, x2, x3, x4⟩ := hm _ (List.getElem_mem h')
        refine ⟨zl8 hp x3 x2 (by omega) first more vars h0 (by omega) h2 (by omega), fun hr => ?_⟩
        by_cases hd : v.b.cons[cc].args[i].dom.length = 0
        · exact (hrec i h h' hr hd).2
        · exact (hown i h h' hr hd).2
      have oL : okT (lv (v.b.sorts.length + cc) (vars + more)) := zjp (by omega) (by omega) (by omega) (by omega)
      rw [e]
      refine ⟨?_, zew _ _ oL oAll⟩
      have hlen := znj (fun x => putT v x first more vars) (shT v first more vars n) v.b.cons[cc].args (spA t).reverse
      have hL := zk7 (v.b.sorts.length + cc) (vars + more) (by omega) (by omega) (by omega) (by omega)
      have hSp := zjo (lv (v.b.sorts.length + cc) (vars + more)) _ (by omega : (shA (fun x => putT v x first more vars) (shT v first more vars n) v.b.cons[cc].args (spA t).reverse).length ≤ 100000000) oL ⟨by omega, oAll⟩
      have w1 : IntKind.i64.wrap ((v.b.sorts.length : Int) + (cc : Int)) = v.b.sorts.length + cc := zab (by omega) (by omega)
      generalize spT (lv (v.b.sorts.length + cc) (vars + more)) (shA (fun x => putT v x first more vars) (shT v first more vars n) v.b.cons[cc].args (spA t).reverse) = R at *
      have hsn := ztk (fun x => putT v x first more vars) (shT v first more vars n) v.b.cons[cc].args (spA t).reverse
      have hsl2 := fun i => znj (fun x => putT v x first more vars) (shT v first more vars n) (v.b.cons[cc].args.take i) (spA t).reverse
      have kH1 : ¬ (spH t).kind = 1 := by omega
      clear hgood oAll oL hm m1 m2 m3 m4 m5 e ih hfit
      generalize (spA t).reverse = A at *
      generalize spH t = H at *
      generalize lv (v.b.sorts.length + cc) (vars + more) = L at *
      refine zhl rfl fun hs => ?_
      simp only [cVw, cBl, eBl, cT, eTs, eArs, List.cons_append, List.nil_append] at hS hO hL hSp
      simp -dsimp [zco, cT, cVw, cBl]
      refine zaa hS ?_
      simp -dsimp [kH1, eArs]
      refine zaa hO ?_
      generalize hCc : v.b.cons[cc] = C at *
      simp -dsimp
      refine zaj A.length (fun i st => (st.s 0 = .d (.rp (cVw v)) ∧ st.s 2 = .d (.int .i64 first) ∧ st.s 3 = .d (.int .i64 vars) ∧ st.s 4 = .d (.int .i64 more)) ∧ (st.s 10 = .ptr 10 1 0 ∧ st.h 10 = ⟨1, .box [.d (.int .i64 0), .d (.int .i64 0), .fsl 3 []] false⟩) ∧
        (st.s 12 = .d (eTs A) ∧ st.s 16 = .d (.int .i64 cc)) ∧ st.s 17 = .d (.int .i64 i) ∧
        ∃ u, st.s 13 = .rsl 13 u ∧ st.h 13 = ⟨u, .row 3 ((shA (fun x => putT v x first more vars) (shT v first more vars n) (C.args.take i) A).map eT) false⟩) ?_ ?_
      · simp -dsimp [cVw, cBl, eTs, eArs, eCos, shA]
      · rintro i ⟨s, hp'⟩ hi ⟨⟨g0, g2, g3, g4⟩, ⟨g10, k10⟩, ⟨g12, g16⟩, g17, u, g13, k13⟩
        dsimp only at g0 g2 g3 g4 g10 k10 g12 g16 g17 g13 k13
        simp only [eTs, cVw, cBl, eCos, eArs, List.cons_append, List.nil_append] at g12 g0
        rcases Nat.lt_or_ge i A.length with hltA | hge2
        · have w2 : IntKind.i64.wrap ((i : Int) + 1) = (i : Int) + 1 := zab (by omega) (by omega)
          have hlt3 : i < C.args.length := by omega
          have hsn1 := hsn i hlt3 hltA
          have hsl1 := hsl2 i
          rw [List.length_take] at hsl1
          have hPi := hput i hltA
          have hRi := hrec i hlt3 hltA
          have hOi := hown i hlt3 hltA
          generalize hAr : C.args[i] = Ar_ at *
          generalize hX : A[i] = X at *
          rw [hsn1]
          generalize shA (fun x => putT v x first more vars) (shT v first more vars n) (C.args.take i) A = G at *
          have hgl : G.length ≤ 40 := by omega
          have r1 : (G.length + 1) * 40 ≤ zah := zk2 hgl trivial
          have r2 : (G.length + 1 + 1) * 40 ≤ zah := zzp hgl
          simp only [cT, cVw, cBl, eCos, eArs, List.cons_append, List.nil_append] at hPi hRi hOi
          simp -dsimp [g0, g2, g3, g4, g10, k10, g12, g16, g17, g13, k13, hltA, hX, cT]
          refine zaa hPi ?_
          cases hr : Ar_.rc with
          | false => simp -dsimp [g0, g2, g3, g4, g10, k10, g12, g16, g17, g13, k13, hltA, hlt3, hX, c1, hgc, hCc, hAr, eCo, cCo, eAr, cAr, cT, hr, r1, w2, zbq, eTs, eArs, cVw, cBl, eCos]
          | true =>
            by_cases hd : Ar_.dom = []
            · have hRi' := (hRi hr (by rw [hd]; rfl)).1
              simp -dsimp [g0, g2, g3, g4, g10, k10, g12, g16, g17, g13, k13, hltA, hlt3, hX, c1, hgc, hCc, hAr, eCo, cCo, eAr, cAr, cT, hr, r1, hd, eTs, eArs]
              refine zaa hRi' ?_
              simp -dsimp [g0, g2, g3, g4, g10, k10, g12, g16, g17, g13, k13, hltA, hlt3, hX, c1, hgc, hCc, hAr, eCo, cCo, eAr, cAr, cT, hr, r1, r2, hd, w2, zbq, eTs, eArs, cVw, cBl, eCos]
            · have hd0 : Ar_.dom.length ≠ 0 := fun h => hd (List.length_eq_zero_iff.1 h)
              have hOi' := (hOi hr hd0).1
              simp -dsimp [g0, g2, g3, g4, g10, k10, g12, g16, g17, g13, k13, hltA, hlt3, hX, c1, hgc, hCc, hAr, eCo, cCo, eAr, cAr, cT, hr, r1, hd, eTs, eArs]
              refine zaa hOi' ?_
              simp -dsimp [g0, g2, g3, g4, g10, k10, g12, g16, g17, g13, k13, hltA, hlt3, hX, c1, hgc, hCc, hAr, eCo, cCo, eAr, cAr, cT, hr, r1, r2, hd, w2, zbq, eTs, eArs, cVw, cBl, eCos]
        · have ei : i = A.length := by omega
          subst ei
          rw [k7, List.take_length] at k13
          simp -dsimp [g0, g2, g3, g4, g10, k10, g12, g16, g17, g13, k13, eSos, w1, wv]
          refine zaa hL ?_
          simp -dsimp [g0, g2, g3, g4, g10, k10, g12, g16, g17, g13, k13, cT]
          refine zaa hSp ?_
          simp -dsimp [g10, k10, cT]
end
end
section
section
attribute [local simp] zac zag tk tn tks zc4 zdf zch zci zcj zei
theorem zEe : FnO Tryz.prog zbz zdc := zHy hm Tryz.func115 zky
theorem zxe (v : Vw) (hv : VwOk v) (hf : Fit v.b) (n : Nat) (hN : n ≤ 1000000) (k : Int) (so : So) (hk0 : 0 ≤ k) (hk : v.b.sorts[k.toNat]? = some so) (l : List T) (hll : l.length = so.idx.length) (first : Nat) (hfi : first ≤ v.args.length) (more vars : Int) (h0 : 0 ≤ more) (h1 : more ≤ 1000) (h2 : 0 ≤ vars) (h3 : vars ≤ 1000) (hlt : ∀ p ∈ v.pos.take first, p < vars) (c : Int) (cons : Int)
    (hl : ∀ x ∈ l, zaf x = true ∧ okT x ∧ zai x ≤ n ∧ wiT x (first + more) c = true) (hg : indF n (plV v first more) so l cons = true) :
    OwnC Tryz.prog zbz [.rp (cVw v), .int .i64 k, eTs l, .int .i64 first, .int .i64 vars, .int .i64 more] [.one (.row 3 ((inT v n so l first more vars).map eT) false)] ∧ (∀ y ∈ inT v n so l first more vars, okT y) ∧ (inT v n so l first more vars).length ≤ 40 := by
  have hp := hv.pos
  have hpl := hv.len
  have hal := hv.al
  have hsil := hv.si _ (List.mem_of_getElem? hk)
  have hklt := (List.getElem?_eq_some_iff.1 hk).1
  have hk' := (List.getElem?_eq_some_iff.1 hk).2
  have hrec : ∀ (i : Nat) (h : i < so.idx.length) (h' : i < l.length), so.idx[i].rc = true →
      Pure Tryz.prog zbh [.rp (cVw v), .agg (cT l[i]), .int .i64 first, .int .i64 vars, .int .i64 more] [.agg (cT (shT v first more vars n l[i]))] ∧ okT (shT v first more vars n l[i]) := fun i h h' hr => by
    obtain ⟨x1, x2, x3, x4⟩ := hl _ (List.getElem_mem h')
    refine zMm v hv hf first hfi more vars h0 h1 h2 h3 hlt c cons n _ hN x1 x2 x3 x4 (.inr ?_)
    rw [indF] at hg
    have hA := (zaq _ _ _).1 hg i h
    rw [Nat.zero_add, List.getElem?_eq_getElem h'] at hA
    simpa only [hr, if_true] using hA
  have hput : ∀ (i : Nat) (h' : i < l.length), Pure Tryz.prog zax [.rp (cVw v), .agg (cT l[i]), .int .i64 first, .int .i64 vars, .int .i64 more] [.agg (cT (putT v l[i] first more vars))] := fun i h' => by
    obtain ⟨x1, x2, x3, x4⟩ := hl _ (List.getElem_mem h')
    exact zGg v hp first (by omega) vars more h2 (by omega) h0 (by omega) hlt _ (zvo _ x1) (by omega) x4
  have oAll : ∀ y ∈ inT v n so l first more vars, okT y := zx5 _ _ fun i h h' => by
    obtain ⟨x1, x2, x3, x4⟩ := hl _ (List.getElem_mem h')
    exact ⟨zl8 hp x1 x2 (by omega) first more vars h0 (by omega) h2 (by omega), fun hr => (hrec i h h' hr).2⟩
  have hlen := znj (fun x => putT v x first more vars) (shT v first more vars n) so.idx l
  refine ⟨?_, oAll, by rw [inT]; omega⟩
  have hsn := ztk (fun x => putT v x first more vars) (shT v first more vars n) so.idx l
  have hsl2 := fun i => znj (fun x => putT v x first more vars) (shT v first more vars n) (so.idx.take i) l
  rw [inT]
  clear oAll hl hg hlen
  refine zEe rfl fun hs => ?_
  simp -dsimp [zdc, cVw, cBl, eTs]
  refine zaj l.length (fun i st => (st.s 0 = .d (.rp (cVw v)) ∧ st.s 1 = .d (.int .i64 k) ∧ st.s 2 = .d (eTs l) ∧ st.s 3 = .d (.int .i64 first) ∧ st.s 4 = .d (.int .i64 vars) ∧ st.s 5 = .d (.int .i64 more)) ∧ (st.s 12 = .rsl 12 1 ∧ st.h 12 = ⟨1, .row 3 [] false⟩) ∧
    st.s 14 = .d (.int .i64 i) ∧
    ∃ u, st.s 13 = .rsl 13 u ∧ st.h 13 = ⟨u, .row 3 ((shA (fun x => putT v x first more vars) (shT v first more vars n) (so.idx.take i) l).map eT) false⟩) ?_ ?_
  · simp -dsimp [cVw, cBl, eTs, shA]
  · rintro i ⟨s, hp'⟩ hi ⟨⟨g0, g1, g2, g3, g4, g5⟩, ⟨g12, k12⟩, g14, u, g13, k13⟩
    dsimp only at g0 g1 g2 g3 g4 g5 g12 k12 g14 g13 k13
    simp only [eTs, cVw, cBl, List.cons_append, List.nil_append] at g2 g0
    rcases Nat.lt_or_ge i l.length with hltA | hge
    · have w2 : IntKind.i64.wrap ((i : Int) + 1) = (i : Int) + 1 := zab (by omega) (by omega)
      have hlt : i < so.idx.length := by omega
      have hsn1 := hsn i hlt hltA
      have hsl1 := hsl2 i
      rw [List.length_take] at hsl1
      have hPi := hput i hltA
      have hRi := hrec i hlt hltA
      generalize hAr : so.idx[i] = Ar_ at *
      generalize hX : l[i] = X at *
      rw [hsn1]
      generalize shA (fun x => putT v x first more vars) (shT v first more vars n) (so.idx.take i) l = G at *
      have hgl : G.length ≤ 40 := by omega
      have r1 : (G.length + 1) * 40 ≤ zah := zk2 hgl trivial
      have r2 : (G.length + 1 + 1) * 40 ≤ zah := zzp hgl
      simp only [cT, cVw, cBl, List.cons_append, List.nil_append] at hPi hRi
      simp -dsimp [g0, g1, g2, g3, g4, g5, g12, k12, g14, g13, k13, hltA, hX, cT]
      refine zaa hPi ?_
      cases hr : Ar_.rc with
      | false => simp -dsimp [g0, g1, g2, g3, g4, g5, g12, k12, g14, g13, k13, hlt, hltA, hX, hk0, hklt, hk, hk', hAr, eSos, eSo, cSo, eAr, cAr, cT, hr, r1, w2, zbq, eTs, eArs, cVw, cBl]
      | true =>
        have hRi' := (hRi hr).1
        simp only [eSos] at hRi'
        simp -dsimp [g0, g1, g2, g3, g4, g5, g12, k12, g14, g13, k13, hlt, hltA, hX, hk0, hklt, hk, hk', hAr, eSos, eSo, cSo, eAr, cAr, cT, hr, r1, eArs]
        refine zaa hRi' ?_
        simp -dsimp [g0, g1, g2, g3, g4, g5, g12, k12, g14, g13, k13, hlt, hltA, hX, hk0, hklt, hk, hk', hAr, eSos, eSo, cSo, eAr, cAr, cT, hr, r1, r2, w2, zbq, eTs, eArs, cVw, cBl]
    · have e : i = l.length := by omega
      subst e
      rw [hll, List.take_length] at k13
      simp -dsimp [g0, g1, g2, g3, g4, g5, g12, k12, g14, g13, k13]
set_option maxHeartbeats 2000000 in
theorem zCd (v : Vw) (n : Nat) (hN : n ≤ 1000000) (hn9 : 9000 ≤ n) (cons : Int) (H : TyOk v n cons) (hinc : ∀ (i : Nat) (hi : i < v.pos.length), ∀ p ∈ v.pos.take i, p < v.pos[i]) : Pure Tryz.prog zcg [.rp (cVw v)] [eTs (tyL v n 0 v.args)] ∧ (∀ y ∈ tyL v n 0 v.args, okT y) ∧ (tyL v n 0 v.args).length ≤ 40 := by
  have hv := H.vw
  have hp := hv.pos
  have hpl := hv.len
  have hal := hv.al
  have hsl := H.fit.s
  obtain ⟨hr1, hr2⟩ := zEh H.row
  have hsn := zBa v n v.args 0
  have hA : ∀ (i : Nat) (hi : i < v.args.length), ∃ p : Int, v.pos[i]? = some p ∧ 0 ≤ p ∧ p ≤ 900 := fun i hi =>
    ⟨_, List.getElem?_eq_getElem (by omega), (hp.at_ _ (List.getElem_mem _)).1, H.pos _ (List.getElem_mem (by omega))⟩
  have hty : ∀ (i : Nat) (hi : i < v.args.length), VokT (zg4 v.b v.base v.args[i]) ∧ okT (zg4 v.b v.base v.args[i]) ∧ zai (zg4 v.b v.base v.args[i]) ≤ 1000000 ∧ wiT (zg4 v.b v.base v.args[i]) (i + 0) 100000 = true := fun i hi => by
    have fa := H.fine.2 _ (List.getElem_mem hi)
    have oa := H.ok.2 _ (List.getElem_mem hi)
    have := zx0 (b := v.b) (base := v.base) fa
    obtain ⟨q1, q2⟩ := zC5 H.fit H.b0 H.b1 fa (by omega) (hr2 i hi)
    exact ⟨q2, zCe _ _ oa, by omega, by rwa [Int.add_zero]⟩
  have hrc : ∀ (i : Nat) (hi : i < v.args.length), v.args[i].rc = true → 0 ≤ v.args[i].sort ∧ v.args[i].dom.length ≤ 12 ∧ (∀ (j : Nat) (hj : j < v.args[i].dom.length), zaf v.args[i].dom[j] = true ∧ okT v.args[i].dom[j] ∧ zai v.args[i].dom[j] ≤ n ∧ wiT v.args[i].dom[j] (i + j) 65536 = true) ∧ (∀ x ∈ v.args[i].idx, zaf x = true ∧ okT x ∧ zai x ≤ n ∧ wiT x (i + v.args[i].dom.length) 65536 = true) ∧
      ∃ so, v.b.sorts[v.args[i].sort.toNat]? = some so ∧ v.args[i].idx.length = so.idx.length ∧ indF n (plV v i v.args[i].dom.length) so v.args[i].idx cons = true := fun i hi hr => by
    have fa := H.fine.2 _ (List.getElem_mem hi)
    have oa := H.ok.2 _ (List.getElem_mem hi)
    obtain ⟨_, s0, s1, d1, ⟨so, hso, hil⟩, hd, hx⟩ := zwq (hr2 i hi) hr (by omega) (by omega)
    refine ⟨s0, d1, fun j hj => ?_, fun x hxm => ?_, so, hso, hil, ?_⟩
    · have hxm := List.getElem_mem hj
      have hnx : zai v.args[i].dom[j] ≤ 9000 := Nat.le_trans (ze6 (List.mem_map.2 ⟨_, hxm, rfl⟩)) fa.dom
      have hf := zd5 (hd j hj) (by omega) (by omega) (by omega)
      exact ⟨hf.2.1, oa.dom.2 _ hxm, by omega, hf.1⟩
    · have hnx : zai x ≤ 9000 := Nat.le_trans (ze6 (List.mem_map.2 ⟨_, hxm, rfl⟩)) fa.idx
      have hf := zd5 (hx x hxm) (by omega) (by omega) (by omega)
      exact ⟨hf.2.1, oa.idx.2 _ hxm, by omega, hf.1⟩
    · have hg := (zaq _ _ _).1 H.good i hi
      rw [Nat.zero_add, argF, if_pos hr, hso, Bool.and_eq_true] at hg
      exact hg.2
  have hTok : ∀ (i : Nat) (hi : i < v.args.length) (p : Int), v.pos[i]? = some p → 0 ≤ p → p ≤ 900 → ∀ y ∈ tyA v n i p v.args[i], okT y := fun i hi p hpi p0 p1 y hy => by
    obtain ⟨t1, t2, t3, t4⟩ := hty i hi
    rw [tyA] at hy
    rcases List.mem_cons.1 hy with rfl | hy
    · exact zAw hp t1 t2 t3 i 0 p (by omega) (by omega) p0 (by omega)
    · split at hy
      · rename_i hr
        obtain ⟨s0, d1, hd, hx, so, hso, hil, hg⟩ := hrc i hi hr
        have hsb := (List.getElem?_eq_some_iff.1 hso).1
        rw [List.mem_singleton] at hy
        subst hy
        rw [hso]
        have hI := zld v hv n hN v.args[i].sort so s0 hso v.args[i].idx hil i (by omega) v.args[i].dom.length (p + 1) (by omega) (by omega) (by omega) (by omega) cons (fun x hxm => ⟨(hx x hxm).1, (hx x hxm).2.1, (hx x hxm).2.2.1⟩) hg
        refine zwx (by omega) _ (zew _ _ (zjp (by omega) (by omega) (by omega) (by omega)) fun z hz => ?_) _ (zxo _ _ fun j hj => ?_)
        · rcases List.mem_append.1 hz with hz | hz
          · exact hI.2.1 z hz
          · rw [List.mem_singleton] at hz
            subst hz
            exact zew _ _ (zjp (by omega) (by omega) (by omega) (by omega)) (zwy _ (by omega))
        · obtain ⟨x1, x2, x3, x4⟩ := hd j hj
          exact zl8 hp x1 x2 (by omega) i _ (p + 1) (by omega) (by omega) (by omega) (by omega)
      · simp at hy
  have hlen : ∀ (l : List Ar) (i : Nat), (tyL v n i l).length ≤ 2 * l.length := by
    intro l
    induction l with
    | nil => intro i; simp [tyL]
    | cons a l ih =>
      intro i
      have := ih (i + 1)
      rw [tyL, List.length_append, tyA, List.length_cons, List.length_cons]
      split <;> simp <;> omega
  have hAll : ∀ y ∈ tyL v n 0 v.args, okT y := by
    have go : ∀ j, j ≤ v.args.length → ∀ y ∈ tyL v n 0 (v.args.take j), okT y := by
      intro j
      induction j with
      | zero => intro _ y hy; simp [tyL] at hy
      | succ j ih =>
        intro hj y hy
        rw [hsn j (by omega)] at hy
        rcases List.mem_append.1 hy with hy | hy
        · exact ih (by omega) y hy
        · obtain ⟨p, hpi, p0, p1⟩ := hA j (by omega)
          rw [Nat.zero_add, hpi] at hy
          exact hTok j (by omega) p hpi p0 p1 y hy
    have := go v.args.length (Nat.le_refl _)
    rwa [List.take_length] at this
  refine ⟨?_, hAll, by have := hlen v.args 0; omega⟩
  refine zl0 rfl fun hs => ?_
  simp -dsimp [zdu, cVw, cBl, eArs]
  refine zaj v.args.length (fun i st => st.s 0 = .d (.rp (cVw v)) ∧ (st.s 2 = .rsl 2 1 ∧ st.h 2 = ⟨1, .row 3 [] false⟩) ∧ st.s 4 = .d (.int .i64 i) ∧
    ∃ u, st.s 3 = .rsl 3 u ∧ st.h 3 = ⟨u, .row 3 ((tyL v n 0 (v.args.take i)).map eT) false⟩) ?_ ?_
  · simp -dsimp [cVw, cBl, eArs, tyL]
  · rintro i ⟨s, hp'⟩ hi ⟨g0, ⟨g2, k2⟩, g4, u, g3, k3⟩
    dsimp only at g0 g2 k2 g4 g3 k3
    simp only [cVw, cBl, eArs, List.cons_append, List.nil_append] at g0
    rcases Nat.lt_or_ge i v.args.length with hlt | hge
    · have w1 : IntKind.i64.wrap ((i : Int) + 1) = (i : Int) + 1 := zab (by omega) (by omega)
      obtain ⟨p, hpi, p0, p1⟩ := hA i hlt
      have hlp : i < v.pos.length := by omega
      have hpi' : v.pos[i] = p := by have := (List.getElem?_eq_some_iff.1 hpi).2; exact this
      have hin := hinc i hlp
      rw [hpi'] at hin
      have hs1 := hsn i hlt
      rw [Nat.zero_add, hpi] at hs1
      have hl1 := hlen (v.args.take i) 0
      rw [List.length_take] at hl1
      rw [hs1]
      generalize tyL v n 0 (v.args.take i) = G at *
      have hgl : G.length ≤ 40 := by omega
      have hAT := zE1 v.b H.fit v.base v.args[i] (H.ok.2 _ (List.getElem_mem hlt)) (H.fine.2 _ (List.getElem_mem hlt))
      obtain ⟨t1, t2, t3, t4⟩ := hty i hlt
      have hPT := zGg v hp i (by omega) p 0 p0 (by omega) (by omega) (by omega) hin (zg4 v.b v.base v.args[i]) t1 t3 t4
      have hrci := hrc i hlt
      clear hsn hA hty hrc hTok hlen hAll hinc
      simp only [Option.getD_some, tyA]
      generalize hR : v.args[i] = R at *
      generalize putT v (zg4 v.b v.base R) i 0 p = PT at *
      generalize zg4 v.b v.base R = AT at *
      simp only [eBl, cBl, cVw, eArs, cAr, cT, List.cons_append, List.nil_append] at hAT hPT
      simp -dsimp [g0, g2, k2, g4, g3, k3, hlt, hR, eAr, cAr, cT, cVw, cBl, hlp, hpi, hpi']
      refine zaa hAT ?_
      simp -dsimp [g0, g2, k2, g4, g3, k3, hlt, hR, eAr, cAr, cT, cVw, cBl, hlp, hpi, hpi']
      refine zaa hPT ?_
      cases hr : R.rc with
      | false =>
        simp -dsimp [g0, g2, k2, g4, g3, k3, hlt, hR, eAr, cAr, cT, cVw, cBl, hr, zk2 hgl trivial, w1, zbq, eArs]
        try exact hlt
      | true =>
        obtain ⟨s0, d1, hd, hx, so, hso, hil, hg⟩ := hrci hr
        have hin2 : ∀ q ∈ v.pos.take i, q < p + 1 := fun q hq => by have := hin q hq; omega
        have hI := zxe v hv H.fit n hN R.sort so s0 hso R.idx hil i (by omega) R.dom.length (p + 1) (by omega) (by omega) (by omega) (by omega) hin2 65536 cons hx hg
        have v1 : IntKind.i64.wrap (p + 1) = p + 1 := zab (by omega) (by omega)
        have v2 : IntKind.i64.wrap (p + 1 + (R.dom.length : Int)) = p + 1 + R.dom.length := zab (by omega) (by omega)
        have hdl := zFl v i (p + 1)
        have hds := zBx v i (p + 1) R.dom 0
        have hPd : ∀ (j : Nat) (hj : j < R.dom.length), Pure Tryz.prog zax [.rp (cVw v), .agg (cT R.dom[j]), .int .i64 i, .int .i64 (p + 1), .int .i64 j] [.agg (cT (putT v R.dom[j] i j (p + 1)))] := fun j hj => by
          obtain ⟨x1, x2, x3, x4⟩ := hd j hj
          exact zGg v hp i (by omega) (p + 1) j (by omega) (by omega) (by omega) (by omega) hin2 _ (zvo _ x1) (by omega) x4
        have hssl := (List.getElem?_eq_some_iff.1 hso).1
        have hsr : R.sort ≤ 10 := by omega
        have hL1 := zk7 p (p + 1 + R.dom.length) (by omega) (by omega) (by omega) (by omega)
        have oL1 := zjp (l := p) (vars := p + 1 + R.dom.length) (by omega) (by omega) (by omega) (by omega)
        have hV := zNj R.dom.length (by omega)
        have oV := zwy R.dom.length (by omega)
        have hVl := zs8 R.dom.length
        have hS1 := zjo (lv p (p + 1 + R.dom.length)) (zgs R.dom.length) (by omega) oL1 ⟨by omega, oV⟩
        have oS1 := zew (zgs R.dom.length) _ oL1 oV
        have hL2 := zk7 R.sort (p + 1 + R.dom.length) (by omega) (by omega) (by omega) (by omega)
        have oL2 := zjp (l := R.sort) (vars := p + 1 + R.dom.length) (by omega) (by omega) (by omega) (by omega)
        obtain ⟨hI1, hI2, hI3⟩ := hI
        rw [hso]
        simp only
        generalize inT v n so R.idx i R.dom.length (p + 1) = J at *
        generalize spT (lv p (p + 1 + R.dom.length)) (zgs R.dom.length) = S1 at *
        generalize lv p (p + 1 + R.dom.length) = L1 at *
        generalize zgs R.dom.length = Vs at *
        generalize lv R.sort (p + 1 + R.dom.length) = L2 at *
        have oJ : ∀ y ∈ J ++ [S1], okT y := fun y hy => by
          rcases List.mem_append.1 hy with hy | hy
          · exact hI2 y hy
          · rw [List.mem_singleton] at hy; subst hy; exact oS1
        have hS2 := zjo L2 (J ++ [S1]) (by rw [List.length_append, List.length_singleton]; omega) oL2 ⟨by rw [List.length_append, List.length_singleton]; omega, oJ⟩
        have oS2 := zew (J ++ [S1]) _ oL2 oJ
        generalize spT L2 (J ++ [S1]) = S2 at *
        have oD : ∀ y ∈ dmP v i (p + 1) 0 R.dom, okT y := zxo _ _ fun j hj => by
          obtain ⟨x1, x2, x3, x4⟩ := hd j hj
          exact zl8 hp x1 x2 (by omega) i _ (p + 1) (by omega) (by omega) (by omega) (by omega)
        have hPi := zBi (dmP v i (p + 1) 0 R.dom) S2 (by rw [hdl]; omega) oS2 ⟨by rw [hdl]; omega, oD⟩
        generalize zcm 4 (dmP v i (p + 1) 0 R.dom) S2 = PI at *
        simp only [cVw, cBl, eArs, cT, eTs, List.map_append, List.map_cons, List.map_nil, zbq, List.cons_append, List.nil_append] at hI1 hL1 hV hS1 hL2 hS2 hPd
        simp only [cT, eTs] at hPi
        simp -dsimp [g0, g2, k2, g4, g3, k3, hlt, hR, eAr, cAr, cT, cVw, cBl, hr, zk2 hgl trivial, w1, hlp, hpi, hpi', v1, eTs, eArs]
        refine zaj R.dom.length (fun j st => (st.s 0 = .d (.rp (cVw v)) ∧ st.s 4 = .d (.int .i64 i) ∧ st.s 6 = .d (.int .i64 p)) ∧ (st.s 2 = .rsl 2 1 ∧ st.h 2 = ⟨1, .row 3 [] false⟩) ∧
          (st.s 3 = .rsl 3 (u + 1) ∧ st.h 3 = ⟨u + 1, .row 3 (G.map eT ++ [.agg (cT PT)]) false⟩) ∧
          (st.s 5 = .ptr 5 ((hp' 5).ver + 1) 0 ∧ st.h 5 = ⟨(hp' 5).ver + 1, .box [.d (.bool true), .d (.int .i64 R.ty.kind), .d (.int .i64 R.ty.num), .d (.sl 3 (R.ty.kids.map eT)), .d (eTs R.dom), .d (.int .i64 R.sort), .d (eTs R.idx)] false⟩) ∧
          st.s 8 = .d (.int .i64 j) ∧ ∃ w, st.s 7 = .rsl 7 w ∧ st.h 7 = ⟨w, .row 3 ((dmP v i (p + 1) 0 (R.dom.take j)).map eT) false⟩) ?_ ?_
        · simp -dsimp [g0, g2, k2, g4, g3, k3, hR, eAr, cAr, cT, cVw, cBl, hr, eTs, eArs, dmP]
        · clear g0 g2 k2 g4 g3 k3
          rintro j ⟨s, hq⟩ hj ⟨⟨g0, g4, g6⟩, ⟨g2, k2⟩, ⟨g3, k3⟩, ⟨g5, k5⟩, g8, w, g7, k7⟩
          dsimp only at g0 g4 g6 g2 k2 g3 k3 g5 k5 g8 g7 k7
          simp only [eTs, cVw, cBl, eArs, List.cons_append, List.nil_append] at k5 g0
          rcases Nat.lt_or_ge j R.dom.length with hlt2 | hge2
          · have w2 : IntKind.i64.wrap ((j : Int) + 1) = (j : Int) + 1 := zab (by omega) (by omega)
            have hPj := hPd j hlt2
            have hds1 := hds j hlt2
            have hdl1 := hdl (R.dom.take j) 0
            rw [List.length_take] at hdl1
            rw [Nat.zero_add] at hds1
            rw [hds1]
            generalize dmP v i (p + 1) 0 (R.dom.take j) = E at *
            have hel : E.length ≤ 40 := by omega
            generalize putT v R.dom[j] i j (p + 1) = Y at *
            generalize hX : R.dom[j] = X at *
            simp -dsimp [g0, g4, g6, g2, k2, g3, k3, g5, k5, g8, g7, k7, hlt2, hX, cT, cVw, cBl, v1]
            refine zaa hPj ?_
            simp -dsimp [g0, g4, g6, g2, k2, g3, k3, g5, k5, g8, g7, k7, hlt2, hX, cT, cVw, cBl, zk2 hel trivial, w2, zbq, eTs, eArs]
            try exact hlt2
          · have ej : j = R.dom.length := by omega
            subst ej
            rw [List.take_length] at k7
            simp -dsimp [g0, g4, g6, g2, k2, g3, k3, g5, k5, g8, g7, k7, eTs, v1]
            refine zce hI1 (by simp [zaz, zbv, RV.cells]) ?_
            simp -dsimp [g0, g4, g6, g2, k2, g3, k3, g5, k5, g8, g7, k7, v1, v2]
            refine zaa hL1 ?_
            simp -dsimp [g0, g4, g6, g2, k2, g3, k3, g5, k5, g8, g7, k7, cT]
            refine zaa hV ?_
            simp -dsimp [g0, g4, g6, g2, k2, g3, k3, g5, k5, g8, g7, k7, cT]
            refine zaa hS1 ?_
            simp -dsimp [g0, g4, g6, g2, k2, g3, k3, g5, k5, g8, g7, k7, cT, zk2 hI3 trivial, v1, v2]
            refine zaa hL2 ?_
            simp -dsimp [g0, g4, g6, g2, k2, g3, k3, g5, k5, g8, g7, k7, cT]
            refine zaa hS2 ?_
            simp -dsimp [g0, g4, g6, g2, k2, g3, k3, g5, k5, g8, g7, k7, cT]
            refine zaa hPi ?_
            simp -dsimp [g0, g4, g6, g2, k2, g3, k3, g5, k5, g8, g7, k7, cT, zzp hgl, w1, zbq, cVw, cBl, eArs]
            try exact hlt
    · have e : i = v.args.length := by omega
      subst e
      rw [List.take_length] at k3
      simp -dsimp [g0, g2, k2, g4, g3, k3, eTs]
end
end
section
section
attribute [local simp] zac zag tk tn tks zc4 zdf zch zci zcj zei
theorem zGd : ∀ (l : List Ar) (e : Int) (i : Nat), (posL e l).take i = posL e (l.take i)
  | [], e, i => by simp [posL]
  | a :: l, e, 0 => by simp [posL]
  | a :: l, e, i + 1 => by rw [posL, List.take_succ_cons, List.take_succ_cons, posL, zGd l]
theorem zx3 : ∀ (l : List Ar) (e p : Int), p ∈ posL e l → p < finL e l
  | [], e, p, h => by simp [posL] at h
  | a :: l, e, p, h => by
    rw [posL] at h
    rw [finL]
    rcases List.mem_cons.1 h with rfl | h
    · have := zqu l (if a.rc then p + 2 else p + 1)
      split at this <;> rename_i hr <;> simp only [hr, if_true, if_false, Bool.false_eq_true] at this ⊢ <;> omega
    · exact zx3 l _ p h
theorem zKc (l : List Ar) (e : Int) (i : Nat) (hi : i < (posL e l).length) : ∀ p ∈ (posL e l).take i, p < (posL e l)[i] := fun p hp => by
  rw [zGd] at hp
  rw [zOw l e i hi]
  exact zx3 _ _ _ hp
set_option maxHeartbeats 2000000 in
theorem zG0 (b : Bl) (ob : okBl b) (fb : FineBl b) (hf : Fit b) (base k : Int) (hp : zef 9000 b base = 0) (k0 : 0 ≤ k) (k1 : k < b.sorts.length) {S : So} (hget : b.sorts[k.toNat]? = some S) :
    Pure Tryz.prog zgi [eBl b, .int .i64 base, .int .i64 k] [.agg (cT (zda (motT b base k S))), .int .i64 (zbp (motT b base k S))] := by
  obtain ⟨hz, b0, b1, hpos⟩ := zi9 hp
  obtain ⟨z1, z4, z8, zl, zs, zc⟩ := (zbn b).1 hz
  have hlt : k.toNat < b.sorts.length := by omega
  have hsg := zyh hpos hget
  have hS : b.sorts[k.toNat] = S := (List.getElem?_eq_some_iff.1 hget).2
  have os := ob.sorts _ (List.mem_of_getElem? hget)
  have fs := fb.sorts _ (List.mem_of_getElem? hget)
  have hrow := zth (zs _ hlt)
  rw [hS] at hrow
  have hT := zHj hz fb hf b0 b1 os.idx fs.idx hrow hsg (e := k) k0 (by omega)
  have hv := hT.vw
  have hfl := zqu S.idx k
  have hil := fs.idx.1
  have hOwn := zzj (vwOf b base S.idx k) hv (show 0 ≤ finL k S.idx by omega) (show finL k S.idx ≤ 1000 by omega)
  have oOwn := (zuu (vwOf b base S.idx k) hv (finL k S.idx) (by omega) (by omega)).2
  have hTy := zCd (vwOf b base S.idx k) 9000 (by omega) (by omega) 0 hT (zKc S.idx k)
  have hSh := zLp b base k S.idx hil k0 (by omega)
  have hfi := zk0 hf b0 (by omega : base ≤ 65535) k
  rw [if_pos ⟨k0, k1⟩] at hfi
  have hC := zM9 (base + k)
  have oC : okT (tC (zbl b base k)) := zkf (by omega) (by omega)
  have hSp := zjo (tC (zbl b base k)) ((posL k S.idx).map fun p => lv p (finL k S.idx)) (by rw [List.length_map, zfh]; omega) oC ⟨by rw [List.length_map, zfh]; omega, oOwn⟩
  have oSp := zew _ _ oC oOwn
  have hU := zSj b.elim
  have hN := zQs 4 [spT (tC (zbl b base k)) ((posL k S.idx).map fun p => lv p (finL k S.idx)), .mk 2 b.elim []] (by simp only [zah, List.length_cons, List.length_nil]; omega)
  have oB : okT (.mk 4 0 [spT (tC (zbl b base k)) ((posL k S.idx).map fun p => lv p (finL k S.idx)), .mk 2 b.elim []]) := zNg (by omega) oSp (.mk _ _ _ (by simp only [n64]; omega) ob.elim (by simp) (by simp)) (by omega)
  obtain ⟨hTy1, hTy2, hTy3⟩ := hTy
  have e0 : (vwOf b base S.idx k).args = S.idx := rfl
  rw [e0] at hTy1 hTy2 hTy3
  have hP := zBi (tyL (vwOf b base S.idx k) 9000 0 S.idx) (.mk 4 0 [spT (tC (zbl b base k)) ((posL k S.idx).map fun p => lv p (finL k S.idx)), .mk 2 b.elim []]) (by omega) oB ⟨by omega, hTy2⟩
  rw [← motT] at hP
  have hW := zGp (motT b base k S)
  have w1 : IntKind.i64.wrap (base + k) = base + k := zab (by omega) (by omega)
  clear e0 hT hv oOwn oC oSp oB hrow hsg os fs hTy2 hTy3
  have e3 : (vwOf b base S.idx k).pos = posL k S.idx := rfl
  have e6 : (vwOf b base S.idx k).fin = finL k S.idx := rfl
  rw [e3, e6] at hOwn
  have e4 : cVw (vwOf b base S.idx k) = cBl b ++ [.int .i64 base, eArs S.idx, .sl 1 ((posL k S.idx).map (.int .i64)), .int .i64 (finL k S.idx)] := rfl
  have e5 : cVw ⟨b, base, S.idx, posL k S.idx, finL k S.idx⟩ = cBl b ++ [.int .i64 base, eArs S.idx, .sl 1 ((posL k S.idx).map (.int .i64)), .int .i64 (finL k S.idx)] := rfl
  rw [e4] at hOwn hTy1
  rw [e5] at hSh
  generalize zbp (motT b base k S) = CE at *
  generalize zda (motT b base k S) = RT at *
  generalize motT b base k S = MT at *
  generalize spT (tC (zbl b base k)) ((posL k S.idx).map fun p => lv p (finL k S.idx)) = SP at *
  generalize ((posL k S.idx).map fun p => lv p (finL k S.idx)) = OW at *
  rw [hfi] at hSp
  generalize tyL (vwOf b base S.idx k) 9000 0 S.idx = TY at *
  refine zqm rfl fun hs => ?_
  simp only [eBl, cBl, eSos, cT, eTs, eArs, tC, tk, tn, tks, List.map_nil, List.map_cons, zbq, List.cons_append, List.nil_append] at hOwn hSh hC hSp hU hN hP hW hTy1
  simp -dsimp [zgl, eBl, cBl, eSos, k0, hlt, hS, hget, eSo, cSo, cT, eArs]
  refine zaa hSh ?_
  simp -dsimp [w1]
  refine zaa hTy1 ?_
  simp -dsimp [w1]
  refine zaa hC ?_
  simp -dsimp [w1]
  refine zaa hOwn ?_
  simp -dsimp
  refine zaa hSp ?_
  simp -dsimp [cT]
  refine zaa hU ?_
  simp -dsimp [cT]
  refine zaa hN ?_
  simp -dsimp [cT]
  refine zaa hP ?_
  simp -dsimp [cT]
  refine zaa hW ?_
  simp -dsimp [cT]
set_option maxHeartbeats 2000000 in
theorem zHs (b : Bl) (ob : okBl b) (fb : FineBl b) (hf : Fit b) (base c : Int) (hp : zef 9000 b base = 0) (k0 : 0 ≤ c) (k1 : c < b.cons.length) {MT : T} (hao : metA b base c = some MT) :
    Pure Tryz.prog zgj [eBl b, .int .i64 base, .int .i64 c] [.agg (cT (zda MT)), .int .i64 (zbp MT)] := by
  obtain ⟨hz, b0, b1, hpos⟩ := zi9 hp
  obtain ⟨z1, z4, z8, zl, zs, zc⟩ := (zbn b).1 hz
  have hlt : c.toNat < b.cons.length := by omega
  have hget : b.cons[c.toNat]? = some b.cons[c.toNat] := List.getElem?_eq_getElem hlt
  obtain ⟨hsg, so, hso, hig⟩ := zwm hpos hget
  have os := ob.cons _ (List.getElem_mem hlt)
  have fs := fb.cons _ (List.getElem_mem hlt)
  obtain ⟨hrow, s0, so2, hso2, hil2⟩ := zpn (zc _ (List.getElem_mem hlt))
  have hcon := zc _ (List.getElem_mem hlt)
  have eMT : MT = metT b base c b.cons[c.toNat] so := by
    rw [metA, hget] at hao
    simp only [hso] at hao
    cases hao; rfl
  generalize hS : b.cons[c.toNat] = S at *
  rw [hso] at hso2
  cases hso2
  rw [show ((c.toNat : Nat) : Int) = c by omega] at hsg hig
  have hT := zHj hz fb hf b0 b1 os.args fs.args hrow hsg (e := b.sorts.length + c) (by omega) (by omega)
  have hv := hT.vw
  have hfl := zqu S.args (b.sorts.length + c)
  have hal := fs.args.1
  have hsl := (List.getElem?_eq_some_iff.1 hso).1
  have hOwn := zzj (vwOf b base S.args (b.sorts.length + c)) hv (show 0 ≤ finL (b.sorts.length + c) S.args by omega) (show finL (b.sorts.length + c) S.args ≤ 1000 by omega)
  have oOwn := (zuu (vwOf b base S.args (b.sorts.length + c)) hv (finL (b.sorts.length + c) S.args) (by omega) (by omega)).2
  have e3 : (vwOf b base S.args (b.sorts.length + c)).pos = posL (b.sorts.length + c) S.args := rfl
  have e6 : (vwOf b base S.args (b.sorts.length + c)).fin = finL (b.sorts.length + c) S.args := rfl
  rw [e3] at oOwn
  rw [e3, e6] at hOwn
  have hSh := zLp b base (b.sorts.length + c) S.args hal (by omega) (by omega)
  have hTy := zCd (vwOf b base S.args (b.sorts.length + c)) 9000 (by omega) (by omega) c hT (zKc S.args _)
  have hxf : ∀ x ∈ S.idx, zaf x = true ∧ okT x ∧ zai x ≤ 9000 ∧ wiT x (S.args.length + 0) 65536 = true := fun x hx => by
    have hnx : zai x ≤ 9000 := Nat.le_trans (ze6 (List.mem_map.2 ⟨_, hx, rfl⟩)) fs.idx
    have hin : inM x S.args.length = true := zEb hcon hx
    have hff := zd5 hin (by omega) (by omega) (by omega)
    exact ⟨hff.2.1, os.idx.2 _ hx, hnx, by rw [Int.add_zero]; exact hff.1⟩
  have hig' : indF 9000 (plV (vwOf b base S.args (b.sorts.length + c)) S.args.length 0) so S.idx c = true := by
    have e : plV (vwOf b base S.args (b.sorts.length + c)) S.args.length 0 = ⟨b, base, S.args, 0⟩ := by simp only [plV, vwOf, List.take_length]
    rw [e]; exact hig
  have hI := zxe (vwOf b base S.args (b.sorts.length + c)) hv hf 9000 (by omega) S.sort so s0 hso S.idx hil2 S.args.length (Nat.le_refl _) 0 (finL (b.sorts.length + c) S.args) (by omega) (by omega) (by omega) (by omega) (fun p hp => zx3 _ _ _ (List.mem_of_mem_take hp)) 65536 c hxf hig'
  have hF := zpo b hf base c
  have hfi := ze0 hf b0 (by omega : base ≤ 65535) c
  rw [if_pos ⟨k0, k1⟩] at hfi
  have hdl := zij b.sorts
  have hC := zM9 (zak b base c)
  have oC : okT (tC (zak b base c)) := zkf (by omega) (by omega)
  have hSp := zjo (tC (zak b base c)) ((posL (b.sorts.length + c) S.args).map fun p => lv p (finL (b.sorts.length + c) S.args)) (by rw [List.length_map, zfh]; omega) oC ⟨by rw [List.length_map, zfh]; omega, oOwn⟩
  have oSp := zew _ _ oC oOwn
  have hL := zk7 S.sort (finL (b.sorts.length + c) S.args) (by omega) (by omega) (by omega) (by omega)
  have oL := zjp (l := S.sort) (vars := finL (b.sorts.length + c) S.args) (by omega) (by omega) (by omega) (by omega)
  obtain ⟨hI1, hI2, hI3⟩ := hI
  obtain ⟨hTy1, hTy2, hTy3⟩ := hTy
  have eT' : metT b base c S so = zcm 4 (tyL (vwOf b base S.args (b.sorts.length + c)) 9000 0 S.args) (spT (lv S.sort (finL (b.sorts.length + c) S.args)) (inT (vwOf b base S.args (b.sorts.length + c)) 9000 so S.idx S.args.length 0 (finL (b.sorts.length + c) S.args) ++ [spT (tC (zak b base c)) ((posL (b.sorts.length + c) S.args).map fun p => lv p (finL (b.sorts.length + c) S.args))])) := rfl
  rw [eT'] at eMT
  clear eT' hao
  have e0 : (vwOf b base S.args (b.sorts.length + c)).args = S.args := rfl
  rw [e0] at hTy1 hTy2 hTy3
  generalize spT (tC (zak b base c)) ((posL (b.sorts.length + c) S.args).map fun p => lv p (finL (b.sorts.length + c) S.args)) = SP at *
  generalize inT (vwOf b base S.args (b.sorts.length + c)) 9000 so S.idx S.args.length 0 (finL (b.sorts.length + c) S.args) = J at *
  generalize lv S.sort (finL (b.sorts.length + c) S.args) = L2 at *
  generalize tyL (vwOf b base S.args (b.sorts.length + c)) 9000 0 S.args = TY at *
  have oJ : ∀ y ∈ J ++ [SP], okT y := fun y hy => by
    rcases List.mem_append.1 hy with hy | hy
    · exact hI2 y hy
    · rw [List.mem_singleton] at hy; subst hy; exact oSp
  have hS2 := zjo L2 (J ++ [SP]) (by rw [List.length_append, List.length_singleton]; omega) oL ⟨by rw [List.length_append, List.length_singleton]; omega, oJ⟩
  have oS2 := zew (J ++ [SP]) _ oL oJ
  generalize spT L2 (J ++ [SP]) = S2 at *
  have hP := zBi TY S2 (by omega) oS2 ⟨by omega, hTy2⟩
  rw [← eMT] at hP
  have hW := zGp MT
  clear eMT hT hv oOwn oC oSp hrow hsg os fs oJ oS2 hig hig' hxf hcon
  have w1 : IntKind.i64.wrap ((b.sorts.length : Int) + c) = b.sorts.length + c := zab (by omega) (by omega)
  have e4 : cVw (vwOf b base S.args (b.sorts.length + c)) = cBl b ++ [.int .i64 base, eArs S.args, .sl 1 ((posL (b.sorts.length + c) S.args).map (.int .i64)), .int .i64 (finL (b.sorts.length + c) S.args)] := rfl
  have e5 : cVw ⟨b, base, S.args, posL (b.sorts.length + c) S.args, finL (b.sorts.length + c) S.args⟩ = cBl b ++ [.int .i64 base, eArs S.args, .sl 1 ((posL (b.sorts.length + c) S.args).map (.int .i64)), .int .i64 (finL (b.sorts.length + c) S.args)] := rfl
  rw [e4] at hOwn hI1 hTy1
  rw [e5] at hSh
  generalize zbp MT = CE at *
  generalize zda MT = RT at *
  generalize ((posL (b.sorts.length + c) S.args).map fun p => lv p (finL (b.sorts.length + c) S.args)) = OW at *
  generalize zak b base c = FO at *
  refine zql rfl fun hs => ?_
  simp only [eBl, cBl, eCos, cT, eTs, eArs, tC, tk, tn, tks, List.map_nil, List.map_cons, List.map_append, zbq, List.cons_append, List.nil_append] at hOwn hSh hF hC hSp hL hS2 hP hW hI1 hTy1
  simp -dsimp [zgp, eBl, cBl, eCos, k0, hlt, hS, hget, eCo, cCo, cT, eArs, eTs, w1, eSos]
  simp only [eSos] at hSh hF hI1 hTy1 hOwn
  refine zaa hSh ?_
  simp -dsimp
  refine zaa hTy1 ?_
  simp -dsimp
  refine zce hI1 (by simp [zaz, zbv, RV.cells]) ?_
  simp -dsimp
  refine zaa hF ?_
  simp -dsimp
  refine zaa hC ?_
  simp -dsimp
  refine zaa hOwn ?_
  simp -dsimp
  refine zaa hSp ?_
  simp -dsimp [cT, zk2 hI3 trivial]
  refine zaa hL ?_
  simp -dsimp [cT]
  refine zaa hS2 ?_
  simp -dsimp [cT]
  refine zaa hP ?_
  simp -dsimp [cT]
  refine zaa hW ?_
  simp -dsimp [cT]
end
end
end Ev
end Go.Proofs.YtncmainjcffanaaGreat
