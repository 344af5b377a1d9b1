/- A law whose code spoils what it was handed back: the spoiling. -/
import Derived.Test.YtncmainjcffanaaGreatN9
namespace Go.Proofs.YtncmainjcffanaaGreat
namespace Ev
open Go
set_option maxRecDepth 100000
set_option linter.unusedSimpArgs false
set_option linter.unusedVariables false
section
variable {fn : Func} {res : List XRes} {w0 : World}
theorem enters_spoil : Enters Tryz.prog n_porismkeep_Spoil := ⟨_, Tryz.func21, by decide, rfl⟩
theorem new_free {m : Nat} {G : GS} {h : Nat → Ent} {w w' : World} (i : @Inv (i1 m) G h w) (j : @Jn (i1 m) w0 G h w) (hc : Chg (cutS true m G.St) w w') : ∀ b, 0 < cutS true m G.St b → b < w'.heap.size ∧ FreeB w' b := fun b hb => by
  have hg : 0 < G.St b := Nat.lt_of_lt_of_le hb (cutS_le true m G.St b)
  have hm : m ≤ b := by
    unfold cutS at hb
    by_cases hm : m ≤ b
    · exact hm
    · simp [hm] at hb
  exact ⟨Nat.lt_of_lt_of_le (@Inv.st (i1 m) _ _ _ i b hg) hc.size, hc.free b ((@Jn.low (i1 m) _ _ _ _ j rfl).2 b hm hg)⟩
/-- A term in new memory, held in a box of the call's own, is spoilt. -/
theorem Spd.term {m lim e1 e2 j k v : Nat} {y : XCode} {st : S} {p q : Int} {ks : List T} (hj : j < lim) (h1 : lim ≤ e1) (h2 : lim ≤ e2) (hs : st.s j = .ptr k v 0) (hk : st.h k = ⟨v, .box [.d (.int .i64 p), .d (.int .i64 q), .n true (.sl 3 (ks.map eT))] false⟩) (h : @Spd (i1 m) lim Tryz.prog fn res w0 y st) :
    @Spd (i1 m) lim Tryz.prog fn res w0 (.seq (.region [⟨some e1, .load 3 true (.t j), none⟩, ⟨some e2, .call (.c (.d (.clo n_porismkeep_Spoil []))) [.t e1], none⟩] none) y) st := fun hres hm c G a a' w w' hc fr jn hch hsz hsa hd => by
  obtain ⟨c1, c2, rfl, hc1, hc2⟩ := ccode_seq hc
  have i := @Fr.inv (i1 m) _ _ _ _ _ fr
  have hr := @Fr.slots (i1 m) _ _ _ _ _ fr j
  rw [hs] at hr
  have he := @Inv.ent (i1 m) _ _ _ i k
  rw [hk] at he
  obtain ⟨b, arr, el, hA, hh, hasz, hcells, hst0⟩ := he
  have hst0 : G.St b = 0 := hst0
  have hch : Chg (cutS true m G.St) w w' := hch
  have hp : a.tmps.getD j undef = .pointer (some ⟨b, 0, none⟩) := by
    generalize a.tmps.getD j undef = u at hr
    cases hr with
    | ptr _ _ _ _ _ _ hv =>
      obtain ⟨b', hA', hv'⟩ := hv (by rw [hk]) _ _ (by rw [hk])
      rw [hA] at hA'
      cases hA'
      exact hv'
  have hbw := (Array.getElem?_eq_some_iff.1 hh).1
  have hh' : w'.heap[b]? = some (.cells arr el (0, 0)) := (hch.block b hbw (Nat.eq_zero_of_not_pos fun hp => by have := cutS_le true m G.St b; omega)).trans hh
  have hc2' := (hcells 2 _ rfl).1
  have hr2 : Rel (cutS true m G.St) w (arr.getD 2 undef) (.sl 3 (ks.map eT)) := by
    generalize arr.getD 2 undef = u at hc2'
    cases hc2' with
    | n _ _ _ _ hr => exact hr
  obtain ⟨ks', _, hr'⟩ := stays_ok ks _ _ w w' _ (fun b hb => @Inv.st (i1 m) _ _ _ i b (Nat.lt_of_lt_of_le hb (cutS_le true m G.St b))) hr2 hch
  have i' : @Inv i0 ⟨cutS true m G.St, fun _ => ⟨some ⟨b, 0, none⟩, 0⟩⟩ (fun q' => if q' = k then ⟨v, .box [.d (.int .i64 p), .d (.int .i64 q), .d (.sl 3 (ks'.map eT))] false⟩ else ⟨0, .dead⟩) w' := by
    refine @Inv.mk i0 _ _ _ (fun b hb => (new_free i jn hch b hb).1) (fun q' => ?_) (fun k1 k2 b' g1 g2 => ?_) (Nat.zero_le _)
    · by_cases hq : q' = k
      · simp only [hq, if_true]
        refine ⟨b, arr, el, rfl, hh', hasz, fun j' c' hj' => ?_, Nat.eq_zero_of_not_pos fun hp => by have := cutS_le true m G.St b; have : 0 < cutS true m G.St b := hp; omega⟩
        have hone : ∀ z, z < 3 → (arr.getD z undef).oneCell' = true := fun z hz => by
          match z, hz with
          | 0, _ => exact (hcells 0 _ rfl).2
          | 1, _ => exact (hcells 1 _ rfl).2
          | 2, _ => exact (hcells 2 _ rfl).2
        match j', hj' with
        | 0, hj' =>
          cases hj'
          exact ⟨@ARel.d i0 _ _ _ _ _ ((@ARel.d_inv (i1 m) _ _ _ _ _ (hcells 0 _ rfl).1).flat rfl), hone 0 (by omega)⟩
        | 1, hj' =>
          cases hj'
          exact ⟨@ARel.d i0 _ _ _ _ _ ((@ARel.d_inv (i1 m) _ _ _ _ _ (hcells 1 _ rfl).1).flat rfl), hone 1 (by omega)⟩
        | 2, hj' =>
          cases hj'
          exact ⟨@ARel.d i0 _ _ _ _ _ hr', hone 2 (by omega)⟩
      · simp only [hq, if_false]
        exact trivial
    · by_cases q1 : k1 = k
      · by_cases q2 : k2 = k
        · rw [q1, q2]
        · simp only [q2, if_false] at g2
          exact g2.elim
      · simp only [q1, if_false] at g1
        exact g1.elim
  have hptr : @ARel i0 ⟨cutS true m G.St, fun _ => ⟨some ⟨b, 0, none⟩, 0⟩⟩ (fun q' => if q' = k then ⟨v, .box [.d (.int .i64 p), .d (.int .i64 q), .d (.sl 3 (ks'.map eT))] false⟩ else ⟨0, .dead⟩) w' (a'.tmps.getD j undef) (.ptr k v 0) := by
    refine @ARel.ptr i0 _ _ _ _ _ _ _ (by rw [hsa j hj, hp]; rfl) (by simp) fun _ cs fz _ => ⟨b, rfl, by rw [hsa j hj, hp]⟩
  have hld : ∀ t, sz? Tryz.prog t = some 3 → ag? Tryz.prog t = some true → ∃ ad u, a'.tmps.getD j undef = .pointer (some ad) ∧ (loadVar t ad).run Tryz.prog w' = .ok u w' ∧ Rel (cutS true m G.St) w' u (.agg (cT (.mk p q ks'))) := fun t hn hg => by
    obtain ⟨ad, u, h1, h2, h3⟩ := @load_core i0 Tryz.prog _ _ _ i' t _ _ (.agg [.d (.int .i64 p), .d (.int .i64 q), .d (.sl 3 (ks'.map eT))]) hptr 3 true hn hg (by simp [loadA, cut, wrapA])
    refine ⟨ad, u, h1, h2, ?_⟩
    cases h3 with
    | agg vs _ hn hr =>
      refine .agg vs _ (by simpa [cT] using hn) fun j c hj => ?_
      match j, hj with
      | 0, hj => cases hj; exact @ARel.d_inv i0 _ _ _ _ _ (hr 0 _ rfl)
      | 1, hj => cases hj; exact @ARel.d_inv i0 _ _ _ _ _ (hr 1 _ rfl)
      | 2, hj => cases hj; exact @ARel.d_inv i0 _ _ _ _ _ (hr 2 _ rfl)
  refine wp_seq (wp_mono (reg2 hc1 enters_spoil hsz (R := fun w2 => Chg (cutS true m G.St) w' w2) fun o ho => ?_) ?_)
  · obtain ⟨t, ho, hn, hg⟩ := cop_load ho
    obtain ⟨ad, u, hu1, hu2, hu3⟩ := hld t hn hg
    exact ⟨u, exec_load ho hu1 hu2, spoil_ok _ (cutS true m G.St) w' u (new_free i jn hch) hu3⟩
  · rintro e a2 w2 ⟨rfl, hd2, hsz2, hsa2, hch2⟩
    exact h hres hm c2 G a a2 w w2 hc2 fr jn (hch.trans hch2) hsz2 (fun q hq => (hsa2 q (by omega) (by omega)).trans (hsa q hq)) (hd2.trans hd)
end
end Ev
end Go.Proofs.YtncmainjcffanaaGreat
