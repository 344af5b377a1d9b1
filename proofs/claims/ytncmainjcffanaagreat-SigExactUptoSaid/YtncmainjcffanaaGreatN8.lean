/- A law whose code spoils what it was handed back: from new memory told as such to the answer. -/
import Derived.Test.YtncmainjcffanaaGreatN7
namespace Go.Proofs.YtncmainjcffanaaGreat
namespace Ev
open Go
set_option maxRecDepth 100000
set_option linter.unusedSimpArgs false
set_option linter.unusedVariables false
def oldA : AV → AV
  | .d (.sl sz xs) => .n false (.sl sz xs)
  | .d x => if x.flat = true then .d x else .junk
  | .ptr k v o => .ptr k v o
  | .rsl k v => .rsl k v
  | .skip => .skip
  | _ => .junk
def oldE (e : Ent) : Ent := ⟨e.ver, match e.body with | .box cs fz => .box (cs.map oldA) fz | b => b⟩
def oldS (st : S) : S := ⟨fun i => oldA (st.s i), fun k => oldE (st.h k)⟩
def newA' : AV → AV
  | .n false x => .d x
  | .d x => if x.flat = true then .d x else .junk
  | .ptr k v o => .ptr k v o
  | .skip => .skip
  | _ => .junk
def aftE (e : Ent) : Ent := ⟨e.ver, match e.body with | .box cs false => .box (cs.map newA') false | _ => .dead⟩
def aftS (lim : Nat) (st : S) : S := ⟨fun i => if i < lim then newA' (st.s i) else .junk, fun k => aftE (st.h k)⟩
theorem cutS_false_all {m : Nat} {St : Nat → Nat} (h : ∀ b, 0 < St b → b < m) : cutS false m St = St := by
  funext b
  unfold cutS
  by_cases hb : m ≤ b
  · simp only [hb, decide_true, Bool.true_eq_false, if_false]
    rcases Nat.eq_zero_or_pos (St b) with h0 | h0
    · exact h0.symm
    · have := h b h0; omega
  · simp [hb]
theorem oldA_ok {G : GS} {h : Nat → Ent} {w : World} {v : Value} {av : AV} {m : Nat} (hst : ∀ b, 0 < G.St b → b < m) (r : @ARel i0 G h w v av) : @ARel (i1 m) G (fun k => oldE (h k)) w v (oldA av) := by
  cases av with
  | d x =>
    have hr := @ARel.d_inv i0 _ _ _ _ _ r
    cases x with
    | sl sz xs =>
      refine @ARel.n (i1 m) G _ w v false _ (by cases hr; rfl) ?_
      show Rel (cutS false m G.St) w v _
      rw [cutS_false_all hst]
      exact hr
    | _ =>
      simp only [oldA]
      split
      · exact @ARel.d (i1 m) _ _ _ _ _ hr
      · exact @ARel.junk (i1 m) _ _ _ _
  | ptr k ver off =>
    cases r with
    | ptr _ _ _ _ h1 hle hv =>
      refine @ARel.ptr (i1 m) _ _ _ _ _ _ _ h1 hle fun hq cs fz hb => ?_
      simp only [oldE] at hb hq
      cases hbk : (h k).body with
      | box cs0 f0 => exact hv hq cs0 f0 hbk
      | _ => rw [hbk] at hb; cases hb
  | rsl k ver =>
    cases r with
    | rsl _ _ _ h1 hle hv =>
      refine @ARel.rsl (i1 m) _ _ _ _ _ _ h1 hle fun hq sz xs fz hb => ?_
      simp only [oldE] at hb hq
      cases hbk : (h k).body with
      | row => rw [hbk] at hb; exact hv hq sz xs fz (by rw [hbk]; exact hb)
      | _ => rw [hbk] at hb; cases hb
  | skip => cases r; exact @ARel.skip (i1 m) _ _ _
  | _ => exact @ARel.junk (i1 m) _ _ _ _
theorem oldE_owns {G : GS} {k b : Nat} {e : Ent} : Owns G k b (oldE e).body ↔ Owns G k b e.body := by
  unfold oldE
  cases hb : e.body <;> simp [Owns]
theorem old_fr {n : Nat} {G : GS} {st : S} {a : Act} {w : World} (fr : @Fr i0 n G st a w) : @Fr (i1 w.heap.size) n G (oldS st) a w := by
  have hst := (@Fr.inv i0 _ _ _ _ _ fr).st
  refine @Fr.mk (i1 w.heap.size) _ _ _ _ _ ?_ (fun i => oldA_ok hst (@Fr.slots i0 _ _ _ _ _ fr i)) (@Fr.size i0 _ _ _ _ _ fr)
  have i := @Fr.inv i0 _ _ _ _ _ fr
  refine @Inv.mk (i1 w.heap.size) _ _ _ hst (fun k => ?_) (fun k k' b h1 h2 => @Inv.apart i0 _ _ _ i k k' b (oldE_owns.1 h1) (oldE_owns.1 h2)) (Nat.le_refl _)
  have he := @Inv.ent i0 _ _ _ i k
  show @EntOK (i1 w.heap.size) G (fun k => oldE (st.h k)) w k (oldE (st.h k)).body
  unfold oldE
  cases hb : (st.h k).body with
  | dead => exact trivial
  | box cs fz =>
    rw [hb] at he
    obtain ⟨b, arr, el, h1, h2, h3, h4, h5⟩ := he
    refine ⟨b, arr, el, h1, h2, by rw [List.length_map]; exact h3, fun j c hj => ?_, h5⟩
    rw [List.getElem?_map] at hj
    obtain ⟨c0, hc0, rfl⟩ := Option.map_eq_some_iff.1 hj
    exact ⟨oldA_ok hst (h4 j c0 hc0).1, (h4 j c0 hc0).2⟩
  | row sz xs fz =>
    rw [hb] at he
    cases fz with
    | true => exact he
    | false => exact he
theorem newA'_ok {G : GS} {h : Nat → Ent} {w w' : World} {v : Value} {av : AV} {m : Nat} (hst : ∀ b, 0 < G.St b → b < w.heap.size) (hc : Chg (cutS true m G.St) w w') (r : @ARel (i1 m) G h w v av) : @ARel i0 ⟨cutS false m G.St, G.hd⟩ (fun k => aftE (h k)) w' v (newA' av) := by
  cases av with
  | d x =>
    have hr := @ARel.d_inv (i1 m) _ _ _ _ _ r
    simp only [newA']
    split
    · rename_i hf
      exact @ARel.d i0 _ _ _ _ _ (hr.flat hf)
    · exact @ARel.junk i0 _ _ _ _
  | n q x =>
    cases r with
    | n _ _ _ h1 hr =>
      cases q with
      | true => exact @ARel.junk i0 _ _ _ _
      | false =>
        refine @ARel.d i0 _ _ _ _ _ (hr.keeps ⟨fun _ => Nat.le_refl _, fun b i hi => ?_, fun b hb hf => hc.free b hf⟩)
        have hlt : i < cutS false m G.St b := hi
        have hb : b < w.heap.size := hst b (by have := cutS_le false m G.St b; omega)
        refine World.cell?_of_block (w := w) (a := ⟨b, i, none⟩) (hc.block b hb ?_)
        unfold cutS at hlt ⊢
        by_cases hm : m ≤ b
        · simp [hm] at hlt
        · simp [hm]
  | ptr k ver off =>
    cases r with
    | ptr _ _ _ _ h1 hle hv =>
      refine @ARel.ptr i0 _ _ _ _ _ _ _ h1 hle fun hq cs fz hb => ?_
      simp only [aftE] at hb hq
      split at hb
      · rename_i cs0 hbk
        exact hv hq cs0 false hbk
      · cases hb
  | skip => cases r; exact @ARel.skip i0 _ _ _
  | _ => exact @ARel.junk i0 _ _ _ _
theorem aftE_owns {G G' : GS} {k b : Nat} {e : Ent} (hG : G'.hd = G.hd) (h : Owns G' k b (aftE e).body) : Owns G k b e.body := by
  unfold aftE at h
  cases hb : e.body with
  | dead => rw [hb] at h; exact h
  | row => rw [hb] at h; exact h.elim
  | box cs fz =>
    rw [hb] at h
    cases fz with
    | true => exact h.elim
    | false => simp only [Owns] at h ⊢; rw [← hG]; exact h
theorem aft_fr {n m lim : Nat} {G : GS} {st : S} {a a' : Act} {w w' : World} (fr : @Fr (i1 m) n G st a w) (hc : Chg (cutS true m G.St) w w') (hsz : a'.tmps.size = n) (hs : ∀ i, i < lim → a'.tmps.getD i undef = a.tmps.getD i undef) : @Fr i0 n ⟨cutS false m G.St, G.hd⟩ (aftS lim st) a' w' := by
  have i := @Fr.inv (i1 m) _ _ _ _ _ fr
  have hst := @Inv.st (i1 m) _ _ _ i
  refine @Fr.mk i0 _ _ _ _ _ ?_ (fun j => ?_) hsz
  · refine @Inv.mk i0 _ _ _ (fun b hb => Nat.lt_of_lt_of_le (hst b (Nat.lt_of_lt_of_le hb (cutS_le false m G.St b))) hc.size) (fun k => ?_) (fun k k' b h1 h2 => @Inv.apart (i1 m) _ _ _ i k k' b (aftE_owns rfl h1) (aftE_owns rfl h2)) (Nat.zero_le _)
    have he := @Inv.ent (i1 m) _ _ _ i k
    show @EntOK i0 ⟨cutS false m G.St, G.hd⟩ (fun k => aftE (st.h k)) w' k (aftE (st.h k)).body
    unfold aftE
    cases hb : (st.h k).body with
    | dead => exact trivial
    | row => exact trivial
    | box cs fz =>
      cases fz with
      | true => exact trivial
      | false =>
        rw [hb] at he
        obtain ⟨b, arr, el, h1, h2, h3, h4, h5⟩ := he
        have h50 : G.St b = 0 := h5
        have hbw := (Array.getElem?_eq_some_iff.1 h2).1
        have hz : ∀ q, cutS q m G.St b = 0 := fun q => Nat.eq_zero_of_not_pos fun hp => by have := cutS_le q m G.St b; omega
        refine ⟨b, arr, el, h1, (hc.block b hbw (hz true)).trans h2, by rw [List.length_map]; exact h3, fun j c hj => ?_, hz false⟩
        rw [List.getElem?_map] at hj
        obtain ⟨c0, hc0, rfl⟩ := Option.map_eq_some_iff.1 hj
        exact ⟨newA'_ok hst hc (h4 j c0 hc0).1, (h4 j c0 hc0).2⟩
  · show @ARel i0 _ _ _ _ (if j < lim then newA' (st.s j) else .junk)
    split
    · rename_i hj
      rw [hs j hj]
      exact newA'_ok hst hc (@Fr.slots (i1 m) _ _ _ _ _ fr j)
    · exact @ARel.junk i0 _ _ _ _
end Ev
end Go.Proofs.YtncmainjcffanaaGreat
