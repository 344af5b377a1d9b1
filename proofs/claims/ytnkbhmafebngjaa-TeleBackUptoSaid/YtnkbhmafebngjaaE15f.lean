/- Code within a round. -/
import Derived.Test.YtnkbhmafebngjaaE14f
namespace Go.Proofs.Ytnkbhmafebngjaa
namespace Ev
open Go
set_option linter.unusedVariables false
set_option linter.unusedSimpArgs false
section
variable {P : Program} {r : Option Nat} {m : Nat}
theorem code_in {n : Nat} (hm : P.follows .mixedOrders = true) : ∀ (c : Code) (x : XCode), ccode P n c = some x → ∀ (Q : Ex → S → Prop) (G : GS) (st : S) (a : Act) (w : World), wpX P x Q st → Fr n G st a w → c.wpIn (FR r) m P (Post n G st a w Q) a w
  | .skip, x, hc, Q, G, st, a, w, hw, fr => by
    simp only [ccode, Option.some.injEq] at hc
    subst hc
    exact wpIn_skip ⟨.normal, G, st, rfl, fr, .refl fr.inv, rfl, hw⟩
  | .region id ops dr, x, hc, Q, G, st, a, w, hw, fr => by
    simp only [ccode] at hc
    split at hc
    · rename_i xs hxs
      cases dr with
      | false =>
        simp only [Bool.false_eq_true, if_false, Option.some.injEq] at hc
        subst hc
        refine wpIn_region ?_
        rw [List.range_eq_range', ← Array.length_toList]
        exact list_in ops.toList xs 0 hxs (by simp) fr hw fun a' w' G' st' fr' hs hd hK => ⟨.normal, G', st', rfl, fr', hs, hd, hK⟩
      | true =>
        simp only [if_true] at hc
        obtain ⟨ds, hds, rfl⟩ := map_some hc
        exact draw_in hm hxs hds fr hw fun a' w' G' st' fr' hs hd hK => ⟨.normal, G', st', rfl, fr', hs, hd, hK⟩
    · cases hc
  | .seq c d, x, hc, Q, G, st, a, w, hw, fr => by
    simp only [ccode] at hc
    split at hc
    · rename_i xa xb ha hb
      cases hc
      refine wpIn_seq (wpIn_mono (code_in hm c xa ha _ G st a w hw fr) ?_)
      rintro e a' w' ⟨ex, G', st', rfl, fr', hs, hd, hq⟩
      cases ex with
      | normal => exact wpIn_mono (code_in hm d xb hb Q G' st' a' w' hq fr') fun e a2 w2 h2 => h2.from hs hd
      | exit id => exact ⟨.exit id, G', st', rfl, fr', hs, hd, hq⟩
      | ret => exact ⟨.ret, G', st', rfl, fr', hs, hd, hq⟩
    · cases hc
  | .cond c d f, x, hc, Q, G, st, a, w, hw, fr => by
    simp only [ccode] at hc
    split at hc
    · rename_i xa xb ha hb
      cases hc
      simp only [wpX] at hw
      split at hw
      · rename_i t ht
        have hr := copd_ok P fr.slots 0 c
        rw [ht] at hr
        refine wpIn_cond hr.of_bool ?_
        cases t with
        | true => exact code_in hm d xa ha Q G st a w (by simpa using hw) fr
        | false => exact code_in hm f xb hb Q G st a w (by simpa using hw) fr
      · exact hw.elim
    · cases hc
  | .block id c, x, hc, Q, G, st, a, w, hw, fr => by
    simp only [ccode] at hc
    obtain ⟨xa, ha, rfl⟩ := map_some hc
    refine wpIn_block (wpIn_mono (code_in hm c xa ha _ G st a w hw fr) ?_)
    rintro e a' w' ⟨ex, G', st', rfl, fr', hs, hd, hq⟩
    cases ex with
    | normal => exact ⟨.normal, G', st', rfl, fr', hs, hd, hq⟩
    | exit id' =>
      simp only [Ex.real, Exit.inBlock]
      simp only [Ex.inBlock] at hq
      by_cases hi : id' = id
      · simp only [hi, if_true] at hq ⊢
        exact ⟨.normal, G', st', rfl, fr', hs, hd, hq⟩
      · simp only [hi, if_false] at hq ⊢
        exact ⟨.exit id', G', st', rfl, fr', hs, hd, hq⟩
    | ret => exact ⟨.ret, G', st', rfl, fr', hs, hd, hq⟩
  | .loop c, x, hc, Q, G, st, a, w, hw, fr => by
    simp only [ccode] at hc
    obtain ⟨xa, ha, rfl⟩ := map_some hc
    obtain ⟨I, μ, h0, hround⟩ := hw
    -- the states that stand at a round's head, by their measure
    let At : Nat → Act → World → Prop := fun m a1 w1 => ∃ G1 st1, Fr n G1 st1 a1 w1 ∧ Step G st.h w G1 st1.h w1 ∧ a1.defers = a.defers ∧ I st1 ∧ μ st1 = m
    refine wpIn_loop (fun a1 w1 => ∃ m, At m a1 w1) (fun a1 w1 => lst fun m => At m a1 w1) ⟨μ st, G, st, fr, .refl fr.inv, rfl, h0, rfl⟩ ?_
    intro a1 w1 hex
    have hmin := (lst_spec hex).1
    obtain ⟨G1, st1, fr1, hs1, hd1, hI, hμ⟩ := hmin
    refine wpIn_mono (code_in hm c xa ha _ G1 st1 a1 w1 (hround st1 hI) fr1) ?_
    rintro e a' w' ⟨ex, G', st', rfl, fr', hs, hd, hq⟩
    cases ex with
    | normal =>
      obtain ⟨hI', hlt⟩ := hq
      have hex' : ∃ m, At m a' w' := ⟨μ st', G', st', fr', hs1.trans hs, hd.trans hd1, hI', rfl⟩
      refine ⟨hex', ?_⟩
      show (lst fun m => At m a' w') < lst fun m => At m a1 w1
      rw [← hμ]
      exact Nat.lt_of_le_of_lt ((lst_spec hex').2 _ ⟨G', st', fr', hs1.trans hs, hd.trans hd1, hI', rfl⟩) hlt
    | exit id => exact ⟨.exit id, G', st', rfl, fr', hs1.trans hs, hd.trans hd1, hq⟩
    | ret => exact ⟨.ret, G', st', rfl, fr', hs1.trans hs, hd.trans hd1, hq⟩
  | .exit id, x, hc, Q, G, st, a, w, hw, fr => by
    simp only [ccode, Option.some.injEq] at hc
    subst hc
    exact wpIn_exit ⟨.exit id, G, st, rfl, fr, .refl fr.inv, rfl, hw⟩
  | .ret, x, hc, Q, G, st, a, w, hw, fr => by
    simp only [ccode, Option.some.injEq] at hc
    subst hc
    exact wpIn_ret ⟨.ret, G, st, rfl, fr, .refl fr.inv, rfl, hw⟩
  | .rangeFunc _ _ _ _, x, hc, _, _, _, _, _, _, _ => by simp [ccode] at hc
  | .scope _, x, hc, _, _, _, _, _, _, _ => by simp [ccode] at hc
  | .label _, x, hc, _, _, _, _, _, _, _ => by simp [ccode] at hc
  | .goto _, x, hc, _, _, _, _, _, _, _ => by simp [ccode] at hc
  | .refuse _, x, hc, _, _, _, _, _, _, _ => by simp [ccode] at hc

/-! ### functions -/
end
end Ev
end Go.Proofs.Ytnkbhmafebngjaa
