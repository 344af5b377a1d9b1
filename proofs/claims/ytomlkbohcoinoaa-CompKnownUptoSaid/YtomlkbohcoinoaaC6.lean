/- comp: what is computed, and shifted. -/
import Derived.Test.YtomlkbohcoinoaaC5
namespace Go.Proofs.Ytomlkbohcoinoaa
namespace Ev
open Go
set_option maxRecDepth 100000
set_option linter.unusedSimpArgs false
set_option linter.unusedVariables false
theorem map_kids {f : Int → Int → T} {k n b : Int} {ks : List T} (h1 : k ≠ 1) (h : formedM (mapT f (.mk k n ks) b) = true) (j : Nat) (hj : j < ks.length) : formedM (mapT f ks[j] (b + bindsM k j)) = true := by
  rw [mapT, if_neg h1] at h
  have := kids_formed h (mapT f ks[j] (b + bindsM k j)) (by
    have e := mapL_get f k b ks 0 j hj
    rw [Nat.zero_add] at e
    rw [← e]
    exact List.getElem_mem _)
  exact this
theorem freeL_le (k b M : Int) : ∀ (xs : List T) (i : Nat) (a : Int), a ≤ M → (∀ (j : Nat) (hj : j < xs.length), freeT xs[j] (b + bindsM k (i + j : Nat)) ≤ M) → freeL k b i a xs ≤ M
  | [], i, a, h, _ => by rw [freeL]; exact h
  | x :: xs, i, a, h, hx => by
    rw [freeL]
    have h0 := hx 0 (by simp)
    rw [Nat.add_zero] at h0
    refine freeL_le k b M xs (i + 1) _ (by rw [mx_eq]; simp only [List.getElem_cons_zero] at h0; omega) fun j hj => ?_
    have := hx (j + 1) (by simpa using hj)
    rw [show i + (j + 1) = i + 1 + j by omega] at this
    simpa using this
theorem free_of {c : Int} (hc : 0 ≤ c ∧ c ≤ 65535) (t : T) : ∀ b : Int, formedM t = true → 0 ≤ b → b + nodes t ≤ 4194304 → formedM (mapT (mv c) t b) = true → freeT t b ≤ 65535 - c := by
  refine T.ind (p := fun t => ∀ b : Int, formedM t = true → 0 ≤ b → b + nodes t ≤ 4194304 → formedM (mapT (mv c) t b) = true → freeT t b ≤ 65535 - c) ?_ t
  intro k n ks ih b hfm h0 hb h
  rw [freeT]
  refine freeL_le k b _ ks 0 _ ?_ fun j hj => ?_
  · split
    · rename_i h1
      have hn := var_formed h1.1 hfm
      rw [mapT, if_pos h1.1, mv_hi h1.2 hn.1 (by omega) hc.1 (by omega)] at h
      have := (var_formed rfl h).2
      omega
    · omega
  · by_cases h1 : k = 1
    · have := var_leaf h1 hfm
      subst this
      simp at hj
    · rw [Nat.zero_add]
      have hbl := binds_le k j
      have hkn := nodes_kid (k := k) (n := n) (List.getElem_mem hj)
      exact ih ks[j] (List.getElem_mem _) _ (kids_formed hfm _ (List.getElem_mem _)) (by omega) (by omega) (map_kids h1 h j hj)
theorem sc_of {l : List T} {u : Int} (hu : 0 ≤ u ∧ u ≤ 100) (hl : ∀ x ∈ l, formedM x = true ∧ nodes x ≤ 9000) (t : T) : ∀ b : Int, formedM t = true → 0 ≤ b → b + nodes t ≤ 50000 → formedM (mapT (instF l u) t b) = true → scI l u t b = false := by
  refine T.ind (p := fun t => ∀ b : Int, formedM t = true → 0 ≤ b → b + nodes t ≤ 50000 → formedM (mapT (instF l u) t b) = true → scI l u t b = false) ?_ t
  intro k n ks ih b hfm h0 hb h
  rw [scI]
  by_cases h1 : k = 1
  · rw [if_pos h1]
    rw [mapT, if_pos h1, instF] at h
    split
    · rename_i a ha
      split at ha
      case isFalse => cases ha
      rename_i hw
      rw [if_pos hw, ha] at h
      have h' : formedM (mapT (mv (u + b)) a 0) = true := by
        have h2 : formedM (movedT (w64 (u + b)) a) = true := h
        rwa [w64_id (by omega) (by omega), moved_is] at h2
      obtain ⟨a1, a2⟩ := hl a (List.mem_of_getElem? ha)
      have := free_of (c := u + b) (by omega) a 0 a1 (by omega) (by omega) h'
      rw [overB, Bool.and_eq_false_iff]
      right
      rw [decide_eq_false_iff_not]
      omega
    · rfl
  · rw [if_neg h1]
    have hk := fun j hj => map_kids h1 h j hj
    have go : ∀ (xs : List T) (i : Nat), (∀ (j : Nat) (hj : j < xs.length), xs[j] ∈ ks ∧ formedM (mapT (instF l u) xs[j] (b + bindsM k (i + j : Nat))) = true) → scL l u k b i xs = false := by
      intro xs
      induction xs with
      | nil => intro i _; rw [scL]
      | cons x xs ihx =>
        intro i hm
        obtain ⟨hx, hxf⟩ := hm 0 (by simp)
        have hxn := nodes_kid (k := k) (n := n) hx
        have hbl := binds_le k i
        simp only [List.getElem_cons_zero, Nat.add_zero] at hx hxf hxn
        rw [scL, ih x hx _ (kids_formed hfm x hx) (by omega) (by omega) hxf, ihx (i + 1) fun j hj => ?_]
        · rfl
        · have := hm (j + 1) (by simpa using hj)
          rw [show i + (j + 1) = i + 1 + j by omega] at this
          simpa using this
    exact go ks 0 fun j hj => ⟨List.getElem_mem _, by rw [Nat.zero_add]; exact hk j hj⟩
/-- Shifted from the outside. -/
def sT (y : Int) (t : T) : T := mapT (shF 0 y) t 0
/-- Right, not great, and right when shifted. -/
structure Sh (y : Int) (t : T) : Prop where
  c : checkM t = 0
  n : nodes t ≤ 9000
  e : shiftE t y 0 = 0
theorem Sh.f {y : Int} {t : T} (h : Sh y t) : formedM t = true := formed_of h.c
theorem Sh.r {y : Int} {t : T} (h : Sh y t) : checkM (sT y t) = 0 ∧ formedM (sT y t) = true ∧ nodes (sT y t) = nodes t := by
  have := shift_right (by have := h.n; omega) h.e
  rw [shift_at h.e] at this
  exact this
end Ev
end Go.Proofs.Ytomlkbohcoinoaa
