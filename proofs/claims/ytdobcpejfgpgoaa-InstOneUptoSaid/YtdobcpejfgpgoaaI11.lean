/- Substitution: what comes of right terms is right; two terms put in. -/
import Derived.Test.YtdobcpejfgpgoaaI10
namespace Go.Proofs.Ytdobcpejfgpgoaa
namespace Ev
open Go
set_option linter.unusedSimpArgs false
set_option linter.unusedVariables false

theorem formed_node {f : Int → Int → T} {k n b : Int} {ks : List T} (h1 : k ≠ 1) (hfm : formedM (.mk k n ks) = true) (h : ∀ (j : Nat) (hj : j < ks.length), formedM (mapT f ks[j] (b + bindsM k j)) = true) : formedM (.mk k n (mapL f k b 0 ks)) = true := by
  have ha : (mapL f k b 0 ks).all formedM = true := by
    rw [List.all_eq_true]
    intro x hx
    obtain ⟨j, hj, rfl⟩ := List.mem_iff_getElem.1 hx
    rw [mapL_len] at hj
    rw [mapL_get f k b ks 0 j hj, Nat.zero_add]
    exact h j hj
  rw [formedM_is] at hfm ⊢
  rw [mapL_len, ha]
  split at hfm
  · rename_i c1
    rw [if_pos c1]
    split at hfm
    · rename_i c2
      rw [if_pos c2]
      rw [Bool.and_eq_true] at hfm
      rw [hfm.1]; rfl
    · rename_i c2
      rw [if_neg c2]
      split at hfm
      · rename_i c3; rw [if_pos c3]
      · cases hfm
  · cases hfm
theorem var_is_formed {n : Int} (h : 0 ≤ n ∧ n ≤ 65535) : formedM (.mk 1 n []) = true := by simp [formedM_is, kidsM, (inB_iff n 0 65535).2 h]
theorem freeL_ge (k b : Int) : ∀ (xs : List T) (i : Nat) (a : Int), a ≤ freeL k b i a xs ∧ ∀ (j : Nat) (hj : j < xs.length), freeT xs[j] (b + bindsM k (i + j : Nat)) ≤ freeL k b i a xs
  | [], i, a => ⟨by rw [freeL]; omega, fun j hj => by simp at hj⟩
  | x :: xs, i, a => by
    obtain ⟨h1, h2⟩ := freeL_ge k b xs (i + 1) (mx a (freeT x (b + bindsM k i)))
    rw [mx_eq] at h1
    rw [freeL]
    refine ⟨by rw [mx_eq] at *; omega, fun j hj => ?_⟩
    cases j with
    | zero => simp only [List.getElem_cons_zero, Nat.add_zero]; rw [mx_eq] at *; omega
    | succ j =>
      have := h2 j (by simpa using hj)
      simp only [List.getElem_cons_succ]
      rw [show i + (j + 1) = i + 1 + j by omega]
      exact this
theorem moved_formed (t : T) : ∀ (b y F : Int), formedM t = true → 0 ≤ y → y ≤ 10000000 → freeT t b ≤ F → (F < 0 ∨ F + y ≤ 65535) → 0 ≤ b → formedM (mapT (mv y) t b) = true := by
  refine T.ind (p := fun t => ∀ (b y F : Int), formedM t = true → 0 ≤ y → y ≤ 10000000 → freeT t b ≤ F → (F < 0 ∨ F + y ≤ 65535) → 0 ≤ b → formedM (mapT (mv y) t b) = true) ?_ t
  intro k n ks ih b y F hfm hy0 hy1 hF hFy hb
  rw [freeT] at hF
  rw [mapT]
  by_cases h1 : k = 1
  · have hn := var_formed h1 hfm
    rw [if_pos h1]
    by_cases c : b ≤ n
    · rw [mv_hi c hn.1 (by omega) hy0 hy1]
      have := (freeL_ge k b ks 0 (if k = 1 ∧ b ≤ n then n else -1)).1
      rw [if_pos ⟨h1, c⟩] at this hF
      exact var_is_formed (by omega)
    · rw [mv_lo (by omega)]
      exact var_is_formed hn
  · rw [if_neg h1]
    refine formed_node h1 hfm fun j hj => ?_
    have h2 := (freeL_ge k b ks 0 (if k = 1 ∧ b ≤ n then n else -1)).2 j hj
    rw [Nat.zero_add] at h2
    have hbl := binds_le k j
    exact ih ks[j] (List.getElem_mem _) _ y F (kids_formed hfm _ (List.getElem_mem _)) hy0 hy1 (by omega) hFy (by omega)
theorem inst_formed (l : List T) (u : Int) (hu : 0 ≤ u ∧ u ≤ 65535) (hl : ∀ x ∈ l, formedM x = true) (t : T) : ∀ b : Int, formedM t = true → 0 ≤ b → b + nodes t ≤ 2097152 → scI l u t b = false → formedM (mapT (instF l u) t b) = true := by
  refine T.ind (p := fun t => ∀ b : Int, formedM t = true → 0 ≤ b → b + nodes t ≤ 2097152 → scI l u t b = false → formedM (mapT (instF l u) t b) = true) ?_ t
  intro k n ks ih b hfm h0 hb hsc
  rw [mapT]
  rw [scI] at hsc
  by_cases h1 : k = 1
  · have hn := var_formed h1 hfm
    rw [if_pos h1] at hsc ⊢
    rw [instF]
    by_cases hW : 0 ≤ whichT l.length u n b
    · have hlt : (whichT l.length u n b).toNat < l.length := by
        have h2 := hW
        rw [whichT] at h2 ⊢
        split at h2
        · omega
        · rename_i h3
          rw [if_neg h3]
          omega
      generalize (whichT l.length u n b).toNat = m at hlt hsc
      rw [if_pos hW, List.getElem?_eq_getElem hlt] at hsc ⊢
      have hx := hl _ (List.getElem_mem hlt)
      have hfr := free_le l[m] hx 0
      simp only [overB, Bool.and_eq_false_iff, decide_eq_false_iff_not] at hsc
      show formedM (movedT (w64 (u + b)) l[m]) = true
      rw [w64_id (by omega) (by omega), moved_is]
      exact moved_formed l[m] 0 (u + b) (freeT l[m] 0) hx (by omega) (by omega) (Int.le_refl _) (by omega) (by omega)
    · rw [if_neg hW]
      have h2 := hW
      rw [whichT] at h2
      by_cases c : u + b ≤ n
      · rw [if_pos c]
        have : (l.length : Int) ≤ n - (u + b) := by
          split at h2
          · rename_i h3; omega
          · omega
        rw [w64_id (by omega) (by omega)]
        exact var_is_formed (by omega)
      · rw [if_neg c]
        exact var_is_formed hn
  · rw [if_neg h1] at hsc ⊢
    refine formed_node h1 hfm fun j hj => ?_
    have hxn := nodes_kid (k := k) (n := n) (List.getElem_mem hj)
    have hbl := binds_le k j
    have h2 := scL_at l u k b ks 0 j hj hsc
    rw [Nat.zero_add] at h2
    exact ih ks[j] (List.getElem_mem _) _ (kids_formed hfm _ (List.getElem_mem _)) (by omega) (by omega) h2
/-- What comes of it is right. -/
theorem inst_right {t : T} {l : List T} {u : Int} (ht : nodes t ≤ 1048576) (hl : ∀ x ∈ l, nodes x ≤ 1048576) (h : instE t l u = 0) : checkM (instT t l u) = 0 ∧ nodes (instT t l u) ≤ 6000 ∧ formedM (instT t l u) = true := by
  obtain ⟨h1, h2, h3, h4⟩ := (inst_iff ht hl).1 h
  obtain ⟨f1, f2, f3⟩ := openE_facts h1
  rw [inst_at h]
  have hf := inst_formed l u f3 f2 t 0 f1 (by omega) (by omega) h2
  exact ⟨(check_iff (by omega)).2 ⟨h3, h4, hf⟩, h3, hf⟩
theorem inst_err {t : T} {l : List T} {u : Int} (h : openE t l u = 0) : instE t l u = 0 ∨ instE t l u = 4 ∨ instE t l u = 5 ∨ instE t l u = 6 := by
  rw [instE, if_pos h]
  split
  · omega
  · split
    · omega
    · split <;> omega

theorem two_lo {a c : T} {n b : Int} (h : n < b) : instF [a, c] 0 n b = .mk 1 n [] := by
  have : whichT [a, c].length 0 n b = -1 := by rw [whichT, if_pos]; left; omega
  rw [instF, this, if_neg (by omega), if_neg (by omega)]
theorem two_at {a c : T} {b : Int} (h0 : 0 ≤ b) (h1 : b ≤ 10000000) : instF [a, c] 0 b b = mapT (mv b) c 0 := by
  have : whichT [a, c].length 0 b b = 1 := by rw [whichT, if_neg (by simp)]; simp
  rw [instF, this, if_pos (by omega)]
  show movedT (w64 (0 + b)) c = _
  rw [w64_id (by omega) (by omega), Int.zero_add, moved_is]
theorem two_at1 {a c : T} {n b : Int} (hn : n = b + 1) (h0 : 0 ≤ b) (h1 : b ≤ 10000000) : instF [a, c] 0 n b = mapT (mv b) a 0 := by
  have : whichT [a, c].length 0 n b = 0 := by rw [whichT, if_neg (by simp; omega)]; simp; omega
  rw [instF, this, if_pos (by omega)]
  show movedT (w64 (0 + b)) a = _
  rw [w64_id (by omega) (by omega), Int.zero_add, moved_is]
theorem two_hi {a c : T} {n b : Int} (h : b + 1 < n) (hn : n ≤ 10000000) (hb : 0 ≤ b) : instF [a, c] 0 n b = .mk 1 (n - 2) [] := by
  have : whichT [a, c].length 0 n b = -1 := by rw [whichT, if_pos]; right; simp; omega
  rw [instF, this, if_neg (by omega), if_pos (by omega)]
  have e : w64 (n - ([a, c].length : Int)) = n - 2 := by rw [w64_id] <;> simp <;> omega
  rw [e]
/-- One behind the other, or at once. -/
theorem twice_core {t a b : T} (ht : nodes t ≤ 1048576) (ha : nodes a ≤ 1048576) (hb : nodes b ≤ 1048576) (e1 : instE t [a] 0 = 0) (e2 : instE (instT t [a] 0) [b] 0 = 0) (e3 : instE a [b] 0 = 0) :
    openE t [b, instT a [b] 0] 0 = 0 ∧ instT (instT t [a] 0) [b] 0 = mapT (instF [b, instT a [b] 0] 0) t 0 := by
  have s1 : ∀ x ∈ [a], nodes x ≤ 1048576 := by simpa using ha
  have s2 : ∀ x ∈ [b], nodes x ≤ 1048576 := by simpa using hb
  obtain ⟨p1, p2, p3, p4⟩ := (inst_iff ht s1).1 e1
  obtain ⟨q1, q2, q3⟩ := (openE_iff _ _ _).1 p1
  obtain ⟨r1, r2, r3⟩ := inst_right ht s1 e1
  obtain ⟨c1, c2, c3⟩ := inst_right ha s2 e3
  obtain ⟨o1, o2, _⟩ := (openE_iff _ _ _).1 ((inst_iff (by omega) s2).1 e2).1
  have hbc := o2 b (by simp)
  refine ⟨(openE_iff _ _ _).2 ⟨q1, by intro x hx; simp at hx; rcases hx with rfl | rfl <;> assumption, by omega⟩, ?_⟩
  have ft := formed_of q1
  have fa := formed_of (q2 a (by simp))
  have fb := formed_of hbc
  rw [inst_at e2, inst_at e1, inst_at e3]
  have := map_map (instF [b] 0) (instF [a] 0) (instF [b, mapT (instF [b] 0) a 0] 0) 0 (fun n k h1 h2 h3 h4 => ?_) t 0 ft (by omega) (by omega)
  · rw [Int.add_zero] at this; exact this
  · rw [Int.add_zero]
    by_cases d1 : n < k
    · rw [one_lo d1, map_var, one_lo d1, two_lo d1]
    by_cases d2 : n = k
    · subst d2
      rw [one_at h1 (by omega), two_at h1 (by omega)]
      have := one_mv b a fb fa n 0 h1 (by omega) (by omega) (by omega) (by omega)
      rw [Int.zero_add] at this
      exact this
    by_cases d3 : n = k + 1
    · rw [one_hi (by omega) (by omega) h3, map_var, two_at1 d3 h3 (by omega)]
      have e : n - 1 = k := by omega
      rw [e, one_at h3 (by omega)]
    · rw [one_hi (by omega) (by omega) h3, map_var, one_hi (by omega) (by omega) h3, two_hi (by omega) (by omega) h3]
      congr 1
      omega
end Ev
end Go.Proofs.Ytdobcpejfgpgoaa
