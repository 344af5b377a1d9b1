/- Substitution: maps one behind the other; what comes of right terms is right. -/
import Derived.Test.YtdobcpejfgpgoaaI8
namespace Go.Proofs.Ytdobcpejfgpgoaa
namespace Ev
open Go
set_option linter.unusedSimpArgs false
set_option linter.unusedVariables false

theorem map_congr (f g : Int → Int → T) (h : ∀ n b : Int, 0 ≤ n → n ≤ 65535 → 0 ≤ b → b ≤ 4194304 → f n b = g n b) (t : T) : ∀ b : Int, formedM t = true → 0 ≤ b → b + nodes t ≤ 4194304 → mapT f t b = mapT g t b := by
  refine T.ind (p := fun t => ∀ b : Int, formedM t = true → 0 ≤ b → b + nodes t ≤ 4194304 → mapT f t b = mapT g t b) ?_ t
  intro k n ks ih b hfm h0 hb
  rw [mapT, mapT]
  by_cases h1 : k = 1
  · have hn := var_formed h1 hfm
    rw [if_pos h1, if_pos h1, h n b hn.1 hn.2 h0 (by omega)]
  · rw [if_neg h1, if_neg h1]
    congr 1
    have go : ∀ (xs : List T) (i : Nat), (∀ x ∈ xs, x ∈ ks) → mapL f k b i xs = mapL g k b i xs := by
      intro xs
      induction xs with
      | nil => intro i _; simp [mapL]
      | cons x xs ihx =>
        intro i hm
        have hx := hm x (by simp)
        have hxn := nodes_kid (k := k) (n := n) hx
        have hbl := binds_le k i
        rw [mapL, mapL, ih x hx _ (kids_formed hfm x hx) (by omega) (by omega), ihx (i + 1) fun y hy => hm y (by simp [hy])]
    exact go ks 0 fun x hx => hx
theorem map_map (f g h : Int → Int → T) (e : Int) (hv : ∀ n b : Int, 0 ≤ n → n ≤ 65535 → 0 ≤ b → b ≤ 4194304 → mapT f (g n b) (b + e) = h n b) (t : T) : ∀ b : Int, formedM t = true → 0 ≤ b → b + nodes t ≤ 4194304 → mapT f (mapT g t b) (b + e) = mapT h t b := by
  refine T.ind (p := fun t => ∀ b : Int, formedM t = true → 0 ≤ b → b + nodes t ≤ 4194304 → mapT f (mapT g t b) (b + e) = mapT h t b) ?_ t
  intro k n ks ih b hfm h0 hb
  rw [mapT, mapT]
  by_cases h1 : k = 1
  · have hn := var_formed h1 hfm
    rw [if_pos h1, if_pos h1, hv n b hn.1 hn.2 h0 (by omega)]
  · rw [if_neg h1, if_neg h1, mapT, if_neg h1]
    congr 1
    have go : ∀ (xs : List T) (i : Nat), (∀ x ∈ xs, x ∈ ks) → mapL f k (b + e) i (mapL g k b i xs) = mapL h k b i xs := by
      intro xs
      induction xs with
      | nil => intro i _; simp [mapL]
      | cons x xs ihx =>
        intro i hm
        have hx := hm x (by simp)
        have hxn := nodes_kid (k := k) (n := n) hx
        have hbl := binds_le k i
        have e1 : b + e + bindsM k i = b + bindsM k i + e := by omega
        rw [mapL, mapL, mapL, e1, ih x hx _ (kids_formed hfm x hx) (by omega) (by omega), ihx (i + 1) fun y hy => hm y (by simp [hy])]
    exact go ks 0 fun x hx => hx

def mv (y : Int) (n b : Int) : T := .mk 1 (if b ≤ n then w64 (n + y) else n) []
theorem moved_is (y : Int) (t : T) : movedT y t = mapT (mv y) t 0 := rfl
theorem map_var (f : Int → Int → T) (n b : Int) : mapT f (.mk 1 n []) b = f n b := by rw [mapT, if_pos rfl]
theorem mv_lo {y n b : Int} (h : n < b) : mv y n b = .mk 1 n [] := by rw [mv, if_neg (by omega)]
theorem mv_hi {y n b : Int} (h : b ≤ n) (hn : 0 ≤ n) (hn' : n ≤ 10000000) (hy : 0 ≤ y) (hy' : y ≤ 10000000) : mv y n b = .mk 1 (n + y) [] := by rw [mv, if_pos h, w64_id (by omega) (by omega)]
/-- Shifted twice. -/
theorem mv_mv (t : T) (hf : formedM t = true) (j k i : Int) (hj : 0 ≤ j) (hj' : j ≤ 4194304) (hk : 0 ≤ k) (hk' : k ≤ 4194304) (hi : 0 ≤ i) (hi' : i + nodes t ≤ 4194304) : mapT (mv k) (mapT (mv j) t i) (i + j) = mapT (mv (j + k)) t i := by
  refine map_map (mv k) (mv j) (mv (j + k)) j (fun n b h1 h2 h3 h4 => ?_) t i hf hi hi'
  by_cases c : n < b
  · rw [mv_lo c, map_var, mv_lo (by omega), mv_lo c]
  · rw [mv_hi (by omega) h1 (by omega) hj (by omega), map_var, mv_hi (by omega) (by omega) (by omega) hk (by omega), mv_hi (by omega) h1 (by omega) (by omega) (by omega)]
    congr 1
    omega

/-- One term for the last variable. -/
theorem one_lo {a : T} {n b : Int} (h : n < b) : instF [a] 0 n b = .mk 1 n [] := by
  have : whichT [a].length 0 n b = -1 := by rw [whichT, if_pos]; left; omega
  rw [instF, this, if_neg (by omega), if_neg (by omega)]
theorem one_at {a : T} {b : Int} (h0 : 0 ≤ b) (h1 : b ≤ 10000000) : instF [a] 0 b b = mapT (mv b) a 0 := by
  have : whichT [a].length 0 b b = 0 := by rw [whichT, if_neg (by simp)]; simp
  rw [instF, this, if_pos (by omega)]
  show movedT (w64 (0 + b)) a = _
  rw [w64_id (by omega) (by omega), Int.zero_add, moved_is]
theorem one_hi {a : T} {n b : Int} (h : b < n) (hn : n ≤ 10000000) (hb : 0 ≤ b) : instF [a] 0 n b = .mk 1 (n - 1) [] := by
  have : whichT [a].length 0 n b = -1 := by rw [whichT, if_pos]; right; simp; omega
  rw [instF, this, if_neg (by omega), if_pos (by omega)]
  have e : w64 (n - ([a].length : Int)) = n - 1 := by rw [w64_id] <;> simp <;> omega
  rw [e]

/-- Put in a shifted one, or shifted what is put in. -/
theorem one_mv (a t : T) (ha : formedM a = true) (hf : formedM t = true) (k j : Int) (hk : 0 ≤ k) (hk' : k ≤ 2097152) (hj : 0 ≤ j) (hj' : j + nodes t ≤ 2097152) (han : nodes a ≤ 2097152) :
    mapT (instF [a] 0) (mapT (mv k) t j) (j + k) = mapT (mv k) (mapT (instF [a] 0) t j) j := by
  have h1 : mapT (instF [a] 0) (mapT (mv k) t j) (j + k) = mapT (fun n b => mapT (instF [a] 0) (mv k n b) (b + k)) t j := map_map _ _ _ k (fun _ _ _ _ _ _ => rfl) t j hf hj (by omega)
  have h2 : mapT (mv k) (mapT (instF [a] 0) t j) (j + 0) = mapT (fun n b => mapT (mv k) (instF [a] 0 n b) (b + 0)) t j := map_map _ _ _ 0 (fun _ _ _ _ _ _ => rfl) t j hf hj (by omega)
  rw [Int.add_zero] at h2
  rw [h1, h2]
  -- below so many binders alone
  have go : ∀ (t : T) (b : Int), formedM t = true → 0 ≤ b → b + nodes t ≤ 2097152 → mapT (fun n b => mapT (instF [a] 0) (mv k n b) (b + k)) t b = mapT (fun n b => mapT (mv k) (instF [a] 0 n b) (b + 0)) t b := by
    intro t
    refine T.ind (p := fun t => ∀ b : Int, formedM t = true → 0 ≤ b → b + nodes t ≤ 2097152 → mapT (fun n b => mapT (instF [a] 0) (mv k n b) (b + k)) t b = mapT (fun n b => mapT (mv k) (instF [a] 0 n b) (b + 0)) t b) ?_ t
    intro kd n ks ih b hfm h0 hb
    rw [mapT, mapT]
    by_cases c1 : kd = 1
    · have hn := var_formed c1 hfm
      rw [if_pos c1, if_pos c1, Int.add_zero]
      rcases Int.lt_trichotomy n b with c | c | c
      · rw [mv_lo c, map_var, one_lo (by omega), one_lo c, map_var, mv_lo c]
      · subst c
        rw [mv_hi (Int.le_refl _) hn.1 (by omega) hk (by omega), map_var, one_at (by omega) (by omega), one_at (by omega) (by omega)]
        have := mv_mv a ha n k 0 hn.1 (by omega) hk (by omega) (by omega) (by omega)
        rw [Int.zero_add] at this
        exact this.symm
      · rw [mv_hi (by omega) hn.1 (by omega) hk (by omega), map_var, one_hi (by omega) (by omega) (by omega), one_hi c (by omega) h0, map_var, mv_hi (by omega) (by omega) (by omega) hk (by omega)]
        congr 1
        omega
    · rw [if_neg c1, if_neg c1]
      congr 1
      have go2 : ∀ (xs : List T) (i : Nat), (∀ x ∈ xs, x ∈ ks) → mapL (fun n b => mapT (instF [a] 0) (mv k n b) (b + k)) kd b i xs = mapL (fun n b => mapT (mv k) (instF [a] 0 n b) (b + 0)) kd b i xs := by
        intro xs
        induction xs with
        | nil => intro i _; simp [mapL]
        | cons x xs ihx =>
          intro i hm
          have hx := hm x (by simp)
          have hxn := nodes_kid (k := kd) (n := n) hx
          have hbl := binds_le kd i
          rw [mapL, mapL, ih x hx _ (kids_formed hfm x hx) (by omega) (by omega), ihx (i + 1) fun y hy => hm y (by simp [hy])]
      exact go2 ks 0 fun x hx => hx
  exact go t j hf hj hj'
end Ev
end Go.Proofs.Ytdobcpejfgpgoaa
