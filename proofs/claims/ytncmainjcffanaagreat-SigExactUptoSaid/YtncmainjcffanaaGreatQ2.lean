/- Variables counted, scopes, shifts. -/
import Derived.Test.YtncmainjcffanaaGreatQ1
namespace Go.Proofs.YtncmainjcffanaaGreat
namespace Ev
open Go
set_option maxRecDepth 100000
set_option linter.unusedSimpArgs false
set_option linter.unusedVariables false
attribute [local simp] allD_map_d sks_map_d tk tn tks initA EndsM
mutual
def cntT : T → Int → Int → Int
  | .mk k m ks, n, b => cntL k n b 0 (if k = 1 ∧ m = n + b then 1 else 0) ks
def cntL (k n b : Int) : Nat → Int → List T → Int
  | _, a, [] => a
  | i, a, x :: xs => cntL k n b (i + 1) (a + cntT x n (b + bindsM k i)) xs
end
theorem cntL_snoc (k n b : Int) : ∀ (l : List T) (i : Nat) (a : Int) (j : Nat) (h : j < l.length), cntL k n b i a (l.take (j + 1)) = cntL k n b i a (l.take j) + cntT l[j] n (b + bindsM k (i + j : Nat))
  | x :: xs, i, a, 0, h => by simp [cntL]
  | x :: xs, i, a, j + 1, h => by
    simp only [List.take_succ_cons, cntL, List.getElem_cons_succ]
    rw [cntL_snoc k n b xs (i + 1) _ j (by simpa using h)]
    congr 4
    omega
theorem cntL_add (k n b : Int) : ∀ (l : List T) (i : Nat) (a : Int), cntL k n b i a l = a + cntL k n b i 0 l
  | [], i, a => by simp [cntL]
  | x :: xs, i, a => by
    rw [cntL, cntL, cntL_add k n b xs (i + 1) (a + _), cntL_add k n b xs (i + 1) (0 + _)]
    omega
theorem cnt_le (t : T) : ∀ n b, 0 ≤ cntT t n b ∧ cntT t n b ≤ nodes t := by
  refine T.ind (p := fun t => ∀ n b, 0 ≤ cntT t n b ∧ cntT t n b ≤ nodes t) ?_ t
  intro k m ks ih n b
  rw [cntT, nodes]
  have h0 : 0 ≤ (if k = 1 ∧ m = n + b then (1 : Int) else 0) ∧ (if k = 1 ∧ m = n + b then (1 : Int) else 0) ≤ 1 := by split <;> omega
  generalize (if k = 1 ∧ m = n + b then (1 : Int) else 0) = a at h0
  have go : ∀ (l : List T) (i : Nat) (a : Int), (∀ x ∈ l, x ∈ ks) → a ≤ cntL k n b i a l ∧ cntL k n b i a l ≤ a + (l.map nodes).sum := by
    intro l
    induction l with
    | nil => intro i a _; simp [cntL]
    | cons x xs ihx =>
      intro i a hm
      have h1 := ih x (hm x (by simp)) n (b + bindsM k i)
      have h2 := ihx (i + 1) (a + cntT x n (b + bindsM k i)) fun y hy => hm y (by simp [hy])
      simp only [cntL, List.map_cons, List.sum_cons]
      omega
  have := go ks 0 a fun x hx => hx
  omega
theorem may_ok (n : Int) : Pure Tryz.prog n_shift_may [.int .i64 n] [.bool (inB n 0 65535)] := by
  refine p_shift_may rfl fun hs => ?_
  simp -dsimp [x_shift_may, inB]
  (first | refine Ask_b ?_ ?_ | refine Cnd_b ?_ ?_) <;> intro h1 <;> (try simp only [nrm] at h1) <;> simp -dsimp [h1]
theorem cnt_leaf (m n b : Int) : cntT (.mk 1 m []) n b = if m = n + b then 1 else 0 := by
  rw [cntT, cntL]
  by_cases h : m = n + b
  · rw [if_pos ⟨rfl, h⟩, if_pos h]
  · rw [if_neg fun h' => h h'.2, if_neg h]
theorem cnt_node {k m n b : Int} {ks : List T} (h : k ≠ 1) : cntT (.mk k m ks) n b = cntL k n b 0 0 ks := by rw [cntT, if_neg fun h' => h h'.1]
/-- What is moved is counted as it was. -/
theorem cnt_moved (t : T) : ∀ n y c : Int, formedM t = true → 0 ≤ n → 0 ≤ y → y ≤ 4194304 → 0 ≤ c → cntT (mapT (mv y) t c) n (c + y) = cntT t n c := by
  refine T.ind (p := fun t => ∀ n y c : Int, formedM t = true → 0 ≤ n → 0 ≤ y → y ≤ 4194304 → 0 ≤ c → cntT (mapT (mv y) t c) n (c + y) = cntT t n c) ?_ t
  intro k m ks ih n y c hfm hn hy hy' hc
  rw [mapT]
  by_cases h1 : k = 1
  · have hm := var_formed h1 hfm
    have hks := var_leaf h1 hfm
    subst h1 hks
    rw [if_pos rfl, cnt_leaf]
    by_cases h2 : m < c
    · rw [mv_lo h2, cnt_leaf, if_neg (by omega), if_neg (by omega)]
    · rw [mv_hi (by omega) hm.1 (by omega) hy (by omega), cnt_leaf]
      by_cases h3 : m = n + c
      · rw [if_pos h3, if_pos (by omega)]
      · rw [if_neg h3, if_neg (by omega)]
  · rw [if_neg h1, cnt_node h1, cnt_node h1]
    have go : ∀ (l : List T) (i : Nat) (a : Int), (∀ x ∈ l, x ∈ ks) → cntL k n (c + y) i a (mapL (mv y) k c i l) = cntL k n c i a l := by
      intro l
      induction l with
      | nil => intro i a _; simp [mapL, cntL]
      | cons x xs ihx =>
        intro i a hmem
        have hbl := binds_le k i
        have e : c + y + bindsM k i = c + bindsM k i + y := by omega
        rw [mapL, cntL, cntL, e, ih x (hmem x (by simp)) n y _ (kids_formed hfm x (hmem x (by simp))) hn hy hy' (by omega), ihx (i + 1) _ fun z hz => hmem z (by simp [hz])]
    exact go ks 0 0 fun x hx => hx
/-- Counted in what comes of it. -/
theorem cnt_inst (a : T) (ha : formedM a = true) (t : T) : ∀ n b : Int, formedM t = true → 0 ≤ n → n ≤ 65535 → 0 ≤ b → b + nodes t ≤ 2097152 →
    cntT (mapT (instF [a] 0) t b) n b = cntT t (n + 1) b + cntT t 0 b * cntT a n 0 ∧ (nodes (mapT (instF [a] 0) t b) : Int) = nodes t + cntT t 0 b * (nodes a - 1) := by
  refine T.ind (p := fun t => ∀ n b : Int, formedM t = true → 0 ≤ n → n ≤ 65535 → 0 ≤ b → b + nodes t ≤ 2097152 →
    cntT (mapT (instF [a] 0) t b) n b = cntT t (n + 1) b + cntT t 0 b * cntT a n 0 ∧ (nodes (mapT (instF [a] 0) t b) : Int) = nodes t + cntT t 0 b * (nodes a - 1)) ?_ t
  intro k m ks ih n b hfm hn hn' hb hbn
  rw [mapT]
  by_cases h1 : k = 1
  · have hm := var_formed h1 hfm
    have hks := var_leaf h1 hfm
    subst h1 hks
    rw [if_pos rfl, cnt_leaf, cnt_leaf, leaf_nodes]
    rcases Int.lt_trichotomy m b with h2 | h2 | h2
    · rw [one_lo h2, cnt_leaf, leaf_nodes, if_neg (by omega), if_neg (by omega), if_neg (by omega)]
      omega
    · subst h2
      have := cnt_moved a n m 0 ha hn hb (by omega) (by omega)
      rw [Int.zero_add] at this
      rw [one_at hb (by omega), this, if_neg (by omega), if_pos (by omega)]
      have hnm := same_nodes (mv m) (fun _ _ => leaf_nodes _ _) a ha 0
      rw [hnm]
      omega
    · rw [one_hi h2 (by omega) hb, cnt_leaf, leaf_nodes, if_neg (c := m = 0 + b) (by omega)]
      by_cases h3 : m = n + 1 + b
      · rw [if_pos h3, if_pos (by omega)]; omega
      · rw [if_neg h3, if_neg (by omega)]; omega
  · rw [if_neg h1, cnt_node h1, cnt_node h1, cnt_node h1, nodes, nodes]
    have hks := kids_formed hfm
    have go : ∀ (l : List T) (i : Nat), (∀ x ∈ l, x ∈ ks) →
        cntL k n b i 0 (mapL (instF [a] 0) k b i l) = cntL k (n + 1) b i 0 l + cntL k 0 b i 0 l * cntT a n 0 ∧ (((mapL (instF [a] 0) k b i l).map nodes).sum : Int) = (l.map nodes).sum + cntL k 0 b i 0 l * (nodes a - 1) := by
      intro l
      induction l with
      | nil => intro i _; simp [mapL, cntL]
      | cons x xs ihx =>
        intro i hmem
        have hx := hmem x (by simp)
        have hxn := nodes_kid (k := k) (n := m) hx
        have hbl := binds_le k i
        obtain ⟨i1, i2⟩ := ih x hx n (b + bindsM k i) (hks x hx) hn hn' (by omega) (by omega)
        obtain ⟨j1, j2⟩ := ihx (i + 1) fun z hz => hmem z (by simp [hz])
        rw [mapL, cntL, cntL, cntL, cntL_add k n b _ (i + 1), cntL_add k (n + 1) b _ (i + 1), cntL_add k 0 b _ (i + 1), j1, i1]
        simp only [List.map_cons, List.sum_cons, Int.zero_add]
        refine ⟨?_, ?_⟩
        · rw [Int.add_mul]; omega
        · rw [Int.add_mul]
          omega
    obtain ⟨g1, g2⟩ := go ks 0 fun x hx => hx
    refine ⟨g1, ?_⟩
    omega
/-- What a map makes of what is in scope is in scope. -/
theorem wi_map (f : Int → Int → T) (c v w : Int) (hv : ∀ n b : Int, 0 ≤ n → n ≤ 65535 → 0 ≤ b → b ≤ 4194304 → n < v + b → wiT (f n b) (w + b) c = true) (t : T) :
    ∀ b : Int, formedM t = true → 0 ≤ b → b + nodes t ≤ 4194304 → wiT t (v + b) c = true → wiT (mapT f t b) (w + b) c = true := by
  refine T.ind (p := fun t => ∀ b : Int, formedM t = true → 0 ≤ b → b + nodes t ≤ 4194304 → wiT t (v + b) c = true → wiT (mapT f t b) (w + b) c = true) ?_ t
  intro k n ks ih b hfm h0 hb hw
  rw [wiT] at hw
  rw [mapT]
  by_cases h1 : k = 1
  · have hn := var_formed h1 hfm
    rw [if_pos h1] at hw ⊢
    exact hv n b hn.1 hn.2 h0 (by omega) (by simpa using hw)
  · rw [if_neg h1] at hw ⊢
    rw [wiT, if_neg h1]
    split
    · rename_i h2; rw [if_pos h2] at hw; exact hw
    · rename_i h2
      rw [if_neg h2] at hw
      split
      · rename_i h3; rw [if_pos h3] at hw; exact hw
      · rename_i h3
        rw [if_neg h3] at hw
        rw [wiL_at] at hw ⊢
        intro j hj
        rw [mapL_len] at hj
        have hxn := nodes_kid (k := k) (n := n) (List.getElem_mem hj)
        have hbl := binds_le k j
        rw [mapL_get _ _ _ _ _ _ hj]
        have := hw j hj
        rw [Nat.zero_add] at this ⊢
        have e1 : v + b + bindsM k j = v + (b + bindsM k j) := by omega
        have e2 : w + b + bindsM k j = w + (b + bindsM k j) := by omega
        rw [e1] at this
        rw [e2]
        exact ih ks[j] (List.getElem_mem _) _ (kids_formed hfm _ (List.getElem_mem _)) (by omega) (by omega) this
/-- Its free variables. -/
theorem wi_free (c : Int) (t : T) : ∀ v b : Int, formedM t = true → 0 ≤ b → 0 ≤ v → wiT t v c = true → freeT t b < v + nodes t := by
  refine T.ind (p := fun t => ∀ v b : Int, formedM t = true → 0 ≤ b → 0 ≤ v → wiT t v c = true → freeT t b < v + nodes t) ?_ t
  intro k n ks ih v b hfm hb hv0 hw
  rw [wiT] at hw
  rw [freeT]
  by_cases h1 : k = 1
  · have hks := var_leaf h1 hfm
    subst hks
    rw [if_pos h1] at hw
    rw [freeL, leaf_nodes]
    have : n < v := by simpa using hw
    split <;> omega
  · rw [if_neg (fun h => h1 h.1)]
    rw [if_neg h1] at hw
    have hnn : nodes (.mk k n ks) = (ks.map nodes).sum + 1 := by rw [nodes]
    by_cases h2 : k = 2 ∨ k = 3
    · have hk0 : kidsM k = 0 := by rcases h2 with rfl | rfl <;> rfl
      have hks : ks = [] := by
        rw [formedM_is, hk0] at hfm
        split at hfm
        · exact List.length_eq_zero_iff.1 (by omega)
        · cases hfm
      subst hks
      rw [freeL]
      omega
    · rw [if_neg (by omega), if_neg (by omega), wiL_at] at hw
      have go : ∀ (l : List T) (i : Nat) (a : Int), (∀ (j : Nat) (hj : j < l.length), l[j] ∈ ks ∧ wiT l[j] (v + bindsM k (i + j : Nat)) c = true) → a < v + nodes (.mk k n ks) → freeL k b i a l < v + nodes (.mk k n ks) := by
        intro l
        induction l with
        | nil => intro i a _ h; rw [freeL]; exact h
        | cons x xs ihx =>
          intro i a hm ha
          obtain ⟨hx, hwx⟩ := hm 0 (by simp)
          simp only [List.getElem_cons_zero, Nat.add_zero] at hx hwx
          have hxn := nodes_kid (k := k) (n := n) hx
          have hbl := binds_le k i
          have h3 := ih x hx (v + bindsM k i) (b + bindsM k i) (kids_formed hfm x hx) (by omega) (by omega) hwx
          rw [freeL]
          refine ihx (i + 1) _ (fun j hj => ?_) ?_
          · have := hm (j + 1) (by simpa using hj)
            rw [show i + (j + 1) = i + 1 + j by omega] at this
            simpa using this
          · rw [mx_eq]
            omega
      exact go ks 0 (-1) (fun j hj => ⟨List.getElem_mem _, hw j hj⟩) (by omega)
theorem sc_false (l : List T) (hl : ∀ x ∈ l, freeT x 0 ≤ 10000) (t : T) : ∀ b : Int, 0 ≤ b → b + nodes t ≤ 50000 → scI l 0 t b = false := by
  refine T.ind (p := fun t => ∀ b : Int, 0 ≤ b → b + nodes t ≤ 50000 → scI l 0 t b = false) ?_ t
  intro k n ks ih b h0 hb
  rw [scI]
  by_cases h1 : k = 1
  · rw [if_pos h1]
    split
    · rename_i a ha
      have hmem : a ∈ l := by
        split at ha
        · exact List.mem_of_getElem? ha
        · cases ha
      have := hl a hmem
      rw [overB, Bool.and_eq_false_iff]
      right
      rw [decide_eq_false_iff_not]
      omega
    · rfl
  · rw [if_neg h1]
    have go : ∀ (xs : List T) (i : Nat), (∀ x ∈ xs, x ∈ ks) → scL l 0 k b i xs = false := by
      intro xs
      induction xs with
      | nil => intro i _; rw [scL]
      | cons x xs ihx =>
        intro i hm
        have hx := hm x (by simp)
        have hxn := nodes_kid (k := k) (n := n) hx
        have hbl := binds_le k i
        rw [scL, ih x hx _ (by omega) (by omega), ihx (i + 1) fun y hy => hm y (by simp [hy])]
        rfl
    exact go ks 0 fun x hx => hx
theorem wi_var {n w c : Int} (h : n < w) : wiT (.mk 1 n []) w c = true := by rw [wiT, if_pos rfl]; simpa using h
theorem wi_moved {a : T} {V b : Int} (hf : formedM a = true) (hn : nodes a ≤ 1048576) (hb : 0 ≤ b) (hb' : b ≤ 4194304) (hV : 0 ≤ V) (h : wiT a V 65536 = true) : wiT (mapT (mv b) a 0) (V + b) 65536 = true := by
  have := wi_map (mv b) 65536 V (V + b) (fun n c h1 h2 h3 h4 h5 => ?_) a 0 hf (by omega) (by omega) (by rw [Int.add_zero]; exact h)
  · rw [Int.add_zero] at this; exact this
  · by_cases c1 : n < c
    · rw [mv_lo c1]; exact wi_var (by omega)
    · rw [mv_hi (by omega) h1 (by omega) hb (by omega)]; exact wi_var (by omega)
theorem inst_scope {t : T} {l : List T} {V : Int} (hV : 0 ≤ V) (hV' : V ≤ 65536) (ht : nodes t ≤ 1048576) (ft : formedM t = true) (hl : ∀ x ∈ l, formedM x = true ∧ nodes x ≤ 1048576 ∧ wiT x V 65536 = true) (hn : l.length ≤ 65536) (hw : wiT t (V + l.length) 65536 = true) :
    wiT (mapT (instF l 0) t 0) V 65536 = true := by
  have := wi_map (instF l 0) 65536 (V + l.length) V (fun n b h1 h2 h3 h4 h5 => ?_) t 0 ft (by omega) (by omega) (by rw [Int.add_zero]; exact hw)
  · rw [Int.add_zero] at this; exact this
  · rw [instF]
    by_cases hW : 0 ≤ whichT l.length 0 n b
    · have hlt : (whichT l.length 0 n b).toNat < l.length := by
        have h6 := hW
        rw [whichT] at h6 ⊢
        split at h6
        · omega
        · rename_i h7
          rw [if_neg h7]
          omega
      generalize (whichT l.length 0 n b).toNat = m at hlt
      rw [if_pos hW, List.getElem?_eq_getElem hlt]
      obtain ⟨a1, a2, a3⟩ := hl l[m] (List.getElem_mem _)
      show wiT (movedT (w64 (0 + b)) l[m]) (V + b) 65536 = true
      rw [w64_id (by omega) (by omega), Int.zero_add, moved_is]
      exact wi_moved a1 a2 h3 h4 hV a3
    · rw [if_neg hW]
      have h6 := hW
      rw [whichT] at h6
      by_cases c : 0 + b ≤ n
      · rw [if_pos c]
        have : (l.length : Int) ≤ n - (0 + b) := by
          split at h6
          · rename_i h7; omega
          · omega
        rw [w64_id (by omega) (by omega)]
        exact wi_var (by omega)
      · rw [if_neg c]
        exact wi_var (by omega)
def lowF (v n b : Int) : T := .mk 1 (if v + b < n then n - 1 else n) []
def lowB (t : T) (v : Int) : Bool := if checkM t = 0 then if inB v 0 65535 = true then decide (cntT t v 0 = 0) else false else false
def lowT (t : T) (v : Int) : T := if lowB t v = true then mapT (lowF v) t 0 else zT
def shF (fr y n b : Int) : T := .mk 1 (if n < fr + b then n else n + y) []
def shO (fr y n b e : Int) : Int := if n < fr + b then e else if 65535 < n + y then 6 else e
def shH (fr y e : Int) : Nat → Ent := fun q => if q = 8 then ⟨1, .box [.d (.int .i64 e)] false⟩ else if q = 5 then ⟨1, .box [.d (.int .i64 fr)] false⟩ else if q = 4 then ⟨1, .box [.d (.int .i64 y)] false⟩ else ⟨0, .dead⟩
theorem shH_over (fr y e : Int) : ∀ k ∈ [5, 4, 8], OverB [5, 4, 8] (shH fr y e k).body := by
  intro q hq
  simp only [List.mem_cons, List.not_mem_nil, or_false] at hq
  rcases hq with rfl | rfl | rfl <;> simp only [shH] <;> intro c hc <;> simp at hc <;> subst hc <;> exact .d _
theorem shift1_mut (fr y n b e : Int) (hf : 0 ≤ fr ∧ fr ≤ 65535) (hy : 0 ≤ y ∧ y ≤ 65535) (hn : 0 ≤ n) (hn' : n ≤ 65535) (hb : 0 ≤ b) (hb' : b ≤ 1099511627776) :
    MutC Tryz.prog n_shift_Shift_1 [.d (.int .i64 n), .d (.int .i64 b), .ptr 5 1 0, .ptr 4 1 0, .ptr 8 1 0] [5, 4, 8] (shH fr y e) [.agg (cT (shF fr y n b))] (shH fr y (shO fr y n b e)) := by
  refine mut_of hm Tryz.func125 c_shift_Shift_1 rfl (shH_over _ _ _) fun G h w vs hk hlen hr => ?_
  have e8 : h 8 = ⟨1, .box [.d (.int .i64 e)] false⟩ := by rw [hk 8 (by simp)]; simp [shH]
  have e5 : h 5 = ⟨1, .box [.d (.int .i64 fr)] false⟩ := by rw [hk 5 (by simp)]; simp [shH]
  have e4 : h 4 = ⟨1, .box [.d (.int .i64 y)] false⟩ := by rw [hk 4 (by simp)]; simp [shH]
  have w1 : IntKind.i64.wrap (fr + b) = fr + b := wrap_id (by omega) (by omega)
  have w2 : IntKind.i64.wrap (n + y) = n + y := wrap_id (by omega) (by omega)
  simp -dsimp [x_shift_Shift_1, e8, e5, e4, w1]
  (first | refine Ask_b ?_ ?_ | refine Cnd_b ?_ ?_) <;> intro h1 <;> (try simp only [nrm] at h1) <;> simp -dsimp [h1, e8, e5, e4, w1]
  · have hO : shO fr y n b e = e := by rw [shO, if_pos h1]
    have hF : shF fr y n b = .mk 1 n [] := by rw [shF, if_pos h1]
    rw [hO, hF]
    refine call_of (v_ok _) ?_
    simp -dsimp [e8, e5, e4, cT, shH]
  have hF : shF fr y n b = .mk 1 (n + y) [] := by rw [shF, if_neg h1]
  simp -dsimp [e8, e5, e4, w2, h1]
  (first | refine Ask_b ?_ ?_ | refine Cnd_b ?_ ?_) <;> intro h2 <;> (try simp only [nrm] at h2) <;> simp -dsimp [h2, e8, e5, e4, w2, h1]
  · have hO : shO fr y n b e = 6 := by rw [shO, if_neg h1, if_pos h2]
    rw [hO, hF]
    refine call_of (v_ok _) ?_
    simp -dsimp [e8, e5, e4, cT, shH]
  · have hO : shO fr y n b e = e := by rw [shO, if_neg h1, if_neg h2]
    rw [hO, hF]
    refine call_of (v_ok _) ?_
    simp -dsimp [e8, e5, e4, cT, shH]
mutual
def shE (fr y : Int) : T → Int → Int → Int
  | .mk k n ks, b, e => if k = 1 then shO fr y n b e else shEL fr y k b 0 e ks
def shEL (fr y k b : Int) : Nat → Int → List T → Int
  | _, e, [] => e
  | i, e, x :: xs => shEL fr y k b (i + 1) (shE fr y x (b + bindsM k i) e) xs
end
theorem shEL_snoc (fr y k b : Int) : ∀ (l : List T) (i : Nat) (e : Int) (j : Nat) (h : j < l.length), shEL fr y k b i e (l.take (j + 1)) = shE fr y l[j] (b + bindsM k (i + j : Nat)) (shEL fr y k b i e (l.take j))
  | x :: xs, i, e, 0, h => by simp [shEL]
  | x :: xs, i, e, j + 1, h => by
    simp only [List.take_succ_cons, shEL, List.getElem_cons_succ]
    rw [shEL_snoc fr y k b xs (i + 1) _ j (by simpa using h)]
    congr 3
    omega
theorem m_map {aa : List AV} {K : List Nat} {h0 h1 : Nat → Ent} {rs : List D} (hl : aa.length = 3) (hov : ∀ k ∈ K, OverB K (h1 k).body)
    (hw : ∀ (h : Nat → Ent), (∀ k ∈ K, h k = h0 k) → (∀ d, AV.d d ∈ aa → small 8 d) → wpX Tryz.prog x_term_Map.code (EndsM x_term_Map.res rs K h1) ⟨initA aa, h⟩) : MutC Tryz.prog n_term_Map aa K h0 rs h1 :=
  mut_of hm Tryz.func124 c_term_Map hl hov fun G h w vs hk hlen hr => hw h hk fun d hd => by
    obtain ⟨j, hj⟩ := List.mem_iff_getElem?.1 hd
    exact small_of (hr j _ hj)
theorem map_mut (fr y : Int) (hf : 0 ≤ fr ∧ fr ≤ 65535) (hy : 0 ≤ y ∧ y ≤ 65535) (t : T) : ∀ b e : Int, formedM t = true → 0 ≤ b → b + nodes t ≤ 1099511627776 →
    MutC Tryz.prog n_term_Map [.d (.agg (cT t)), .d (.int .i64 b), .clo n_shift_Shift_1 [.ptr 5 1 0, .ptr 4 1 0, .ptr 8 1 0]] [5, 4, 8] (shH fr y e) [.agg (cT (mapT (shF fr y) t b))] (shH fr y (shE fr y t b e)) := by
  refine T.ind (p := fun t => ∀ b e : Int, formedM t = true → 0 ≤ b → b + nodes t ≤ 1099511627776 →
    MutC Tryz.prog n_term_Map [.d (.agg (cT t)), .d (.int .i64 b), .clo n_shift_Shift_1 [.ptr 5 1 0, .ptr 4 1 0, .ptr 8 1 0]] [5, 4, 8] (shH fr y e) [.agg (cT (mapT (shF fr y) t b))] (shH fr y (shE fr y t b e))) ?_ t
  intro k n ks ih b e hfm h0 hb
  obtain ⟨hl, _⟩ := (slim_of _ hfm).kids
  have hsk := kids_formed hfm
  refine m_map rfl (shH_over _ _ _) fun h hk hs => ?_
  have e8 : h 8 = ⟨1, .box [.d (.int .i64 e)] false⟩ := by rw [hk 8 (by simp)]; simp [shH]
  have e5 : h 5 = ⟨1, .box [.d (.int .i64 fr)] false⟩ := by rw [hk 5 (by simp)]; simp [shH]
  have e4 : h 4 = ⟨1, .box [.d (.int .i64 y)] false⟩ := by rw [hk 4 (by simp)]; simp [shH]
  have hsm := hs (.agg (cT (.mk k n ks))) (by simp)
  simp -dsimp [cT, small] at hsm
  simp -dsimp [x_term_Map, cT]
  (first | refine Ask_b ?_ ?_ | refine Cnd_b ?_ ?_) <;> intro h1 <;> (try simp only [nrm] at h1) <;> simp -dsimp [h1, e8, e5, e4]
  · have hn := var_formed h1 hfm
    have hE : shE fr y (.mk k n ks) b e = shO fr y n b e := by rw [shE, if_pos h1]
    rw [hE, mapT, if_pos h1]
    refine callM_of (shift1_mut fr y n b e hf hy hn.1 hn.2 h0 (by omega)) ?_ ?_
    · simp [shH, e8, e5, e4]
    simp -dsimp [h1, cT, mergeK_cons, mergeK_nil, shH]
  have hE : shE fr y (.mk k n ks) b e = shEL fr y k b 0 e ks := by rw [shE, if_neg h1]
  have hM : mapT (shF fr y) (.mk k n ks) b = .mk k n (mapL (shF fr y) k b 0 ks) := by rw [mapT, if_neg h1]
  rw [hM, hE]
  by_cases hz : ks = []
  · subst hz
    simp -dsimp [h1, mapL, shEL, e8, e5, e4, shH, cT]
  simp -dsimp [h1, hz, e8, e5, e4]
  have r1 : (ks.length : Int) * 40 ≤ (maxRoom : Int) := by simp only [maxRoom]; omega
  have r2 : ks.length ≤ maxRoom := by simp only [maxRoom]; omega
  have hll : (mapL (shF fr y) k b 0 ks).length = ks.length := mapL_len (shF fr y) k b ks 0
  simp -dsimp [h1, hz, r1, r2, e8, e5, e4]
  generalize (h 3).ver + 1 = v3
  generalize (h 6).ver + 1 = v6
  generalize (h 27).ver + 1 = v27
  refine wp_upto ks.length (fun i st => st.s 3 = .ptr 3 v3 0 ∧ st.h 3 = ⟨v3, .box [.d (.int .i64 k), .d (.int .i64 n), .d (.sl 3 (ks.map eT))] false⟩ ∧ st.s 1 = .d (.int .i64 b) ∧ st.s 2 = .clo n_shift_Shift_1 [.ptr 5 1 0, .ptr 4 1 0, .ptr 8 1 0] ∧
    st.s 6 = .ptr 6 v6 0 ∧ st.h 6 = ⟨v6, .box [.d (.int .i64 0), .d (.int .i64 0), .fsl 3 []] false⟩ ∧ st.s 7 = .rsl 27 v27 ∧ st.s 29 = .d (.sl 3 (ks.map eT)) ∧ st.s 30 = .d (.int .i64 ks.length) ∧ st.s 31 = .d (.int .i64 i) ∧
    st.h 27 = ⟨v27, .row 3 (((mapL (shF fr y) k b 0 ks).map eT).take i ++ List.replicate (ks.length - i) (D.agg [.int .i64 0, .int .i64 0, .sl 3 []])) false⟩ ∧
    st.h 8 = ⟨1, .box [.d (.int .i64 (shEL fr y k b 0 e (ks.take i)))] false⟩ ∧ st.h 5 = ⟨1, .box [.d (.int .i64 fr)] false⟩ ∧ st.h 4 = ⟨1, .box [.d (.int .i64 y)] false⟩) ?_ ?_
  · simp -dsimp [e8, e5, e4, shEL]
  · rintro i ⟨s, hp⟩ hi ⟨g1, g2, g3, g4, g5, g6, g7, g8, g9, g10, g11, g12, g13, g14⟩
    dsimp only at g1 g2 g3 g4 g5 g6 g7 g8 g9 g10 g11 g12 g13 g14
    rcases Nat.lt_or_ge i ks.length with hlt | hge
    · have w1 : IntKind.i64.wrap ((i : Int) + 1) = (i : Int) + 1 := wrap_id (by omega) (by omega)
      have hbl := binds_le k i
      have hnk := nodes_kid (k := k) (n := n) (List.getElem_mem hlt : ks[i] ∈ ks)
      have w2 : IntKind.i64.wrap (b + bindsM k i) = b + bindsM k i := wrap_id (by omega) (by omega)
      simp -dsimp [g1, g2, g3, g4, g5, g6, g7, g8, g9, g10, g11, g12, g13, g14, hlt, cT]
      refine callS_of (binds_ok k i) (by simp [D.flat]) ?_
      simp -dsimp [g1, g2, g3, g4, g5, g6, g7, g8, g9, g10, g11, g12, g13, g14, hlt, w2]
      generalize hX : shEL fr y k b 0 e (ks.take i) = X at g12
      have hrec := ih ks[i] (List.getElem_mem _) (b + bindsM k i) X (hsk _ (List.getElem_mem _)) (by omega) (by omega)
      have hrec2 := agg_arg (pre := []) (post := [.d (.int .i64 (b + bindsM k i)), .clo n_shift_Shift_1 [.ptr 5 1 0, .ptr 4 1 0, .ptr 8 1 0]]) hrec
      refine callM_of hrec2 ?_ ?_
      · simp [shH, g12, g13, g14, upd]
      have hsn := shEL_snoc fr y k b ks 0 e i hlt
      rw [Nat.zero_add, hX] at hsn
      have q1 : (i : Int) < ((min i ks.length : Nat) : Int) + ((ks.length - i : Nat) : Int) := by omega
      have q2 : i < min i ks.length + (ks.length - i) := by omega
      have hle : ((mapL (shF fr y) k b 0 ks).map eT).length = ks.length := by rw [List.length_map, hll]
      have hfn := fill_next (l := (mapL (shF fr y) k b 0 ks).map eT) (z := D.agg [.int .i64 0, .int .i64 0, .sl 3 []]) (i := i) (by rw [hle]; exact hlt)
      have hel : ((mapL (shF fr y) k b 0 ks).map eT)[i]'(by rw [hle]; exact hlt) = .agg (cT (mapT (shF fr y) ks[i] (b + bindsM k i))) := by
        rw [List.getElem_map, mapL_get (shF fr y) k b ks 0 i hlt, eT_eq, Nat.zero_add]
      rw [hel, hle] at hfn
      simp only [cT] at hfn
      simp -dsimp [mergeK_cons, mergeK_nil, shH, g1, g2, g3, g4, g5, g6, g7, g8, g9, g10, g11, g13, g14, hlt, w1, w2, hll, q1, q2, cT, hfn, hsn]
    · have e : i = ks.length := by omega
      subst e
      have ht : ((mapL (shF fr y) k b 0 ks).map eT).take ks.length = (mapL (shF fr y) k b 0 ks).map eT := List.take_of_length_le (by rw [List.length_map, hll]; exact Nat.le_refl _)
      rw [ht, Nat.sub_self, List.replicate_zero, List.append_nil] at g11
      rw [List.take_length] at g12
      simp -dsimp [g1, g2, g3, g4, g5, g6, g7, g8, g9, g10, g11, g12, g13, g14]
      simp [shH]
def shiftE (t : T) (y fr : Int) : Int := if checkM t = 0 then if inB y 0 65535 = true then if inB fr 0 65535 = true then shE fr y t 0 0 else 1 else 1 else checkM t
def shiftT (t : T) (y fr : Int) : T := if shiftE t y fr = 0 then mapT (shF fr y) t 0 else zT
theorem shift_ok (t : T) (y fr : Int) (ht : nodes t ≤ 1048576) : Pure Tryz.prog n_shift_Shift [.agg (cT t), .int .i64 y, .int .i64 fr] [.agg (cT (shiftT t y fr)), .int .i64 (shiftE t y fr)] := by
  refine p_shift_Shift rfl fun hs => ?_
  simp -dsimp [x_shift_Shift, cT]
  refine call_of (check_ok t) ?_
  simp -dsimp
  (first | refine Ask_b ?_ ?_ | refine Cnd_b ?_ ?_) <;> intro h1 <;> (try simp only [nrm] at h1) <;> simp -dsimp [h1]
  · have hE : shiftE t y fr = checkM t := by rw [shiftE, if_neg h1]
    have hT : shiftT t y fr = zT := by rw [shiftT, hE, if_neg h1]
    simp -dsimp [hE, hT, zT, cT]
  refine call_of (may_ok y) ?_
  simp -dsimp [h1]
  (first | refine Ask_b ?_ ?_ | refine Cnd_b ?_ ?_) <;> intro h2 <;> (try simp only [nrm] at h2) <;> simp -dsimp [h2, h1]
  · have hE : shiftE t y fr = 1 := by rw [shiftE, if_pos h1, if_neg (by simp [h2])]
    have hT : shiftT t y fr = zT := by rw [shiftT, hE]; rfl
    simp -dsimp [hE, hT, zT, cT]
  refine call_of (may_ok fr) ?_
  simp -dsimp [h1, h2]
  (first | refine Ask_b ?_ ?_ | refine Cnd_b ?_ ?_) <;> intro h3 <;> (try simp only [nrm] at h3) <;> simp -dsimp [h3, h1, h2]
  · have hE : shiftE t y fr = 1 := by rw [shiftE, if_pos h1, if_pos h2, if_neg (by simp [h3])]
    have hT : shiftT t y fr = zT := by rw [shiftT, hE]; rfl
    simp -dsimp [hE, hT, zT, cT]
  have hE : shiftE t y fr = shE fr y t 0 0 := by rw [shiftE, if_pos h1, if_pos h2, if_pos h3]
  refine callM_of (agg_arg (pre := []) (post := [.d (.int .i64 0), .clo n_shift_Shift_1 [.ptr 5 1 0, .ptr 4 1 0, .ptr 8 1 0]]) (map_mut fr y ((inB_iff _ _ _).1 h3) ((inB_iff _ _ _).1 h2) t 0 0 (formed_of h1) (by omega) (by omega))) ?_ ?_
  · simp [shH, h1]
  simp -dsimp [mergeK_cons, mergeK_nil, shH, cT]
  (first | refine Ask_b ?_ ?_ | refine Cnd_b ?_ ?_) <;> intro h4 <;> (try simp only [nrm] at h4) <;> simp -dsimp [h4, h1, h2, h3]
  · have hT : shiftT t y fr = zT := by rw [shiftT, hE, if_neg h4]
    simp -dsimp [hE, hT, zT, cT]
  · have hT : shiftT t y fr = mapT (shF fr y) t 0 := by rw [shiftT, hE, if_pos h4]
    simp -dsimp [hE, h4, hT, cT]
mutual
/-- No variable goes too far. -/
def shB (fr y : Int) : T → Int → Bool
  | .mk k n ks, b => if k = 1 then decide (n < fr + b) || decide (n + y ≤ 65535) else shBL fr y k b 0 ks
def shBL (fr y k b : Int) : Nat → List T → Bool
  | _, [] => true
  | i, x :: xs => shB fr y x (b + bindsM k i) && shBL fr y k b (i + 1) xs
end
theorem shBL_at (fr y k b : Int) : ∀ (l : List T) (i : Nat), shBL fr y k b i l = true ↔ ∀ (j : Nat) (hj : j < l.length), shB fr y l[j] (b + bindsM k (i + j : Nat)) = true
  | [], i => by simp [shBL]
  | x :: xs, i => by
    rw [shBL, Bool.and_eq_true, shBL_at fr y k b xs (i + 1)]
    constructor
    · rintro ⟨h1, h2⟩ j hj
      cases j with
      | zero => simpa using h1
      | succ j =>
        have := h2 j (by simpa using hj)
        simp only [List.getElem_cons_succ]
        have e : (i + (j + 1) : Nat) = i + 1 + j := by omega
        rw [e]; exact this
    · intro h
      have h0 := h 0 (by simp)
      simp only [List.getElem_cons_zero, Nat.add_zero] at h0
      refine ⟨h0, fun j hj => ?_⟩
      have := h (j + 1) (by simpa using hj)
      simp only [List.getElem_cons_succ] at this
      have e : (i + (j + 1) : Nat) = i + 1 + j := by omega
      rw [e] at this; exact this
theorem shE_is (fr y : Int) (t : T) : ∀ b e : Int, (e = 0 ∨ e = 6) → shE fr y t b e = if shB fr y t b = true then e else 6 := by
  refine T.ind (p := fun t => ∀ b e : Int, (e = 0 ∨ e = 6) → shE fr y t b e = if shB fr y t b = true then e else 6) ?_ t
  intro k n ks ih b e he
  rw [shE, shB]
  by_cases h1 : k = 1
  · rw [if_pos h1, if_pos h1, shO]
    by_cases h2 : n < fr + b
    · simp [h2]
    · by_cases h3 : 65535 < n + y
      · have : ¬ n + y ≤ 65535 := by omega
        simp [h2, h3, this]
      · have : n + y ≤ 65535 := by omega
        simp [h2, h3, this]
  · rw [if_neg h1, if_neg h1]
    have go : ∀ (l : List T) (i : Nat) (e : Int), (∀ x ∈ l, x ∈ ks) → (e = 0 ∨ e = 6) → shEL fr y k b i e l = if shBL fr y k b i l = true then e else 6 := by
      intro l
      induction l with
      | nil => intro i e _ _; simp [shEL, shBL]
      | cons x xs ihx =>
        intro i e hm he
        rw [shEL, shBL, ih x (hm x (by simp)) _ e he]
        by_cases h2 : shB fr y x (b + bindsM k i) = true
        · rw [if_pos h2, ihx (i + 1) e (fun z hz => hm z (by simp [hz])) he, h2, Bool.true_and]
        · rw [if_neg h2, ihx (i + 1) 6 (fun z hz => hm z (by simp [hz])) (.inr rfl)]
          simp [h2]
    exact go ks 0 e (fun x hx => hx) he
theorem shift_iff {t : T} {y fr : Int} : shiftE t y fr = 0 ↔ checkM t = 0 ∧ (0 ≤ y ∧ y ≤ 65535) ∧ (0 ≤ fr ∧ fr ≤ 65535) ∧ shB fr y t 0 = true := by
  rw [shiftE, ← inB_iff, ← inB_iff]
  by_cases h1 : checkM t = 0
  · rw [if_pos h1]
    by_cases h2 : inB y 0 65535 = true
    · rw [if_pos h2]
      by_cases h3 : inB fr 0 65535 = true
      · rw [if_pos h3, shE_is fr y t 0 0 (.inl rfl)]
        by_cases h4 : shB fr y t 0 = true
        · simp [h1, h2, h3, h4]
        · simp [h4]
      · rw [if_neg h3]; simp [h3]
    · rw [if_neg h2]; simp [h2]
  · rw [if_neg h1]; simp [h1]
theorem shift_at {t : T} {y fr : Int} (h : shiftE t y fr = 0) : shiftT t y fr = mapT (shF fr y) t 0 := by rw [shiftT, if_pos h]
theorem shift_err {t : T} {y fr : Int} (h : checkM t = 0) (hy : 0 ≤ y ∧ y ≤ 65535) (hf : 0 ≤ fr ∧ fr ≤ 65535) : shiftE t y fr = 0 ∨ shiftE t y fr = 6 := by
  rw [shiftE, if_pos h, if_pos ((inB_iff _ _ _).2 hy), if_pos ((inB_iff _ _ _).2 hf), shE_is fr y t 0 0 (.inl rfl)]
  split
  · exact .inl rfl
  · exact .inr rfl
theorem sh_lo {fr y n b : Int} (h : n < fr + b) : shF fr y n b = .mk 1 n [] := by rw [shF, if_pos h]
theorem sh_hi {fr y n b : Int} (h : fr + b ≤ n) : shF fr y n b = .mk 1 (n + y) [] := by rw [shF, if_neg (by omega)]
theorem sh_nodes {t : T} (h : formedM t = true) (fr y b : Int) : nodes (mapT (shF fr y) t b) = nodes t := same_nodes _ (fun _ _ => leaf_nodes _ _) t h b
theorem sh_depth {t : T} (h : formedM t = true) (fr y b : Int) : depthN (mapT (shF fr y) t b) = depthN t := same_depth _ (fun _ _ => leaf_depth _ _) t h b
theorem sh_formed (fr y : Int) (hy : 0 ≤ y) (t : T) : ∀ b : Int, formedM t = true → shB fr y t b = true → formedM (mapT (shF fr y) t b) = true := by
  refine T.ind (p := fun t => ∀ b : Int, formedM t = true → shB fr y t b = true → formedM (mapT (shF fr y) t b) = true) ?_ t
  intro k n ks ih b hfm hB
  rw [mapT]
  rw [shB] at hB
  by_cases h1 : k = 1
  · have hn := var_formed h1 hfm
    rw [if_pos h1] at hB ⊢
    simp only [Bool.or_eq_true, decide_eq_true_eq] at hB
    by_cases h2 : n < fr + b
    · rw [sh_lo h2]; exact var_is_formed hn
    · rw [sh_hi (by omega)]; exact var_is_formed (by omega)
  · rw [if_neg h1] at hB ⊢
    refine formed_node h1 hfm fun j hj => ?_
    have := (shBL_at fr y k b ks 0).1 hB j hj
    rw [Nat.zero_add] at this
    exact ih ks[j] (List.getElem_mem _) _ (kids_formed hfm _ (List.getElem_mem _)) this
theorem shift_right {t : T} {y fr : Int} (hn : nodes t ≤ 1048576) (h : shiftE t y fr = 0) : checkM (shiftT t y fr) = 0 ∧ formedM (shiftT t y fr) = true ∧ nodes (shiftT t y fr) = nodes t := by
  obtain ⟨h1, h2, h3, h4⟩ := shift_iff.1 h
  have hf := formed_of h1
  have hc := (check_iff hn).1 h1
  rw [shift_at h]
  have a1 := sh_nodes hf fr y 0
  have a2 := sh_depth hf fr y 0
  have a3 := sh_formed fr y h2.1 t 0 hf h4
  exact ⟨(check_iff (by omega)).2 ⟨by omega, by omega, a3⟩, a3, a1⟩
/-- Moved and moved again, at the same place. -/
theorem mv_mv0 (t : T) (hf : formedM t = true) (j k i : Int) (hj : 0 ≤ j) (hj' : j ≤ 4194304) (hk : 0 ≤ k) (hk' : k ≤ 4194304) (hi : 0 ≤ i) (hi' : i + nodes t ≤ 4194304) : mapT (mv k) (mapT (mv j) t i) i = mapT (mv (j + k)) t i := by
  have := map_map (mv k) (mv j) (mv (j + k)) 0 (fun n b h1 h2 h3 h4 => by
    rw [Int.add_zero]
    by_cases c : n < b
    · rw [mv_lo c, map_var, mv_lo c, mv_lo c]
    · rw [mv_hi (by omega) h1 (by omega) hj (by omega), map_var, mv_hi (by omega) (by omega) (by omega) hk (by omega), mv_hi (by omega) h1 (by omega) (by omega) (by omega)]
      congr 1
      omega) t i hf hi (by omega)
  rwa [Int.add_zero] at this
theorem sh_mv {y : Int} (hy : 0 ≤ y) (hy' : y ≤ 65535) (t : T) (hf : formedM t = true) (b : Int) (hb : 0 ≤ b) (hb' : b + nodes t ≤ 4194304) : mapT (shF 0 y) t b = mapT (mv y) t b :=
  map_congr (shF 0 y) (mv y) (fun n b h1 h2 h3 h4 => by
    by_cases c : n < b
    · rw [mv_lo c, sh_lo (by omega)]
    · rw [mv_hi (by omega) h1 (by omega) hy (by omega), sh_hi (by omega)]) t b hf hb hb'
/-- The same moved down by what is put in further out. -/
theorem shifts_core (a t : T) (ha : formedM a = true) (hf : formedM t = true) (y : Int) (hy : 0 ≤ y) (hy' : y ≤ 65535) (ht : nodes t ≤ 1048576) (han : nodes a ≤ 1048576) :
    mapT (instF [mapT (shF 0 y) a 0] 0) (mapT (shF 1 y) t 0) 0 = mapT (shF 0 y) (mapT (instF [a] 0) t 0) 0 := by
  have h1 := map_map (instF [mapT (shF 0 y) a 0] 0) (shF 1 y) (fun n b => mapT (instF [mapT (shF 0 y) a 0] 0) (shF 1 y n b) (b + 0)) 0 (fun _ _ _ _ _ _ => rfl) t 0 hf (by omega) (by omega)
  have h2 := map_map (shF 0 y) (instF [a] 0) (fun n b => mapT (shF 0 y) (instF [a] 0 n b) (b + 0)) 0 (fun _ _ _ _ _ _ => rfl) t 0 hf (by omega) (by omega)
  rw [Int.add_zero] at h1 h2
  rw [h1, h2]
  have go : ∀ (t : T) (b : Int), formedM t = true → 0 ≤ b → b + nodes t ≤ 1048576 → mapT (fun n b => mapT (instF [mapT (shF 0 y) a 0] 0) (shF 1 y n b) (b + 0)) t b = mapT (fun n b => mapT (shF 0 y) (instF [a] 0 n b) (b + 0)) t b := by
    intro t
    refine T.ind (p := fun t => ∀ b : Int, formedM t = true → 0 ≤ b → b + nodes t ≤ 1048576 → mapT (fun n b => mapT (instF [mapT (shF 0 y) a 0] 0) (shF 1 y n b) (b + 0)) t b = mapT (fun n b => mapT (shF 0 y) (instF [a] 0 n b) (b + 0)) t b) ?_ t
    intro kd n ks ih b hfm h0 hb
    rw [mapT, mapT]
    by_cases c1 : kd = 1
    · have hn := var_formed c1 hfm
      rw [if_pos c1, if_pos c1, Int.add_zero]
      rcases Int.lt_trichotomy n b with c | c | c
      · rw [sh_lo (by omega), map_var, one_lo c, one_lo c, map_var, sh_lo (by omega)]
      · subst c
        have hm := moved_nodes ha n
        rw [moved_is] at hm
        rw [sh_lo (by omega), map_var, one_at (by omega) (by omega), one_at (by omega) (by omega), sh_mv hy hy' a ha 0 (by omega) (by omega)]
        have e1 := mv_mv0 a ha y n 0 hy (by omega) hn.1 (by omega) (by omega) (by omega)
        have e2 := mv_mv a ha n y 0 hn.1 (by omega) hy (by omega) (by omega) (by omega)
        have e3 : mapT (shF 0 y) (mapT (mv n) a 0) n = mapT (mv y) (mapT (mv n) a 0) n := by
          have q := map_map (shF 0 y) (mv n) (mv (n + y)) n (fun m b h1 h2 h3 h4 => by
            by_cases c : m < b
            · rw [mv_lo c, map_var, sh_lo (by omega), mv_lo c]
            · rw [mv_hi (by omega) h1 (by omega) hn.1 (by omega), map_var, sh_hi (by omega), mv_hi (by omega) h1 (by omega) (by omega) (by omega)]
              congr 1
              omega) a 0 ha (by omega) (by omega)
          rw [Int.zero_add] at q e2
          rw [q, e2]
        rw [Int.zero_add] at e2
        rw [e1, e3, e2, Int.add_comm y n]
      · rw [sh_hi (by omega), map_var, one_hi (by omega) (by omega) (by omega), one_hi c (by omega) h0, map_var, sh_hi (by omega)]
        congr 1
        omega
    · rw [if_neg c1, if_neg c1]
      congr 1
      have go2 : ∀ (xs : List T) (i : Nat), (∀ x ∈ xs, x ∈ ks) → mapL (fun n b => mapT (instF [mapT (shF 0 y) a 0] 0) (shF 1 y n b) (b + 0)) kd b i xs = mapL (fun n b => mapT (shF 0 y) (instF [a] 0 n b) (b + 0)) kd b i xs := by
        intro xs
        induction xs with
        | nil => intro i _; simp [mapL]
        | cons x xs ihx =>
          intro i hm
          have hbl := binds_le kd i
          have hnk := nodes_kid (k := kd) (n := n) (hm x (by simp))
          rw [mapL, mapL, ih x (hm x (by simp)) _ (kids_formed hfm x (hm x (by simp))) (by omega) (by omega), ihx (i + 1) fun z hz => hm z (by simp [hz])]
      exact go2 ks 0 fun x hx => hx
  exact go t 0 hf (by omega) (by omega)
end Ev
end Go.Proofs.YtncmainjcffanaaGreat
