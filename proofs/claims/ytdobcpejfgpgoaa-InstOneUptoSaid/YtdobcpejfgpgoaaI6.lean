/- Substitution, in plain terms: what is reckoned ahead is the size and depth of what comes of it. -/
import Derived.Test.YtdobcpejfgpgoaaI5
namespace Go.Proofs.Ytdobcpejfgpgoaa
namespace Ev
open Go
set_option linter.unusedSimpArgs false
set_option linter.unusedVariables false

theorem w64_id {n : Int} (h1 : -9223372036854775808 ≤ n) (h2 : n < 9223372036854775808) : w64 n = n := wrap_id h1 (by omega)
def dmax (l : List Nat) : Nat := l.foldr max 0
def depthN : T → Nat | .mk _ _ ks => dmax (ks.map depthN) + 1
theorem mx_eq (a b : Int) : mx a b = max a b := by rw [mx]; split <;> omega
theorem mn_eq (a b : Int) : mn a b = min a b := by rw [mn]; split <;> omega

theorem foldl_sum : ∀ (l : List T) (a : Int), 0 ≤ a → a + (l.map nodes).sum ≤ 1099511627776 → (∀ x ∈ l, sizeM x = nodes x) → (l.map sizeM).foldl (fun a s => w64 (a + s)) a = a + (l.map nodes).sum
  | [], a, _, _, _ => by simp
  | x :: xs, a, h0, hb, h => by
    have hx := h x (by simp)
    simp only [List.map_cons, List.foldl_cons, List.sum_cons] at hb ⊢
    rw [hx, w64_id (by omega) (by omega), foldl_sum xs (a + nodes x) (by omega) (by omega) fun y hy => h y (by simp [hy])]
    omega
theorem size_is (t : T) : nodes t ≤ 1099511627776 → sizeM t = nodes t := by
  refine T.ind (p := fun t => nodes t ≤ 1099511627776 → sizeM t = nodes t) ?_ t
  intro k n ks ih hb
  have hk : ∀ x ∈ ks, sizeM x = nodes x := fun x hx => ih x hx (by have := nodes_kid (k := k) (n := n) hx; omega)
  rw [nodes] at hb
  rw [sizeM, foldl_sum ks 1 (by omega) (by omega) hk, nodes]
  omega
theorem dmax_mem {l : List Nat} {x : Nat} (h : x ∈ l) : x ≤ dmax l := by
  induction l with
  | nil => cases h
  | cons y l ih =>
    simp only [dmax, List.foldr_cons] at ih ⊢
    rcases List.mem_cons.1 h with rfl | h
    · omega
    · have := ih h; omega
theorem dmax_le {l : List Nat} {m : Nat} (h : ∀ x ∈ l, x ≤ m) : dmax l ≤ m := by
  induction l with
  | nil => simp [dmax]
  | cons y l ih =>
    have h1 := h y (by simp)
    have h2 := ih fun x hx => h x (by simp [hx])
    simp only [dmax, List.foldr_cons] at h2 ⊢
    omega
theorem depth_le (t : T) : depthN t ≤ nodes t := by
  refine T.ind (p := fun t => depthN t ≤ nodes t) ?_ t
  intro k n ks ih
  rw [depthN, nodes]
  have : dmax (ks.map depthN) ≤ (ks.map nodes).sum := dmax_le fun x hx => by
    obtain ⟨y, hy, rfl⟩ := List.mem_map.1 hx
    have := sum_mem (List.mem_map.2 ⟨y, hy, rfl⟩ : nodes y ∈ ks.map nodes)
    have := ih y hy
    omega
  omega
theorem foldl_dmax : ∀ (l : List T) (a : Int), 0 ≤ a → (∀ x ∈ l, depthM x = depthN x) → (l.map depthM).foldl mx a = max a (dmax (l.map depthN))
  | [], a, h0, _ => by simp [dmax]; omega
  | x :: xs, a, h0, h => by
    have hx := h x (by simp)
    simp only [List.map_cons, List.foldl_cons, dmax, List.foldr_cons]
    rw [hx, mx_eq, foldl_dmax xs _ (by omega) fun y hy => h y (by simp [hy])]
    simp only [dmax]
    omega
theorem depth_is (t : T) : nodes t ≤ 1099511627776 → depthM t = depthN t := by
  refine T.ind (p := fun t => nodes t ≤ 1099511627776 → depthM t = depthN t) ?_ t
  intro k n ks ih hb
  have hk : ∀ x ∈ ks, depthM x = depthN x := fun x hx => ih x hx (by have := nodes_kid (k := k) (n := n) hx; omega)
  have hd := depth_le (.mk k n ks)
  rw [depthN] at hd
  rw [depthM, foldl_dmax ks 0 (by omega) hk, depthN, w64_id (by omega) (by omega)]
  omega

theorem leaf_nodes (k n : Int) : nodes (.mk k n []) = 1 := by rw [nodes]; rfl
theorem leaf_depth (k n : Int) : depthN (.mk k n []) = 1 := by rw [depthN]; rfl
/-- Sizes and depths of what is moved stay. -/
theorem mapL_map (f : Int → Int → T) (k b : Int) (g : T → Nat) : ∀ (l : List T) (i : Nat), (∀ x ∈ l, ∀ c, g (mapT f x c) = g x) → (mapL f k b i l).map g = l.map g
  | [], i, _ => by simp [mapL]
  | x :: xs, i, h => by
    simp only [mapL, List.map_cons]
    rw [h x (by simp) _, mapL_map f k b g xs (i + 1) fun y hy => h y (by simp [hy])]
theorem var_leaf {k n : Int} {ks : List T} (h1 : k = 1) (hfm : formedM (.mk k n ks) = true) : ks = [] := by
  rw [formedM_is, h1] at hfm
  have h0 : kidsM 1 = 0 := rfl
  rw [h0] at hfm
  split at hfm
  · exact List.length_eq_zero_iff.1 (by omega)
  · cases hfm
theorem same_nodes (f : Int → Int → T) (hf : ∀ n b, nodes (f n b) = 1) (t : T) : formedM t = true → ∀ b, nodes (mapT f t b) = nodes t := by
  refine T.ind (p := fun t => formedM t = true → ∀ b, nodes (mapT f t b) = nodes t) ?_ t
  intro k n ks ih hfm b
  rw [mapT]
  by_cases h1 : k = 1
  · rw [if_pos h1, hf, var_leaf h1 hfm, leaf_nodes]
  · rw [if_neg h1, nodes, nodes, mapL_map f k b nodes ks 0 fun x hx c => ih x hx (kids_formed hfm x hx) c]
theorem same_depth (f : Int → Int → T) (hf : ∀ n b, depthN (f n b) = 1) (t : T) : formedM t = true → ∀ b, depthN (mapT f t b) = depthN t := by
  refine T.ind (p := fun t => formedM t = true → ∀ b, depthN (mapT f t b) = depthN t) ?_ t
  intro k n ks ih hfm b
  rw [mapT]
  by_cases h1 : k = 1
  · rw [if_pos h1, hf, var_leaf h1 hfm, leaf_depth]
  · rw [if_neg h1, depthN, depthN, mapL_map f k b depthN ks 0 fun x hx c => ih x hx (kids_formed hfm x hx) c]
theorem moved_nodes {a : T} (h : formedM a = true) (y : Int) : nodes (movedT y a) = nodes a := same_nodes _ (fun _ _ => leaf_nodes _ _) a h 0
theorem moved_depth {a : T} (h : formedM a = true) (y : Int) : depthN (movedT y a) = depthN a := same_depth _ (fun _ _ => leaf_depth _ _) a h 0

/-- A shift goes too far. -/
def overB (a : T) (c : Int) : Bool := decide (0 ≤ freeT a 0) && decide (65535 < freeT a 0 + c)
mutual
def scI (l : List T) (u : Int) : T → Int → Bool
  | .mk k n ks, b => if k = 1 then (match (if 0 ≤ whichT l.length u n b then l[(whichT l.length u n b).toNat]? else none) with | some a => overB a (u + b) | none => false) else scL l u k b 0 ks
def scL (l : List T) (u k b : Int) : Nat → List T → Bool
  | _, [] => false
  | i, x :: xs => scI l u x (b + bindsM k i) || scL l u k b (i + 1) xs
end
theorem free_le (t : T) : formedM t = true → ∀ b, -1 ≤ freeT t b ∧ freeT t b ≤ 65535 := by
  refine T.ind (p := fun t => formedM t = true → ∀ b, -1 ≤ freeT t b ∧ freeT t b ≤ 65535) ?_ t
  intro k n ks ih hfm b
  rw [freeT]
  have h0 : -1 ≤ (if k = 1 ∧ b ≤ n then n else -1) ∧ (if k = 1 ∧ b ≤ n then n else -1) ≤ 65535 := by
    split
    · rename_i h
      have := var_formed h.1 hfm
      omega
    · omega
  have hk := kids_formed hfm
  generalize (if k = 1 ∧ b ≤ n then n else -1) = a at h0
  have go : ∀ (l : List T) (i : Nat) (a : Int), (∀ x ∈ l, formedM x = true → ∀ b, -1 ≤ freeT x b ∧ freeT x b ≤ 65535) → (∀ x ∈ l, formedM x = true) → -1 ≤ a ∧ a ≤ 65535 → -1 ≤ freeL k b i a l ∧ freeL k b i a l ≤ 65535 := by
    intro l
    induction l with
    | nil => intro i a _ _ h; simpa [freeL] using h
    | cons x xs ihx =>
      intro i a h1 h2 h3
      rw [freeL]
      have hx := h1 x (by simp) (h2 x (by simp)) (b + bindsM k i)
      refine ihx (i + 1) _ (fun y hy => h1 y (by simp [hy])) (fun y hy => h2 y (by simp [hy])) ?_
      rw [mx_eq]
      omega
  exact go ks 0 a ih hk h0

theorem inst_depth (l : List T) (u : Int) (hl : ∀ x ∈ l, formedM x = true ∧ nodes x ≤ 1048576) (t : T) : ∀ b, depthN (mapT (instF l u) t b) ≤ depthN t + 1048576 := by
  refine T.ind (p := fun t => ∀ b, depthN (mapT (instF l u) t b) ≤ depthN t + 1048576) ?_ t
  intro k n ks ih b
  rw [mapT]
  by_cases h1 : k = 1
  · rw [if_pos h1, instF]
    have hz : depthN zT = 1 := leaf_depth 0 0
    split
    · split
      · rename_i a ha
        obtain ⟨h2, h3⟩ := hl a (List.mem_of_getElem? ha)
        rw [moved_depth h2]
        have := depth_le a
        omega
      · rw [hz]; omega
    · rw [leaf_depth]; omega
  · rw [if_neg h1, depthN, depthN]
    have go : ∀ (xs : List T) (i : Nat), (∀ x ∈ xs, x ∈ ks) → dmax ((mapL (instF l u) k b i xs).map depthN) ≤ dmax (xs.map depthN) + 1048576 := by
      intro xs
      induction xs with
      | nil => intro i _; simp [mapL, dmax]
      | cons x xs ihx =>
        intro i hm
        have h2 := ih x (hm x (by simp)) (b + bindsM k i)
        have h3 := ihx (i + 1) fun y hy => hm y (by simp [hy])
        simp only [mapL, List.map_cons, dmax, List.foldr_cons] at h3 ⊢
        omega
    have := go ks 0 fun x hx => hx
    omega

theorem look_is (l : List T) (u : Int) (hu : 0 ≤ u ∧ u ≤ 65535) (hl : ∀ x ∈ l, formedM x = true ∧ nodes x ≤ 1048576) (t : T) : ∀ (b d : Int) (st : St3), formedM t = true → 0 ≤ b → b + nodes t ≤ 2097152 → 0 ≤ d → d + nodes t ≤ 2097152 →
    0 ≤ st.sz → st.sz ≤ mostI → 0 ≤ st.dp → st.dp ≤ 1099511627776 →
    lookT (l.map agOf) u t b d st = ⟨st.sc || scI l u t b, min (st.sz + nodes (mapT (instF l u) t b)) mostI, max st.dp (d + depthN (mapT (instF l u) t b))⟩ := by
  refine T.ind (p := fun t => ∀ (b d : Int) (st : St3), formedM t = true → 0 ≤ b → b + nodes t ≤ 2097152 → 0 ≤ d → d + nodes t ≤ 2097152 →
    0 ≤ st.sz → st.sz ≤ mostI → 0 ≤ st.dp → st.dp ≤ 1099511627776 →
    lookT (l.map agOf) u t b d st = ⟨st.sc || scI l u t b, min (st.sz + nodes (mapT (instF l u) t b)) mostI, max st.dp (d + depthN (mapT (instF l u) t b))⟩) ?_ t
  intro k n ks ih b d st hfm hb0 hb hd0 hd hs0 hs1 hp0 hp1
  have hM : mostI = 1099511627776 := rfl
  have hn1 : 1 ≤ nodes (.mk k n ks) := by rw [nodes]; omega
  by_cases h1 : k = 1
  · have hks := var_leaf h1 hfm
    have hn := var_formed h1 hfm
    subst h1 hks
    rw [lookT, if_pos rfl, scI, if_pos rfl, mapT, if_pos rfl, instF, List.length_map]
    by_cases hW : 0 ≤ whichT l.length u n b
    · have hlt : (whichT l.length u n b).toNat < l.length := by
        have h2 := hW
        rw [whichT] at h2 ⊢
        split at h2
        · omega
        · rename_i h3
          rw [if_neg h3]
          omega
      have hx := hl _ (List.getElem_mem hlt)
      generalize hw : (whichT l.length u n b).toNat = m at hlt hx
      have hfr := free_le l[m] hx.1 0
      rw [if_pos hW, if_pos hW, if_pos hW, List.getElem?_map, List.getElem?_eq_getElem hlt]
      simp only [Option.map_some, agOf]
      rw [size_is _ (by omega), depth_is _ (by omega), moved_nodes hx.1, moved_depth hx.1]
      have hdl := depth_le l[m]
      rw [w64_id (n := st.sz + _) (by omega) (by omega), w64_id (n := d + _) (by omega) (by omega), mn_eq, mx_eq, hM, w64_id (n := freeT l[m] 0 + u) (by omega) (by omega), w64_id (n := freeT l[m] 0 + u + b) (by omega) (by omega)]
      congr 1
      rw [overB]
      have e : freeT l[m] 0 + u + b = freeT l[m] 0 + (u + b) := by omega
      rw [e]
      cases st.sc
      · by_cases h4 : 0 ≤ freeT l[m] 0 <;> simp [h4]
      · simp
    · rw [if_neg hW, if_neg hW, if_neg hW]
      simp only [leaf_nodes, leaf_depth]
      rw [w64_id (by omega) (by omega), w64_id (by omega) (by omega), mn_eq, mx_eq, hM]
      simp
  · have hkf := kids_formed hfm
    rw [lookT, if_neg h1, scI, if_neg h1, mapT, if_neg h1, nodes, depthN]
    have hnn : nodes (.mk k n ks) = (ks.map nodes).sum + 1 := by rw [nodes]
    have go : ∀ (xs : List T) (i : Nat) (st : St3), (∀ x ∈ xs, x ∈ ks) → 0 ≤ st.sz → st.sz ≤ mostI → d + 1 ≤ st.dp → st.dp ≤ 1099511627776 →
        lookL (l.map agOf) u k b d i st xs = ⟨st.sc || scL l u k b i xs, min (st.sz + ((mapL (instF l u) k b i xs).map nodes).sum) mostI, max st.dp (d + 1 + dmax ((mapL (instF l u) k b i xs).map depthN))⟩ := by
      intro xs
      induction xs with
      | nil =>
        intro i st _ a0 a1 a2 a3
        simp only [lookL, scL, mapL, List.map_nil, List.sum_nil, dmax, List.foldr_nil]
        obtain ⟨sc, sz, dp⟩ := st
        simp only [Bool.or_false, St3.mk.injEq, true_and]
        simp only at a0 a1 a2 a3
        omega
      | cons x xs ihx =>
        intro i st hmem a0 a1 a2 a3
        have hxk := hmem x (by simp)
        have hxn := nodes_kid (k := k) (n := n) hxk
        have hbl := binds_le k i
        rw [lookL, w64_id (n := d + 1) (by omega) (by omega), ih x hxk (b + bindsM k i) (d + 1) st (hkf x hxk) (by omega) (by omega) (by omega) (by omega) a0 a1 (by omega) a3]
        have hdx := depth_le x
        rw [ihx (i + 1) _ (fun y hy => hmem y (by simp [hy])) (by simp only; omega) (by simp only; omega) (by simp only; omega) ?_]
        · simp only [scL, mapL, List.map_cons, List.sum_cons, dmax, List.foldr_cons, Bool.or_assoc, St3.mk.injEq, true_and]
          omega
        · simp only
          have := inst_depth l u hl x (b + bindsM k i)
          omega
    have hg := go ks 0 ⟨st.sc, mn (w64 (st.sz + 1)) mostI, mx st.dp (w64 (d + 1))⟩ (fun x hx => hx) (by simp only; rw [w64_id (by omega) (by omega), mn_eq]; omega) (by simp only; rw [mn_eq]; omega) (by simp only; rw [w64_id (by omega) (by omega), mx_eq]; omega)
      (by simp only; rw [w64_id (by omega) (by omega), mx_eq]; omega)
    rw [hg]
    simp only [St3.mk.injEq, true_and]
    rw [w64_id (n := st.sz + 1) (by omega) (by omega), w64_id (n := d + 1) (by omega) (by omega), mn_eq, mx_eq]
    omega
/-- What is reckoned ahead. -/
theorem openSt_is {t : T} {l : List T} {u : Int} (h : openE t l u = 0) (ht : nodes t ≤ 1048576) (hl : ∀ x ∈ l, nodes x ≤ 1048576) :
    openSt t l u = ⟨scI l u t 0, min (nodes (mapT (instF l u) t 0) : Int) mostI, depthN (mapT (instF l u) t 0)⟩ := by
  obtain ⟨f1, f2, f3⟩ := openE_facts h
  rw [openSt, look_is l u f3 (fun x hx => ⟨f2 x hx, hl x hx⟩) t 0 0 st0 f1 (by omega) (by omega) (by omega) (by omega) (by simp [st0]) (by simp [st0, mostI]) (by simp [st0]) (by simp [st0])]
  simp only [st0, Bool.false_or, St3.mk.injEq, true_and]
  omega
/-- Put in, all is right. -/
theorem inst_iff {t : T} {l : List T} {u : Int} (ht : nodes t ≤ 1048576) (hl : ∀ x ∈ l, nodes x ≤ 1048576) :
    instE t l u = 0 ↔ openE t l u = 0 ∧ scI l u t 0 = false ∧ nodes (mapT (instF l u) t 0) ≤ 6000 ∧ depthN (mapT (instF l u) t 0) ≤ 200 := by
  have hM : mostI = 1099511627776 := rfl
  rw [instE]
  by_cases h : openE t l u = 0
  · rw [if_pos h, openSt_is h ht hl]
    simp only
    cases scI l u t 0 with
    | true => simp
    | false =>
      simp only [Bool.false_eq_true, if_false, true_and, h]
      by_cases h1 : (6000 : Int) < min (nodes (mapT (instF l u) t 0) : Int) mostI
      · rw [if_pos h1]
        constructor
        · intro h; cases h
        · omega
      · rw [if_neg h1]
        by_cases h2 : (200 : Int) < depthN (mapT (instF l u) t 0)
        · rw [if_pos h2]
          constructor
          · intro h; cases h
          · omega
        · rw [if_neg h2]
          constructor
          · intro _; omega
          · intro _; rfl
  · rw [if_neg h]
    constructor
    · intro h'; exact absurd h' h
    · rintro ⟨h', _⟩; exact absurd h' h
theorem inst_at {t : T} {l : List T} {u : Int} (h : instE t l u = 0) : instT t l u = mapT (instF l u) t 0 := by rw [instT, if_pos h]
end Ev
end Go.Proofs.Ytdobcpejfgpgoaa
