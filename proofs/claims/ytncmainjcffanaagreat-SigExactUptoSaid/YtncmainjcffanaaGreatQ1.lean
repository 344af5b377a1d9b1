/- Substitution: what comes of it. -/
import Derived.Test.YtncmainjcffanaaGreatSA
namespace Go.Proofs.YtncmainjcffanaaGreat
namespace Ev
open Go
set_option maxRecDepth 100000
set_option linter.unusedSimpArgs false
set_option linter.unusedVariables false
attribute [local simp] allD_map_d sks_map_d tk tn tks initA EndsM
mutual
def mapT (f : Int → Int → T) : T → Int → T
  | .mk k n ks, b => if k = 1 then f n b else .mk k n (mapL f k b 0 ks)
def mapL (f : Int → Int → T) (k b : Int) : Nat → List T → List T
  | _, [] => []
  | i, x :: xs => mapT f x (b + bindsM k i) :: mapL f k b (i + 1) xs
end
theorem mapL_len (f : Int → Int → T) (k b : Int) : ∀ (l : List T) (i : Nat), (mapL f k b i l).length = l.length
  | [], i => by simp [mapL]
  | x :: xs, i => by simp [mapL, mapL_len f k b xs (i + 1)]
theorem mapL_get (f : Int → Int → T) (k b : Int) : ∀ (l : List T) (i j : Nat) (h : j < l.length), (mapL f k b i l)[j]'(by rw [mapL_len]; exact h) = mapT f l[j] (b + bindsM k (i + j : Nat))
  | x :: xs, i, 0, h => by simp [mapL]
  | x :: xs, i, j + 1, h => by
    have := mapL_get f k b xs (i + 1) j (by simpa using h)
    simp only [mapL, List.getElem_cons_succ]
    rw [this]
    congr 3
    omega
theorem map_ok (f : Int → Int → T) (g : FuncId) (caps : List D) (hf : ∀ n b : Int, 0 ≤ n → n ≤ 65535 → 0 ≤ b → b ≤ 1099511627776 → Pure Tryz.prog g (.int .i64 n :: .int .i64 b :: caps) [.agg (cT (f n b))]) (t : T) : ∀ b : Int, formedM t = true → 0 ≤ b → b + nodes t ≤ 1099511627776 →
    Pure Tryz.prog n_term_Map [.agg (cT t), .int .i64 b, .clo g caps] [.agg (cT (mapT f t b))] := by
  refine T.ind (p := fun t => ∀ b : Int, formedM t = true → 0 ≤ b → b + nodes t ≤ 1099511627776 → Pure Tryz.prog n_term_Map [.agg (cT t), .int .i64 b, .clo g caps] [.agg (cT (mapT f t b))]) ?_ t
  intro k n ks ih b hfm h0 hb
  obtain ⟨hl, _⟩ := (slim_of _ hfm).kids
  have hsk := kids_formed hfm
  refine p_term_Map rfl fun hs => ?_
  simp -dsimp [x_term_Map, cT]
  (first | refine Ask_b ?_ ?_ | refine Cnd_b ?_ ?_) <;> intro h1 <;> (try simp only [nrm] at h1) <;> simp -dsimp [h1]
  · have hn := var_formed h1 hfm
    refine call_of (hf n b hn.1 hn.2 h0 (by omega)) ?_
    rw [mapT, if_pos h1]
    simp -dsimp [h1, cT]
  have hM : mapT f (.mk k n ks) b = .mk k n (mapL f k b 0 ks) := by rw [mapT, if_neg h1]
  rw [hM]
  by_cases hz : ks = []
  · subst hz
    simp -dsimp [h1, mapL]
  simp -dsimp [h1, hz]
  have r1 : (ks.length : Int) * 40 ≤ (maxRoom : Int) := by simp only [maxRoom]; omega
  have r2 : ks.length ≤ maxRoom := by simp only [maxRoom]; omega
  have hll : (mapL f k b 0 ks).length = ks.length := mapL_len f k b ks 0
  simp -dsimp [h1, hz, r1, r2]
  refine wp_upto ks.length (fun i st => st.s 3 = .ptr 3 1 0 ∧ st.h 3 = ⟨1, .box [.d (.int .i64 k), .d (.int .i64 n), .d (.sl 3 (ks.map eT))] false⟩ ∧ st.s 1 = .d (.int .i64 b) ∧ st.s 2 = .d (.clo g caps) ∧
    st.s 6 = .ptr 6 1 0 ∧ st.h 6 = ⟨1, .box [.d (.int .i64 0), .d (.int .i64 0), .fsl 3 []] false⟩ ∧ st.s 7 = .rsl 27 1 ∧ st.s 29 = .d (.sl 3 (ks.map eT)) ∧ st.s 30 = .d (.int .i64 ks.length) ∧ st.s 31 = .d (.int .i64 i) ∧
    st.h 27 = ⟨1, .row 3 (((mapL f k b 0 ks).map eT).take i ++ List.replicate (ks.length - i) (D.agg [.int .i64 0, .int .i64 0, .sl 3 []])) false⟩) ?_ ?_
  · simp -dsimp
  · rintro i ⟨s, hp⟩ hi ⟨g1, g2, g3, g4, g5, g6, g7, g8, g9, g10, g11⟩
    dsimp only at g1 g2 g3 g4 g5 g6 g7 g8 g9 g10 g11
    rcases Nat.lt_or_ge i ks.length with hlt | hge
    · have w1 : IntKind.i64.wrap ((i : Int) + 1) = (i : Int) + 1 := wrap_id (by omega) (by omega)
      have hbl := binds_le k i
      have hnk := nodes_kid (k := k) (n := n) (List.getElem_mem hlt : ks[i] ∈ ks)
      have w2 : IntKind.i64.wrap (b + bindsM k i) = b + bindsM k i := wrap_id (by omega) (by omega)
      simp -dsimp [g1, g2, g3, g4, g5, g6, g7, g8, g9, g10, g11, hlt, cT]
      refine call_of (binds_ok k i) ?_
      simp -dsimp [g1, g2, g3, g4, g5, g6, g7, g8, g9, g10, g11, hlt, w2]
      refine call_of (ih ks[i] (List.getElem_mem _) (b + bindsM k i) (hsk _ (List.getElem_mem _)) (by omega) (by omega)) ?_
      have q1 : (i : Int) < ((min i ks.length : Nat) : Int) + ((ks.length - i : Nat) : Int) := by omega
      have q2 : i < min i ks.length + (ks.length - i) := by omega
      have hle : ((mapL f k b 0 ks).map eT).length = ks.length := by rw [List.length_map, hll]
      have hfn := fill_next (l := (mapL f k b 0 ks).map eT) (z := D.agg [.int .i64 0, .int .i64 0, .sl 3 []]) (i := i) (by rw [hle]; exact hlt)
      have hel : ((mapL f k b 0 ks).map eT)[i]'(by rw [hle]; exact hlt) = .agg (cT (mapT f ks[i] (b + bindsM k i))) := by
        rw [List.getElem_map, mapL_get f k b ks 0 i hlt, eT_eq, Nat.zero_add]
      rw [hel, hle] at hfn
      simp only [cT] at hfn
      simp -dsimp [g1, g2, g3, g4, g5, g6, g7, g8, g9, g10, g11, hlt, w1, w2, hll, q1, q2, cT, hfn]
    · have e : i = ks.length := by omega
      subst e
      have ht : ((mapL f k b 0 ks).map eT).take ks.length = (mapL f k b 0 ks).map eT := List.take_of_length_le (by rw [List.length_map, hll]; exact Nat.le_refl _)
      rw [ht, Nat.sub_self, List.replicate_zero, List.append_nil] at g11
      simp -dsimp [g1, g2, g3, g4, g5, g6, g7, g8, g9, g10, g11]
def movedT (y : Int) (t : T) : T := mapT (fun n b => .mk 1 (if b ≤ n then w64 (n + y) else n) []) t 0
theorem moved1_ok (n b y : Int) : Pure Tryz.prog n_subst_moved_1 [.int .i64 n, .int .i64 b, .rp [.int .i64 y]] [.agg (cT (.mk 1 (if b ≤ n then w64 (n + y) else n) []))] := by
  refine p_subst_moved_1 rfl fun hs => ?_
  simp -dsimp [x_subst_moved_1]
  (first | refine Ask_b ?_ ?_ | refine Cnd_b ?_ ?_) <;> intro h1 <;> (try simp only [nrm] at h1) <;> simp -dsimp [h1, w64]
  · refine call_of (v_ok _) ?_
    simp -dsimp [h1, w64, cT]
  · refine call_of (v_ok _) ?_
    simp -dsimp [h1, cT]
theorem moved_ok (t : T) (y : Int) (hs : formedM t = true) (hn : nodes t ≤ 1099511627776) : Pure Tryz.prog n_subst_moved [.agg (cT t), .int .i64 y] [.agg (cT (movedT y t))] := by
  refine p_subst_moved rfl fun hs' => ?_
  simp -dsimp [x_subst_moved, cT]
  refine call_of (map_ok (fun n b => .mk 1 (if b ≤ n then w64 (n + y) else n) []) n_subst_moved_1 [.rp [.int .i64 y]] (fun n b _ _ _ _ => moved1_ok n b y) t 0 hs (by omega) (by omega)) ?_
  simp -dsimp [movedT, cT]
mutual
def freeT : T → Int → Int
  | .mk k n ks, b => freeL k b 0 (if k = 1 ∧ b ≤ n then n else -1) ks
def freeL (k b : Int) : Nat → Int → List T → Int
  | _, a, [] => a
  | i, a, x :: xs => freeL k b (i + 1) (mx a (freeT x (b + bindsM k i))) xs
end
theorem freeL_snoc (k b : Int) : ∀ (l : List T) (i : Nat) (a : Int) (j : Nat) (h : j < l.length), freeL k b i a (l.take (j + 1)) = mx (freeL k b i a (l.take j)) (freeT l[j] (b + bindsM k (i + j : Nat)))
  | x :: xs, i, a, 0, h => by simp [freeL]
  | x :: xs, i, a, j + 1, h => by
    simp only [List.take_succ_cons, freeL, List.getElem_cons_succ]
    rw [freeL_snoc k b xs (i + 1) _ j (by simpa using h)]
    congr 4
    omega
theorem free_ok (t : T) : ∀ b : Int, 0 ≤ b → b + nodes t ≤ 1099511627776 → Pure Tryz.prog n_subst_free [.agg (cT t), .int .i64 b] [.int .i64 (freeT t b)] := by
  refine T.ind (p := fun t => ∀ b : Int, 0 ≤ b → b + nodes t ≤ 1099511627776 → Pure Tryz.prog n_subst_free [.agg (cT t), .int .i64 b] [.int .i64 (freeT t b)]) ?_ t
  intro k n ks ih b h0 hb
  refine p_subst_free rfl fun hs => ?_
  have hl := kids_small (t := .mk k n ks) (fun d hd => hs d (by simp at hd; simp [hd]))
  simp [T.kids] at hl
  have hF : freeT (.mk k n ks) b = freeL k b 0 (if k = 1 ∧ b ≤ n then n else -1) ks := by rw [freeT]
  have c1 : k = 1 → b ≤ n → n = (if k = 1 ∧ b ≤ n then n else -1) := fun h1 h2 => (if_pos ⟨h1, h2⟩).symm
  have c2 : ¬(k = 1 ∧ b ≤ n) → -1 = (if k = 1 ∧ b ≤ n then n else -1) := fun h => (if_neg h).symm
  rw [hF]
  generalize (if k = 1 ∧ b ≤ n then n else -1) = A at c1 c2 ⊢
  simp -dsimp [x_subst_free, cT]
  (first | refine Ask_b ?_ ?_ | refine Cnd_b ?_ ?_) <;> intro h1 <;> (try simp only [nrm] at h1) <;> simp -dsimp [h1]
  (first | refine Ask_b ?_ ?_ | refine Cnd_b ?_ ?_) <;> intro h2 <;> (try simp only [nrm] at h2) <;> simp -dsimp [h2, h1]
  all_goals
    refine wp_upto ks.length (fun i st => st.s 2 = .ptr 2 1 0 ∧ st.h 2 = ⟨1, .box [.d (.int .i64 k), .d (.int .i64 n), .d (.sl 3 (ks.map eT))] false⟩ ∧ st.s 1 = .d (.int .i64 b) ∧ st.s 20 = .d (.sl 3 (ks.map eT)) ∧ st.s 21 = .d (.int .i64 ks.length) ∧ st.s 22 = .d (.int .i64 i) ∧
      st.s 5 = .d (.int .i64 (freeL k b 0 A (ks.take i)))) ?_ ?_
    · simp -dsimp [freeL]
      first | exact ⟨h1.symm, c1 h1 h2⟩ | exact ⟨h1.symm, c2 (fun h => h2 h.2)⟩ | exact c2 (fun h => h1 h.1)
    · rintro i ⟨s, hp⟩ hi ⟨g1, g2, g3, g4, g5, g6, g7⟩
      dsimp only at g1 g2 g3 g4 g5 g6 g7
      rcases Nat.lt_or_ge i ks.length with hlt | hge
      · have w1 : IntKind.i64.wrap ((i : Int) + 1) = (i : Int) + 1 := wrap_id (by omega) (by omega)
        have hbl := binds_le k i
        have hnk := nodes_kid (k := k) (n := n) (List.getElem_mem hlt : ks[i] ∈ ks)
        have w2 : IntKind.i64.wrap (b + bindsM k i) = b + bindsM k i := wrap_id (by omega) (by omega)
        have hsn := freeL_snoc k b ks 0 A i hlt
        rw [Nat.zero_add] at hsn
        simp -dsimp [g1, g2, g3, g4, g5, g6, g7, hlt, cT]
        refine call_of (binds_ok k i) ?_
        simp -dsimp [g1, g2, g3, g4, g5, g6, g7, hlt, w2]
        refine call_of (ih ks[i] (List.getElem_mem _) (b + bindsM k i) (by omega) (by omega)) ?_
        simp -dsimp [g1, g2, g3, g4, g5, g6, g7, hlt, w1, hsn, mx]
      · have e : i = ks.length := by omega
        subst e
        rw [List.take_length] at g7
        simp -dsimp [g1, g2, g3, g4, g5, g6, g7]
/-- An argument, with what is reckoned of it. -/
structure Ag where
  t : T
  size : Int
  depth : Int
  free : Int
def cAg (a : Ag) : List D := cT a.t ++ [.int .i64 a.size, .int .i64 a.depth, .int .i64 a.free]
def eAg (a : Ag) : D := .agg (cAg a)
@[simp] theorem eAg_cells (a : Ag) : (eAg a).cells = cAg a := rfl
def jobD (l : List Ag) (u : Int) (sc : Bool) (sz dp : Int) : D := .rp [.sl 6 (l.map eAg), .int .i64 u, .bool sc, .int .i64 sz, .int .i64 dp]
def whichT (len : Nat) (u n b : Int) : Int := if n < u + b ∨ (len : Int) ≤ n - (u + b) then -1 else len - 1 - (n - (u + b))
theorem which_ok (l : List Ag) (u : Int) (sc : Bool) (sz dp n b : Int) (hu : 0 ≤ u ∧ u ≤ 65535) (hb : 0 ≤ b ∧ b ≤ 1099511627776) (hn : 0 ≤ n ∧ n ≤ 65535) : Pure Tryz.prog n_subst_job_which [jobD l u sc sz dp, .int .i64 n, .int .i64 b] [.int .i64 (whichT l.length u n b)] := by
  refine p_subst_job_which rfl fun hs => ?_
  have hl : ((l.length : Int)) ≤ 9223372036854775807 := by
    have := hs (jobD l u sc sz dp) (by simp)
    simp -dsimp [jobD, small] at this
    omega
  have w1 : IntKind.i64.wrap (u + b) = u + b := wrap_id (by omega) (by omega)
  have w2 : IntKind.i64.wrap (n - (u + b)) = n - (u + b) := wrap_id (by omega) (by omega)
  have w3 : IntKind.i64.wrap ((l.length : Int) - 1) = (l.length : Int) - 1 := wrap_id (by omega) (by omega)
  simp -dsimp [x_subst_job_which, jobD, w1, w2, w3]
  (first | refine Ask_b ?_ ?_ | refine Cnd_b ?_ ?_) <;> intro h1 <;> (try simp only [nrm] at h1) <;> simp -dsimp [h1, whichT, w1, w2, w3]
  (first | refine Ask_b ?_ ?_ | refine Cnd_b ?_ ?_) <;> intro h2 <;> (try simp only [nrm] at h2) <;> simp -dsimp [h2, whichT, h1, w1, w2, w3]
  have w4 : IntKind.i64.wrap ((l.length : Int) - 1 - (n - (u + b))) = (l.length : Int) - 1 - (n - (u + b)) := wrap_id (by omega) (by omega)
  rw [w4]
structure St3 where
  sc : Bool
  sz : Int
  dp : Int
def mn (a b : Int) : Int := if b < a then b else a
def mostI : Int := 1099511627776
mutual
def lookT (l : List Ag) (u : Int) : T → Int → Int → St3 → St3
  | .mk k n ks, b, d, st =>
    if k = 1 then
      if 0 ≤ whichT l.length u n b then match l[(whichT l.length u n b).toNat]? with
        | some a => ⟨if st.sc then true else if 0 ≤ a.free then decide (65535 < w64 (w64 (a.free + u) + b)) else false, mn (w64 (st.sz + a.size)) mostI, mx st.dp (w64 (d + a.depth))⟩
        | none => st
      else ⟨st.sc, mn (w64 (st.sz + 1)) mostI, mx st.dp (w64 (d + 1))⟩
    else lookL l u k b d 0 ⟨st.sc, mn (w64 (st.sz + 1)) mostI, mx st.dp (w64 (d + 1))⟩ ks
def lookL (l : List Ag) (u k b d : Int) : Nat → St3 → List T → St3
  | _, st, [] => st
  | i, st, x :: xs => lookL l u k b d (i + 1) (lookT l u x (b + bindsM k i) (w64 (d + 1)) st) xs
end
theorem lookL_snoc (l : List Ag) (u k b d : Int) : ∀ (xs : List T) (i : Nat) (st : St3) (j : Nat) (h : j < xs.length), lookL l u k b d i st (xs.take (j + 1)) = lookT l u xs[j] (b + bindsM k (i + j : Nat)) (w64 (d + 1)) (lookL l u k b d i st (xs.take j))
  | x :: xs, i, st, 0, h => by simp [lookL]
  | x :: xs, i, st, j + 1, h => by
    simp only [List.take_succ_cons, lookL, List.getElem_cons_succ]
    rw [lookL_snoc l u k b d xs (i + 1) _ j (by simpa using h)]
    congr 3
    omega
def jobC (c0 : AV) (u : Int) (st : St3) : List AV := [c0, .d (.int .i64 u), .d (.bool st.sc), .d (.int .i64 st.sz), .d (.int .i64 st.dp)]
def jobH (k v : Nat) (b : Body) (e : Ent) : Nat → Ent := fun q => if q = k then ⟨v, b⟩ else e
theorem small_of {G : GS} {h : Nat → Ent} {w : World} {v : Value} {d : D} (r : ARel G h w v (.d d)) : small 8 d := r.d_inv.small 8
/-- An argument told cell by cell is the argument. -/
theorem agg_arg {P : Program} {g : FuncId} {K : List Nat} {h0 h1 : Nat → Ent} {rs : List D} {pre post : List AV} {cs : List D} (hm : MutC P g (pre ++ .d (.agg cs) :: post) K h0 rs h1) : MutC P g (pre ++ .agg (cs.map .d) :: post) K h0 rs h1 := by
  obtain ⟨a1, a2, a3⟩ := hm
  refine ⟨a1, a2, fun G h w vs b1 b2 b3 b4 b5 => a3 G h w vs b1 b2 b3 (by simpa using b4) fun j a hj => ?_⟩
  rw [List.getElem?_append] at hj
  split at hj
  · rename_i hlt
    exact b5 j a (by rw [List.getElem?_append_left hlt]; exact hj)
  · rename_i hge
    cases hjj : j - pre.length with
    | zero =>
      rw [hjj] at hj
      simp at hj
      subst hj
      have := b5 j (.agg (cs.map .d)) (by rw [List.getElem?_append_right (by omega), hjj]; rfl)
      generalize hq : vs.getD j undef = q at this ⊢
      generalize hz : cs.map AV.d = zs at this
      cases this with
      | agg vs' _ hn hr =>
        subst hz
        refine .d _ _ (.agg vs' cs (by simpa using hn) fun i c hi => ?_)
        exact (hr i (.d c) (by rw [List.getElem?_map, hi]; rfl)).d_inv
    | succ i =>
      rw [hjj] at hj
      exact b5 j a (by rw [List.getElem?_append_right (by omega), hjj]; simpa using hj)
theorem m_look {aa : List AV} {K : List Nat} {h0 h1 : Nat → Ent} {rs : List D} (hl : aa.length = 4) (hov : ∀ k ∈ K, OverB K (h1 k).body)
    (hw : ∀ (h : Nat → Ent), (∀ k ∈ K, h k = h0 k) → (∀ d, AV.d d ∈ aa → small 8 d) → wpX Tryz.prog x_subst_job_look.code (EndsM x_subst_job_look.res rs K h1) ⟨initA aa, h⟩) : MutC Tryz.prog n_subst_job_look aa K h0 rs h1 :=
  mut_of hm Tryz.func190 c_subst_job_look hl hov fun G h w vs hk hlen hr => hw h hk fun d hd => by
    obtain ⟨j, hj⟩ := List.mem_iff_getElem?.1 hd
    exact small_of (hr j _ hj)
theorem look_ok (l : List Ag) (u : Int) (hu : 0 ≤ u ∧ u ≤ 65535) (t : T) : ∀ (k v r rv : Nat) (b d : Int) (st : St3), k ≠ r → k ≠ 5 → k ≠ 11 → k ≠ 13 → r ≠ 5 → r ≠ 11 → r ≠ 13 → formedM t = true → 0 ≤ b → b + nodes t ≤ 1099511627776 →
    MutC Tryz.prog n_subst_job_look [.ptr k v 0, .d (.agg (cT t)), .d (.int .i64 b), .d (.int .i64 d)] [k, r] (jobH k v (.box (jobC (.rsl r rv) u st) false) ⟨rv, .row 6 (l.map eAg) false⟩) []
      (jobH k v (.box (jobC (.rsl r rv) u (lookT l u t b d st)) false) ⟨rv, .row 6 (l.map eAg) false⟩) := by
  refine T.ind (p := fun t => ∀ (k v r rv : Nat) (b d : Int) (st : St3), k ≠ r → k ≠ 5 → k ≠ 11 → k ≠ 13 → r ≠ 5 → r ≠ 11 → r ≠ 13 → formedM t = true → 0 ≤ b → b + nodes t ≤ 1099511627776 →
    MutC Tryz.prog n_subst_job_look [.ptr k v 0, .d (.agg (cT t)), .d (.int .i64 b), .d (.int .i64 d)] [k, r] (jobH k v (.box (jobC (.rsl r rv) u st) false) ⟨rv, .row 6 (l.map eAg) false⟩) []
      (jobH k v (.box (jobC (.rsl r rv) u (lookT l u t b d st)) false) ⟨rv, .row 6 (l.map eAg) false⟩)) ?_ t
  intro kd n ks ih k v r rv b d st hkr hk5 hk11 hk13 hr5 hr11 hr13 hfm hb0 hb
  have hrk : r ≠ k := Ne.symm hkr
  have n1 : 5 ≠ k := Ne.symm hk5
  have n2 : 11 ≠ k := Ne.symm hk11
  have n3 : 13 ≠ k := Ne.symm hk13
  have n4 : 5 ≠ r := Ne.symm hr5
  have n5 : 11 ≠ r := Ne.symm hr11
  have n6 : 13 ≠ r := Ne.symm hr13
  refine m_look rfl ?_ fun h hh hs => ?_
  · intro q hq
    simp only [jobH]
    split
    · intro c hc
      simp only [jobC, List.mem_cons, List.not_mem_nil, or_false] at hc
      rcases hc with rfl | rfl | rfl | rfl | rfl
      · exact .rsl _ _ (by simp)
      all_goals exact .d _
    · trivial
  have e1 : h k = ⟨v, .box (jobC (.rsl r rv) u st) false⟩ := by rw [hh k (by simp)]; simp [jobH]
  have e2 : h r = ⟨rv, .row 6 (l.map eAg) false⟩ := by rw [hh r (by simp)]; simp [jobH, hrk]
  simp only [jobC] at e1
  have hsm := hs (.agg (cT (.mk kd n ks))) (by simp)
  simp -dsimp [cT, small] at hsm
  simp -dsimp [x_subst_job_look, cT, jobC, jobH]
  (first | refine Ask_b ?_ ?_ | refine Cnd_b ?_ ?_) <;> intro g1 <;> (try simp only [nrm] at g1) <;> simp -dsimp [g1, e1, e2, hkr, hrk, hk5, hk11, hk13, hr5, hr11, hr13, n1, n2, n3, n4, n5, n6]
  · have hn : 0 ≤ n ∧ n ≤ 65535 := by
      rw [formedM_is, g1] at hfm
      have h0 : kidsM 1 = 0 := rfl
      rw [h0] at hfm
      split at hfm
      · simp only [if_true, Bool.and_eq_true] at hfm
        exact (inB_iff _ _ _).1 hfm.1
      · cases hfm
    refine callS_of (which_ok l u st.sc st.sz st.dp n b hu ⟨hb0, by omega⟩ hn) (by simp [D.flat]) ?_
    generalize hw : whichT l.length u n b = W
    have hL : lookT l u (.mk kd n ks) b d st = if 0 ≤ W then match l[W.toNat]? with
        | some a => ⟨if st.sc then true else if 0 ≤ a.free then decide (65535 < w64 (w64 (a.free + u) + b)) else false, mn (w64 (st.sz + a.size)) mostI, mx st.dp (w64 (d + a.depth))⟩
        | none => st
      else ⟨st.sc, mn (w64 (st.sz + 1)) mostI, mx st.dp (w64 (d + 1))⟩ := by rw [lookT, if_pos g1, hw]
    rw [hL]
    simp -dsimp [e1, e2, hkr, hrk, hk5, hk11, hk13, hr5, hr11, hr13, n1, n2, n3, n4, n5, n6, g1]
    (first | refine Ask_b ?_ ?_ | refine Cnd_b ?_ ?_) <;> intro g2 <;> (try simp only [nrm] at g2) <;> simp -dsimp [g2, e1, e2, hkr, hrk, hk5, hk11, hk13, hr5, hr11, hr13, n1, n2, n3, n4, n5, n6, g1]
    · have hlt : W.toNat < l.length := by
        rw [whichT] at hw
        split at hw <;> omega
      have hget : l[W.toNat]? = some l[W.toNat] := List.getElem?_eq_getElem hlt
      have hltI : W < (l.length : Int) := by omega
      simp -dsimp [e1, e2, hkr, hrk, hk5, hk11, hk13, hr5, hr11, hr13, n1, n2, n3, n4, n5, n6, g1, g2, hlt, hltI, hget, eAg, cAg, cT]
      cases hsc : st.sc with
      | true =>
        simp -dsimp [e1, e2, hkr, hrk, hk5, hk11, hk13, hr5, hr11, hr13, n1, n2, n3, n4, n5, n6, g1, g2, hlt, hltI, hget, eAg, cAg, cT, hsc]
        (simp -dsimp [jobH, hrk, jobC, mn, mx, mostI, w64, g2, hget, hsc]) <;> (first | exact ⟨rfl, rfl⟩ | exact ⟨rfl, rfl, rfl⟩)
      | false =>
        simp -dsimp [e1, e2, hkr, hrk, hk5, hk11, hk13, hr5, hr11, hr13, n1, n2, n3, n4, n5, n6, g1, g2, hlt, hltI, hget, eAg, cAg, cT, hsc]
        (first | refine Ask_b ?_ ?_ | refine Cnd_b ?_ ?_) <;> intro g3 <;> (try simp only [nrm] at g3) <;> simp -dsimp [g3, e1, e2, hkr, hrk, hk5, hk11, hk13, hr5, hr11, hr13, n1, n2, n3, n4, n5, n6, g1, g2, hlt, hltI, hget, eAg, cAg, cT, hsc]
        · (simp -dsimp [jobH, hrk, jobC, mn, mx, mostI, w64, g2, hget, hsc, g3]) <;> (first | exact ⟨rfl, rfl⟩ | exact ⟨rfl, rfl, rfl⟩)
        · (simp -dsimp [jobH, hrk, jobC, mn, mx, mostI, w64, g2, hget, hsc, g3]) <;> (first | exact ⟨rfl, rfl⟩ | exact ⟨rfl, rfl, rfl⟩)
    · (simp -dsimp [jobH, hrk, jobC, mn, mx, mostI, w64, g2]) <;> (first | exact ⟨rfl, rfl⟩ | exact ⟨rfl, rfl, rfl⟩)
  · have hL : lookT l u (.mk kd n ks) b d st = lookL l u kd b d 0 ⟨st.sc, mn (w64 (st.sz + 1)) mostI, mx st.dp (w64 (d + 1))⟩ ks := by rw [lookT, if_neg g1]
    rw [hL]
    have hks : ks.all formedM = true := by
      rw [formedM_is] at hfm
      split at hfm
      · split at hfm
        · rw [Bool.and_eq_true] at hfm; exact hfm.2
        · split at hfm
          · exact hfm
          · cases hfm
      · cases hfm
    generalize hA : (⟨st.sc, mn (w64 (st.sz + 1)) mostI, mx st.dp (w64 (d + 1))⟩ : St3) = A
    refine wp_upto ks.length (fun i st' => st'.s 0 = .ptr k v 0 ∧ st'.s 2 = .d (.int .i64 b) ∧ st'.s 3 = .d (.int .i64 d) ∧ st'.s 5 = .ptr 5 ((h 5).ver + 1) 0 ∧ st'.h 5 = ⟨(h 5).ver + 1, .box [.d (.int .i64 kd), .d (.int .i64 n), .d (.sl 3 (ks.map eT))] false⟩ ∧
      st'.s 100 = .d (.sl 3 (ks.map eT)) ∧ st'.s 101 = .d (.int .i64 ks.length) ∧ st'.s 102 = .d (.int .i64 i) ∧
      st'.h k = ⟨v, .box (jobC (.rsl r rv) u (lookL l u kd b d 0 A (ks.take i))) false⟩ ∧ st'.h r = ⟨rv, .row 6 (l.map eAg) false⟩) ?_ ?_
    · simp -dsimp [e1, e2, hkr, hrk, hk5, hk11, hk13, hr5, hr11, hr13, n1, n2, n3, n4, n5, n6, g1, lookL, jobC]
      simp -dsimp [← hA, mn, mx, mostI, w64] <;> exact ⟨rfl, rfl⟩
    · rintro i ⟨s, hp⟩ hi ⟨f1, f2, f3, f4, f5, f6, f7, f8, f9, f10⟩
      dsimp only at f1 f2 f3 f4 f5 f6 f7 f8 f9 f10
      generalize (h 5).ver + 1 = v5 at f4 f5
      rcases Nat.lt_or_ge i ks.length with hlt | hge
      · have w1 : IntKind.i64.wrap ((i : Int) + 1) = (i : Int) + 1 := wrap_id (by omega) (by omega)
        have hbl := binds_le kd i
        have hnk := nodes_kid (k := kd) (n := n) (List.getElem_mem hlt : ks[i] ∈ ks)
        have w2 : IntKind.i64.wrap (b + bindsM kd i) = b + bindsM kd i := wrap_id (by omega) (by omega)
        simp only [jobC] at f9
        simp -dsimp [e1, e2, hkr, hrk, hk5, hk11, hk13, hr5, hr11, hr13, n1, n2, n3, n4, n5, n6, g1, f1, f2, f3, f4, f5, f6, f7, f8, f9, f10, hlt, cT]
        refine callS_of (binds_ok kd i) (by simp [D.flat]) ?_
        simp -dsimp [e1, e2, hkr, hrk, hk5, hk11, hk13, hr5, hr11, hr13, n1, n2, n3, n4, n5, n6, g1, f1, f2, f3, f4, f5, f6, f7, f8, f9, f10, hlt, w2]
        generalize hX : lookL l u kd b d 0 A (ks.take i) = X at f9
        have hrec := ih ks[i] (List.getElem_mem _) k v r rv (b + bindsM kd i) (w64 (d + 1)) X hkr hk5 hk11 hk13 hr5 hr11 hr13 (List.all_eq_true.1 hks _ (List.getElem_mem _)) (by omega) (by omega)
        have hrec2 := agg_arg (pre := [.ptr k v 0]) (post := [.d (.int .i64 (b + bindsM kd i)), .d (.int .i64 (w64 (d + 1)))]) hrec
        refine callM_of hrec2 ?_ ?_
        · simp [jobH, jobC, hrk, f9, f10, upd, hkr, hk5, hk11, hk13, hr5, hr11, hr13]
        have hsn := lookL_snoc l u kd b d ks 0 A i hlt
        rw [Nat.zero_add, hX] at hsn
        simp -dsimp [e1, e2, hkr, hrk, hk5, hk11, hk13, hr5, hr11, hr13, n1, n2, n3, n4, n5, n6, g1, mergeK_cons, mergeK_nil, jobH, f1, f2, f3, f4, f5, f6, f7, f8, f9, f10, hlt, w1, hsn]
      · have e : i = ks.length := by omega
        subst e
        rw [List.take_length] at f9
        simp -dsimp [e1, e2, hkr, hrk, hk5, hk11, hk13, hr5, hr11, hr13, n1, n2, n3, n4, n5, n6, g1, f1, f2, f3, f4, f5, f6, f7, f8, f9, f10]
        simp [jobH, jobC, hrk]
theorem which0 (u n b : Int) (h : 0 ≤ u) (hb : 0 ≤ b) : whichT 0 u n b = -1 := by
  rw [whichT, if_pos]
  omega
/-- The same, where there are no arguments at all. -/
theorem look0_ok (u : Int) (hu : 0 ≤ u ∧ u ≤ 65535) (t : T) : ∀ (k v : Nat) (b d : Int) (st : St3), k ≠ 5 → k ≠ 11 → k ≠ 13 → formedM t = true → 0 ≤ b → b + nodes t ≤ 1099511627776 →
    MutC Tryz.prog n_subst_job_look [.ptr k v 0, .d (.agg (cT t)), .d (.int .i64 b), .d (.int .i64 d)] [k] (jobH k v (.box (jobC (.fsl 6 []) u st) false) ⟨0, .dead⟩) []
      (jobH k v (.box (jobC (.fsl 6 []) u (lookT [] u t b d st)) false) ⟨0, .dead⟩) := by
  refine T.ind (p := fun t => ∀ (k v : Nat) (b d : Int) (st : St3), k ≠ 5 → k ≠ 11 → k ≠ 13 → formedM t = true → 0 ≤ b → b + nodes t ≤ 1099511627776 →
    MutC Tryz.prog n_subst_job_look [.ptr k v 0, .d (.agg (cT t)), .d (.int .i64 b), .d (.int .i64 d)] [k] (jobH k v (.box (jobC (.fsl 6 []) u st) false) ⟨0, .dead⟩) []
      (jobH k v (.box (jobC (.fsl 6 []) u (lookT [] u t b d st)) false) ⟨0, .dead⟩)) ?_ t
  intro kd n ks ih k v b d st hk5 hk11 hk13 hfm hb0 hb
  have n1 : 5 ≠ k := Ne.symm hk5
  have n2 : 11 ≠ k := Ne.symm hk11
  have n3 : 13 ≠ k := Ne.symm hk13
  refine m_look rfl ?_ fun h hh hs => ?_
  · intro q hq
    simp only [jobH]
    split
    · intro c hc
      simp only [jobC, List.mem_cons, List.not_mem_nil, or_false] at hc
      rcases hc with rfl | rfl | rfl | rfl | rfl
      · exact .fsl _ _
      all_goals exact .d _
    · trivial
  have e1 : h k = ⟨v, .box (jobC (.fsl 6 []) u st) false⟩ := by rw [hh k (by simp)]; simp [jobH]
  simp only [jobC] at e1
  have hsm := hs (.agg (cT (.mk kd n ks))) (by simp)
  simp -dsimp [cT, small] at hsm
  simp -dsimp [x_subst_job_look, cT, jobC, jobH]
  (first | refine Ask_b ?_ ?_ | refine Cnd_b ?_ ?_) <;> intro g1 <;> (try simp only [nrm] at g1) <;> simp -dsimp [g1, e1, hk5, hk11, hk13, n1, n2, n3]
  · have hn : 0 ≤ n ∧ n ≤ 65535 := by
      rw [formedM_is, g1] at hfm
      have h0 : kidsM 1 = 0 := rfl
      rw [h0] at hfm
      split at hfm
      · simp only [if_true, Bool.and_eq_true] at hfm
        exact (inB_iff _ _ _).1 hfm.1
      · cases hfm
    refine callS_of (which_ok [] u st.sc st.sz st.dp n b hu ⟨hb0, by omega⟩ hn) (by simp [D.flat]) ?_
    have hw : whichT ([] : List Ag).length u n b = -1 := which0 u n b hu.1 hb0
    have hL : lookT [] u (.mk kd n ks) b d st = ⟨st.sc, mn (w64 (st.sz + 1)) mostI, mx st.dp (w64 (d + 1))⟩ := by rw [lookT, if_pos g1, hw, if_neg (by omega)]
    rw [hL, hw]
    simp -dsimp [e1, hk5, hk11, hk13, n1, n2, n3, g1]
    simp -dsimp [jobH, jobC, mn, mx, mostI, w64] <;> (first | exact ⟨rfl, rfl⟩ | exact ⟨rfl, rfl, rfl⟩)
  · have hL : lookT [] u (.mk kd n ks) b d st = lookL [] u kd b d 0 ⟨st.sc, mn (w64 (st.sz + 1)) mostI, mx st.dp (w64 (d + 1))⟩ ks := by rw [lookT, if_neg g1]
    rw [hL]
    have hks : ks.all formedM = true := by
      rw [formedM_is] at hfm
      split at hfm
      · split at hfm
        · rw [Bool.and_eq_true] at hfm; exact hfm.2
        · split at hfm
          · exact hfm
          · cases hfm
      · cases hfm
    generalize hA : (⟨st.sc, mn (w64 (st.sz + 1)) mostI, mx st.dp (w64 (d + 1))⟩ : St3) = A
    refine wp_upto ks.length (fun i st' => st'.s 0 = .ptr k v 0 ∧ st'.s 2 = .d (.int .i64 b) ∧ st'.s 3 = .d (.int .i64 d) ∧ st'.s 5 = .ptr 5 ((h 5).ver + 1) 0 ∧ st'.h 5 = ⟨(h 5).ver + 1, .box [.d (.int .i64 kd), .d (.int .i64 n), .d (.sl 3 (ks.map eT))] false⟩ ∧
      st'.s 100 = .d (.sl 3 (ks.map eT)) ∧ st'.s 101 = .d (.int .i64 ks.length) ∧ st'.s 102 = .d (.int .i64 i) ∧
      st'.h k = ⟨v, .box (jobC (.fsl 6 []) u (lookL [] u kd b d 0 A (ks.take i))) false⟩) ?_ ?_
    · simp -dsimp [e1, hk5, hk11, hk13, n1, n2, n3, g1, lookL, jobC]
      simp -dsimp [← hA, mn, mx, mostI, w64] <;> exact ⟨rfl, rfl⟩
    · rintro i ⟨s, hp⟩ hi ⟨f1, f2, f3, f4, f5, f6, f7, f8, f9⟩
      dsimp only at f1 f2 f3 f4 f5 f6 f7 f8 f9
      generalize (h 5).ver + 1 = v5 at f4 f5
      rcases Nat.lt_or_ge i ks.length with hlt | hge
      · have w1 : IntKind.i64.wrap ((i : Int) + 1) = (i : Int) + 1 := wrap_id (by omega) (by omega)
        have hbl := binds_le kd i
        have hnk := nodes_kid (k := kd) (n := n) (List.getElem_mem hlt : ks[i] ∈ ks)
        have w2 : IntKind.i64.wrap (b + bindsM kd i) = b + bindsM kd i := wrap_id (by omega) (by omega)
        simp only [jobC] at f9
        simp -dsimp [e1, hk5, hk11, hk13, n1, n2, n3, g1, f1, f2, f3, f4, f5, f6, f7, f8, f9, hlt, cT]
        refine callS_of (binds_ok kd i) (by simp [D.flat]) ?_
        simp -dsimp [e1, hk5, hk11, hk13, n1, n2, n3, g1, f1, f2, f3, f4, f5, f6, f7, f8, f9, hlt, w2]
        generalize hX : lookL [] u kd b d 0 A (ks.take i) = X at f9
        have hrec := ih ks[i] (List.getElem_mem _) k v (b + bindsM kd i) (w64 (d + 1)) X hk5 hk11 hk13 (List.all_eq_true.1 hks _ (List.getElem_mem _)) (by omega) (by omega)
        have hrec2 := agg_arg (pre := [.ptr k v 0]) (post := [.d (.int .i64 (b + bindsM kd i)), .d (.int .i64 (w64 (d + 1)))]) hrec
        refine callM_of hrec2 ?_ ?_
        · simp [jobH, jobC, f9, upd, hk5, hk11, hk13]
        have hsn := lookL_snoc [] u kd b d ks 0 A i hlt
        rw [Nat.zero_add, hX] at hsn
        simp -dsimp [e1, hk5, hk11, hk13, n1, n2, n3, g1, mergeK_cons, mergeK_nil, jobH, f1, f2, f3, f4, f5, f6, f7, f8, f9, hlt, w1, hsn]
      · have e : i = ks.length := by omega
        subst e
        rw [List.take_length] at f9
        simp -dsimp [e1, hk5, hk11, hk13, n1, n2, n3, g1, f1, f2, f3, f4, f5, f6, f7, f8, f9]
        simp [jobH, jobC]
def agOf (x : T) : Ag := ⟨x, sizeM x, depthM x, freeT x 0⟩
def argsE : List T → Int
  | [] => 0
  | x :: xs => if checkM x = 0 then argsE xs else checkM x
theorem argsE_at : ∀ (l : List T) (i : Nat) (h : i < l.length), (∀ (j : Nat) (hj : j < l.length), j < i → checkM l[j] = 0) → checkM l[i] ≠ 0 → argsE l = checkM l[i]
  | x :: xs, 0, h, _, hn => by simp only [List.getElem_cons_zero] at hn ⊢; rw [argsE, if_neg hn]
  | x :: xs, i + 1, h, ha, hn => by
    have h0 := ha 0 (by simp) (by omega)
    simp only [List.getElem_cons_zero] at h0
    rw [argsE, if_pos h0]
    simp only [List.getElem_cons_succ] at hn ⊢
    exact argsE_at xs i (by simpa using h) (fun j hj hji => by have := ha (j + 1) (by simpa using hj) (by omega); simpa using this) hn
theorem argsE_all : ∀ (l : List T), (∀ (j : Nat) (hj : j < l.length), j < l.length → checkM l[j] = 0) → argsE l = 0
  | [], _ => rfl
  | x :: xs, ha => by
    have h0 := ha 0 (by simp) (by simp)
    simp only [List.getElem_cons_zero] at h0
    rw [argsE, if_pos h0]
    exact argsE_all xs fun j hj _ => by have := ha (j + 1) (by simpa using hj) (by simpa using hj); simpa using this
def openE (t : T) (l : List T) (u : Int) : Int := if checkM t = 0 then if argsE l = 0 then if u < 0 ∨ 65535 < u then 1 else 0 else argsE l else checkM t
def st0 : St3 := ⟨false, 0, 0⟩
def openSt (t : T) (l : List T) (u : Int) : St3 := lookT (l.map agOf) u t 0 0 st0
def openR (t : T) (l : List T) (u : Int) : D := if openE t l u = 0 then jobD (l.map agOf) u (openSt t l u).sc (openSt t l u).sz (openSt t l u).dp else .nilp
theorem open_ok (t : T) (l : List T) (u : Int) (ht : nodes t ≤ 549755813888) (hl : ∀ x ∈ l, nodes x ≤ 549755813888) (hn : l.length ≤ 2097152) :
    Pure Tryz.prog n_subst_open [.agg (cT t), eTs l, .int .i64 u] [openR t l u, .int .i64 (openE t l u)] := by
  refine p_subst_open rfl fun hs => ?_
  simp -dsimp [x_subst_open, cT, eTs]
  refine call_of (check_ok t) ?_
  simp -dsimp
  (first | refine Ask_b ?_ ?_ | refine Cnd_b ?_ ?_) <;> intro h1 <;> (try simp only [nrm] at h1) <;> simp -dsimp [h1]
  · have hE : openE t l u = checkM t := by rw [openE, if_neg h1]
    rw [openR, hE, if_neg h1]
    simp -dsimp
  have hfm := formed_of h1
  refine wp_upto l.length (fun i st => st.s 2 = .d (.int .i64 u) ∧ st.s 3 = .ptr 3 1 0 ∧ st.h 3 = ⟨1, .box [.d (.int .i64 t.kind), .d (.int .i64 t.num), .d (.sl 3 (t.kids.map eT))] false⟩ ∧
    st.s 9 = .ptr 20 1 0 ∧ st.s 21 = .d (.sl 3 (l.map eT)) ∧ st.s 22 = .d (.int .i64 l.length) ∧ st.s 23 = .d (.int .i64 i) ∧
    (∃ c0, st.h 20 = ⟨1, .box [c0, .d (.int .i64 u), .d (.bool false), .d (.int .i64 0), .d (.int .i64 0)] false⟩ ∧ ((i = 0 ∧ c0 = .fsl 6 []) ∨ ∃ v, c0 = .rsl 46 v ∧ st.h 46 = ⟨v, .row 6 ((l.map (eAg ∘ agOf)).take i) false⟩)) ∧
    ∀ (j : Nat) (hj : j < l.length), j < i → checkM l[j] = 0) ?_ ?_
  · simp -dsimp
  · rintro i ⟨s, hp⟩ hi ⟨g1, g2, g3, g4, g5, g6, g7, ⟨c0, g8, g9⟩, g10⟩
    dsimp only at g1 g2 g3 g4 g5 g6 g7 g8 g9
    rcases Nat.lt_or_ge i l.length with hlt | hge
    · have w1 : IntKind.i64.wrap ((i : Int) + 1) = (i : Int) + 1 := wrap_id (by omega) (by omega)
      simp -dsimp [g1, g2, g3, g4, g5, g6, g7, g8, hlt, cT]
      refine call_of (check_ok l[i]) ?_
      simp -dsimp [g1, g2, g3, g4, g5, g6, g7, g8, hlt, cT]
      (first | refine Ask_b ?_ ?_ | refine Cnd_b ?_ ?_) <;> intro h2 <;> (try simp only [nrm] at h2) <;> simp -dsimp [h2, g1, g2, g3, g4, g5, g6, g7, g8, hlt, cT]
      · have hA := argsE_at l i hlt g10 h2
        have hE : openE t l u = checkM l[i] := by rw [openE, if_pos h1, if_neg (by rw [hA]; exact h2), hA]
        have hR : openR t l u = .nilp := by rw [openR, if_neg (by rw [hE]; exact h2)]
        simp -dsimp [hE, hR]
      refine call_of (tsize_ok l[i]) ?_
      simp -dsimp [g1, g2, g3, g4, g5, g6, g7, g8, hlt, cT]
      refine call_of (tdepth_ok l[i]) ?_
      simp -dsimp [g1, g2, g3, g4, g5, g6, g7, g8, hlt, cT]
      have hln := hl l[i] (List.getElem_mem _)
      refine call_of (free_ok l[i] 0 (by omega) (by omega)) ?_
      have hr : (min i l.length + 1) * 64 ≤ maxRoom := by simp only [maxRoom]; omega
      have hsn : (l.map (eAg ∘ agOf)).take i ++ [D.agg [.int .i64 l[i].kind, .int .i64 l[i].num, .sl 3 (l[i].kids.map eT), .int .i64 (sizeM l[i]), .int .i64 (depthM l[i]), .int .i64 (freeT l[i] 0)]] = (l.map (eAg ∘ agOf)).take (i + 1) :=
        take_next (eAg ∘ agOf) (fun x => cAg (agOf x)) (fun _ => rfl) l i hlt
      rcases g9 with ⟨rfl, rfl⟩ | ⟨v, rfl, g9⟩
      · have h64 : 64 ≤ maxRoom := by decide
        simp only [List.take_zero, List.nil_append, Nat.zero_add] at hsn
        simp at hlt w1
        simp -dsimp [g1, g2, g3, g4, g5, g6, g7, g8, hlt, cT, h64, w1]
        exact ⟨hsn, fun j hj hji => by have : j = 0 := by omega
                                       subst this; exact h2⟩
      · simp -dsimp [g1, g2, g3, g4, g5, g6, g7, g8, g9, hlt, cT, hr, hsn, w1]
        intro j hj hji
        rcases Nat.lt_or_ge j i with h | h
        · exact g10 j hj h
        · have : j = i := by omega
          subst this
          exact h2
    · have e : i = l.length := by omega
      subst e
      have hA := argsE_all l g10
      simp -dsimp [g1, g2, g3, g4, g5, g6, g7, g8]
      have bad : (u < 0 ∨ 65535 < u) → openR t l u = .nilp ∧ openE t l u = 1 := fun hu => by
        have hE : openE t l u = 1 := by rw [openE, if_pos h1, if_pos hA, if_pos hu]
        exact ⟨by rw [openR, hE]; rfl, hE⟩
      (first | refine Ask_b ?_ ?_ | refine Cnd_b ?_ ?_) <;> intro h3 <;> (try simp only [nrm] at h3) <;> simp -dsimp [h3, g1, g2, g3, g4, g5, g6, g7, g8]
      · simp -dsimp [bad (.inl h3)]
      (first | refine Ask_b ?_ ?_ | refine Cnd_b ?_ ?_) <;> intro h4 <;> (try simp only [nrm] at h4) <;> simp -dsimp [h4, g1, g2, g3, g4, g5, g6, g7, g8, h3]
      · simp -dsimp [bad (.inr h4)]
      have hE : openE t l u = 0 := by rw [openE, if_pos h1, if_pos hA, if_neg (by omega)]
      have hR : openR t l u = jobD (l.map agOf) u (openSt t l u).sc (openSt t l u).sz (openSt t l u).dp := by rw [openR, if_pos hE]
      rw [hE, hR]
      have hu : 0 ≤ u ∧ u ≤ 65535 := by omega
      have hnt : (0 : Int) + nodes t ≤ 1099511627776 := by omega
      rcases g9 with ⟨hz, rfl⟩ | ⟨v, rfl, g9⟩
      · have hl0 : l = [] := List.length_eq_zero_iff.1 hz
        subst hl0
        refine callM_of (agg_arg (pre := [.ptr 20 1 0]) (post := [.d (.int .i64 0), .d (.int .i64 0)]) (look0_ok u hu t 20 1 0 0 st0 (by omega) (by omega) (by omega) hfm (by omega) hnt)) ?_ ?_
        · simp [jobH, jobC, g8, st0]
        simp -dsimp [mergeK_cons, mergeK_nil, jobH, jobC, g1, g2, g3, g4, jobD, openSt]
      · rw [List.take_of_length_le (by simp)] at g9
        rw [sk_rsl]
        refine callM_of (agg_arg (pre := [.ptr 20 1 0]) (post := [.d (.int .i64 0), .d (.int .i64 0)]) (look_ok (l.map agOf) u hu t 20 1 46 v 0 0 st0 (by omega) (by omega) (by omega) (by omega) (by omega) (by omega) (by omega) hfm (by omega) hnt)) ?_ ?_
        · simp [jobH, jobC, g8, g9, st0]
        simp -dsimp [mergeK_cons, mergeK_nil, jobH, jobC, g1, g2, g3, g4, jobD, openSt]
def zT : T := .mk 0 0 []
def instF (l : List T) (u n b : Int) : T :=
  if 0 ≤ whichT l.length u n b then match l[(whichT l.length u n b).toNat]? with
    | some a => movedT (w64 (u + b)) a
    | none => zT
  else .mk 1 (if u + b ≤ n then w64 (n - l.length) else n) []
theorem inst1_ok (l : List T) (u : Int) (sc : Bool) (sz dp : Int) (hu : 0 ≤ u ∧ u ≤ 65535) (hl : ∀ x ∈ l, formedM x = true ∧ nodes x ≤ 549755813888) (n b : Int) (hn : 0 ≤ n) (hn' : n ≤ 65535) (hb : 0 ≤ b) (hb' : b ≤ 1099511627776) :
    Pure Tryz.prog n_subst_Inst_1 [.int .i64 n, .int .i64 b, .rp [jobD (l.map agOf) u sc sz dp], .rp [.int .i64 u], .rp [eTs l]] [.agg (cT (instF l u n b))] := by
  refine p_subst_Inst_1 rfl fun hs => ?_
  have w1 : IntKind.i64.wrap (u + b) = u + b := wrap_id (by omega) (by omega)
  have w1' : w64 (u + b) = u + b := w1
  simp -dsimp [x_subst_Inst_1, eTs]
  have hw := which_ok (l.map agOf) u sc sz dp n b hu ⟨hb, hb'⟩ ⟨hn, hn'⟩
  rw [List.length_map] at hw
  refine call_of hw ?_
  generalize hW : whichT l.length u n b = W
  have hI : instF l u n b = if 0 ≤ W then match l[W.toNat]? with
    | some a => movedT (w64 (u + b)) a
    | none => zT
    else .mk 1 (if u + b ≤ n then w64 (n - l.length) else n) [] := by rw [instF, hW]
  simp -dsimp
  (first | refine Ask_b ?_ ?_ | refine Cnd_b ?_ ?_) <;> intro g1 <;> (try simp only [nrm] at g1) <;> simp -dsimp [g1]
  · have hlt : W.toNat < l.length := by
      rw [whichT] at hW
      split at hW <;> omega
    have hget : l[W.toNat]? = some l[W.toNat] := List.getElem?_eq_getElem hlt
    have hI2 : instF l u n b = movedT (w64 (u + b)) l[W.toNat] := by rw [hI, if_pos g1, hget]
    rw [hI2, w1']
    simp -dsimp [jobD, g1, hlt, w1, agOf, cAg, eAg, cT]
    obtain ⟨hf, hnn⟩ := hl l[W.toNat] (List.getElem_mem _)
    refine call_of (moved_ok l[W.toNat] (u + b) hf (by omega)) ?_
    simp -dsimp [cT]
  · have hI2 : instF l u n b = .mk 1 (if u + b ≤ n then w64 (n - l.length) else n) [] := by rw [hI, if_neg g1]
    rw [hI2]
    simp -dsimp [g1, w1]
    (first | refine Ask_b ?_ ?_ | refine Cnd_b ?_ ?_) <;> intro g2 <;> (try simp only [nrm] at g2) <;> simp -dsimp [g2, g1, w1]
    · refine call_of (v_ok _) ?_
      simp -dsimp [g2, cT, w64]
    · refine call_of (v_ok _) ?_
      simp -dsimp [g2, cT, w64]
/-- The error, and the term. -/
def instE (t : T) (l : List T) (u : Int) : Int :=
  if openE t l u = 0 then if (openSt t l u).sc then 6 else if 6000 < (openSt t l u).sz then 4 else if 200 < (openSt t l u).dp then 5 else 0 else openE t l u
def instT (t : T) (l : List T) (u : Int) : T := if instE t l u = 0 then mapT (instF l u) t 0 else zT
theorem openE_facts {t : T} {l : List T} {u : Int} (h : openE t l u = 0) : formedM t = true ∧ (∀ x ∈ l, formedM x = true) ∧ 0 ≤ u ∧ u ≤ 65535 := by
  rw [openE] at h
  by_cases h1 : checkM t = 0
  · rw [if_pos h1] at h
    by_cases h2 : argsE l = 0
    · rw [if_pos h2] at h
      refine ⟨formed_of h1, ?_, ?_⟩
      · clear h h1
        induction l with
        | nil => simp
        | cons x xs ih =>
          rw [argsE] at h2
          by_cases h3 : checkM x = 0
          · rw [if_pos h3] at h2
            intro y hy
            rcases List.mem_cons.1 hy with rfl | hy
            · exact formed_of h3
            · exact ih h2 y hy
          · rw [if_neg h3] at h2; exact absurd h2 h3
      · by_cases h3 : u < 0 ∨ 65535 < u
        · rw [if_pos h3] at h; cases h
        · omega
    · rw [if_neg h2] at h; exact absurd h h2
  · rw [if_neg h1] at h; exact absurd h h1
theorem inst_ok (t : T) (l : List T) (u : Int) (ht : nodes t ≤ 549755813888) (hl : ∀ x ∈ l, nodes x ≤ 549755813888) (hn : l.length ≤ 2097152) :
    Pure Tryz.prog n_subst_Inst [.agg (cT t), eTs l, .int .i64 u] [.agg (cT (instT t l u)), .int .i64 (instE t l u)] := by
  refine p_subst_Inst rfl fun hs => ?_
  simp -dsimp [x_subst_Inst, cT, eTs]
  refine call_of (open_ok t l u ht hl hn) ?_
  by_cases h1 : openE t l u = 0
  · have hR : openR t l u = jobD (l.map agOf) u (openSt t l u).sc (openSt t l u).sz (openSt t l u).dp := by rw [openR, if_pos h1]
    obtain ⟨f1, f2, f3⟩ := openE_facts h1
    have hE : instE t l u = if (openSt t l u).sc then 6 else if 6000 < (openSt t l u).sz then 4 else if 200 < (openSt t l u).dp then 5 else 0 := by rw [instE, if_pos h1]
    generalize openSt t l u = st at hR hE
    obtain ⟨sc, sz, dp⟩ := st
    have bad : instE t l u ≠ 0 → instT t l u = zT := fun h => by rw [instT, if_neg h]
    rw [hR, h1]
    cases sc with
    | true =>
      have hE1 : instE t l u = 6 := by rw [hE]; rfl
      have hT := bad (by omega)
      simp -dsimp [jobD, hE1, hT, zT, cT]
    | false =>
      simp -dsimp [jobD]
      (first | refine Ask_b ?_ ?_ | refine Cnd_b ?_ ?_) <;> intro h2 <;> (try simp only [nrm] at h2) <;> simp -dsimp [h2]
      · have hE1 : instE t l u = 4 := by rw [hE]; simp [h2]
        have hT := bad (by omega)
        simp -dsimp [hE1, hT, zT, cT]
      (first | refine Ask_b ?_ ?_ | refine Cnd_b ?_ ?_) <;> intro h3 <;> (try simp only [nrm] at h3) <;> simp -dsimp [h3, h2]
      · have hE1 : instE t l u = 5 := by rw [hE]; simp [h2, h3]
        have hT := bad (by omega)
        simp -dsimp [hE1, hT, zT, cT]
      have hE1 : instE t l u = 0 := by rw [hE]; simp [h2, h3]
      have hT : instT t l u = mapT (instF l u) t 0 := by rw [instT, if_pos hE1]
      rw [hE1, hT]
      have hmap := map_ok (instF l u) n_subst_Inst_1 [.rp [jobD (l.map agOf) u false sz dp], .rp [.int .i64 u], .rp [eTs l]] (fun n b a1 a2 a3 a4 => inst1_ok l u false sz dp f3 (fun x hx => ⟨f2 x hx, hl x hx⟩) n b a1 a2 a3 a4) t 0 f1 (by omega) (show (0 : Int) + nodes t ≤ 1099511627776 by omega)
      have hj : jobD (l.map agOf) u false sz dp = .rp [.sl 6 (l.map (eAg ∘ agOf)), .int .i64 u, .bool false, .int .i64 sz, .int .i64 dp] := by simp [jobD]
      rw [hj] at hmap
      refine call_of hmap ?_
      simp -dsimp [h2, h3, cT]
  · have hR : openR t l u = .nilp := by rw [openR, if_neg h1]
    have hE : instE t l u = openE t l u := by rw [instE, if_neg h1]
    have hT : instT t l u = zT := by rw [instT, hE, if_neg h1]
    rw [hR, hE, hT]
    simp -dsimp [h1, zT, cT]
theorem mn_eq (a b : Int) : mn a b = min a b := by rw [mn]; split <;> omega
/-- Sizes and depths of what is moved stay. -/
theorem mapL_map (f : Int → Int → T) (k b : Int) (g : T → Nat) : ∀ (l : List T) (i : Nat), (∀ x ∈ l, ∀ c, g (mapT f x c) = g x) → (mapL f k b i l).map g = l.map g
  | [], i, _ => by simp [mapL]
  | x :: xs, i, h => by
    simp only [mapL, List.map_cons]
    rw [h x (by simp) _, mapL_map f k b g xs (i + 1) fun y hy => h y (by simp [hy])]
theorem same_nodes (f : Int → Int → T) (hf : ∀ n b, nodes (f n b) = 1) (t : T) : formedM t = true → ∀ b, nodes (mapT f t b) = nodes t := by
  refine T.ind (p := fun t => formedM t = true → ∀ b, nodes (mapT f t b) = nodes t) ?_ t
  intro k n ks ih hfm b
  rw [mapT]
  by_cases h1 : k = 1
  · rw [if_pos h1, hf, var_leaf h1 hfm, leaf_nodes]
  · rw [if_neg h1, nodes, nodes, mapL_map f k b nodes ks 0 fun x hx c => ih x hx (kids_formed hfm x hx) c]
theorem same_depth (f : Int → Int → T) (hf : ∀ n b, depthN (f n b) = 1) (t : T) : formedM t = true → ∀ b, depthN (mapT f t b) = depthN t := by
  refine T.ind (p := fun t => formedM t = true → ∀ b, depthN (mapT f t b) = depthN t) ?_ t
  intro k n ks ih hfm b
  rw [mapT]
  by_cases h1 : k = 1
  · rw [if_pos h1, hf, var_leaf h1 hfm, leaf_depth]
  · rw [if_neg h1, depthN, depthN, mapL_map f k b depthN ks 0 fun x hx c => ih x hx (kids_formed hfm x hx) c]
theorem moved_nodes {a : T} (h : formedM a = true) (y : Int) : nodes (movedT y a) = nodes a := same_nodes _ (fun _ _ => leaf_nodes _ _) a h 0
theorem moved_depth {a : T} (h : formedM a = true) (y : Int) : depthN (movedT y a) = depthN a := same_depth _ (fun _ _ => leaf_depth _ _) a h 0
/-- A shift goes too far. -/
def overB (a : T) (c : Int) : Bool := decide (0 ≤ freeT a 0) && decide (65535 < freeT a 0 + c)
mutual
def scI (l : List T) (u : Int) : T → Int → Bool
  | .mk k n ks, b => if k = 1 then (match (if 0 ≤ whichT l.length u n b then l[(whichT l.length u n b).toNat]? else none) with | some a => overB a (u + b) | none => false) else scL l u k b 0 ks
def scL (l : List T) (u k b : Int) : Nat → List T → Bool
  | _, [] => false
  | i, x :: xs => scI l u x (b + bindsM k i) || scL l u k b (i + 1) xs
end
theorem free_le (t : T) : formedM t = true → ∀ b, -1 ≤ freeT t b ∧ freeT t b ≤ 65535 := by
  refine T.ind (p := fun t => formedM t = true → ∀ b, -1 ≤ freeT t b ∧ freeT t b ≤ 65535) ?_ t
  intro k n ks ih hfm b
  rw [freeT]
  have h0 : -1 ≤ (if k = 1 ∧ b ≤ n then n else -1) ∧ (if k = 1 ∧ b ≤ n then n else -1) ≤ 65535 := by
    split
    · rename_i h
      have := var_formed h.1 hfm
      omega
    · omega
  have hk := kids_formed hfm
  generalize (if k = 1 ∧ b ≤ n then n else -1) = a at h0
  have go : ∀ (l : List T) (i : Nat) (a : Int), (∀ x ∈ l, formedM x = true → ∀ b, -1 ≤ freeT x b ∧ freeT x b ≤ 65535) → (∀ x ∈ l, formedM x = true) → -1 ≤ a ∧ a ≤ 65535 → -1 ≤ freeL k b i a l ∧ freeL k b i a l ≤ 65535 := by
    intro l
    induction l with
    | nil => intro i a _ _ h; simpa [freeL] using h
    | cons x xs ihx =>
      intro i a h1 h2 h3
      rw [freeL]
      have hx := h1 x (by simp) (h2 x (by simp)) (b + bindsM k i)
      refine ihx (i + 1) _ (fun y hy => h1 y (by simp [hy])) (fun y hy => h2 y (by simp [hy])) ?_
      rw [mx_eq]
      omega
  exact go ks 0 a ih hk h0
theorem inst_depth (l : List T) (u : Int) (hl : ∀ x ∈ l, formedM x = true ∧ nodes x ≤ 1048576) (t : T) : ∀ b, depthN (mapT (instF l u) t b) ≤ depthN t + 1048576 := by
  refine T.ind (p := fun t => ∀ b, depthN (mapT (instF l u) t b) ≤ depthN t + 1048576) ?_ t
  intro k n ks ih b
  rw [mapT]
  by_cases h1 : k = 1
  · rw [if_pos h1, instF]
    have hz : depthN zT = 1 := leaf_depth 0 0
    split
    · split
      · rename_i a ha
        obtain ⟨h2, h3⟩ := hl a (List.mem_of_getElem? ha)
        rw [moved_depth h2]
        have := depth_le a
        omega
      · rw [hz]; omega
    · rw [leaf_depth]; omega
  · rw [if_neg h1, depthN, depthN]
    have go : ∀ (xs : List T) (i : Nat), (∀ x ∈ xs, x ∈ ks) → dmax ((mapL (instF l u) k b i xs).map depthN) ≤ dmax (xs.map depthN) + 1048576 := by
      intro xs
      induction xs with
      | nil => intro i _; simp [mapL, dmax]
      | cons x xs ihx =>
        intro i hm
        have h2 := ih x (hm x (by simp)) (b + bindsM k i)
        have h3 := ihx (i + 1) fun y hy => hm y (by simp [hy])
        simp only [mapL, List.map_cons, dmax, List.foldr_cons] at h3 ⊢
        omega
    have := go ks 0 fun x hx => hx
    omega
theorem look_is (l : List T) (u : Int) (hu : 0 ≤ u ∧ u ≤ 65535) (hl : ∀ x ∈ l, formedM x = true ∧ nodes x ≤ 1048576) (t : T) : ∀ (b d : Int) (st : St3), formedM t = true → 0 ≤ b → b + nodes t ≤ 2097152 → 0 ≤ d → d + nodes t ≤ 2097152 →
    0 ≤ st.sz → st.sz ≤ mostI → 0 ≤ st.dp → st.dp ≤ 1099511627776 →
    lookT (l.map agOf) u t b d st = ⟨st.sc || scI l u t b, min (st.sz + nodes (mapT (instF l u) t b)) mostI, max st.dp (d + depthN (mapT (instF l u) t b))⟩ := by
  refine T.ind (p := fun t => ∀ (b d : Int) (st : St3), formedM t = true → 0 ≤ b → b + nodes t ≤ 2097152 → 0 ≤ d → d + nodes t ≤ 2097152 →
    0 ≤ st.sz → st.sz ≤ mostI → 0 ≤ st.dp → st.dp ≤ 1099511627776 →
    lookT (l.map agOf) u t b d st = ⟨st.sc || scI l u t b, min (st.sz + nodes (mapT (instF l u) t b)) mostI, max st.dp (d + depthN (mapT (instF l u) t b))⟩) ?_ t
  intro k n ks ih b d st hfm hb0 hb hd0 hd hs0 hs1 hp0 hp1
  have hM : mostI = 1099511627776 := rfl
  have hn1 : 1 ≤ nodes (.mk k n ks) := by rw [nodes]; omega
  by_cases h1 : k = 1
  · have hks := var_leaf h1 hfm
    have hn := var_formed h1 hfm
    subst h1 hks
    rw [lookT, if_pos rfl, scI, if_pos rfl, mapT, if_pos rfl, instF, List.length_map]
    by_cases hW : 0 ≤ whichT l.length u n b
    · have hlt : (whichT l.length u n b).toNat < l.length := by
        have h2 := hW
        rw [whichT] at h2 ⊢
        split at h2
        · omega
        · rename_i h3
          rw [if_neg h3]
          omega
      have hx := hl _ (List.getElem_mem hlt)
      generalize hw : (whichT l.length u n b).toNat = m at hlt hx
      have hfr := free_le l[m] hx.1 0
      rw [if_pos hW, if_pos hW, if_pos hW, List.getElem?_map, List.getElem?_eq_getElem hlt]
      simp only [Option.map_some, agOf]
      rw [size_is _ (by omega), depth_is _ (by omega), moved_nodes hx.1, moved_depth hx.1]
      have hdl := depth_le l[m]
      rw [w64_id (n := st.sz + _) (by omega) (by omega), w64_id (n := d + _) (by omega) (by omega), mn_eq, mx_eq, hM, w64_id (n := freeT l[m] 0 + u) (by omega) (by omega), w64_id (n := freeT l[m] 0 + u + b) (by omega) (by omega)]
      congr 1
      rw [overB]
      have e : freeT l[m] 0 + u + b = freeT l[m] 0 + (u + b) := by omega
      rw [e]
      cases st.sc
      · by_cases h4 : 0 ≤ freeT l[m] 0 <;> simp [h4]
      · simp
    · rw [if_neg hW, if_neg hW, if_neg hW]
      simp only [leaf_nodes, leaf_depth]
      rw [w64_id (by omega) (by omega), w64_id (by omega) (by omega), mn_eq, mx_eq, hM]
      simp
  · have hkf := kids_formed hfm
    rw [lookT, if_neg h1, scI, if_neg h1, mapT, if_neg h1, nodes, depthN]
    have hnn : nodes (.mk k n ks) = (ks.map nodes).sum + 1 := by rw [nodes]
    have go : ∀ (xs : List T) (i : Nat) (st : St3), (∀ x ∈ xs, x ∈ ks) → 0 ≤ st.sz → st.sz ≤ mostI → d + 1 ≤ st.dp → st.dp ≤ 1099511627776 →
        lookL (l.map agOf) u k b d i st xs = ⟨st.sc || scL l u k b i xs, min (st.sz + ((mapL (instF l u) k b i xs).map nodes).sum) mostI, max st.dp (d + 1 + dmax ((mapL (instF l u) k b i xs).map depthN))⟩ := by
      intro xs
      induction xs with
      | nil =>
        intro i st _ a0 a1 a2 a3
        simp only [lookL, scL, mapL, List.map_nil, List.sum_nil, dmax, List.foldr_nil]
        obtain ⟨sc, sz, dp⟩ := st
        simp only [Bool.or_false, St3.mk.injEq, true_and]
        simp only at a0 a1 a2 a3
        omega
      | cons x xs ihx =>
        intro i st hmem a0 a1 a2 a3
        have hxk := hmem x (by simp)
        have hxn := nodes_kid (k := k) (n := n) hxk
        have hbl := binds_le k i
        rw [lookL, w64_id (n := d + 1) (by omega) (by omega), ih x hxk (b + bindsM k i) (d + 1) st (hkf x hxk) (by omega) (by omega) (by omega) (by omega) a0 a1 (by omega) a3]
        have hdx := depth_le x
        rw [ihx (i + 1) _ (fun y hy => hmem y (by simp [hy])) (by simp only; omega) (by simp only; omega) (by simp only; omega) ?_]
        · simp only [scL, mapL, List.map_cons, List.sum_cons, dmax, List.foldr_cons, Bool.or_assoc, St3.mk.injEq, true_and]
          omega
        · simp only
          have := inst_depth l u hl x (b + bindsM k i)
          omega
    have hg := go ks 0 ⟨st.sc, mn (w64 (st.sz + 1)) mostI, mx st.dp (w64 (d + 1))⟩ (fun x hx => hx) (by simp only; rw [w64_id (by omega) (by omega), mn_eq]; omega) (by simp only; rw [mn_eq]; omega) (by simp only; rw [w64_id (by omega) (by omega), mx_eq]; omega)
      (by simp only; rw [w64_id (by omega) (by omega), mx_eq]; omega)
    rw [hg]
    simp only [St3.mk.injEq, true_and]
    rw [w64_id (n := st.sz + 1) (by omega) (by omega), w64_id (n := d + 1) (by omega) (by omega), mn_eq, mx_eq]
    omega
/-- What is reckoned ahead. -/
theorem openSt_is {t : T} {l : List T} {u : Int} (h : openE t l u = 0) (ht : nodes t ≤ 1048576) (hl : ∀ x ∈ l, nodes x ≤ 1048576) :
    openSt t l u = ⟨scI l u t 0, min (nodes (mapT (instF l u) t 0) : Int) mostI, depthN (mapT (instF l u) t 0)⟩ := by
  obtain ⟨f1, f2, f3⟩ := openE_facts h
  rw [openSt, look_is l u f3 (fun x hx => ⟨f2 x hx, hl x hx⟩) t 0 0 st0 f1 (by omega) (by omega) (by omega) (by omega) (by simp [st0]) (by simp [st0, mostI]) (by simp [st0]) (by simp [st0])]
  simp only [st0, Bool.false_or, St3.mk.injEq, true_and]
  omega
/-- Put in, all is right. -/
theorem inst_iff {t : T} {l : List T} {u : Int} (ht : nodes t ≤ 1048576) (hl : ∀ x ∈ l, nodes x ≤ 1048576) :
    instE t l u = 0 ↔ openE t l u = 0 ∧ scI l u t 0 = false ∧ nodes (mapT (instF l u) t 0) ≤ 6000 ∧ depthN (mapT (instF l u) t 0) ≤ 200 := by
  have hM : mostI = 1099511627776 := rfl
  rw [instE]
  by_cases h : openE t l u = 0
  · rw [if_pos h, openSt_is h ht hl]
    simp only
    cases scI l u t 0 with
    | true => simp
    | false =>
      simp only [Bool.false_eq_true, if_false, true_and, h]
      by_cases h1 : (6000 : Int) < min (nodes (mapT (instF l u) t 0) : Int) mostI
      · rw [if_pos h1]
        constructor
        · intro h; cases h
        · omega
      · rw [if_neg h1]
        by_cases h2 : (200 : Int) < depthN (mapT (instF l u) t 0)
        · rw [if_pos h2]
          constructor
          · intro h; cases h
          · omega
        · rw [if_neg h2]
          constructor
          · intro _; omega
          · intro _; rfl
  · rw [if_neg h]
    constructor
    · intro h'; exact absurd h' h
    · rintro ⟨h', _⟩; exact absurd h' h
theorem inst_at {t : T} {l : List T} {u : Int} (h : instE t l u = 0) : instT t l u = mapT (instF l u) t 0 := by rw [instT, if_pos h]
theorem rt_ok (k : Int) (l : List T) (hl : l.length * 40 ≤ maxRoom) : Pure Tryz.prog n_porismref01_T [.int .i64 k, eTs l] [.agg (cT (.mk k 0 l))] := by
  refine p_porismref01_T rfl fun hs => ?_
  simp -dsimp [x_porismref01_T, cT, eTs, hl]
theorem openE_iff (t : T) (l : List T) (u : Int) : openE t l u = 0 ↔ checkM t = 0 ∧ (∀ x ∈ l, checkM x = 0) ∧ 0 ≤ u ∧ u ≤ 65535 := by
  have ha : argsE l = 0 ↔ ∀ x ∈ l, checkM x = 0 := by
    induction l with
    | nil => simp [argsE]
    | cons x xs ih =>
      rw [argsE]
      by_cases h : checkM x = 0
      · simp [h, ih]
      · simp [h]
  rw [openE, ← ha]
  by_cases h1 : checkM t = 0
  · rw [if_pos h1]
    by_cases h2 : argsE l = 0
    · rw [if_pos h2]
      by_cases h3 : u < 0 ∨ 65535 < u
      · rw [if_pos h3]
        constructor
        · intro h; cases h
        · omega
      · rw [if_neg h3]
        constructor
        · intro _; exact ⟨h1, h2, by omega⟩
        · intro _; rfl
    · rw [if_neg h2]
      constructor
      · intro h; exact absurd h h2
      · intro h; exact absurd h.2.1 h2
  · rw [if_neg h1]
    constructor
    · intro h; exact absurd h h1
    · intro h; exact absurd h.1 h1
theorem map_shift (f g : Int → Int → T) (c : Int) (h : ∀ n b, g n b = f n (b + c)) (t : T) : ∀ b, mapT g t b = mapT f t (b + c) := by
  refine T.ind (p := fun t => ∀ b, mapT g t b = mapT f t (b + c)) ?_ t
  intro k n ks ih b
  rw [mapT, mapT]
  by_cases h1 : k = 1
  · rw [if_pos h1, if_pos h1, h]
  · rw [if_neg h1, if_neg h1]
    congr 1
    have go : ∀ (xs : List T) (i : Nat), (∀ x ∈ xs, x ∈ ks) → mapL g k b i xs = mapL f k (b + c) i xs := by
      intro xs
      induction xs with
      | nil => intro i _; simp [mapL]
      | cons x xs ihx =>
        intro i hm
        rw [mapL, mapL, ih x (hm x (by simp)), ihx (i + 1) fun y hy => hm y (by simp [hy])]
        have e : b + bindsM k i + c = b + c + bindsM k i := by omega
        rw [e]
    exact go ks 0 fun x hx => hx
theorem which_shift (len : Nat) (u n b c : Int) : whichT len (u + c) n b = whichT len u n (b + c) := by
  have e : u + c + b = u + (b + c) := by omega
  rw [whichT, whichT, e]
theorem instF_shift (l : List T) (u c n b : Int) : instF l (u + c) n b = instF l u n (b + c) := by
  have e : u + c + b = u + (b + c) := by omega
  rw [instF, instF, which_shift, e]
theorem sc_shift (l : List T) (u c : Int) (t : T) : ∀ b, scI l (u + c) t b = scI l u t (b + c) := by
  refine T.ind (p := fun t => ∀ b, scI l (u + c) t b = scI l u t (b + c)) ?_ t
  intro k n ks ih b
  rw [scI, scI, which_shift]
  have e : u + c + b = u + (b + c) := by omega
  rw [e]
  by_cases h1 : k = 1
  · rw [if_pos h1, if_pos h1]
  · rw [if_neg h1, if_neg h1]
    have go : ∀ (xs : List T) (i : Nat), (∀ x ∈ xs, x ∈ ks) → scL l (u + c) k b i xs = scL l u k (b + c) i xs := by
      intro xs
      induction xs with
      | nil => intro i _; simp [scL]
      | cons x xs ihx =>
        intro i hm
        rw [scL, scL, ih x (hm x (by simp)), ihx (i + 1) fun y hy => hm y (by simp [hy])]
        have e : b + bindsM k i + c = b + c + bindsM k i := by omega
        rw [e]
    exact go ks 0 fun x hx => hx
theorem scL_at (l : List T) (u k b : Int) : ∀ (xs : List T) (i j : Nat) (h : j < xs.length), scL l u k b i xs = false → scI l u xs[j] (b + bindsM k (i + j : Nat)) = false
  | x :: xs, i, 0, h, hs => by
    rw [scL, Bool.or_eq_false_iff] at hs
    simpa using hs.1
  | x :: xs, i, j + 1, h, hs => by
    rw [scL, Bool.or_eq_false_iff] at hs
    have := scL_at l u k b xs (i + 1) j (by simpa using h) hs.2
    simp only [List.getElem_cons_succ]
    rw [show i + (j + 1) = i + 1 + j by omega]
    exact this
theorem instT_kind {t : T} {l : List T} {u : Int} {k n : Int} {ks : List T} (ht : t = .mk k n ks) (hk : k ≠ 1) (h : instE t l u = 0) : instT t l u = .mk k n (mapL (instF l u) k 0 0 ks) := by
  rw [inst_at h, ht, mapT, if_neg hk]
/-- Kid by Kid. -/
theorem inst_kid {k n : Int} {ks : List T} {l : List T} {u : Int} (hk : k ≠ 1) (ht : nodes (.mk k n ks) ≤ 1048576) (hl : ∀ x ∈ l, nodes x ≤ 1048576) (hu : u ≤ 60000) (h : instE (.mk k n ks) l u = 0) (i : Nat) (hi : i < ks.length) :
    instE ks[i] l (u + bindsM k i) = 0 ∧ instT ks[i] l (u + bindsM k i) = (mapL (instF l u) k 0 0 ks)[i]'(by rw [mapL_len]; exact hi) := by
  have hkn := nodes_kid (k := k) (n := n) (List.getElem_mem hi)
  obtain ⟨h1, h2, h3, h4⟩ := (inst_iff ht hl).1 h
  obtain ⟨o1, o2, o3⟩ := (openE_iff _ _ _).1 h1
  obtain ⟨c1, c2, c3⟩ := (check_iff ht).1 o1
  have hb := binds_le k i
  have hmap : mapT (instF l (u + bindsM k i)) ks[i] 0 = (mapL (instF l u) k 0 0 ks)[i]'(by rw [mapL_len]; exact hi) := by
    rw [map_shift (instF l u) (instF l (u + bindsM k i)) (bindsM k i) (instF_shift l u (bindsM k i)), mapL_get _ _ _ _ _ _ hi, Nat.zero_add]
  have hmem : mapT (instF l (u + bindsM k i)) ks[i] 0 ∈ mapL (instF l u) k 0 0 ks := by rw [hmap]; exact List.getElem_mem _
  have hE : instE ks[i] l (u + bindsM k i) = 0 := by
    rw [inst_iff (by omega) hl]
    refine ⟨(openE_iff _ _ _).2 ⟨(check_iff (by omega)).2 ⟨by omega, ?_, kids_formed c3 _ (List.getElem_mem hi)⟩, o2, by omega⟩, ?_, ?_, ?_⟩
    · rw [depthN] at c2
      have := dmax_mem (List.mem_map.2 ⟨_, List.getElem_mem hi, rfl⟩ : depthN ks[i] ∈ ks.map depthN)
      omega
    · rw [sc_shift]
      rw [scI, if_neg hk] at h2
      have := scL_at l u k 0 ks 0 i hi h2
      rwa [Nat.zero_add] at this
    · rw [mapT, if_neg hk] at h3
      have := nodes_kid (k := k) (n := n) hmem
      omega
    · rw [mapT, if_neg hk, depthN] at h4
      have := dmax_mem (List.mem_map.2 ⟨_, hmem, rfl⟩ : depthN _ ∈ (mapL (instF l u) k 0 0 ks).map depthN)
      omega
  exact ⟨hE, by rw [inst_at hE, hmap]⟩
theorem map_congr (f g : Int → Int → T) (h : ∀ n b : Int, 0 ≤ n → n ≤ 65535 → 0 ≤ b → b ≤ 4194304 → f n b = g n b) (t : T) : ∀ b : Int, formedM t = true → 0 ≤ b → b + nodes t ≤ 4194304 → mapT f t b = mapT g t b := by
  refine T.ind (p := fun t => ∀ b : Int, formedM t = true → 0 ≤ b → b + nodes t ≤ 4194304 → mapT f t b = mapT g t b) ?_ t
  intro k n ks ih b hfm h0 hb
  rw [mapT, mapT]
  by_cases h1 : k = 1
  · have hn := var_formed h1 hfm
    rw [if_pos h1, if_pos h1, h n b hn.1 hn.2 h0 (by omega)]
  · rw [if_neg h1, if_neg h1]
    congr 1
    have go : ∀ (xs : List T) (i : Nat), (∀ x ∈ xs, x ∈ ks) → mapL f k b i xs = mapL g k b i xs := by
      intro xs
      induction xs with
      | nil => intro i _; simp [mapL]
      | cons x xs ihx =>
        intro i hm
        have hx := hm x (by simp)
        have hxn := nodes_kid (k := k) (n := n) hx
        have hbl := binds_le k i
        rw [mapL, mapL, ih x hx _ (kids_formed hfm x hx) (by omega) (by omega), ihx (i + 1) fun y hy => hm y (by simp [hy])]
    exact go ks 0 fun x hx => hx
theorem map_map (f g h : Int → Int → T) (e : Int) (hv : ∀ n b : Int, 0 ≤ n → n ≤ 65535 → 0 ≤ b → b ≤ 4194304 → mapT f (g n b) (b + e) = h n b) (t : T) : ∀ b : Int, formedM t = true → 0 ≤ b → b + nodes t ≤ 4194304 → mapT f (mapT g t b) (b + e) = mapT h t b := by
  refine T.ind (p := fun t => ∀ b : Int, formedM t = true → 0 ≤ b → b + nodes t ≤ 4194304 → mapT f (mapT g t b) (b + e) = mapT h t b) ?_ t
  intro k n ks ih b hfm h0 hb
  rw [mapT, mapT]
  by_cases h1 : k = 1
  · have hn := var_formed h1 hfm
    rw [if_pos h1, if_pos h1, hv n b hn.1 hn.2 h0 (by omega)]
  · rw [if_neg h1, if_neg h1, mapT, if_neg h1]
    congr 1
    have go : ∀ (xs : List T) (i : Nat), (∀ x ∈ xs, x ∈ ks) → mapL f k (b + e) i (mapL g k b i xs) = mapL h k b i xs := by
      intro xs
      induction xs with
      | nil => intro i _; simp [mapL]
      | cons x xs ihx =>
        intro i hm
        have hx := hm x (by simp)
        have hxn := nodes_kid (k := k) (n := n) hx
        have hbl := binds_le k i
        have e1 : b + e + bindsM k i = b + bindsM k i + e := by omega
        rw [mapL, mapL, mapL, e1, ih x hx _ (kids_formed hfm x hx) (by omega) (by omega), ihx (i + 1) fun y hy => hm y (by simp [hy])]
    exact go ks 0 fun x hx => hx
def mv (y : Int) (n b : Int) : T := .mk 1 (if b ≤ n then w64 (n + y) else n) []
theorem moved_is (y : Int) (t : T) : movedT y t = mapT (mv y) t 0 := rfl
theorem map_var (f : Int → Int → T) (n b : Int) : mapT f (.mk 1 n []) b = f n b := by rw [mapT, if_pos rfl]
theorem mv_lo {y n b : Int} (h : n < b) : mv y n b = .mk 1 n [] := by rw [mv, if_neg (by omega)]
theorem mv_hi {y n b : Int} (h : b ≤ n) (hn : 0 ≤ n) (hn' : n ≤ 10000000) (hy : 0 ≤ y) (hy' : y ≤ 10000000) : mv y n b = .mk 1 (n + y) [] := by rw [mv, if_pos h, w64_id (by omega) (by omega)]
/-- Shifted twice. -/
theorem mv_mv (t : T) (hf : formedM t = true) (j k i : Int) (hj : 0 ≤ j) (hj' : j ≤ 4194304) (hk : 0 ≤ k) (hk' : k ≤ 4194304) (hi : 0 ≤ i) (hi' : i + nodes t ≤ 4194304) : mapT (mv k) (mapT (mv j) t i) (i + j) = mapT (mv (j + k)) t i := by
  refine map_map (mv k) (mv j) (mv (j + k)) j (fun n b h1 h2 h3 h4 => ?_) t i hf hi hi'
  by_cases c : n < b
  · rw [mv_lo c, map_var, mv_lo (by omega), mv_lo c]
  · rw [mv_hi (by omega) h1 (by omega) hj (by omega), map_var, mv_hi (by omega) (by omega) (by omega) hk (by omega), mv_hi (by omega) h1 (by omega) (by omega) (by omega)]
    congr 1
    omega
/-- One term for the last variable. -/
theorem one_lo {a : T} {n b : Int} (h : n < b) : instF [a] 0 n b = .mk 1 n [] := by
  have : whichT [a].length 0 n b = -1 := by rw [whichT, if_pos]; left; omega
  rw [instF, this, if_neg (by omega), if_neg (by omega)]
theorem one_at {a : T} {b : Int} (h0 : 0 ≤ b) (h1 : b ≤ 10000000) : instF [a] 0 b b = mapT (mv b) a 0 := by
  have : whichT [a].length 0 b b = 0 := by rw [whichT, if_neg (by simp)]; simp
  rw [instF, this, if_pos (by omega)]
  show movedT (w64 (0 + b)) a = _
  rw [w64_id (by omega) (by omega), Int.zero_add, moved_is]
theorem one_hi {a : T} {n b : Int} (h : b < n) (hn : n ≤ 10000000) (hb : 0 ≤ b) : instF [a] 0 n b = .mk 1 (n - 1) [] := by
  have : whichT [a].length 0 n b = -1 := by rw [whichT, if_pos]; right; simp; omega
  rw [instF, this, if_neg (by omega), if_pos (by omega)]
  have e : w64 (n - ([a].length : Int)) = n - 1 := by rw [w64_id] <;> simp <;> omega
  rw [e]
/-- Put in a shifted one, or shifted what is put in. -/
theorem one_mv (a t : T) (ha : formedM a = true) (hf : formedM t = true) (k j : Int) (hk : 0 ≤ k) (hk' : k ≤ 2097152) (hj : 0 ≤ j) (hj' : j + nodes t ≤ 2097152) (han : nodes a ≤ 2097152) :
    mapT (instF [a] 0) (mapT (mv k) t j) (j + k) = mapT (mv k) (mapT (instF [a] 0) t j) j := by
  have h1 : mapT (instF [a] 0) (mapT (mv k) t j) (j + k) = mapT (fun n b => mapT (instF [a] 0) (mv k n b) (b + k)) t j := map_map _ _ _ k (fun _ _ _ _ _ _ => rfl) t j hf hj (by omega)
  have h2 : mapT (mv k) (mapT (instF [a] 0) t j) (j + 0) = mapT (fun n b => mapT (mv k) (instF [a] 0 n b) (b + 0)) t j := map_map _ _ _ 0 (fun _ _ _ _ _ _ => rfl) t j hf hj (by omega)
  rw [Int.add_zero] at h2
  rw [h1, h2]
  -- below so many binders alone
  have go : ∀ (t : T) (b : Int), formedM t = true → 0 ≤ b → b + nodes t ≤ 2097152 → mapT (fun n b => mapT (instF [a] 0) (mv k n b) (b + k)) t b = mapT (fun n b => mapT (mv k) (instF [a] 0 n b) (b + 0)) t b := by
    intro t
    refine T.ind (p := fun t => ∀ b : Int, formedM t = true → 0 ≤ b → b + nodes t ≤ 2097152 → mapT (fun n b => mapT (instF [a] 0) (mv k n b) (b + k)) t b = mapT (fun n b => mapT (mv k) (instF [a] 0 n b) (b + 0)) t b) ?_ t
    intro kd n ks ih b hfm h0 hb
    rw [mapT, mapT]
    by_cases c1 : kd = 1
    · have hn := var_formed c1 hfm
      rw [if_pos c1, if_pos c1, Int.add_zero]
      rcases Int.lt_trichotomy n b with c | c | c
      · rw [mv_lo c, map_var, one_lo (by omega), one_lo c, map_var, mv_lo c]
      · subst c
        rw [mv_hi (Int.le_refl _) hn.1 (by omega) hk (by omega), map_var, one_at (by omega) (by omega), one_at (by omega) (by omega)]
        have := mv_mv a ha n k 0 hn.1 (by omega) hk (by omega) (by omega) (by omega)
        rw [Int.zero_add] at this
        exact this.symm
      · rw [mv_hi (by omega) hn.1 (by omega) hk (by omega), map_var, one_hi (by omega) (by omega) (by omega), one_hi c (by omega) h0, map_var, mv_hi (by omega) (by omega) (by omega) hk (by omega)]
        congr 1
        omega
    · rw [if_neg c1, if_neg c1]
      congr 1
      have go2 : ∀ (xs : List T) (i : Nat), (∀ x ∈ xs, x ∈ ks) → mapL (fun n b => mapT (instF [a] 0) (mv k n b) (b + k)) kd b i xs = mapL (fun n b => mapT (mv k) (instF [a] 0 n b) (b + 0)) kd b i xs := by
        intro xs
        induction xs with
        | nil => intro i _; simp [mapL]
        | cons x xs ihx =>
          intro i hm
          have hx := hm x (by simp)
          have hxn := nodes_kid (k := kd) (n := n) hx
          have hbl := binds_le kd i
          rw [mapL, mapL, ih x hx _ (kids_formed hfm x hx) (by omega) (by omega), ihx (i + 1) fun y hy => hm y (by simp [hy])]
      exact go2 ks 0 fun x hx => hx
  exact go t j hf hj hj'
theorem formed_node {f : Int → Int → T} {k n b : Int} {ks : List T} (h1 : k ≠ 1) (hfm : formedM (.mk k n ks) = true) (h : ∀ (j : Nat) (hj : j < ks.length), formedM (mapT f ks[j] (b + bindsM k j)) = true) : formedM (.mk k n (mapL f k b 0 ks)) = true := by
  have ha : (mapL f k b 0 ks).all formedM = true := by
    rw [List.all_eq_true]
    intro x hx
    obtain ⟨j, hj, rfl⟩ := List.mem_iff_getElem.1 hx
    rw [mapL_len] at hj
    rw [mapL_get f k b ks 0 j hj, Nat.zero_add]
    exact h j hj
  rw [formedM_is] at hfm ⊢
  rw [mapL_len, ha]
  split at hfm
  · rename_i c1
    rw [if_pos c1]
    split at hfm
    · rename_i c2
      rw [if_pos c2]
      rw [Bool.and_eq_true] at hfm
      rw [hfm.1]; rfl
    · rename_i c2
      rw [if_neg c2]
      split at hfm
      · rename_i c3; rw [if_pos c3]
      · cases hfm
  · cases hfm
theorem var_is_formed {n : Int} (h : 0 ≤ n ∧ n ≤ 65535) : formedM (.mk 1 n []) = true := by simp [formedM_is, kidsM, (inB_iff n 0 65535).2 h]
theorem freeL_ge (k b : Int) : ∀ (xs : List T) (i : Nat) (a : Int), a ≤ freeL k b i a xs ∧ ∀ (j : Nat) (hj : j < xs.length), freeT xs[j] (b + bindsM k (i + j : Nat)) ≤ freeL k b i a xs
  | [], i, a => ⟨by rw [freeL]; omega, fun j hj => by simp at hj⟩
  | x :: xs, i, a => by
    obtain ⟨h1, h2⟩ := freeL_ge k b xs (i + 1) (mx a (freeT x (b + bindsM k i)))
    rw [mx_eq] at h1
    rw [freeL]
    refine ⟨by rw [mx_eq] at *; omega, fun j hj => ?_⟩
    cases j with
    | zero => simp only [List.getElem_cons_zero, Nat.add_zero]; rw [mx_eq] at *; omega
    | succ j =>
      have := h2 j (by simpa using hj)
      simp only [List.getElem_cons_succ]
      rw [show i + (j + 1) = i + 1 + j by omega]
      exact this
theorem moved_formed (t : T) : ∀ (b y F : Int), formedM t = true → 0 ≤ y → y ≤ 10000000 → freeT t b ≤ F → (F < 0 ∨ F + y ≤ 65535) → 0 ≤ b → formedM (mapT (mv y) t b) = true := by
  refine T.ind (p := fun t => ∀ (b y F : Int), formedM t = true → 0 ≤ y → y ≤ 10000000 → freeT t b ≤ F → (F < 0 ∨ F + y ≤ 65535) → 0 ≤ b → formedM (mapT (mv y) t b) = true) ?_ t
  intro k n ks ih b y F hfm hy0 hy1 hF hFy hb
  rw [freeT] at hF
  rw [mapT]
  by_cases h1 : k = 1
  · have hn := var_formed h1 hfm
    rw [if_pos h1]
    by_cases c : b ≤ n
    · rw [mv_hi c hn.1 (by omega) hy0 hy1]
      have := (freeL_ge k b ks 0 (if k = 1 ∧ b ≤ n then n else -1)).1
      rw [if_pos ⟨h1, c⟩] at this hF
      exact var_is_formed (by omega)
    · rw [mv_lo (by omega)]
      exact var_is_formed hn
  · rw [if_neg h1]
    refine formed_node h1 hfm fun j hj => ?_
    have h2 := (freeL_ge k b ks 0 (if k = 1 ∧ b ≤ n then n else -1)).2 j hj
    rw [Nat.zero_add] at h2
    have hbl := binds_le k j
    exact ih ks[j] (List.getElem_mem _) _ y F (kids_formed hfm _ (List.getElem_mem _)) hy0 hy1 (by omega) hFy (by omega)
theorem inst_formed (l : List T) (u : Int) (hu : 0 ≤ u ∧ u ≤ 65535) (hl : ∀ x ∈ l, formedM x = true) (t : T) : ∀ b : Int, formedM t = true → 0 ≤ b → b + nodes t ≤ 2097152 → scI l u t b = false → formedM (mapT (instF l u) t b) = true := by
  refine T.ind (p := fun t => ∀ b : Int, formedM t = true → 0 ≤ b → b + nodes t ≤ 2097152 → scI l u t b = false → formedM (mapT (instF l u) t b) = true) ?_ t
  intro k n ks ih b hfm h0 hb hsc
  rw [mapT]
  rw [scI] at hsc
  by_cases h1 : k = 1
  · have hn := var_formed h1 hfm
    rw [if_pos h1] at hsc ⊢
    rw [instF]
    by_cases hW : 0 ≤ whichT l.length u n b
    · have hlt : (whichT l.length u n b).toNat < l.length := by
        have h2 := hW
        rw [whichT] at h2 ⊢
        split at h2
        · omega
        · rename_i h3
          rw [if_neg h3]
          omega
      generalize (whichT l.length u n b).toNat = m at hlt hsc
      rw [if_pos hW, List.getElem?_eq_getElem hlt] at hsc ⊢
      have hx := hl _ (List.getElem_mem hlt)
      have hfr := free_le l[m] hx 0
      simp only [overB, Bool.and_eq_false_iff, decide_eq_false_iff_not] at hsc
      show formedM (movedT (w64 (u + b)) l[m]) = true
      rw [w64_id (by omega) (by omega), moved_is]
      exact moved_formed l[m] 0 (u + b) (freeT l[m] 0) hx (by omega) (by omega) (Int.le_refl _) (by omega) (by omega)
    · rw [if_neg hW]
      have h2 := hW
      rw [whichT] at h2
      by_cases c : u + b ≤ n
      · rw [if_pos c]
        have : (l.length : Int) ≤ n - (u + b) := by
          split at h2
          · rename_i h3; omega
          · omega
        rw [w64_id (by omega) (by omega)]
        exact var_is_formed (by omega)
      · rw [if_neg c]
        exact var_is_formed hn
  · rw [if_neg h1] at hsc ⊢
    refine formed_node h1 hfm fun j hj => ?_
    have hxn := nodes_kid (k := k) (n := n) (List.getElem_mem hj)
    have hbl := binds_le k j
    have h2 := scL_at l u k b ks 0 j hj hsc
    rw [Nat.zero_add] at h2
    exact ih ks[j] (List.getElem_mem _) _ (kids_formed hfm _ (List.getElem_mem _)) (by omega) (by omega) h2
/-- What comes of it is right. -/
theorem inst_right {t : T} {l : List T} {u : Int} (ht : nodes t ≤ 1048576) (hl : ∀ x ∈ l, nodes x ≤ 1048576) (h : instE t l u = 0) : checkM (instT t l u) = 0 ∧ nodes (instT t l u) ≤ 6000 ∧ formedM (instT t l u) = true := by
  obtain ⟨h1, h2, h3, h4⟩ := (inst_iff ht hl).1 h
  obtain ⟨f1, f2, f3⟩ := openE_facts h1
  rw [inst_at h]
  have hf := inst_formed l u f3 f2 t 0 f1 (by omega) (by omega) h2
  exact ⟨(check_iff (by omega)).2 ⟨h3, h4, hf⟩, h3, hf⟩
theorem inst_err {t : T} {l : List T} {u : Int} (h : openE t l u = 0) : instE t l u = 0 ∨ instE t l u = 4 ∨ instE t l u = 5 ∨ instE t l u = 6 := by
  rw [instE, if_pos h]
  split
  · omega
  · split
    · omega
    · split <;> omega
theorem two_lo {a c : T} {n b : Int} (h : n < b) : instF [a, c] 0 n b = .mk 1 n [] := by
  have : whichT [a, c].length 0 n b = -1 := by rw [whichT, if_pos]; left; omega
  rw [instF, this, if_neg (by omega), if_neg (by omega)]
theorem two_at {a c : T} {b : Int} (h0 : 0 ≤ b) (h1 : b ≤ 10000000) : instF [a, c] 0 b b = mapT (mv b) c 0 := by
  have : whichT [a, c].length 0 b b = 1 := by rw [whichT, if_neg (by simp)]; simp
  rw [instF, this, if_pos (by omega)]
  show movedT (w64 (0 + b)) c = _
  rw [w64_id (by omega) (by omega), Int.zero_add, moved_is]
theorem two_at1 {a c : T} {n b : Int} (hn : n = b + 1) (h0 : 0 ≤ b) (h1 : b ≤ 10000000) : instF [a, c] 0 n b = mapT (mv b) a 0 := by
  have : whichT [a, c].length 0 n b = 0 := by rw [whichT, if_neg (by simp; omega)]; simp; omega
  rw [instF, this, if_pos (by omega)]
  show movedT (w64 (0 + b)) a = _
  rw [w64_id (by omega) (by omega), Int.zero_add, moved_is]
theorem two_hi {a c : T} {n b : Int} (h : b + 1 < n) (hn : n ≤ 10000000) (hb : 0 ≤ b) : instF [a, c] 0 n b = .mk 1 (n - 2) [] := by
  have : whichT [a, c].length 0 n b = -1 := by rw [whichT, if_pos]; right; simp; omega
  rw [instF, this, if_neg (by omega), if_pos (by omega)]
  have e : w64 (n - ([a, c].length : Int)) = n - 2 := by rw [w64_id] <;> simp <;> omega
  rw [e]
/-- One behind the other, or at once. -/
theorem twice_core {t a b : T} (ht : nodes t ≤ 1048576) (ha : nodes a ≤ 1048576) (hb : nodes b ≤ 1048576) (e1 : instE t [a] 0 = 0) (e2 : instE (instT t [a] 0) [b] 0 = 0) (e3 : instE a [b] 0 = 0) :
    openE t [b, instT a [b] 0] 0 = 0 ∧ instT (instT t [a] 0) [b] 0 = mapT (instF [b, instT a [b] 0] 0) t 0 := by
  have s1 : ∀ x ∈ [a], nodes x ≤ 1048576 := by simpa using ha
  have s2 : ∀ x ∈ [b], nodes x ≤ 1048576 := by simpa using hb
  obtain ⟨p1, p2, p3, p4⟩ := (inst_iff ht s1).1 e1
  obtain ⟨q1, q2, q3⟩ := (openE_iff _ _ _).1 p1
  obtain ⟨r1, r2, r3⟩ := inst_right ht s1 e1
  obtain ⟨c1, c2, c3⟩ := inst_right ha s2 e3
  obtain ⟨o1, o2, _⟩ := (openE_iff _ _ _).1 ((inst_iff (by omega) s2).1 e2).1
  have hbc := o2 b (by simp)
  refine ⟨(openE_iff _ _ _).2 ⟨q1, by intro x hx; simp at hx; rcases hx with rfl | rfl <;> assumption, by omega⟩, ?_⟩
  have ft := formed_of q1
  have fa := formed_of (q2 a (by simp))
  have fb := formed_of hbc
  rw [inst_at e2, inst_at e1, inst_at e3]
  have := map_map (instF [b] 0) (instF [a] 0) (instF [b, mapT (instF [b] 0) a 0] 0) 0 (fun n k h1 h2 h3 h4 => ?_) t 0 ft (by omega) (by omega)
  · rw [Int.add_zero] at this; exact this
  · rw [Int.add_zero]
    by_cases d1 : n < k
    · rw [one_lo d1, map_var, one_lo d1, two_lo d1]
    by_cases d2 : n = k
    · subst d2
      rw [one_at h1 (by omega), two_at h1 (by omega)]
      have := one_mv b a fb fa n 0 h1 (by omega) (by omega) (by omega) (by omega)
      rw [Int.zero_add] at this
      exact this
    by_cases d3 : n = k + 1
    · rw [one_hi (by omega) (by omega) h3, map_var, two_at1 d3 h3 (by omega)]
      have e : n - 1 = k := by omega
      rw [e, one_at h3 (by omega)]
    · rw [one_hi (by omega) (by omega) h3, map_var, one_hi (by omega) (by omega) h3, two_hi (by omega) (by omega) h3]
      congr 1
      omega
end Ev
end Go.Proofs.YtncmainjcffanaaGreat
