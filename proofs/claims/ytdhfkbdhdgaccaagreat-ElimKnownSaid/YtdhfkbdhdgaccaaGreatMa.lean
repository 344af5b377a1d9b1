/- Texts of this claim, in one. -/
import Derived.Test.YtdhfkbdhdgaccaaGreatSA
import Derived.Test.YtdhfkbdhdgaccaaGreatXs
import Derived.Test.YtdhfkbdhdgaccaaGreatRA
import Derived.Test.YtdhfkbdhdgaccaaGreatXd
import Derived.Test.YtdhfkbdhdgaccaaGreatXe
/- Substitution: what comes of it. -/
namespace Go.Proofs.YtdhfkbdhdgaccaaGreat
namespace Ev
open Go
set_option maxRecDepth 100000
set_option linter.unusedSimpArgs false
set_option linter.unusedVariables false
attribute [local simp] allD_map_d sks_map_d tk tn tks initA EndsM
mutual
def mapT (f : Int → Int → T) : T → Int → T
  | .mk k n ks, b => if k = 1 then f n b else .mk k n (mapL f k b 0 ks)
def mapL (f : Int → Int → T) (k b : Int) : Nat → List T → List T
  | _, [] => []
  | i, x :: xs => mapT f x (b + bindsM k i) :: mapL f k b (i + 1) xs
end
theorem mapL_len (f : Int → Int → T) (k b : Int) : ∀ (l : List T) (i : Nat), (mapL f k b i l).length = l.length
  | [], i => by simp [mapL]
  | x :: xs, i => by simp [mapL, mapL_len f k b xs (i + 1)]
theorem mapL_get (f : Int → Int → T) (k b : Int) : ∀ (l : List T) (i j : Nat) (h : j < l.length), (mapL f k b i l)[j]'(by rw [mapL_len]; exact h) = mapT f l[j] (b + bindsM k (i + j : Nat))
  | x :: xs, i, 0, h => by simp [mapL]
  | x :: xs, i, j + 1, h => by
    have := mapL_get f k b xs (i + 1) j (by simpa using h)
    simp only [mapL, List.getElem_cons_succ]
    rw [this]
    congr 3
    omega
theorem map_ok (f : Int → Int → T) (g : FuncId) (caps : List D) (hf : ∀ n b : Int, 0 ≤ n → n ≤ 65535 → 0 ≤ b → b ≤ 1099511627776 → Pure Tryz.prog g (.int .i64 n :: .int .i64 b :: caps) [.agg (cT (f n b))]) (t : T) : ∀ b : Int, formedM t = true → 0 ≤ b → b + nodes t ≤ 1099511627776 →
    Pure Tryz.prog n_term_Map [.agg (cT t), .int .i64 b, .clo g caps] [.agg (cT (mapT f t b))] := by
  refine T.ind (p := fun t => ∀ b : Int, formedM t = true → 0 ≤ b → b + nodes t ≤ 1099511627776 → Pure Tryz.prog n_term_Map [.agg (cT t), .int .i64 b, .clo g caps] [.agg (cT (mapT f t b))]) ?_ t
  intro k n ks ih b hfm h0 hb
  obtain ⟨hl, _⟩ := (slim_of _ hfm).kids
  have hsk := kids_formed hfm
  refine p_term_Map rfl fun hs => ?_
  simp -dsimp [x_term_Map, cT]
  (first | refine Ask_b ?_ ?_ | refine Cnd_b ?_ ?_) <;> intro h1 <;> (try simp only [decide_eq_true_eq, decide_eq_false_iff_not, beq_iff_eq, beq_eq_false_iff_ne, bne_iff_ne, bne_eq_false_iff_eq, Bool.not_eq_true', Bool.not_eq_false', Bool.and_eq_true, Bool.or_eq_true, Bool.and_eq_false_iff, Bool.or_eq_false_iff] at h1) <;> simp -dsimp [h1]
  · have hn := var_formed h1 hfm
    refine call_of (hf n b hn.1 hn.2 h0 (by omega)) ?_
    rw [mapT, if_pos h1]
    simp -dsimp [h1, cT]
  have hM : mapT f (.mk k n ks) b = .mk k n (mapL f k b 0 ks) := by rw [mapT, if_neg h1]
  rw [hM]
  by_cases hz : ks = []
  · subst hz
    simp -dsimp [h1, mapL]
  simp -dsimp [h1, hz]
  have r1 : (ks.length : Int) * 40 ≤ (maxRoom : Int) := by simp only [maxRoom]; omega
  have r2 : ks.length ≤ maxRoom := by simp only [maxRoom]; omega
  have hll : (mapL f k b 0 ks).length = ks.length := mapL_len f k b ks 0
  simp -dsimp [h1, hz, r1, r2]
  refine wp_upto ks.length (fun i st => st.s 3 = .ptr 3 1 0 ∧ st.h 3 = ⟨1, .box [.d (.int .i64 k), .d (.int .i64 n), .d (.sl 3 (ks.map eT))] false⟩ ∧ st.s 1 = .d (.int .i64 b) ∧ st.s 2 = .d (.clo g caps) ∧
    st.s 6 = .ptr 6 1 0 ∧ st.h 6 = ⟨1, .box [.d (.int .i64 0), .d (.int .i64 0), .fsl 3 []] false⟩ ∧ st.s 7 = .rsl 27 1 ∧ st.s 29 = .d (.sl 3 (ks.map eT)) ∧ st.s 30 = .d (.int .i64 ks.length) ∧ st.s 31 = .d (.int .i64 i) ∧
    st.h 27 = ⟨1, .row 3 (((mapL f k b 0 ks).map eT).take i ++ List.replicate (ks.length - i) (D.agg [.int .i64 0, .int .i64 0, .sl 3 []])) false⟩) ?_ ?_
  · simp -dsimp
  · rintro i ⟨s, hp⟩ hi ⟨g1, g2, g3, g4, g5, g6, g7, g8, g9, g10, g11⟩
    dsimp only at g1 g2 g3 g4 g5 g6 g7 g8 g9 g10 g11
    rcases Nat.lt_or_ge i ks.length with hlt | hge
    · have w1 : IntKind.i64.wrap ((i : Int) + 1) = (i : Int) + 1 := wrap_id (by omega) (by omega)
      have hbl := binds_le k i
      have hnk := nodes_kid (k := k) (n := n) (List.getElem_mem hlt : ks[i] ∈ ks)
      have w2 : IntKind.i64.wrap (b + bindsM k i) = b + bindsM k i := wrap_id (by omega) (by omega)
      simp -dsimp [g1, g2, g3, g4, g5, g6, g7, g8, g9, g10, g11, hlt, cT]
      refine call_of (binds_ok k i) ?_
      simp -dsimp [g1, g2, g3, g4, g5, g6, g7, g8, g9, g10, g11, hlt, w2]
      refine call_of (ih ks[i] (List.getElem_mem _) (b + bindsM k i) (hsk _ (List.getElem_mem _)) (by omega) (by omega)) ?_
      have q1 : (i : Int) < ((min i ks.length : Nat) : Int) + ((ks.length - i : Nat) : Int) := by omega
      have q2 : i < min i ks.length + (ks.length - i) := by omega
      have hle : ((mapL f k b 0 ks).map eT).length = ks.length := by rw [List.length_map, hll]
      have hfn := fill_next (l := (mapL f k b 0 ks).map eT) (z := D.agg [.int .i64 0, .int .i64 0, .sl 3 []]) (i := i) (by rw [hle]; exact hlt)
      have hel : ((mapL f k b 0 ks).map eT)[i]'(by rw [hle]; exact hlt) = .agg (cT (mapT f ks[i] (b + bindsM k i))) := by
        rw [List.getElem_map, mapL_get f k b ks 0 i hlt, eT_eq, Nat.zero_add]
      rw [hel, hle] at hfn
      simp only [cT] at hfn
      simp -dsimp [g1, g2, g3, g4, g5, g6, g7, g8, g9, g10, g11, hlt, w1, w2, hll, q1, q2, cT, hfn]
    · have e : i = ks.length := by omega
      subst e
      have ht : ((mapL f k b 0 ks).map eT).take ks.length = (mapL f k b 0 ks).map eT := List.take_of_length_le (by rw [List.length_map, hll]; exact Nat.le_refl _)
      rw [ht, Nat.sub_self, List.replicate_zero, List.append_nil] at g11
      simp -dsimp [g1, g2, g3, g4, g5, g6, g7, g8, g9, g10, g11]
def movedT (y : Int) (t : T) : T := mapT (fun n b => .mk 1 (if b ≤ n then w64 (n + y) else n) []) t 0
theorem moved1_ok (n b y : Int) : Pure Tryz.prog n_subst_moved_1 [.int .i64 n, .int .i64 b, .rp [.int .i64 y]] [.agg (cT (.mk 1 (if b ≤ n then w64 (n + y) else n) []))] := by
  refine p_subst_moved_1 rfl fun hs => ?_
  simp -dsimp [x_subst_moved_1]
  (first | refine Ask_b ?_ ?_ | refine Cnd_b ?_ ?_) <;> intro h1 <;> (try simp only [decide_eq_true_eq, decide_eq_false_iff_not, beq_iff_eq, beq_eq_false_iff_ne, bne_iff_ne, bne_eq_false_iff_eq, Bool.not_eq_true', Bool.not_eq_false', Bool.and_eq_true, Bool.or_eq_true, Bool.and_eq_false_iff, Bool.or_eq_false_iff] at h1) <;> simp -dsimp [h1, w64]
  · refine call_of (v_ok _) ?_
    simp -dsimp [h1, w64, cT]
  · refine call_of (v_ok _) ?_
    simp -dsimp [h1, cT]
theorem moved_ok (t : T) (y : Int) (hs : formedM t = true) (hn : nodes t ≤ 1099511627776) : Pure Tryz.prog n_subst_moved [.agg (cT t), .int .i64 y] [.agg (cT (movedT y t))] := by
  refine p_subst_moved rfl fun hs' => ?_
  simp -dsimp [x_subst_moved, cT]
  refine call_of (map_ok (fun n b => .mk 1 (if b ≤ n then w64 (n + y) else n) []) n_subst_moved_1 [.rp [.int .i64 y]] (fun n b _ _ _ _ => moved1_ok n b y) t 0 hs (by omega) (by omega)) ?_
  simp -dsimp [movedT, cT]
mutual
def freeT : T → Int → Int
  | .mk k n ks, b => freeL k b 0 (if k = 1 ∧ b ≤ n then n else -1) ks
def freeL (k b : Int) : Nat → Int → List T → Int
  | _, a, [] => a
  | i, a, x :: xs => freeL k b (i + 1) (mx a (freeT x (b + bindsM k i))) xs
end
theorem freeL_snoc (k b : Int) : ∀ (l : List T) (i : Nat) (a : Int) (j : Nat) (h : j < l.length), freeL k b i a (l.take (j + 1)) = mx (freeL k b i a (l.take j)) (freeT l[j] (b + bindsM k (i + j : Nat)))
  | x :: xs, i, a, 0, h => by simp [freeL]
  | x :: xs, i, a, j + 1, h => by
    simp only [List.take_succ_cons, freeL, List.getElem_cons_succ]
    rw [freeL_snoc k b xs (i + 1) _ j (by simpa using h)]
    congr 4
    omega
theorem free_ok (t : T) : ∀ b : Int, 0 ≤ b → b + nodes t ≤ 1099511627776 → Pure Tryz.prog n_subst_free [.agg (cT t), .int .i64 b] [.int .i64 (freeT t b)] := by
  refine T.ind (p := fun t => ∀ b : Int, 0 ≤ b → b + nodes t ≤ 1099511627776 → Pure Tryz.prog n_subst_free [.agg (cT t), .int .i64 b] [.int .i64 (freeT t b)]) ?_ t
  intro k n ks ih b h0 hb
  refine p_subst_free rfl fun hs => ?_
  have hl := kids_small (t := .mk k n ks) (fun d hd => hs d (by simp at hd; simp [hd]))
  simp [T.kids] at hl
  have hF : freeT (.mk k n ks) b = freeL k b 0 (if k = 1 ∧ b ≤ n then n else -1) ks := by rw [freeT]
  have c1 : k = 1 → b ≤ n → n = (if k = 1 ∧ b ≤ n then n else -1) := fun h1 h2 => (if_pos ⟨h1, h2⟩).symm
  have c2 : ¬(k = 1 ∧ b ≤ n) → -1 = (if k = 1 ∧ b ≤ n then n else -1) := fun h => (if_neg h).symm
  rw [hF]
  generalize (if k = 1 ∧ b ≤ n then n else -1) = A at c1 c2 ⊢
  simp -dsimp [x_subst_free, cT]
  (first | refine Ask_b ?_ ?_ | refine Cnd_b ?_ ?_) <;> intro h1 <;> (try simp only [decide_eq_true_eq, decide_eq_false_iff_not, beq_iff_eq, beq_eq_false_iff_ne, bne_iff_ne, bne_eq_false_iff_eq, Bool.not_eq_true', Bool.not_eq_false', Bool.and_eq_true, Bool.or_eq_true, Bool.and_eq_false_iff, Bool.or_eq_false_iff] at h1) <;> simp -dsimp [h1]
  (first | refine Ask_b ?_ ?_ | refine Cnd_b ?_ ?_) <;> intro h2 <;> (try simp only [decide_eq_true_eq, decide_eq_false_iff_not, beq_iff_eq, beq_eq_false_iff_ne, bne_iff_ne, bne_eq_false_iff_eq, Bool.not_eq_true', Bool.not_eq_false', Bool.and_eq_true, Bool.or_eq_true, Bool.and_eq_false_iff, Bool.or_eq_false_iff] at h2) <;> simp -dsimp [h2, h1]
  all_goals
    refine wp_upto ks.length (fun i st => st.s 2 = .ptr 2 1 0 ∧ st.h 2 = ⟨1, .box [.d (.int .i64 k), .d (.int .i64 n), .d (.sl 3 (ks.map eT))] false⟩ ∧ st.s 1 = .d (.int .i64 b) ∧ st.s 20 = .d (.sl 3 (ks.map eT)) ∧ st.s 21 = .d (.int .i64 ks.length) ∧ st.s 22 = .d (.int .i64 i) ∧
      st.s 5 = .d (.int .i64 (freeL k b 0 A (ks.take i)))) ?_ ?_
    · simp -dsimp [freeL]
      first | exact ⟨h1.symm, c1 h1 h2⟩ | exact ⟨h1.symm, c2 (fun h => h2 h.2)⟩ | exact c2 (fun h => h1 h.1)
    · rintro i ⟨s, hp⟩ hi ⟨g1, g2, g3, g4, g5, g6, g7⟩
      dsimp only at g1 g2 g3 g4 g5 g6 g7
      rcases Nat.lt_or_ge i ks.length with hlt | hge
      · have w1 : IntKind.i64.wrap ((i : Int) + 1) = (i : Int) + 1 := wrap_id (by omega) (by omega)
        have hbl := binds_le k i
        have hnk := nodes_kid (k := k) (n := n) (List.getElem_mem hlt : ks[i] ∈ ks)
        have w2 : IntKind.i64.wrap (b + bindsM k i) = b + bindsM k i := wrap_id (by omega) (by omega)
        have hsn := freeL_snoc k b ks 0 A i hlt
        rw [Nat.zero_add] at hsn
        simp -dsimp [g1, g2, g3, g4, g5, g6, g7, hlt, cT]
        refine call_of (binds_ok k i) ?_
        simp -dsimp [g1, g2, g3, g4, g5, g6, g7, hlt, w2]
        refine call_of (ih ks[i] (List.getElem_mem _) (b + bindsM k i) (by omega) (by omega)) ?_
        simp -dsimp [g1, g2, g3, g4, g5, g6, g7, hlt, w1, hsn, mx]
      · have e : i = ks.length := by omega
        subst e
        rw [List.take_length] at g7
        simp -dsimp [g1, g2, g3, g4, g5, g6, g7]
/-- An argument, with what is reckoned of it. -/
structure Ag where
  t : T
  size : Int
  depth : Int
  free : Int
def cAg (a : Ag) : List D := cT a.t ++ [.int .i64 a.size, .int .i64 a.depth, .int .i64 a.free]
def eAg (a : Ag) : D := .agg (cAg a)
@[simp] theorem eAg_cells (a : Ag) : (eAg a).cells = cAg a := rfl
def jobD (l : List Ag) (u : Int) (sc : Bool) (sz dp : Int) : D := .rp [.sl 6 (l.map eAg), .int .i64 u, .bool sc, .int .i64 sz, .int .i64 dp]
def whichT (len : Nat) (u n b : Int) : Int := if n < u + b ∨ (len : Int) ≤ n - (u + b) then -1 else len - 1 - (n - (u + b))
theorem which_ok (l : List Ag) (u : Int) (sc : Bool) (sz dp n b : Int) (hu : 0 ≤ u ∧ u ≤ 65535) (hb : 0 ≤ b ∧ b ≤ 1099511627776) (hn : 0 ≤ n ∧ n ≤ 65535) : Pure Tryz.prog n_subst_job_which [jobD l u sc sz dp, .int .i64 n, .int .i64 b] [.int .i64 (whichT l.length u n b)] := by
  refine p_subst_job_which rfl fun hs => ?_
  have hl : ((l.length : Int)) ≤ 9223372036854775807 := by
    have := hs (jobD l u sc sz dp) (by simp)
    simp -dsimp [jobD, small] at this
    omega
  have w1 : IntKind.i64.wrap (u + b) = u + b := wrap_id (by omega) (by omega)
  have w2 : IntKind.i64.wrap (n - (u + b)) = n - (u + b) := wrap_id (by omega) (by omega)
  have w3 : IntKind.i64.wrap ((l.length : Int) - 1) = (l.length : Int) - 1 := wrap_id (by omega) (by omega)
  simp -dsimp [x_subst_job_which, jobD, w1, w2, w3]
  (first | refine Ask_b ?_ ?_ | refine Cnd_b ?_ ?_) <;> intro h1 <;> (try simp only [decide_eq_true_eq, decide_eq_false_iff_not, beq_iff_eq, beq_eq_false_iff_ne, bne_iff_ne, bne_eq_false_iff_eq, Bool.not_eq_true', Bool.not_eq_false', Bool.and_eq_true, Bool.or_eq_true, Bool.and_eq_false_iff, Bool.or_eq_false_iff] at h1) <;> simp -dsimp [h1, whichT, w1, w2, w3]
  (first | refine Ask_b ?_ ?_ | refine Cnd_b ?_ ?_) <;> intro h2 <;> (try simp only [decide_eq_true_eq, decide_eq_false_iff_not, beq_iff_eq, beq_eq_false_iff_ne, bne_iff_ne, bne_eq_false_iff_eq, Bool.not_eq_true', Bool.not_eq_false', Bool.and_eq_true, Bool.or_eq_true, Bool.and_eq_false_iff, Bool.or_eq_false_iff] at h2) <;> simp -dsimp [h2, whichT, h1, w1, w2, w3]
  have w4 : IntKind.i64.wrap ((l.length : Int) - 1 - (n - (u + b))) = (l.length : Int) - 1 - (n - (u + b)) := wrap_id (by omega) (by omega)
  rw [w4]
structure St3 where
  sc : Bool
  sz : Int
  dp : Int
def mn (a b : Int) : Int := if b < a then b else a
def mostI : Int := 1099511627776
mutual
def lookT (l : List Ag) (u : Int) : T → Int → Int → St3 → St3
  | .mk k n ks, b, d, st =>
    if k = 1 then
      if 0 ≤ whichT l.length u n b then match l[(whichT l.length u n b).toNat]? with
        | some a => ⟨if st.sc then true else if 0 ≤ a.free then decide (65535 < w64 (w64 (a.free + u) + b)) else false, mn (w64 (st.sz + a.size)) mostI, mx st.dp (w64 (d + a.depth))⟩
        | none => st
      else ⟨st.sc, mn (w64 (st.sz + 1)) mostI, mx st.dp (w64 (d + 1))⟩
    else lookL l u k b d 0 ⟨st.sc, mn (w64 (st.sz + 1)) mostI, mx st.dp (w64 (d + 1))⟩ ks
def lookL (l : List Ag) (u k b d : Int) : Nat → St3 → List T → St3
  | _, st, [] => st
  | i, st, x :: xs => lookL l u k b d (i + 1) (lookT l u x (b + bindsM k i) (w64 (d + 1)) st) xs
end
theorem lookL_snoc (l : List Ag) (u k b d : Int) : ∀ (xs : List T) (i : Nat) (st : St3) (j : Nat) (h : j < xs.length), lookL l u k b d i st (xs.take (j + 1)) = lookT l u xs[j] (b + bindsM k (i + j : Nat)) (w64 (d + 1)) (lookL l u k b d i st (xs.take j))
  | x :: xs, i, st, 0, h => by simp [lookL]
  | x :: xs, i, st, j + 1, h => by
    simp only [List.take_succ_cons, lookL, List.getElem_cons_succ]
    rw [lookL_snoc l u k b d xs (i + 1) _ j (by simpa using h)]
    congr 3
    omega
def jobC (c0 : AV) (u : Int) (st : St3) : List AV := [c0, .d (.int .i64 u), .d (.bool st.sc), .d (.int .i64 st.sz), .d (.int .i64 st.dp)]
def jobH (k v : Nat) (b : Body) (e : Ent) : Nat → Ent := fun q => if q = k then ⟨v, b⟩ else e
theorem small_of {G : GS} {h : Nat → Ent} {w : World} {v : Value} {d : D} (r : ARel G h w v (.d d)) : small 8 d := r.d_inv.small 8
/-- An argument told cell by cell is the argument. -/
theorem agg_arg {P : Program} {g : FuncId} {K : List Nat} {h0 h1 : Nat → Ent} {rs : List D} {pre post : List AV} {cs : List D} (hm : MutC P g (pre ++ .d (.agg cs) :: post) K h0 rs h1) : MutC P g (pre ++ .agg (cs.map .d) :: post) K h0 rs h1 := by
  obtain ⟨a1, a2, a3⟩ := hm
  refine ⟨a1, a2, fun G h w vs b1 b2 b3 b4 b5 => a3 G h w vs b1 b2 b3 (by simpa using b4) fun j a hj => ?_⟩
  rw [List.getElem?_append] at hj
  split at hj
  · rename_i hlt
    exact b5 j a (by rw [List.getElem?_append_left hlt]; exact hj)
  · rename_i hge
    cases hjj : j - pre.length with
    | zero =>
      rw [hjj] at hj
      simp at hj
      subst hj
      have := b5 j (.agg (cs.map .d)) (by rw [List.getElem?_append_right (by omega), hjj]; rfl)
      generalize hq : vs.getD j undef = q at this ⊢
      generalize hz : cs.map AV.d = zs at this
      cases this with
      | agg vs' _ hn hr =>
        subst hz
        refine .d _ _ (.agg vs' cs (by simpa using hn) fun i c hi => ?_)
        exact (hr i (.d c) (by rw [List.getElem?_map, hi]; rfl)).d_inv
    | succ i =>
      rw [hjj] at hj
      exact b5 j a (by rw [List.getElem?_append_right (by omega), hjj]; simpa using hj)
theorem m_look {aa : List AV} {K : List Nat} {h0 h1 : Nat → Ent} {rs : List D} (hl : aa.length = 4) (hov : ∀ k ∈ K, OverB K (h1 k).body)
    (hw : ∀ (h : Nat → Ent), (∀ k ∈ K, h k = h0 k) → (∀ d, AV.d d ∈ aa → small 8 d) → wpX Tryz.prog x_subst_job_look.code (EndsM x_subst_job_look.res rs K h1) ⟨initA aa, h⟩) : MutC Tryz.prog n_subst_job_look aa K h0 rs h1 :=
  mut_of hm Tryz.func202 c_subst_job_look hl hov fun G h w vs hk hlen hr => hw h hk fun d hd => by
    obtain ⟨j, hj⟩ := List.mem_iff_getElem?.1 hd
    exact small_of (hr j _ hj)
theorem look_ok (l : List Ag) (u : Int) (hu : 0 ≤ u ∧ u ≤ 65535) (t : T) : ∀ (k v r rv : Nat) (b d : Int) (st : St3), k ≠ r → k ≠ 5 → k ≠ 11 → k ≠ 13 → r ≠ 5 → r ≠ 11 → r ≠ 13 → formedM t = true → 0 ≤ b → b + nodes t ≤ 1099511627776 →
    MutC Tryz.prog n_subst_job_look [.ptr k v 0, .d (.agg (cT t)), .d (.int .i64 b), .d (.int .i64 d)] [k, r] (jobH k v (.box (jobC (.rsl r rv) u st) false) ⟨rv, .row 6 (l.map eAg) false⟩) []
      (jobH k v (.box (jobC (.rsl r rv) u (lookT l u t b d st)) false) ⟨rv, .row 6 (l.map eAg) false⟩) := by
  refine T.ind (p := fun t => ∀ (k v r rv : Nat) (b d : Int) (st : St3), k ≠ r → k ≠ 5 → k ≠ 11 → k ≠ 13 → r ≠ 5 → r ≠ 11 → r ≠ 13 → formedM t = true → 0 ≤ b → b + nodes t ≤ 1099511627776 →
    MutC Tryz.prog n_subst_job_look [.ptr k v 0, .d (.agg (cT t)), .d (.int .i64 b), .d (.int .i64 d)] [k, r] (jobH k v (.box (jobC (.rsl r rv) u st) false) ⟨rv, .row 6 (l.map eAg) false⟩) []
      (jobH k v (.box (jobC (.rsl r rv) u (lookT l u t b d st)) false) ⟨rv, .row 6 (l.map eAg) false⟩)) ?_ t
  intro kd n ks ih k v r rv b d st hkr hk5 hk11 hk13 hr5 hr11 hr13 hfm hb0 hb
  have hrk : r ≠ k := Ne.symm hkr
  have n1 : 5 ≠ k := Ne.symm hk5
  have n2 : 11 ≠ k := Ne.symm hk11
  have n3 : 13 ≠ k := Ne.symm hk13
  have n4 : 5 ≠ r := Ne.symm hr5
  have n5 : 11 ≠ r := Ne.symm hr11
  have n6 : 13 ≠ r := Ne.symm hr13
  refine m_look rfl ?_ fun h hh hs => ?_
  · intro q hq
    simp only [jobH]
    split
    · intro c hc
      simp only [jobC, List.mem_cons, List.not_mem_nil, or_false] at hc
      rcases hc with rfl | rfl | rfl | rfl | rfl
      · exact .rsl _ _ (by simp)
      all_goals exact .d _
    · trivial
  have e1 : h k = ⟨v, .box (jobC (.rsl r rv) u st) false⟩ := by rw [hh k (by simp)]; simp [jobH]
  have e2 : h r = ⟨rv, .row 6 (l.map eAg) false⟩ := by rw [hh r (by simp)]; simp [jobH, hrk]
  simp only [jobC] at e1
  have hsm := hs (.agg (cT (.mk kd n ks))) (by simp)
  simp -dsimp [cT, small] at hsm
  simp -dsimp [x_subst_job_look, cT, jobC, jobH]
  (first | refine Ask_b ?_ ?_ | refine Cnd_b ?_ ?_) <;> intro g1 <;> (try simp only [decide_eq_true_eq, decide_eq_false_iff_not, beq_iff_eq, beq_eq_false_iff_ne, bne_iff_ne, bne_eq_false_iff_eq, Bool.not_eq_true', Bool.not_eq_false', Bool.and_eq_true, Bool.or_eq_true, Bool.and_eq_false_iff, Bool.or_eq_false_iff] at g1) <;> simp -dsimp [g1, e1, e2, hkr, hrk, hk5, hk11, hk13, hr5, hr11, hr13, n1, n2, n3, n4, n5, n6]
  · have hn : 0 ≤ n ∧ n ≤ 65535 := by
      rw [formedM_is, g1] at hfm
      have h0 : kidsM 1 = 0 := rfl
      rw [h0] at hfm
      split at hfm
      · simp only [if_true, Bool.and_eq_true] at hfm
        exact (inB_iff _ _ _).1 hfm.1
      · cases hfm
    refine callS_of (which_ok l u st.sc st.sz st.dp n b hu ⟨hb0, by omega⟩ hn) (by simp [D.flat]) ?_
    generalize hw : whichT l.length u n b = W
    have hL : lookT l u (.mk kd n ks) b d st = if 0 ≤ W then match l[W.toNat]? with
        | some a => ⟨if st.sc then true else if 0 ≤ a.free then decide (65535 < w64 (w64 (a.free + u) + b)) else false, mn (w64 (st.sz + a.size)) mostI, mx st.dp (w64 (d + a.depth))⟩
        | none => st
      else ⟨st.sc, mn (w64 (st.sz + 1)) mostI, mx st.dp (w64 (d + 1))⟩ := by rw [lookT, if_pos g1, hw]
    rw [hL]
    simp -dsimp [e1, e2, hkr, hrk, hk5, hk11, hk13, hr5, hr11, hr13, n1, n2, n3, n4, n5, n6, g1]
    (first | refine Ask_b ?_ ?_ | refine Cnd_b ?_ ?_) <;> intro g2 <;> (try simp only [decide_eq_true_eq, decide_eq_false_iff_not, beq_iff_eq, beq_eq_false_iff_ne, bne_iff_ne, bne_eq_false_iff_eq, Bool.not_eq_true', Bool.not_eq_false', Bool.and_eq_true, Bool.or_eq_true, Bool.and_eq_false_iff, Bool.or_eq_false_iff] at g2) <;> simp -dsimp [g2, e1, e2, hkr, hrk, hk5, hk11, hk13, hr5, hr11, hr13, n1, n2, n3, n4, n5, n6, g1]
    · have hlt : W.toNat < l.length := by
        rw [whichT] at hw
        split at hw <;> omega
      have hget : l[W.toNat]? = some l[W.toNat] := List.getElem?_eq_getElem hlt
      have hltI : W < (l.length : Int) := by omega
      simp -dsimp [e1, e2, hkr, hrk, hk5, hk11, hk13, hr5, hr11, hr13, n1, n2, n3, n4, n5, n6, g1, g2, hlt, hltI, hget, eAg, cAg, cT]
      cases hsc : st.sc with
      | true =>
        simp -dsimp [e1, e2, hkr, hrk, hk5, hk11, hk13, hr5, hr11, hr13, n1, n2, n3, n4, n5, n6, g1, g2, hlt, hltI, hget, eAg, cAg, cT, hsc]
        (simp -dsimp [jobH, hrk, jobC, mn, mx, mostI, w64, g2, hget, hsc]) <;> (first | exact ⟨rfl, rfl⟩ | exact ⟨rfl, rfl, rfl⟩)
      | false =>
        simp -dsimp [e1, e2, hkr, hrk, hk5, hk11, hk13, hr5, hr11, hr13, n1, n2, n3, n4, n5, n6, g1, g2, hlt, hltI, hget, eAg, cAg, cT, hsc]
        (first | refine Ask_b ?_ ?_ | refine Cnd_b ?_ ?_) <;> intro g3 <;> (try simp only [decide_eq_true_eq, decide_eq_false_iff_not, beq_iff_eq, beq_eq_false_iff_ne, bne_iff_ne, bne_eq_false_iff_eq, Bool.not_eq_true', Bool.not_eq_false', Bool.and_eq_true, Bool.or_eq_true, Bool.and_eq_false_iff, Bool.or_eq_false_iff] at g3) <;> simp -dsimp [g3, e1, e2, hkr, hrk, hk5, hk11, hk13, hr5, hr11, hr13, n1, n2, n3, n4, n5, n6, g1, g2, hlt, hltI, hget, eAg, cAg, cT, hsc]
        · (simp -dsimp [jobH, hrk, jobC, mn, mx, mostI, w64, g2, hget, hsc, g3]) <;> (first | exact ⟨rfl, rfl⟩ | exact ⟨rfl, rfl, rfl⟩)
        · (simp -dsimp [jobH, hrk, jobC, mn, mx, mostI, w64, g2, hget, hsc, g3]) <;> (first | exact ⟨rfl, rfl⟩ | exact ⟨rfl, rfl, rfl⟩)
    · (simp -dsimp [jobH, hrk, jobC, mn, mx, mostI, w64, g2]) <;> (first | exact ⟨rfl, rfl⟩ | exact ⟨rfl, rfl, rfl⟩)
  · have hL : lookT l u (.mk kd n ks) b d st = lookL l u kd b d 0 ⟨st.sc, mn (w64 (st.sz + 1)) mostI, mx st.dp (w64 (d + 1))⟩ ks := by rw [lookT, if_neg g1]
    rw [hL]
    have hks : ks.all formedM = true := by
      rw [formedM_is] at hfm
      split at hfm
      · split at hfm
        · rw [Bool.and_eq_true] at hfm; exact hfm.2
        · split at hfm
          · exact hfm
          · cases hfm
      · cases hfm
    generalize hA : (⟨st.sc, mn (w64 (st.sz + 1)) mostI, mx st.dp (w64 (d + 1))⟩ : St3) = A
    refine wp_upto ks.length (fun i st' => st'.s 0 = .ptr k v 0 ∧ st'.s 2 = .d (.int .i64 b) ∧ st'.s 3 = .d (.int .i64 d) ∧ st'.s 5 = .ptr 5 ((h 5).ver + 1) 0 ∧ st'.h 5 = ⟨(h 5).ver + 1, .box [.d (.int .i64 kd), .d (.int .i64 n), .d (.sl 3 (ks.map eT))] false⟩ ∧
      st'.s 100 = .d (.sl 3 (ks.map eT)) ∧ st'.s 101 = .d (.int .i64 ks.length) ∧ st'.s 102 = .d (.int .i64 i) ∧
      st'.h k = ⟨v, .box (jobC (.rsl r rv) u (lookL l u kd b d 0 A (ks.take i))) false⟩ ∧ st'.h r = ⟨rv, .row 6 (l.map eAg) false⟩) ?_ ?_
    · simp -dsimp [e1, e2, hkr, hrk, hk5, hk11, hk13, hr5, hr11, hr13, n1, n2, n3, n4, n5, n6, g1, lookL, jobC]
      simp -dsimp [← hA, mn, mx, mostI, w64] <;> exact ⟨rfl, rfl⟩
    · rintro i ⟨s, hp⟩ hi ⟨f1, f2, f3, f4, f5, f6, f7, f8, f9, f10⟩
      dsimp only at f1 f2 f3 f4 f5 f6 f7 f8 f9 f10
      generalize (h 5).ver + 1 = v5 at f4 f5
      rcases Nat.lt_or_ge i ks.length with hlt | hge
      · have w1 : IntKind.i64.wrap ((i : Int) + 1) = (i : Int) + 1 := wrap_id (by omega) (by omega)
        have hbl := binds_le kd i
        have hnk := nodes_kid (k := kd) (n := n) (List.getElem_mem hlt : ks[i] ∈ ks)
        have w2 : IntKind.i64.wrap (b + bindsM kd i) = b + bindsM kd i := wrap_id (by omega) (by omega)
        simp only [jobC] at f9
        simp -dsimp [e1, e2, hkr, hrk, hk5, hk11, hk13, hr5, hr11, hr13, n1, n2, n3, n4, n5, n6, g1, f1, f2, f3, f4, f5, f6, f7, f8, f9, f10, hlt, cT]
        refine callS_of (binds_ok kd i) (by simp [D.flat]) ?_
        simp -dsimp [e1, e2, hkr, hrk, hk5, hk11, hk13, hr5, hr11, hr13, n1, n2, n3, n4, n5, n6, g1, f1, f2, f3, f4, f5, f6, f7, f8, f9, f10, hlt, w2]
        generalize hX : lookL l u kd b d 0 A (ks.take i) = X at f9
        have hrec := ih ks[i] (List.getElem_mem _) k v r rv (b + bindsM kd i) (w64 (d + 1)) X hkr hk5 hk11 hk13 hr5 hr11 hr13 (List.all_eq_true.1 hks _ (List.getElem_mem _)) (by omega) (by omega)
        have hrec2 := agg_arg (pre := [.ptr k v 0]) (post := [.d (.int .i64 (b + bindsM kd i)), .d (.int .i64 (w64 (d + 1)))]) hrec
        refine callM_of hrec2 ?_ ?_
        · simp [jobH, jobC, hrk, f9, f10, upd, hkr, hk5, hk11, hk13, hr5, hr11, hr13]
        have hsn := lookL_snoc l u kd b d ks 0 A i hlt
        rw [Nat.zero_add, hX] at hsn
        simp -dsimp [e1, e2, hkr, hrk, hk5, hk11, hk13, hr5, hr11, hr13, n1, n2, n3, n4, n5, n6, g1, mergeK_cons, mergeK_nil, jobH, f1, f2, f3, f4, f5, f6, f7, f8, f9, f10, hlt, w1, hsn]
      · have e : i = ks.length := by omega
        subst e
        rw [List.take_length] at f9
        simp -dsimp [e1, e2, hkr, hrk, hk5, hk11, hk13, hr5, hr11, hr13, n1, n2, n3, n4, n5, n6, g1, f1, f2, f3, f4, f5, f6, f7, f8, f9, f10]
        simp [jobH, jobC, hrk]
theorem which0 (u n b : Int) (h : 0 ≤ u) (hb : 0 ≤ b) : whichT 0 u n b = -1 := by
  rw [whichT, if_pos]
  omega
/-- The same, where there are no arguments at all. -/
theorem look0_ok (u : Int) (hu : 0 ≤ u ∧ u ≤ 65535) (t : T) : ∀ (k v : Nat) (b d : Int) (st : St3), k ≠ 5 → k ≠ 11 → k ≠ 13 → formedM t = true → 0 ≤ b → b + nodes t ≤ 1099511627776 →
    MutC Tryz.prog n_subst_job_look [.ptr k v 0, .d (.agg (cT t)), .d (.int .i64 b), .d (.int .i64 d)] [k] (jobH k v (.box (jobC (.fsl 6 []) u st) false) ⟨0, .dead⟩) []
      (jobH k v (.box (jobC (.fsl 6 []) u (lookT [] u t b d st)) false) ⟨0, .dead⟩) := by
  refine T.ind (p := fun t => ∀ (k v : Nat) (b d : Int) (st : St3), k ≠ 5 → k ≠ 11 → k ≠ 13 → formedM t = true → 0 ≤ b → b + nodes t ≤ 1099511627776 →
    MutC Tryz.prog n_subst_job_look [.ptr k v 0, .d (.agg (cT t)), .d (.int .i64 b), .d (.int .i64 d)] [k] (jobH k v (.box (jobC (.fsl 6 []) u st) false) ⟨0, .dead⟩) []
      (jobH k v (.box (jobC (.fsl 6 []) u (lookT [] u t b d st)) false) ⟨0, .dead⟩)) ?_ t
  intro kd n ks ih k v b d st hk5 hk11 hk13 hfm hb0 hb
  have n1 : 5 ≠ k := Ne.symm hk5
  have n2 : 11 ≠ k := Ne.symm hk11
  have n3 : 13 ≠ k := Ne.symm hk13
  refine m_look rfl ?_ fun h hh hs => ?_
  · intro q hq
    simp only [jobH]
    split
    · intro c hc
      simp only [jobC, List.mem_cons, List.not_mem_nil, or_false] at hc
      rcases hc with rfl | rfl | rfl | rfl | rfl
      · exact .fsl _ _
      all_goals exact .d _
    · trivial
  have e1 : h k = ⟨v, .box (jobC (.fsl 6 []) u st) false⟩ := by rw [hh k (by simp)]; simp [jobH]
  simp only [jobC] at e1
  have hsm := hs (.agg (cT (.mk kd n ks))) (by simp)
  simp -dsimp [cT, small] at hsm
  simp -dsimp [x_subst_job_look, cT, jobC, jobH]
  (first | refine Ask_b ?_ ?_ | refine Cnd_b ?_ ?_) <;> intro g1 <;> (try simp only [decide_eq_true_eq, decide_eq_false_iff_not, beq_iff_eq, beq_eq_false_iff_ne, bne_iff_ne, bne_eq_false_iff_eq, Bool.not_eq_true', Bool.not_eq_false', Bool.and_eq_true, Bool.or_eq_true, Bool.and_eq_false_iff, Bool.or_eq_false_iff] at g1) <;> simp -dsimp [g1, e1, hk5, hk11, hk13, n1, n2, n3]
  · have hn : 0 ≤ n ∧ n ≤ 65535 := by
      rw [formedM_is, g1] at hfm
      have h0 : kidsM 1 = 0 := rfl
      rw [h0] at hfm
      split at hfm
      · simp only [if_true, Bool.and_eq_true] at hfm
        exact (inB_iff _ _ _).1 hfm.1
      · cases hfm
    refine callS_of (which_ok [] u st.sc st.sz st.dp n b hu ⟨hb0, by omega⟩ hn) (by simp [D.flat]) ?_
    have hw : whichT ([] : List Ag).length u n b = -1 := which0 u n b hu.1 hb0
    have hL : lookT [] u (.mk kd n ks) b d st = ⟨st.sc, mn (w64 (st.sz + 1)) mostI, mx st.dp (w64 (d + 1))⟩ := by rw [lookT, if_pos g1, hw, if_neg (by omega)]
    rw [hL, hw]
    simp -dsimp [e1, hk5, hk11, hk13, n1, n2, n3, g1]
    simp -dsimp [jobH, jobC, mn, mx, mostI, w64] <;> (first | exact ⟨rfl, rfl⟩ | exact ⟨rfl, rfl, rfl⟩)
  · have hL : lookT [] u (.mk kd n ks) b d st = lookL [] u kd b d 0 ⟨st.sc, mn (w64 (st.sz + 1)) mostI, mx st.dp (w64 (d + 1))⟩ ks := by rw [lookT, if_neg g1]
    rw [hL]
    have hks : ks.all formedM = true := by
      rw [formedM_is] at hfm
      split at hfm
      · split at hfm
        · rw [Bool.and_eq_true] at hfm; exact hfm.2
        · split at hfm
          · exact hfm
          · cases hfm
      · cases hfm
    generalize hA : (⟨st.sc, mn (w64 (st.sz + 1)) mostI, mx st.dp (w64 (d + 1))⟩ : St3) = A
    refine wp_upto ks.length (fun i st' => st'.s 0 = .ptr k v 0 ∧ st'.s 2 = .d (.int .i64 b) ∧ st'.s 3 = .d (.int .i64 d) ∧ st'.s 5 = .ptr 5 ((h 5).ver + 1) 0 ∧ st'.h 5 = ⟨(h 5).ver + 1, .box [.d (.int .i64 kd), .d (.int .i64 n), .d (.sl 3 (ks.map eT))] false⟩ ∧
      st'.s 100 = .d (.sl 3 (ks.map eT)) ∧ st'.s 101 = .d (.int .i64 ks.length) ∧ st'.s 102 = .d (.int .i64 i) ∧
      st'.h k = ⟨v, .box (jobC (.fsl 6 []) u (lookL [] u kd b d 0 A (ks.take i))) false⟩) ?_ ?_
    · simp -dsimp [e1, hk5, hk11, hk13, n1, n2, n3, g1, lookL, jobC]
      simp -dsimp [← hA, mn, mx, mostI, w64] <;> exact ⟨rfl, rfl⟩
    · rintro i ⟨s, hp⟩ hi ⟨f1, f2, f3, f4, f5, f6, f7, f8, f9⟩
      dsimp only at f1 f2 f3 f4 f5 f6 f7 f8 f9
      generalize (h 5).ver + 1 = v5 at f4 f5
      rcases Nat.lt_or_ge i ks.length with hlt | hge
      · have w1 : IntKind.i64.wrap ((i : Int) + 1) = (i : Int) + 1 := wrap_id (by omega) (by omega)
        have hbl := binds_le kd i
        have hnk := nodes_kid (k := kd) (n := n) (List.getElem_mem hlt : ks[i] ∈ ks)
        have w2 : IntKind.i64.wrap (b + bindsM kd i) = b + bindsM kd i := wrap_id (by omega) (by omega)
        simp only [jobC] at f9
        simp -dsimp [e1, hk5, hk11, hk13, n1, n2, n3, g1, f1, f2, f3, f4, f5, f6, f7, f8, f9, hlt, cT]
        refine callS_of (binds_ok kd i) (by simp [D.flat]) ?_
        simp -dsimp [e1, hk5, hk11, hk13, n1, n2, n3, g1, f1, f2, f3, f4, f5, f6, f7, f8, f9, hlt, w2]
        generalize hX : lookL [] u kd b d 0 A (ks.take i) = X at f9
        have hrec := ih ks[i] (List.getElem_mem _) k v (b + bindsM kd i) (w64 (d + 1)) X hk5 hk11 hk13 (List.all_eq_true.1 hks _ (List.getElem_mem _)) (by omega) (by omega)
        have hrec2 := agg_arg (pre := [.ptr k v 0]) (post := [.d (.int .i64 (b + bindsM kd i)), .d (.int .i64 (w64 (d + 1)))]) hrec
        refine callM_of hrec2 ?_ ?_
        · simp [jobH, jobC, f9, upd, hk5, hk11, hk13]
        have hsn := lookL_snoc [] u kd b d ks 0 A i hlt
        rw [Nat.zero_add, hX] at hsn
        simp -dsimp [e1, hk5, hk11, hk13, n1, n2, n3, g1, mergeK_cons, mergeK_nil, jobH, f1, f2, f3, f4, f5, f6, f7, f8, f9, hlt, w1, hsn]
      · have e : i = ks.length := by omega
        subst e
        rw [List.take_length] at f9
        simp -dsimp [e1, hk5, hk11, hk13, n1, n2, n3, g1, f1, f2, f3, f4, f5, f6, f7, f8, f9]
        simp [jobH, jobC]
def agOf (x : T) : Ag := ⟨x, sizeM x, depthM x, freeT x 0⟩
def argsE : List T → Int
  | [] => 0
  | x :: xs => if checkM x = 0 then argsE xs else checkM x
theorem argsE_at : ∀ (l : List T) (i : Nat) (h : i < l.length), (∀ (j : Nat) (hj : j < l.length), j < i → checkM l[j] = 0) → checkM l[i] ≠ 0 → argsE l = checkM l[i]
  | x :: xs, 0, h, _, hn => by simp only [List.getElem_cons_zero] at hn ⊢; rw [argsE, if_neg hn]
  | x :: xs, i + 1, h, ha, hn => by
    have h0 := ha 0 (by simp) (by omega)
    simp only [List.getElem_cons_zero] at h0
    rw [argsE, if_pos h0]
    simp only [List.getElem_cons_succ] at hn ⊢
    exact argsE_at xs i (by simpa using h) (fun j hj hji => by have := ha (j + 1) (by simpa using hj) (by omega); simpa using this) hn
theorem argsE_all : ∀ (l : List T), (∀ (j : Nat) (hj : j < l.length), j < l.length → checkM l[j] = 0) → argsE l = 0
  | [], _ => rfl
  | x :: xs, ha => by
    have h0 := ha 0 (by simp) (by simp)
    simp only [List.getElem_cons_zero] at h0
    rw [argsE, if_pos h0]
    exact argsE_all xs fun j hj _ => by have := ha (j + 1) (by simpa using hj) (by simpa using hj); simpa using this
def openE (t : T) (l : List T) (u : Int) : Int := if checkM t = 0 then if argsE l = 0 then if u < 0 ∨ 65535 < u then 1 else 0 else argsE l else checkM t
def st0 : St3 := ⟨false, 0, 0⟩
def openSt (t : T) (l : List T) (u : Int) : St3 := lookT (l.map agOf) u t 0 0 st0
def openR (t : T) (l : List T) (u : Int) : D := if openE t l u = 0 then jobD (l.map agOf) u (openSt t l u).sc (openSt t l u).sz (openSt t l u).dp else .nilp
theorem open_ok (t : T) (l : List T) (u : Int) (ht : nodes t ≤ 549755813888) (hl : ∀ x ∈ l, nodes x ≤ 549755813888) (hn : l.length ≤ 2097152) :
    Pure Tryz.prog n_subst_open [.agg (cT t), eTs l, .int .i64 u] [openR t l u, .int .i64 (openE t l u)] := by
  refine p_subst_open rfl fun hs => ?_
  simp -dsimp [x_subst_open, cT, eTs]
  refine call_of (check_ok t) ?_
  simp -dsimp
  (first | refine Ask_b ?_ ?_ | refine Cnd_b ?_ ?_) <;> intro h1 <;> (try simp only [decide_eq_true_eq, decide_eq_false_iff_not, beq_iff_eq, beq_eq_false_iff_ne, bne_iff_ne, bne_eq_false_iff_eq, Bool.not_eq_true', Bool.not_eq_false', Bool.and_eq_true, Bool.or_eq_true, Bool.and_eq_false_iff, Bool.or_eq_false_iff] at h1) <;> simp -dsimp [h1]
  · have hE : openE t l u = checkM t := by rw [openE, if_neg h1]
    rw [openR, hE, if_neg h1]
    simp -dsimp
  have hfm := formed_of h1
  refine wp_upto l.length (fun i st => st.s 2 = .d (.int .i64 u) ∧ st.s 3 = .ptr 3 1 0 ∧ st.h 3 = ⟨1, .box [.d (.int .i64 t.kind), .d (.int .i64 t.num), .d (.sl 3 (t.kids.map eT))] false⟩ ∧
    st.s 9 = .ptr 20 1 0 ∧ st.s 21 = .d (.sl 3 (l.map eT)) ∧ st.s 22 = .d (.int .i64 l.length) ∧ st.s 23 = .d (.int .i64 i) ∧
    (∃ c0, st.h 20 = ⟨1, .box [c0, .d (.int .i64 u), .d (.bool false), .d (.int .i64 0), .d (.int .i64 0)] false⟩ ∧ ((i = 0 ∧ c0 = .fsl 6 []) ∨ ∃ v, c0 = .rsl 46 v ∧ st.h 46 = ⟨v, .row 6 ((l.map (eAg ∘ agOf)).take i) false⟩)) ∧
    ∀ (j : Nat) (hj : j < l.length), j < i → checkM l[j] = 0) ?_ ?_
  · simp -dsimp
  · rintro i ⟨s, hp⟩ hi ⟨g1, g2, g3, g4, g5, g6, g7, ⟨c0, g8, g9⟩, g10⟩
    dsimp only at g1 g2 g3 g4 g5 g6 g7 g8 g9
    rcases Nat.lt_or_ge i l.length with hlt | hge
    · have w1 : IntKind.i64.wrap ((i : Int) + 1) = (i : Int) + 1 := wrap_id (by omega) (by omega)
      simp -dsimp [g1, g2, g3, g4, g5, g6, g7, g8, hlt, cT]
      refine call_of (check_ok l[i]) ?_
      simp -dsimp [g1, g2, g3, g4, g5, g6, g7, g8, hlt, cT]
      (first | refine Ask_b ?_ ?_ | refine Cnd_b ?_ ?_) <;> intro h2 <;> (try simp only [decide_eq_true_eq, decide_eq_false_iff_not, beq_iff_eq, beq_eq_false_iff_ne, bne_iff_ne, bne_eq_false_iff_eq, Bool.not_eq_true', Bool.not_eq_false', Bool.and_eq_true, Bool.or_eq_true, Bool.and_eq_false_iff, Bool.or_eq_false_iff] at h2) <;> simp -dsimp [h2, g1, g2, g3, g4, g5, g6, g7, g8, hlt, cT]
      · have hA := argsE_at l i hlt g10 h2
        have hE : openE t l u = checkM l[i] := by rw [openE, if_pos h1, if_neg (by rw [hA]; exact h2), hA]
        have hR : openR t l u = .nilp := by rw [openR, if_neg (by rw [hE]; exact h2)]
        simp -dsimp [hE, hR]
      refine call_of (tsize_ok l[i]) ?_
      simp -dsimp [g1, g2, g3, g4, g5, g6, g7, g8, hlt, cT]
      refine call_of (tdepth_ok l[i]) ?_
      simp -dsimp [g1, g2, g3, g4, g5, g6, g7, g8, hlt, cT]
      have hln := hl l[i] (List.getElem_mem _)
      refine call_of (free_ok l[i] 0 (by omega) (by omega)) ?_
      have hr : (min i l.length + 1) * 64 ≤ maxRoom := by simp only [maxRoom]; omega
      have hsn : (l.map (eAg ∘ agOf)).take i ++ [D.agg [.int .i64 l[i].kind, .int .i64 l[i].num, .sl 3 (l[i].kids.map eT), .int .i64 (sizeM l[i]), .int .i64 (depthM l[i]), .int .i64 (freeT l[i] 0)]] = (l.map (eAg ∘ agOf)).take (i + 1) :=
        take_next (eAg ∘ agOf) (fun x => cAg (agOf x)) (fun _ => rfl) l i hlt
      rcases g9 with ⟨rfl, rfl⟩ | ⟨v, rfl, g9⟩
      · have h64 : 64 ≤ maxRoom := by decide
        simp only [List.take_zero, List.nil_append, Nat.zero_add] at hsn
        simp at hlt w1
        simp -dsimp [g1, g2, g3, g4, g5, g6, g7, g8, hlt, cT, h64, w1]
        exact ⟨hsn, fun j hj hji => by have : j = 0 := by omega
                                       subst this; exact h2⟩
      · simp -dsimp [g1, g2, g3, g4, g5, g6, g7, g8, g9, hlt, cT, hr, hsn, w1]
        intro j hj hji
        rcases Nat.lt_or_ge j i with h | h
        · exact g10 j hj h
        · have : j = i := by omega
          subst this
          exact h2
    · have e : i = l.length := by omega
      subst e
      have hA := argsE_all l g10
      simp -dsimp [g1, g2, g3, g4, g5, g6, g7, g8]
      have bad : (u < 0 ∨ 65535 < u) → openR t l u = .nilp ∧ openE t l u = 1 := fun hu => by
        have hE : openE t l u = 1 := by rw [openE, if_pos h1, if_pos hA, if_pos hu]
        exact ⟨by rw [openR, hE]; rfl, hE⟩
      (first | refine Ask_b ?_ ?_ | refine Cnd_b ?_ ?_) <;> intro h3 <;> (try simp only [decide_eq_true_eq, decide_eq_false_iff_not, beq_iff_eq, beq_eq_false_iff_ne, bne_iff_ne, bne_eq_false_iff_eq, Bool.not_eq_true', Bool.not_eq_false', Bool.and_eq_true, Bool.or_eq_true, Bool.and_eq_false_iff, Bool.or_eq_false_iff] at h3) <;> simp -dsimp [h3, g1, g2, g3, g4, g5, g6, g7, g8]
      · simp -dsimp [bad (.inl h3)]
      (first | refine Ask_b ?_ ?_ | refine Cnd_b ?_ ?_) <;> intro h4 <;> (try simp only [decide_eq_true_eq, decide_eq_false_iff_not, beq_iff_eq, beq_eq_false_iff_ne, bne_iff_ne, bne_eq_false_iff_eq, Bool.not_eq_true', Bool.not_eq_false', Bool.and_eq_true, Bool.or_eq_true, Bool.and_eq_false_iff, Bool.or_eq_false_iff] at h4) <;> simp -dsimp [h4, g1, g2, g3, g4, g5, g6, g7, g8, h3]
      · simp -dsimp [bad (.inr h4)]
      have hE : openE t l u = 0 := by rw [openE, if_pos h1, if_pos hA, if_neg (by omega)]
      have hR : openR t l u = jobD (l.map agOf) u (openSt t l u).sc (openSt t l u).sz (openSt t l u).dp := by rw [openR, if_pos hE]
      rw [hE, hR]
      have hu : 0 ≤ u ∧ u ≤ 65535 := by omega
      have hnt : (0 : Int) + nodes t ≤ 1099511627776 := by omega
      rcases g9 with ⟨hz, rfl⟩ | ⟨v, rfl, g9⟩
      · have hl0 : l = [] := List.length_eq_zero_iff.1 hz
        subst hl0
        refine callM_of (agg_arg (pre := [.ptr 20 1 0]) (post := [.d (.int .i64 0), .d (.int .i64 0)]) (look0_ok u hu t 20 1 0 0 st0 (by omega) (by omega) (by omega) hfm (by omega) hnt)) ?_ ?_
        · simp [jobH, jobC, g8, st0]
        simp -dsimp [mergeK_cons, mergeK_nil, jobH, jobC, g1, g2, g3, g4, jobD, openSt]
      · rw [List.take_of_length_le (by simp)] at g9
        rw [sk_rsl]
        refine callM_of (agg_arg (pre := [.ptr 20 1 0]) (post := [.d (.int .i64 0), .d (.int .i64 0)]) (look_ok (l.map agOf) u hu t 20 1 46 v 0 0 st0 (by omega) (by omega) (by omega) (by omega) (by omega) (by omega) (by omega) hfm (by omega) hnt)) ?_ ?_
        · simp [jobH, jobC, g8, g9, st0]
        simp -dsimp [mergeK_cons, mergeK_nil, jobH, jobC, g1, g2, g3, g4, jobD, openSt]
def zT : T := .mk 0 0 []
def instF (l : List T) (u n b : Int) : T :=
  if 0 ≤ whichT l.length u n b then match l[(whichT l.length u n b).toNat]? with
    | some a => movedT (w64 (u + b)) a
    | none => zT
  else .mk 1 (if u + b ≤ n then w64 (n - l.length) else n) []
theorem inst1_ok (l : List T) (u : Int) (sc : Bool) (sz dp : Int) (hu : 0 ≤ u ∧ u ≤ 65535) (hl : ∀ x ∈ l, formedM x = true ∧ nodes x ≤ 549755813888) (n b : Int) (hn : 0 ≤ n) (hn' : n ≤ 65535) (hb : 0 ≤ b) (hb' : b ≤ 1099511627776) :
    Pure Tryz.prog n_subst_Inst_1 [.int .i64 n, .int .i64 b, .rp [jobD (l.map agOf) u sc sz dp], .rp [.int .i64 u], .rp [eTs l]] [.agg (cT (instF l u n b))] := by
  refine p_subst_Inst_1 rfl fun hs => ?_
  have w1 : IntKind.i64.wrap (u + b) = u + b := wrap_id (by omega) (by omega)
  have w1' : w64 (u + b) = u + b := w1
  simp -dsimp [x_subst_Inst_1, eTs]
  have hw := which_ok (l.map agOf) u sc sz dp n b hu ⟨hb, hb'⟩ ⟨hn, hn'⟩
  rw [List.length_map] at hw
  refine call_of hw ?_
  generalize hW : whichT l.length u n b = W
  have hI : instF l u n b = if 0 ≤ W then match l[W.toNat]? with
    | some a => movedT (w64 (u + b)) a
    | none => zT
    else .mk 1 (if u + b ≤ n then w64 (n - l.length) else n) [] := by rw [instF, hW]
  simp -dsimp
  (first | refine Ask_b ?_ ?_ | refine Cnd_b ?_ ?_) <;> intro g1 <;> (try simp only [decide_eq_true_eq, decide_eq_false_iff_not, beq_iff_eq, beq_eq_false_iff_ne, bne_iff_ne, bne_eq_false_iff_eq, Bool.not_eq_true', Bool.not_eq_false', Bool.and_eq_true, Bool.or_eq_true, Bool.and_eq_false_iff, Bool.or_eq_false_iff] at g1) <;> simp -dsimp [g1]
  · have hlt : W.toNat < l.length := by
      rw [whichT] at hW
      split at hW <;> omega
    have hget : l[W.toNat]? = some l[W.toNat] := List.getElem?_eq_getElem hlt
    have hI2 : instF l u n b = movedT (w64 (u + b)) l[W.toNat] := by rw [hI, if_pos g1, hget]
    rw [hI2, w1']
    simp -dsimp [jobD, g1, hlt, w1, agOf, cAg, eAg, cT]
    obtain ⟨hf, hnn⟩ := hl l[W.toNat] (List.getElem_mem _)
    refine call_of (moved_ok l[W.toNat] (u + b) hf (by omega)) ?_
    simp -dsimp [cT]
  · have hI2 : instF l u n b = .mk 1 (if u + b ≤ n then w64 (n - l.length) else n) [] := by rw [hI, if_neg g1]
    rw [hI2]
    simp -dsimp [g1, w1]
    (first | refine Ask_b ?_ ?_ | refine Cnd_b ?_ ?_) <;> intro g2 <;> (try simp only [decide_eq_true_eq, decide_eq_false_iff_not, beq_iff_eq, beq_eq_false_iff_ne, bne_iff_ne, bne_eq_false_iff_eq, Bool.not_eq_true', Bool.not_eq_false', Bool.and_eq_true, Bool.or_eq_true, Bool.and_eq_false_iff, Bool.or_eq_false_iff] at g2) <;> simp -dsimp [g2, g1, w1]
    · refine call_of (v_ok _) ?_
      simp -dsimp [g2, cT, w64]
    · refine call_of (v_ok _) ?_
      simp -dsimp [g2, cT, w64]
/-- The error, and the term. -/
def instE (t : T) (l : List T) (u : Int) : Int :=
  if openE t l u = 0 then if (openSt t l u).sc then 6 else if 6000 < (openSt t l u).sz then 4 else if 200 < (openSt t l u).dp then 5 else 0 else openE t l u
def instT (t : T) (l : List T) (u : Int) : T := if instE t l u = 0 then mapT (instF l u) t 0 else zT
theorem openE_facts {t : T} {l : List T} {u : Int} (h : openE t l u = 0) : formedM t = true ∧ (∀ x ∈ l, formedM x = true) ∧ 0 ≤ u ∧ u ≤ 65535 := by
  rw [openE] at h
  by_cases h1 : checkM t = 0
  · rw [if_pos h1] at h
    by_cases h2 : argsE l = 0
    · rw [if_pos h2] at h
      refine ⟨formed_of h1, ?_, ?_⟩
      · clear h h1
        induction l with
        | nil => simp
        | cons x xs ih =>
          rw [argsE] at h2
          by_cases h3 : checkM x = 0
          · rw [if_pos h3] at h2
            intro y hy
            rcases List.mem_cons.1 hy with rfl | hy
            · exact formed_of h3
            · exact ih h2 y hy
          · rw [if_neg h3] at h2; exact absurd h2 h3
      · by_cases h3 : u < 0 ∨ 65535 < u
        · rw [if_pos h3] at h; cases h
        · omega
    · rw [if_neg h2] at h; exact absurd h h2
  · rw [if_neg h1] at h; exact absurd h h1
theorem inst_ok (t : T) (l : List T) (u : Int) (ht : nodes t ≤ 549755813888) (hl : ∀ x ∈ l, nodes x ≤ 549755813888) (hn : l.length ≤ 2097152) :
    Pure Tryz.prog n_subst_Inst [.agg (cT t), eTs l, .int .i64 u] [.agg (cT (instT t l u)), .int .i64 (instE t l u)] := by
  refine p_subst_Inst rfl fun hs => ?_
  simp -dsimp [x_subst_Inst, cT, eTs]
  refine call_of (open_ok t l u ht hl hn) ?_
  by_cases h1 : openE t l u = 0
  · have hR : openR t l u = jobD (l.map agOf) u (openSt t l u).sc (openSt t l u).sz (openSt t l u).dp := by rw [openR, if_pos h1]
    obtain ⟨f1, f2, f3⟩ := openE_facts h1
    have hE : instE t l u = if (openSt t l u).sc then 6 else if 6000 < (openSt t l u).sz then 4 else if 200 < (openSt t l u).dp then 5 else 0 := by rw [instE, if_pos h1]
    generalize openSt t l u = st at hR hE
    obtain ⟨sc, sz, dp⟩ := st
    have bad : instE t l u ≠ 0 → instT t l u = zT := fun h => by rw [instT, if_neg h]
    rw [hR, h1]
    cases sc with
    | true =>
      have hE1 : instE t l u = 6 := by rw [hE]; rfl
      have hT := bad (by omega)
      simp -dsimp [jobD, hE1, hT, zT, cT]
    | false =>
      simp -dsimp [jobD]
      (first | refine Ask_b ?_ ?_ | refine Cnd_b ?_ ?_) <;> intro h2 <;> (try simp only [decide_eq_true_eq, decide_eq_false_iff_not, beq_iff_eq, beq_eq_false_iff_ne, bne_iff_ne, bne_eq_false_iff_eq, Bool.not_eq_true', Bool.not_eq_false', Bool.and_eq_true, Bool.or_eq_true, Bool.and_eq_false_iff, Bool.or_eq_false_iff] at h2) <;> simp -dsimp [h2]
      · have hE1 : instE t l u = 4 := by rw [hE]; simp [h2]
        have hT := bad (by omega)
        simp -dsimp [hE1, hT, zT, cT]
      (first | refine Ask_b ?_ ?_ | refine Cnd_b ?_ ?_) <;> intro h3 <;> (try simp only [decide_eq_true_eq, decide_eq_false_iff_not, beq_iff_eq, beq_eq_false_iff_ne, bne_iff_ne, bne_eq_false_iff_eq, Bool.not_eq_true', Bool.not_eq_false', Bool.and_eq_true, Bool.or_eq_true, Bool.and_eq_false_iff, Bool.or_eq_false_iff] at h3) <;> simp -dsimp [h3, h2]
      · have hE1 : instE t l u = 5 := by rw [hE]; simp [h2, h3]
        have hT := bad (by omega)
        simp -dsimp [hE1, hT, zT, cT]
      have hE1 : instE t l u = 0 := by rw [hE]; simp [h2, h3]
      have hT : instT t l u = mapT (instF l u) t 0 := by rw [instT, if_pos hE1]
      rw [hE1, hT]
      have hmap := map_ok (instF l u) n_subst_Inst_1 [.rp [jobD (l.map agOf) u false sz dp], .rp [.int .i64 u], .rp [eTs l]] (fun n b a1 a2 a3 a4 => inst1_ok l u false sz dp f3 (fun x hx => ⟨f2 x hx, hl x hx⟩) n b a1 a2 a3 a4) t 0 f1 (by omega) (show (0 : Int) + nodes t ≤ 1099511627776 by omega)
      have hj : jobD (l.map agOf) u false sz dp = .rp [.sl 6 (l.map (eAg ∘ agOf)), .int .i64 u, .bool false, .int .i64 sz, .int .i64 dp] := by simp [jobD]
      rw [hj] at hmap
      refine call_of hmap ?_
      simp -dsimp [h2, h3, cT]
  · have hR : openR t l u = .nilp := by rw [openR, if_neg h1]
    have hE : instE t l u = openE t l u := by rw [instE, if_neg h1]
    have hT : instT t l u = zT := by rw [instT, hE, if_neg h1]
    rw [hR, hE, hT]
    simp -dsimp [h1, zT, cT]
theorem mn_eq (a b : Int) : mn a b = min a b := by rw [mn]; split <;> omega
/-- Sizes and depths of what is moved stay. -/
theorem mapL_map (f : Int → Int → T) (k b : Int) (g : T → Nat) : ∀ (l : List T) (i : Nat), (∀ x ∈ l, ∀ c, g (mapT f x c) = g x) → (mapL f k b i l).map g = l.map g
  | [], i, _ => by simp [mapL]
  | x :: xs, i, h => by
    simp only [mapL, List.map_cons]
    rw [h x (by simp) _, mapL_map f k b g xs (i + 1) fun y hy => h y (by simp [hy])]
theorem same_nodes (f : Int → Int → T) (hf : ∀ n b, nodes (f n b) = 1) (t : T) : formedM t = true → ∀ b, nodes (mapT f t b) = nodes t := by
  refine T.ind (p := fun t => formedM t = true → ∀ b, nodes (mapT f t b) = nodes t) ?_ t
  intro k n ks ih hfm b
  rw [mapT]
  by_cases h1 : k = 1
  · rw [if_pos h1, hf, var_leaf h1 hfm, leaf_nodes]
  · rw [if_neg h1, nodes, nodes, mapL_map f k b nodes ks 0 fun x hx c => ih x hx (kids_formed hfm x hx) c]
theorem same_depth (f : Int → Int → T) (hf : ∀ n b, depthN (f n b) = 1) (t : T) : formedM t = true → ∀ b, depthN (mapT f t b) = depthN t := by
  refine T.ind (p := fun t => formedM t = true → ∀ b, depthN (mapT f t b) = depthN t) ?_ t
  intro k n ks ih hfm b
  rw [mapT]
  by_cases h1 : k = 1
  · rw [if_pos h1, hf, var_leaf h1 hfm, leaf_depth]
  · rw [if_neg h1, depthN, depthN, mapL_map f k b depthN ks 0 fun x hx c => ih x hx (kids_formed hfm x hx) c]
theorem moved_nodes {a : T} (h : formedM a = true) (y : Int) : nodes (movedT y a) = nodes a := same_nodes _ (fun _ _ => leaf_nodes _ _) a h 0
theorem moved_depth {a : T} (h : formedM a = true) (y : Int) : depthN (movedT y a) = depthN a := same_depth _ (fun _ _ => leaf_depth _ _) a h 0
/-- A shift goes too far. -/
def overB (a : T) (c : Int) : Bool := decide (0 ≤ freeT a 0) && decide (65535 < freeT a 0 + c)
mutual
def scI (l : List T) (u : Int) : T → Int → Bool
  | .mk k n ks, b => if k = 1 then (match (if 0 ≤ whichT l.length u n b then l[(whichT l.length u n b).toNat]? else none) with | some a => overB a (u + b) | none => false) else scL l u k b 0 ks
def scL (l : List T) (u k b : Int) : Nat → List T → Bool
  | _, [] => false
  | i, x :: xs => scI l u x (b + bindsM k i) || scL l u k b (i + 1) xs
end
theorem free_le (t : T) : formedM t = true → ∀ b, -1 ≤ freeT t b ∧ freeT t b ≤ 65535 := by
  refine T.ind (p := fun t => formedM t = true → ∀ b, -1 ≤ freeT t b ∧ freeT t b ≤ 65535) ?_ t
  intro k n ks ih hfm b
  rw [freeT]
  have h0 : -1 ≤ (if k = 1 ∧ b ≤ n then n else -1) ∧ (if k = 1 ∧ b ≤ n then n else -1) ≤ 65535 := by
    split
    · rename_i h
      have := var_formed h.1 hfm
      omega
    · omega
  have hk := kids_formed hfm
  generalize (if k = 1 ∧ b ≤ n then n else -1) = a at h0
  have go : ∀ (l : List T) (i : Nat) (a : Int), (∀ x ∈ l, formedM x = true → ∀ b, -1 ≤ freeT x b ∧ freeT x b ≤ 65535) → (∀ x ∈ l, formedM x = true) → -1 ≤ a ∧ a ≤ 65535 → -1 ≤ freeL k b i a l ∧ freeL k b i a l ≤ 65535 := by
    intro l
    induction l with
    | nil => intro i a _ _ h; simpa [freeL] using h
    | cons x xs ihx =>
      intro i a h1 h2 h3
      rw [freeL]
      have hx := h1 x (by simp) (h2 x (by simp)) (b + bindsM k i)
      refine ihx (i + 1) _ (fun y hy => h1 y (by simp [hy])) (fun y hy => h2 y (by simp [hy])) ?_
      rw [mx_eq]
      omega
  exact go ks 0 a ih hk h0
theorem inst_depth (l : List T) (u : Int) (hl : ∀ x ∈ l, formedM x = true ∧ nodes x ≤ 1048576) (t : T) : ∀ b, depthN (mapT (instF l u) t b) ≤ depthN t + 1048576 := by
  refine T.ind (p := fun t => ∀ b, depthN (mapT (instF l u) t b) ≤ depthN t + 1048576) ?_ t
  intro k n ks ih b
  rw [mapT]
  by_cases h1 : k = 1
  · rw [if_pos h1, instF]
    have hz : depthN zT = 1 := leaf_depth 0 0
    split
    · split
      · rename_i a ha
        obtain ⟨h2, h3⟩ := hl a (List.mem_of_getElem? ha)
        rw [moved_depth h2]
        have := depth_le a
        omega
      · rw [hz]; omega
    · rw [leaf_depth]; omega
  · rw [if_neg h1, depthN, depthN]
    have go : ∀ (xs : List T) (i : Nat), (∀ x ∈ xs, x ∈ ks) → dmax ((mapL (instF l u) k b i xs).map depthN) ≤ dmax (xs.map depthN) + 1048576 := by
      intro xs
      induction xs with
      | nil => intro i _; simp [mapL, dmax]
      | cons x xs ihx =>
        intro i hm
        have h2 := ih x (hm x (by simp)) (b + bindsM k i)
        have h3 := ihx (i + 1) fun y hy => hm y (by simp [hy])
        simp only [mapL, List.map_cons, dmax, List.foldr_cons] at h3 ⊢
        omega
    have := go ks 0 fun x hx => hx
    omega
theorem look_is (l : List T) (u : Int) (hu : 0 ≤ u ∧ u ≤ 65535) (hl : ∀ x ∈ l, formedM x = true ∧ nodes x ≤ 1048576) (t : T) : ∀ (b d : Int) (st : St3), formedM t = true → 0 ≤ b → b + nodes t ≤ 2097152 → 0 ≤ d → d + nodes t ≤ 2097152 →
    0 ≤ st.sz → st.sz ≤ mostI → 0 ≤ st.dp → st.dp ≤ 1099511627776 →
    lookT (l.map agOf) u t b d st = ⟨st.sc || scI l u t b, min (st.sz + nodes (mapT (instF l u) t b)) mostI, max st.dp (d + depthN (mapT (instF l u) t b))⟩ := by
  refine T.ind (p := fun t => ∀ (b d : Int) (st : St3), formedM t = true → 0 ≤ b → b + nodes t ≤ 2097152 → 0 ≤ d → d + nodes t ≤ 2097152 →
    0 ≤ st.sz → st.sz ≤ mostI → 0 ≤ st.dp → st.dp ≤ 1099511627776 →
    lookT (l.map agOf) u t b d st = ⟨st.sc || scI l u t b, min (st.sz + nodes (mapT (instF l u) t b)) mostI, max st.dp (d + depthN (mapT (instF l u) t b))⟩) ?_ t
  intro k n ks ih b d st hfm hb0 hb hd0 hd hs0 hs1 hp0 hp1
  have hM : mostI = 1099511627776 := rfl
  have hn1 : 1 ≤ nodes (.mk k n ks) := by rw [nodes]; omega
  by_cases h1 : k = 1
  · have hks := var_leaf h1 hfm
    have hn := var_formed h1 hfm
    subst h1 hks
    rw [lookT, if_pos rfl, scI, if_pos rfl, mapT, if_pos rfl, instF, List.length_map]
    by_cases hW : 0 ≤ whichT l.length u n b
    · have hlt : (whichT l.length u n b).toNat < l.length := by
        have h2 := hW
        rw [whichT] at h2 ⊢
        split at h2
        · omega
        · rename_i h3
          rw [if_neg h3]
          omega
      have hx := hl _ (List.getElem_mem hlt)
      generalize hw : (whichT l.length u n b).toNat = m at hlt hx
      have hfr := free_le l[m] hx.1 0
      rw [if_pos hW, if_pos hW, if_pos hW, List.getElem?_map, List.getElem?_eq_getElem hlt]
      simp only [Option.map_some, agOf]
      rw [size_is _ (by omega), depth_is _ (by omega), moved_nodes hx.1, moved_depth hx.1]
      have hdl := depth_le l[m]
      rw [w64_id (n := st.sz + _) (by omega) (by omega), w64_id (n := d + _) (by omega) (by omega), mn_eq, mx_eq, hM, w64_id (n := freeT l[m] 0 + u) (by omega) (by omega), w64_id (n := freeT l[m] 0 + u + b) (by omega) (by omega)]
      congr 1
      rw [overB]
      have e : freeT l[m] 0 + u + b = freeT l[m] 0 + (u + b) := by omega
      rw [e]
      cases st.sc
      · by_cases h4 : 0 ≤ freeT l[m] 0 <;> simp [h4]
      · simp
    · rw [if_neg hW, if_neg hW, if_neg hW]
      simp only [leaf_nodes, leaf_depth]
      rw [w64_id (by omega) (by omega), w64_id (by omega) (by omega), mn_eq, mx_eq, hM]
      simp
  · have hkf := kids_formed hfm
    rw [lookT, if_neg h1, scI, if_neg h1, mapT, if_neg h1, nodes, depthN]
    have hnn : nodes (.mk k n ks) = (ks.map nodes).sum + 1 := by rw [nodes]
    have go : ∀ (xs : List T) (i : Nat) (st : St3), (∀ x ∈ xs, x ∈ ks) → 0 ≤ st.sz → st.sz ≤ mostI → d + 1 ≤ st.dp → st.dp ≤ 1099511627776 →
        lookL (l.map agOf) u k b d i st xs = ⟨st.sc || scL l u k b i xs, min (st.sz + ((mapL (instF l u) k b i xs).map nodes).sum) mostI, max st.dp (d + 1 + dmax ((mapL (instF l u) k b i xs).map depthN))⟩ := by
      intro xs
      induction xs with
      | nil =>
        intro i st _ a0 a1 a2 a3
        simp only [lookL, scL, mapL, List.map_nil, List.sum_nil, dmax, List.foldr_nil]
        obtain ⟨sc, sz, dp⟩ := st
        simp only [Bool.or_false, St3.mk.injEq, true_and]
        simp only at a0 a1 a2 a3
        omega
      | cons x xs ihx =>
        intro i st hmem a0 a1 a2 a3
        have hxk := hmem x (by simp)
        have hxn := nodes_kid (k := k) (n := n) hxk
        have hbl := binds_le k i
        rw [lookL, w64_id (n := d + 1) (by omega) (by omega), ih x hxk (b + bindsM k i) (d + 1) st (hkf x hxk) (by omega) (by omega) (by omega) (by omega) a0 a1 (by omega) a3]
        have hdx := depth_le x
        rw [ihx (i + 1) _ (fun y hy => hmem y (by simp [hy])) (by simp only; omega) (by simp only; omega) (by simp only; omega) ?_]
        · simp only [scL, mapL, List.map_cons, List.sum_cons, dmax, List.foldr_cons, Bool.or_assoc, St3.mk.injEq, true_and]
          omega
        · simp only
          have := inst_depth l u hl x (b + bindsM k i)
          omega
    have hg := go ks 0 ⟨st.sc, mn (w64 (st.sz + 1)) mostI, mx st.dp (w64 (d + 1))⟩ (fun x hx => hx) (by simp only; rw [w64_id (by omega) (by omega), mn_eq]; omega) (by simp only; rw [mn_eq]; omega) (by simp only; rw [w64_id (by omega) (by omega), mx_eq]; omega)
      (by simp only; rw [w64_id (by omega) (by omega), mx_eq]; omega)
    rw [hg]
    simp only [St3.mk.injEq, true_and]
    rw [w64_id (n := st.sz + 1) (by omega) (by omega), w64_id (n := d + 1) (by omega) (by omega), mn_eq, mx_eq]
    omega
/-- What is reckoned ahead. -/
theorem openSt_is {t : T} {l : List T} {u : Int} (h : openE t l u = 0) (ht : nodes t ≤ 1048576) (hl : ∀ x ∈ l, nodes x ≤ 1048576) :
    openSt t l u = ⟨scI l u t 0, min (nodes (mapT (instF l u) t 0) : Int) mostI, depthN (mapT (instF l u) t 0)⟩ := by
  obtain ⟨f1, f2, f3⟩ := openE_facts h
  rw [openSt, look_is l u f3 (fun x hx => ⟨f2 x hx, hl x hx⟩) t 0 0 st0 f1 (by omega) (by omega) (by omega) (by omega) (by simp [st0]) (by simp [st0, mostI]) (by simp [st0]) (by simp [st0])]
  simp only [st0, Bool.false_or, St3.mk.injEq, true_and]
  omega
/-- Put in, all is right. -/
theorem inst_iff {t : T} {l : List T} {u : Int} (ht : nodes t ≤ 1048576) (hl : ∀ x ∈ l, nodes x ≤ 1048576) :
    instE t l u = 0 ↔ openE t l u = 0 ∧ scI l u t 0 = false ∧ nodes (mapT (instF l u) t 0) ≤ 6000 ∧ depthN (mapT (instF l u) t 0) ≤ 200 := by
  have hM : mostI = 1099511627776 := rfl
  rw [instE]
  by_cases h : openE t l u = 0
  · rw [if_pos h, openSt_is h ht hl]
    simp only
    cases scI l u t 0 with
    | true => simp
    | false =>
      simp only [Bool.false_eq_true, if_false, true_and, h]
      by_cases h1 : (6000 : Int) < min (nodes (mapT (instF l u) t 0) : Int) mostI
      · rw [if_pos h1]
        constructor
        · intro h; cases h
        · omega
      · rw [if_neg h1]
        by_cases h2 : (200 : Int) < depthN (mapT (instF l u) t 0)
        · rw [if_pos h2]
          constructor
          · intro h; cases h
          · omega
        · rw [if_neg h2]
          constructor
          · intro _; omega
          · intro _; rfl
  · rw [if_neg h]
    constructor
    · intro h'; exact absurd h' h
    · rintro ⟨h', _⟩; exact absurd h' h
theorem inst_at {t : T} {l : List T} {u : Int} (h : instE t l u = 0) : instT t l u = mapT (instF l u) t 0 := by rw [instT, if_pos h]
theorem rt_ok (k : Int) (l : List T) (hl : l.length * 40 ≤ maxRoom) : Pure Tryz.prog n_porismref01_T [.int .i64 k, eTs l] [.agg (cT (.mk k 0 l))] := by
  refine p_porismref01_T rfl fun hs => ?_
  simp -dsimp [x_porismref01_T, cT, eTs, hl]
theorem openE_iff (t : T) (l : List T) (u : Int) : openE t l u = 0 ↔ checkM t = 0 ∧ (∀ x ∈ l, checkM x = 0) ∧ 0 ≤ u ∧ u ≤ 65535 := by
  have ha : argsE l = 0 ↔ ∀ x ∈ l, checkM x = 0 := by
    induction l with
    | nil => simp [argsE]
    | cons x xs ih =>
      rw [argsE]
      by_cases h : checkM x = 0
      · simp [h, ih]
      · simp [h]
  rw [openE, ← ha]
  by_cases h1 : checkM t = 0
  · rw [if_pos h1]
    by_cases h2 : argsE l = 0
    · rw [if_pos h2]
      by_cases h3 : u < 0 ∨ 65535 < u
      · rw [if_pos h3]
        constructor
        · intro h; cases h
        · omega
      · rw [if_neg h3]
        constructor
        · intro _; exact ⟨h1, h2, by omega⟩
        · intro _; rfl
    · rw [if_neg h2]
      constructor
      · intro h; exact absurd h h2
      · intro h; exact absurd h.2.1 h2
  · rw [if_neg h1]
    constructor
    · intro h; exact absurd h h1
    · intro h; exact absurd h.1 h1
theorem scL_at (l : List T) (u k b : Int) : ∀ (xs : List T) (i j : Nat) (h : j < xs.length), scL l u k b i xs = false → scI l u xs[j] (b + bindsM k (i + j : Nat)) = false
  | x :: xs, i, 0, h, hs => by
    rw [scL, Bool.or_eq_false_iff] at hs
    simpa using hs.1
  | x :: xs, i, j + 1, h, hs => by
    rw [scL, Bool.or_eq_false_iff] at hs
    have := scL_at l u k b xs (i + 1) j (by simpa using h) hs.2
    simp only [List.getElem_cons_succ]
    rw [show i + (j + 1) = i + 1 + j by omega]
    exact this
theorem map_map (f g h : Int → Int → T) (e : Int) (hv : ∀ n b : Int, 0 ≤ n → n ≤ 65535 → 0 ≤ b → b ≤ 4194304 → mapT f (g n b) (b + e) = h n b) (t : T) : ∀ b : Int, formedM t = true → 0 ≤ b → b + nodes t ≤ 4194304 → mapT f (mapT g t b) (b + e) = mapT h t b := by
  refine T.ind (p := fun t => ∀ b : Int, formedM t = true → 0 ≤ b → b + nodes t ≤ 4194304 → mapT f (mapT g t b) (b + e) = mapT h t b) ?_ t
  intro k n ks ih b hfm h0 hb
  rw [mapT, mapT]
  by_cases h1 : k = 1
  · have hn := var_formed h1 hfm
    rw [if_pos h1, if_pos h1, hv n b hn.1 hn.2 h0 (by omega)]
  · rw [if_neg h1, if_neg h1, mapT, if_neg h1]
    congr 1
    have go : ∀ (xs : List T) (i : Nat), (∀ x ∈ xs, x ∈ ks) → mapL f k (b + e) i (mapL g k b i xs) = mapL h k b i xs := by
      intro xs
      induction xs with
      | nil => intro i _; simp [mapL]
      | cons x xs ihx =>
        intro i hm
        have hx := hm x (by simp)
        have hxn := nodes_kid (k := k) (n := n) hx
        have hbl := binds_le k i
        have e1 : b + e + bindsM k i = b + bindsM k i + e := by omega
        rw [mapL, mapL, mapL, e1, ih x hx _ (kids_formed hfm x hx) (by omega) (by omega), ihx (i + 1) fun y hy => hm y (by simp [hy])]
    exact go ks 0 fun x hx => hx
def mv (y : Int) (n b : Int) : T := .mk 1 (if b ≤ n then w64 (n + y) else n) []
theorem moved_is (y : Int) (t : T) : movedT y t = mapT (mv y) t 0 := rfl
theorem mv_lo {y n b : Int} (h : n < b) : mv y n b = .mk 1 n [] := by rw [mv, if_neg (by omega)]
theorem mv_hi {y n b : Int} (h : b ≤ n) (hn : 0 ≤ n) (hn' : n ≤ 10000000) (hy : 0 ≤ y) (hy' : y ≤ 10000000) : mv y n b = .mk 1 (n + y) [] := by rw [mv, if_pos h, w64_id (by omega) (by omega)]
theorem formed_node {f : Int → Int → T} {k n b : Int} {ks : List T} (h1 : k ≠ 1) (hfm : formedM (.mk k n ks) = true) (h : ∀ (j : Nat) (hj : j < ks.length), formedM (mapT f ks[j] (b + bindsM k j)) = true) : formedM (.mk k n (mapL f k b 0 ks)) = true := by
  have ha : (mapL f k b 0 ks).all formedM = true := by
    rw [List.all_eq_true]
    intro x hx
    obtain ⟨j, hj, rfl⟩ := List.mem_iff_getElem.1 hx
    rw [mapL_len] at hj
    rw [mapL_get f k b ks 0 j hj, Nat.zero_add]
    exact h j hj
  rw [formedM_is] at hfm ⊢
  rw [mapL_len, ha]
  split at hfm
  · rename_i c1
    rw [if_pos c1]
    split at hfm
    · rename_i c2
      rw [if_pos c2]
      rw [Bool.and_eq_true] at hfm
      rw [hfm.1]; rfl
    · rename_i c2
      rw [if_neg c2]
      split at hfm
      · rename_i c3; rw [if_pos c3]
      · cases hfm
  · cases hfm
theorem var_is_formed {n : Int} (h : 0 ≤ n ∧ n ≤ 65535) : formedM (.mk 1 n []) = true := by simp [formedM_is, kidsM, (inB_iff n 0 65535).2 h]
theorem freeL_ge (k b : Int) : ∀ (xs : List T) (i : Nat) (a : Int), a ≤ freeL k b i a xs ∧ ∀ (j : Nat) (hj : j < xs.length), freeT xs[j] (b + bindsM k (i + j : Nat)) ≤ freeL k b i a xs
  | [], i, a => ⟨by rw [freeL]; omega, fun j hj => by simp at hj⟩
  | x :: xs, i, a => by
    obtain ⟨h1, h2⟩ := freeL_ge k b xs (i + 1) (mx a (freeT x (b + bindsM k i)))
    rw [mx_eq] at h1
    rw [freeL]
    refine ⟨by rw [mx_eq] at *; omega, fun j hj => ?_⟩
    cases j with
    | zero => simp only [List.getElem_cons_zero, Nat.add_zero]; rw [mx_eq] at *; omega
    | succ j =>
      have := h2 j (by simpa using hj)
      simp only [List.getElem_cons_succ]
      rw [show i + (j + 1) = i + 1 + j by omega]
      exact this
theorem moved_formed (t : T) : ∀ (b y F : Int), formedM t = true → 0 ≤ y → y ≤ 10000000 → freeT t b ≤ F → (F < 0 ∨ F + y ≤ 65535) → 0 ≤ b → formedM (mapT (mv y) t b) = true := by
  refine T.ind (p := fun t => ∀ (b y F : Int), formedM t = true → 0 ≤ y → y ≤ 10000000 → freeT t b ≤ F → (F < 0 ∨ F + y ≤ 65535) → 0 ≤ b → formedM (mapT (mv y) t b) = true) ?_ t
  intro k n ks ih b y F hfm hy0 hy1 hF hFy hb
  rw [freeT] at hF
  rw [mapT]
  by_cases h1 : k = 1
  · have hn := var_formed h1 hfm
    rw [if_pos h1]
    by_cases c : b ≤ n
    · rw [mv_hi c hn.1 (by omega) hy0 hy1]
      have := (freeL_ge k b ks 0 (if k = 1 ∧ b ≤ n then n else -1)).1
      rw [if_pos ⟨h1, c⟩] at this hF
      exact var_is_formed (by omega)
    · rw [mv_lo (by omega)]
      exact var_is_formed hn
  · rw [if_neg h1]
    refine formed_node h1 hfm fun j hj => ?_
    have h2 := (freeL_ge k b ks 0 (if k = 1 ∧ b ≤ n then n else -1)).2 j hj
    rw [Nat.zero_add] at h2
    have hbl := binds_le k j
    exact ih ks[j] (List.getElem_mem _) _ y F (kids_formed hfm _ (List.getElem_mem _)) hy0 hy1 (by omega) hFy (by omega)
theorem inst_formed (l : List T) (u : Int) (hu : 0 ≤ u ∧ u ≤ 65535) (hl : ∀ x ∈ l, formedM x = true) (t : T) : ∀ b : Int, formedM t = true → 0 ≤ b → b + nodes t ≤ 2097152 → scI l u t b = false → formedM (mapT (instF l u) t b) = true := by
  refine T.ind (p := fun t => ∀ b : Int, formedM t = true → 0 ≤ b → b + nodes t ≤ 2097152 → scI l u t b = false → formedM (mapT (instF l u) t b) = true) ?_ t
  intro k n ks ih b hfm h0 hb hsc
  rw [mapT]
  rw [scI] at hsc
  by_cases h1 : k = 1
  · have hn := var_formed h1 hfm
    rw [if_pos h1] at hsc ⊢
    rw [instF]
    by_cases hW : 0 ≤ whichT l.length u n b
    · have hlt : (whichT l.length u n b).toNat < l.length := by
        have h2 := hW
        rw [whichT] at h2 ⊢
        split at h2
        · omega
        · rename_i h3
          rw [if_neg h3]
          omega
      generalize (whichT l.length u n b).toNat = m at hlt hsc
      rw [if_pos hW, List.getElem?_eq_getElem hlt] at hsc ⊢
      have hx := hl _ (List.getElem_mem hlt)
      have hfr := free_le l[m] hx 0
      simp only [overB, Bool.and_eq_false_iff, decide_eq_false_iff_not] at hsc
      show formedM (movedT (w64 (u + b)) l[m]) = true
      rw [w64_id (by omega) (by omega), moved_is]
      exact moved_formed l[m] 0 (u + b) (freeT l[m] 0) hx (by omega) (by omega) (Int.le_refl _) (by omega) (by omega)
    · rw [if_neg hW]
      have h2 := hW
      rw [whichT] at h2
      by_cases c : u + b ≤ n
      · rw [if_pos c]
        have : (l.length : Int) ≤ n - (u + b) := by
          split at h2
          · rename_i h3; omega
          · omega
        rw [w64_id (by omega) (by omega)]
        exact var_is_formed (by omega)
      · rw [if_neg c]
        exact var_is_formed hn
  · rw [if_neg h1] at hsc ⊢
    refine formed_node h1 hfm fun j hj => ?_
    have hxn := nodes_kid (k := k) (n := n) (List.getElem_mem hj)
    have hbl := binds_le k j
    have h2 := scL_at l u k b ks 0 j hj hsc
    rw [Nat.zero_add] at h2
    exact ih ks[j] (List.getElem_mem _) _ (kids_formed hfm _ (List.getElem_mem _)) (by omega) (by omega) h2
/-- What comes of it is right. -/
theorem inst_right {t : T} {l : List T} {u : Int} (ht : nodes t ≤ 1048576) (hl : ∀ x ∈ l, nodes x ≤ 1048576) (h : instE t l u = 0) : checkM (instT t l u) = 0 ∧ nodes (instT t l u) ≤ 6000 ∧ formedM (instT t l u) = true := by
  obtain ⟨h1, h2, h3, h4⟩ := (inst_iff ht hl).1 h
  obtain ⟨f1, f2, f3⟩ := openE_facts h1
  rw [inst_at h]
  have hf := inst_formed l u f3 f2 t 0 f1 (by omega) (by omega) h2
  exact ⟨(check_iff (by omega)).2 ⟨h3, h4, hf⟩, h3, hf⟩
end Ev
end Go.Proofs.YtdhfkbdhdgaccaaGreat
/- shape: numbers, right blocks. -/
namespace Go.Proofs.YtdhfkbdhdgaccaaGreat
namespace Ev
open Go
set_option maxRecDepth 100000
set_option linter.unusedSimpArgs false
set_option linter.unusedVariables false
section
attribute [local simp] allD_map_d sks_map_d tk tn tks initA EndsM
theorem level_ok (n : Int) : Pure Tryz.prog n_shape_level [.int .i64 n] [.bool (decide (0 ≤ n) && decide (n ≤ 6))] := by
  refine p_shape_level rfl fun hs => ?_
  simp -dsimp [x_shape_level]
  (first | refine Ask_b ?_ ?_ | refine Cnd_b ?_ ?_) <;> intro h <;> (try simp only [decide_eq_true_eq, decide_eq_false_iff_not, beq_iff_eq, beq_eq_false_iff_ne, bne_iff_ne, bne_eq_false_iff_eq, Bool.not_eq_true', Bool.not_eq_false', Bool.and_eq_true, Bool.or_eq_true, Bool.and_eq_false_iff, Bool.or_eq_false_iff] at h) <;> simp -dsimp [h]
def place (base ahead k many : Int) : Int := if base < 0 ∨ 65535 < base ∨ k < 0 ∨ many ≤ k then -1 else w64 (w64 (base + ahead) + k)
theorem place_ok (a b c d : Int) : Pure Tryz.prog n_shape_place [.int .i64 a, .int .i64 b, .int .i64 c, .int .i64 d] [.int .i64 (place a b c d)] := by
  refine p_shape_place rfl fun hs => ?_
  simp -dsimp [x_shape_place]
  (first | refine Ask_b ?_ ?_ | refine Cnd_b ?_ ?_) <;> intro h1 <;> (try simp only [decide_eq_true_eq, decide_eq_false_iff_not, beq_iff_eq, beq_eq_false_iff_ne, bne_iff_ne, bne_eq_false_iff_eq, Bool.not_eq_true', Bool.not_eq_false', Bool.and_eq_true, Bool.or_eq_true, Bool.and_eq_false_iff, Bool.or_eq_false_iff] at h1) <;> simp -dsimp [h1, place, w64]
  (first | refine Ask_b ?_ ?_ | refine Cnd_b ?_ ?_) <;> intro h2 <;> (try simp only [decide_eq_true_eq, decide_eq_false_iff_not, beq_iff_eq, beq_eq_false_iff_ne, bne_iff_ne, bne_eq_false_iff_eq, Bool.not_eq_true', Bool.not_eq_false', Bool.and_eq_true, Bool.or_eq_true, Bool.and_eq_false_iff, Bool.or_eq_false_iff] at h2) <;> simp -dsimp [h2, h1, place, w64]
  (first | refine Ask_b ?_ ?_ | refine Cnd_b ?_ ?_) <;> intro h3 <;> (try simp only [decide_eq_true_eq, decide_eq_false_iff_not, beq_iff_eq, beq_eq_false_iff_ne, bne_iff_ne, bne_eq_false_iff_eq, Bool.not_eq_true', Bool.not_eq_false', Bool.and_eq_true, Bool.or_eq_true, Bool.and_eq_false_iff, Bool.or_eq_false_iff] at h3) <;> simp -dsimp [h3, h1, h2, place, w64]
  (first | refine Ask_b ?_ ?_ | refine Cnd_b ?_ ?_) <;> intro h4 <;> (try simp only [decide_eq_true_eq, decide_eq_false_iff_not, beq_iff_eq, beq_eq_false_iff_ne, bne_iff_ne, bne_eq_false_iff_eq, Bool.not_eq_true', Bool.not_eq_false', Bool.and_eq_true, Bool.or_eq_true, Bool.and_eq_false_iff, Bool.or_eq_false_iff] at h4) <;> simp -dsimp [h4, h1, h2, h3, place, w64]
def decs (l : List So) : Nat := (l.filter (·.dec)).length
theorem decs_snoc (l : List So) (i : Nat) (x : So) (h : l[i]? = some x) : decs (l.take (i + 1)) = decs (l.take i) + if x.dec then 1 else 0 := by
  simp only [decs, List.take_add_one, h]
  cases hd : x.dec <;> simp -dsimp [hd]
theorem decs_le (l : List So) : decs l ≤ l.length := List.length_filter_le _ _
theorem decs_ok (b : Bl) (k : Int) (h0 : 0 ≤ k) (hk : k ≤ b.sorts.length) : Pure Tryz.prog n_shape_decs [eBl b, .int .i64 k] [.int .i64 (decs (b.sorts.take k.toNat))] := by
  refine p_shape_decs rfl fun hs => ?_
  have hb : b.sorts.length ≤ 9223372036854775807 := by
    have := hs (eBl b) (by simp)
    simp -dsimp [eBl, cBl, eSos, small] at this
    exact this.1.1
  obtain ⟨m, rfl⟩ : ∃ m : Nat, k = m := ⟨k.toNat, by omega⟩
  have hm : m ≤ b.sorts.length := by omega
  simp -dsimp [x_shape_decs, eBl, cBl, eSos, eCos, h0, hk]
  refine wp_upto m (fun i st => st.s 11 = .d (.sl 6 ((b.sorts.take m).map eSo)) ∧ st.s 12 = .d (.int .i64 m) ∧ st.s 13 = .d (.int .i64 i) ∧ st.s 5 = .d (.int .i64 (decs (b.sorts.take i)))) ?_ ?_
  · simp -dsimp [decs, hm]
  · rintro i ⟨s, hp⟩ hi ⟨h1, h2, h3, h4⟩
    dsimp only at h1 h2 h3 h4
    rcases Nat.lt_or_ge i m with hlt | hge
    · obtain ⟨x, hx⟩ : ∃ x, b.sorts[i]? = some x := ⟨_, List.getElem?_eq_getElem (by omega)⟩
      have hx' : (b.sorts.take m)[i]? = some x := by rw [List.getElem?_take_of_lt hlt, hx]
      simp -dsimp [h1, h2, h3, h4, hlt, hx, hx', eSo, cSo, cT, eArs]
      have hd := decs_le (b.sorts.take i)
      rw [List.length_take] at hd
      have w1 : IntKind.i64.wrap ((i : Int) + 1) = (i : Int) + 1 := wrap_id (by omega) (by omega)
      have w2 : IntKind.i64.wrap ((decs (b.sorts.take i) : Int) + 1) = (decs (b.sorts.take i) : Int) + 1 := wrap_id (by omega) (by omega)
      cases hxd : x.dec <;> simp -dsimp [hxd, hlt, h1, h2, h3, h4, w1, w2, decs_snoc _ _ _ hx]
    · have e : i = m := by omega
      subst e
      simp -dsimp [h1, h2, h3, h4]
def count (b : Bl) : Int := w64 (w64 (w64 (2 * b.sorts.length) + decs b.sorts) + b.cons.length)
theorem count_ok (b : Bl) : Pure Tryz.prog n_shape_Count [eBl b] [.int .i64 (count b)] := by
  refine p_shape_Count rfl fun hs => ?_
  simp -dsimp [x_shape_Count, eBl, cBl, eSos, eCos]
  refine call_of (decs_ok b b.sorts.length (by omega) (by omega)) ?_
  simp -dsimp [count, w64]
def former (b : Bl) (base k : Int) : Int := place base 0 k b.sorts.length
theorem former_ok (b : Bl) (base k : Int) : Pure Tryz.prog n_shape_Former [eBl b, .int .i64 base, .int .i64 k] [.int .i64 (former b base k)] := by
  refine p_shape_Former rfl fun hs => ?_
  simp -dsimp [x_shape_Former, eBl, cBl, eSos, eCos]
  refine call_of (place_ok _ _ _ _) ?_
  simp -dsimp [former]
def decoder (b : Bl) (base k : Int) : Int :=
  if k < 0 then -1 else match b.sorts[k.toNat]? with
    | none => -1
    | some s => if s.dec then place base b.sorts.length (decs (b.sorts.take k.toNat)) b.sorts.length else -1
theorem decoder_ok (b : Bl) (base k : Int) : Pure Tryz.prog n_shape_Decoder [eBl b, .int .i64 base, .int .i64 k] [.int .i64 (decoder b base k)] := by
  refine p_shape_Decoder rfl fun hs => ?_
  simp -dsimp [x_shape_Decoder, eBl, cBl, eSos, eCos]
  (first | refine Ask_b ?_ ?_ | refine Cnd_b ?_ ?_) <;> intro h1 <;> (try simp only [decide_eq_true_eq, decide_eq_false_iff_not, beq_iff_eq, beq_eq_false_iff_ne, bne_iff_ne, bne_eq_false_iff_eq, Bool.not_eq_true', Bool.not_eq_false', Bool.and_eq_true, Bool.or_eq_true, Bool.and_eq_false_iff, Bool.or_eq_false_iff] at h1) <;> simp -dsimp [h1, decoder]
  (first | refine Ask_b ?_ ?_ | refine Cnd_b ?_ ?_) <;> intro h2 <;> (try simp only [decide_eq_true_eq, decide_eq_false_iff_not, beq_iff_eq, beq_eq_false_iff_ne, bne_iff_ne, bne_eq_false_iff_eq, Bool.not_eq_true', Bool.not_eq_false', Bool.and_eq_true, Bool.or_eq_true, Bool.and_eq_false_iff, Bool.or_eq_false_iff] at h2) <;> simp -dsimp [h2, h1, decoder]
  · have : b.sorts[k.toNat]? = none := List.getElem?_eq_none (by omega)
    simp -dsimp [this]
  · obtain ⟨s, hs⟩ : ∃ s, b.sorts[k.toNat]? = some s := ⟨_, List.getElem?_eq_getElem (by omega)⟩
    have h3 : 0 ≤ k := by omega
    simp -dsimp [hs, h1, h2, h3, eSo, cSo, cT, eArs]
    (first | refine Ask_b ?_ ?_ | refine Cnd_b ?_ ?_) <;> intro h4 <;> (try simp only [decide_eq_true_eq, decide_eq_false_iff_not, beq_iff_eq, beq_eq_false_iff_ne, bne_iff_ne, bne_eq_false_iff_eq, Bool.not_eq_true', Bool.not_eq_false', Bool.and_eq_true, Bool.or_eq_true, Bool.and_eq_false_iff, Bool.or_eq_false_iff] at h4) <;> simp -dsimp [h4, hs, h1, h2, h3, decoder]
    · 
      refine call_of (decs_ok b k (by omega) (by omega)) ?_
      simp -dsimp
      refine call_of (place_ok _ _ _ _) ?_
      simp -dsimp [decoder, h1, h4, hs]
def constructor_ (b : Bl) (base k : Int) : Int := place base (w64 (b.sorts.length + decs b.sorts)) k b.cons.length
theorem constructor_ok (b : Bl) (base k : Int) : Pure Tryz.prog n_shape_Constructor [eBl b, .int .i64 base, .int .i64 k] [.int .i64 (constructor_ b base k)] := by
  refine p_shape_Constructor rfl fun hs => ?_
  simp -dsimp [x_shape_Constructor, eBl, cBl, eSos, eCos]
  refine call_of (decs_ok b b.sorts.length (by omega) (by omega)) ?_
  simp -dsimp
  refine call_of (place_ok _ _ _ _) ?_
  simp -dsimp [constructor_, w64]
def eliminator (b : Bl) (base k : Int) : Int := place base (w64 (w64 (b.sorts.length + decs b.sorts) + b.cons.length)) k b.sorts.length
theorem eliminator_ok (b : Bl) (base k : Int) : Pure Tryz.prog n_shape_Eliminator [eBl b, .int .i64 base, .int .i64 k] [.int .i64 (eliminator b base k)] := by
  refine p_shape_Eliminator rfl fun hs => ?_
  simp -dsimp [x_shape_Eliminator, eBl, cBl, eSos, eCos]
  refine call_of (decs_ok b b.sorts.length (by omega) (by omega)) ?_
  simp -dsimp
  refine call_of (place_ok _ _ _ _) ?_
  simp -dsimp [eliminator, w64]
end
section
attribute [local simp] allD_map_d sks_map_d tk tn tks initA EndsM
end
section
attribute [local simp] allD_map_d sks_map_d tk tn tks initA EndsM
/-- A row of the table of a block's constants. -/
structure En where
  kind : Int
  many : Nat
  f : Nat
  of : Int → Int
def eEn (e : En) : D := .agg [.int .i64 e.kind, .int .i64 e.many, .clo e.f []]
def tab (b : Bl) (base : Int) : List En :=
  [⟨3, b.sorts.length, n_shape_Former, former b base⟩, ⟨4, b.sorts.length, n_shape_Decoder, decoder b base⟩, ⟨5, b.cons.length, n_shape_Constructor, constructor_ b base⟩, ⟨6, b.sorts.length, n_shape_Eliminator, eliminator b base⟩]
def hit (n : Int) (e : En) : Option Nat := (List.range e.many).find? fun k => e.of k == n
def seek (n : Int) (l : List En) : Option (Int × Int) := l.findSome? fun e => (hit n e).map fun (k : Nat) => (e.kind, (k : Int))
def ofM (b : Bl) (base n : Int) : Int × Int :=
  if base < 0 ∨ 65535 < base ∨ n < base ∨ count b ≤ w64 (n - base) then (0, 0) else (seek n (tab b base)).getD (0, 0)
theorem tab_ok (b : Bl) (base : Int) : ∀ e ∈ tab b base, ∀ k : Int, Pure Tryz.prog e.f [eBl b, .int .i64 base, .int .i64 k] [.int .i64 (e.of k)] := by
  intro e he k
  simp only [tab, List.mem_cons, List.not_mem_nil, or_false] at he
  rcases he with rfl | rfl | rfl | rfl
  · exact former_ok b base k
  · exact decoder_ok b base k
  · exact constructor_ok b base k
  · exact eliminator_ok b base k
theorem tab_many (b : Bl) (base : Int) (hl : b.sorts.length ≤ 9223372036854775807) (hc : b.cons.length ≤ 9223372036854775807) : ∀ e ∈ tab b base, e.many ≤ 9223372036854775807 := by
  intro e he
  simp only [tab, List.mem_cons, List.not_mem_nil, or_false] at he
  rcases he with rfl | rfl | rfl | rfl <;> assumption
theorem find_range {p : Nat → Bool} {n i : Nat} (hi : i < n) (hb : ∀ j, j < i → p j = false) (h : p i = true) : (List.range n).find? p = some i := by
  rw [List.find?_eq_some_iff_append]
  refine ⟨h, List.range i, (List.range (n - i - 1)).map (· + (i + 1)), ?_, ?_⟩
  · apply List.ext_getElem
    · simp; omega
    · intro j h1 h2
      simp [List.getElem_append, List.getElem_cons]
      split
      · omega
      · omega
  · intro a ha
    simp at ha
    simp [hb a ha]
theorem seek_next {n : Int} {l : List En} {i : Nat} (hlt : i < l.length) (h : seek n (l.take i) = none) (hx : hit n l[i] = none) : seek n (l.take (i + 1)) = none := by
  rw [take_snoc (List.getElem?_eq_getElem hlt)]
  simp only [seek, List.findSome?_append] at h ⊢
  rw [h]
  simp [hx]
theorem seek_hit {n : Int} {l : List En} {i k : Nat} (hlt : i < l.length) (h : seek n (l.take i) = none) (hx : hit n l[i] = some k) : seek n l = some (l[i].kind, (k : Int)) := by
  have e : seek n (l.take i ++ l[i] :: l.drop (i + 1)) = some (l[i].kind, (k : Int)) := by
    simp only [seek, List.findSome?_append] at h ⊢
    rw [h, List.findSome?_cons, hx]
    rfl
  rwa [List.getElem_cons_drop, List.take_append_drop] at e
theorem of_ok (b : Bl) (base n : Int) : Pure Tryz.prog n_shape_Of [eBl b, .int .i64 base, .int .i64 n] [.int .i64 (ofM b base n).1, .int .i64 (ofM b base n).2] := by
  refine p_shape_Of rfl fun hs => ?_
  have hsm := hs (eBl b) (by simp)
  simp [eBl, cBl, eSos, eCos, small] at hsm
  obtain ⟨⟨hl, _⟩, hlc, _⟩ := hsm
  simp -dsimp [x_shape_Of, eBl, cBl, eSos, eCos]
  (first | refine Ask_b ?_ ?_ | refine Cnd_b ?_ ?_) <;> intro h1 <;> (try simp only [decide_eq_true_eq, decide_eq_false_iff_not, beq_iff_eq, beq_eq_false_iff_ne, bne_iff_ne, bne_eq_false_iff_eq, Bool.not_eq_true', Bool.not_eq_false', Bool.and_eq_true, Bool.or_eq_true, Bool.and_eq_false_iff, Bool.or_eq_false_iff] at h1) <;> simp -dsimp [h1, ofM]
  (first | refine Ask_b ?_ ?_ | refine Cnd_b ?_ ?_) <;> intro h2 <;> (try simp only [decide_eq_true_eq, decide_eq_false_iff_not, beq_iff_eq, beq_eq_false_iff_ne, bne_iff_ne, bne_eq_false_iff_eq, Bool.not_eq_true', Bool.not_eq_false', Bool.and_eq_true, Bool.or_eq_true, Bool.and_eq_false_iff, Bool.or_eq_false_iff] at h2) <;> simp -dsimp [h2, ofM, h1]
  (first | refine Ask_b ?_ ?_ | refine Cnd_b ?_ ?_) <;> intro h3 <;> (try simp only [decide_eq_true_eq, decide_eq_false_iff_not, beq_iff_eq, beq_eq_false_iff_ne, bne_iff_ne, bne_eq_false_iff_eq, Bool.not_eq_true', Bool.not_eq_false', Bool.and_eq_true, Bool.or_eq_true, Bool.and_eq_false_iff, Bool.or_eq_false_iff] at h3) <;> simp -dsimp [h3, ofM, h1, h2]
  refine call_of (count_ok b) ?_
  simp -dsimp [h1, h2, h3]
  (first | refine Ask_b ?_ ?_ | refine Cnd_b ?_ ?_) <;> intro h4 <;> (try simp only [decide_eq_true_eq, decide_eq_false_iff_not, beq_iff_eq, beq_eq_false_iff_ne, bne_iff_ne, bne_eq_false_iff_eq, Bool.not_eq_true', Bool.not_eq_false', Bool.and_eq_true, Bool.or_eq_true, Bool.and_eq_false_iff, Bool.or_eq_false_iff] at h4) <;> simp -dsimp [h4, h1, h2, h3]
  · have : ofM b base n = (0, 0) := by rw [ofM, if_pos (.inr (.inr (.inr h4)))]
    simp [this]
  have hof : ofM b base n = (seek n (tab b base)).getD (0, 0) := by
    rw [ofM, if_neg]
    rintro (h | h | h | h)
    · exact h1 h
    · exact h2 h
    · exact h3 h
    · exact h4 h
  rw [hof]
  refine wp_upto 4 (fun i st => st.s 1 = .d (.int .i64 base) ∧ st.s 2 = .d (.int .i64 n) ∧ st.s 3 = .ptr 3 1 0 ∧ st.h 3 = ⟨1, .box [.d (.sl 6 (b.sorts.map eSo)), .d (.sl 6 (b.cons.map eCo)), .d (.int .i64 b.elim)] false⟩ ∧
    st.s 46 = .fsl 3 ((tab b base).map eEn) ∧ st.s 47 = .d (.int .i64 4) ∧ st.s 48 = .d (.int .i64 i) ∧ seek n ((tab b base).take i) = none) ?_ ?_
  · simp -dsimp [tab, eEn, seek]
  · rintro i ⟨s, hp⟩ hi ⟨g1, g2, g3, g4, g5, g6, g7, g8⟩
    dsimp only at g1 g2 g3 g4 g5 g6 g7 g8
    have htl : (tab b base).length = 4 := rfl
    rcases Nat.lt_or_ge i 4 with hlt | hge
    · have w1 : IntKind.i64.wrap ((i : Int) + 1) = (i : Int) + 1 := wrap_id (by omega) (by omega)
      have hlt' : i < (tab b base).length := by omega
      generalize he : (tab b base)[i] = e at *
      have hm := tab_many b base hl hlc e (he ▸ List.getElem_mem _)
      have hok := tab_ok b base e (he ▸ List.getElem_mem _)
      have hi4 : ((i : Int) < 4) := by omega
      simp -dsimp [g1, g2, g3, g4, g5, g6, g7, hi4, hlt', he, eEn]
      refine wp_upto e.many (fun j st => st.s 1 = .d (.int .i64 base) ∧ st.s 2 = .d (.int .i64 n) ∧ st.s 3 = .ptr 3 1 0 ∧ st.h 3 = ⟨1, .box [.d (.sl 6 (b.sorts.map eSo)), .d (.sl 6 (b.cons.map eCo)), .d (.int .i64 b.elim)] false⟩ ∧
        st.s 46 = .fsl 3 ((tab b base).map eEn) ∧ st.s 47 = .d (.int .i64 4) ∧ st.s 48 = .d (.int .i64 i) ∧ (∃ v, st.s 9 = .ptr 9 v 0 ∧ st.h 9 = ⟨v, .box [.d (.int .i64 e.kind), .d (.int .i64 e.many), .d (.clo e.f [])] false⟩) ∧
        st.s 53 = .d (.int .i64 e.many) ∧ st.s 54 = .d (.int .i64 j) ∧ ∀ k, k < j → (e.of k == n) = false) ?_ ?_
      · simp -dsimp [g1, g2, g3, g4, g5, g6, g7]
      · rintro j ⟨s, hp⟩ hj ⟨g1, g2, g3, g4, g5, g6, g7, ⟨v, g9, g10⟩, g11, g12, g13⟩
        dsimp only at g1 g2 g3 g4 g5 g6 g7 g9 g10 g11 g12
        rcases Nat.lt_or_ge j e.many with hjl | hjg
        · have w2 : IntKind.i64.wrap ((j : Int) + 1) = (j : Int) + 1 := wrap_id (by omega) (by omega)
          simp -dsimp [g1, g2, g3, g4, g5, g6, g7, g9, g10, g11, g12, hjl]
          refine call_of (hok j) ?_
          simp -dsimp [g1, g2, g3, g4, g5, g6, g7, g9, g10, g11, g12, hjl]
          (first | refine Ask_b ?_ ?_ | refine Cnd_b ?_ ?_) <;> intro h5 <;> (try simp only [decide_eq_true_eq, decide_eq_false_iff_not, beq_iff_eq, beq_eq_false_iff_ne, bne_iff_ne, bne_eq_false_iff_eq, Bool.not_eq_true', Bool.not_eq_false', Bool.and_eq_true, Bool.or_eq_true, Bool.and_eq_false_iff, Bool.or_eq_false_iff] at h5) <;> simp -dsimp [h5, g1, g2, g3, g4, g5, g6, g7, g9, g10, g11, g12, hjl, w2]
          · have hh : hit n e = some j := find_range hjl g13 (by simpa using h5)
            have hk := seek_hit hlt' g8 (by rw [he]; exact hh)
            rw [hk, he]
            simp
          · intro k hk
            rcases Nat.lt_or_ge k j with h | h
            · simpa using g13 k h
            · have : k = j := by omega
              subst this
              exact h5
        · have e2 : j = e.many := by omega
          subst e2
          simp -dsimp [g1, g2, g3, g4, g5, g6, g7, g9, g10, g11, g12, w1, hlt]
          refine seek_next hlt' g8 ?_
          rw [he]
          simp only [hit, List.find?_eq_none]
          intro k hk
          simpa using g13 k (by simpa using hk)
    · have e : i = 4 := by omega
      subst e
      simp -dsimp [g1, g2, g3, g4, g5, g6, g7]
      have : (tab b base).take 4 = tab b base := List.take_of_length_le (by omega)
      rw [this] at g8
      simp [g8]
end
section
attribute [local simp] allD_map_d sks_map_d tk tn tks initA EndsM
theorem indexFunc_Arg (l : List Ar) (g : FuncId) (caps : List D) (p : Ar → Bool) (hp : ∀ x ∈ l, Pure Tryz.prog g (.agg (cAr x) :: caps) [.bool (p x)]) :
    Pure Tryz.prog n_slices_IndexFunc_Arg [.sl 7 (l.map eAr), .clo g caps] [.int .i64 (idxF l p)] := by
  refine p_slices_IndexFunc_Arg rfl fun hs => ?_
  have hl := hs (.sl 7 (l.map eAr)) (by simp)
  simp [small] at hl
  replace hl := hl.1
  simp -dsimp [x_slices_IndexFunc_Arg]
  refine wp_upto l.length (fun i st => st.s 0 = .d (.sl 7 (l.map eAr)) ∧ st.s 1 = .d (.clo g caps) ∧ st.s 7 = .d (.int .i64 l.length) ∧ st.s 8 = .d (.int .i64 i) ∧ ∀ x ∈ l.take i, p x = false) ?_ ?_
  · simp -dsimp
  · rintro i ⟨s, hp'⟩ hi ⟨h1, h2, h3, h4, h5⟩
    dsimp only at h1 h2 h3 h4 h5
    rcases Nat.lt_or_ge i l.length with hlt | hge
    · have w1 : IntKind.i64.wrap ((i : Int) + 1) = (i : Int) + 1 := wrap_id (by omega) (by omega)
      have hc : (cAr l[i]).length = 7 := rfl
      simp -dsimp [h1, h2, h3, h4, hlt, hc]
      have ht : (cAr l[i]).take 7 = cAr l[i] := List.take_of_length_le (by omega)
      refine call_of (by rw [ht]; exact hp l[i] (List.getElem_mem _)) ?_
      simp -dsimp [h1, h2, h3, h4, hlt]
      (first | refine Ask_b ?_ ?_ | refine Cnd_b ?_ ?_) <;> intro h6 <;> (try simp only [decide_eq_true_eq, decide_eq_false_iff_not, beq_iff_eq, beq_eq_false_iff_ne, bne_iff_ne, bne_eq_false_iff_eq, Bool.not_eq_true', Bool.not_eq_false', Bool.and_eq_true, Bool.or_eq_true, Bool.and_eq_false_iff, Bool.or_eq_false_iff] at h6) <;> simp -dsimp [h6, h1, h2, h3, h4, hlt, w1]
      · have : l.findIdx? p = some i := by
          rw [List.findIdx?_eq_some_iff_getElem]
          refine ⟨hlt, h6, fun j hj => ?_⟩
          have := h5 l[j] (by rw [List.mem_take_iff_getElem]; exact ⟨j, by omega, rfl⟩)
          simpa using this
        simp only [idxF, this]
      · intro x hx
        rw [take_snoc (List.getElem?_eq_getElem hlt), List.mem_append] at hx
        rcases hx with hx | hx
        · simpa using h5 x hx
        · simp at hx; subst hx; exact h6
    · have e : i = l.length := by omega
      subst e
      rw [List.take_length] at h5
      have : l.findIdx? p = none := by
        rw [List.findIdx?_eq_none_iff]; exact h5
      simp -dsimp [h1, h2, h3, h4, idxF, this]

theorem containsFunc_Arg (l : List Ar) (g : FuncId) (caps : List D) (p : Ar → Bool) (hp : ∀ x ∈ l, Pure Tryz.prog g (.agg (cAr x) :: caps) [.bool (p x)]) :
    Pure Tryz.prog n_slices_ContainsFunc_Arg [.sl 7 (l.map eAr), .clo g caps] [.bool (l.any p)] := by
  refine p_slices_ContainsFunc_Arg rfl fun hs => ?_
  simp -dsimp [x_slices_ContainsFunc_Arg]
  refine call_of (indexFunc_Arg l g caps p hp) ?_
  simp -dsimp [idxF_ge]

theorem indexFunc_Con (l : List Co) (g : FuncId) (caps : List D) (p : Co → Bool) (hp : ∀ x ∈ l, Pure Tryz.prog g (.agg (cCo x) :: caps) [.bool (p x)]) :
    Pure Tryz.prog n_slices_IndexFunc_Con [.sl 6 (l.map eCo), .clo g caps] [.int .i64 (idxF l p)] := by
  refine p_slices_IndexFunc_Con rfl fun hs => ?_
  have hl := hs (.sl 6 (l.map eCo)) (by simp)
  simp [small] at hl
  replace hl := hl.1
  simp -dsimp [x_slices_IndexFunc_Con]
  refine wp_upto l.length (fun i st => st.s 0 = .d (.sl 6 (l.map eCo)) ∧ st.s 1 = .d (.clo g caps) ∧ st.s 7 = .d (.int .i64 l.length) ∧ st.s 8 = .d (.int .i64 i) ∧ ∀ x ∈ l.take i, p x = false) ?_ ?_
  · simp -dsimp
  · rintro i ⟨s, hp'⟩ hi ⟨h1, h2, h3, h4, h5⟩
    dsimp only at h1 h2 h3 h4 h5
    rcases Nat.lt_or_ge i l.length with hlt | hge
    · have w1 : IntKind.i64.wrap ((i : Int) + 1) = (i : Int) + 1 := wrap_id (by omega) (by omega)
      have hc : (cCo l[i]).length = 6 := rfl
      simp -dsimp [h1, h2, h3, h4, hlt, hc]
      have ht : (cCo l[i]).take 6 = cCo l[i] := List.take_of_length_le (by omega)
      refine call_of (by rw [ht]; exact hp l[i] (List.getElem_mem _)) ?_
      simp -dsimp [h1, h2, h3, h4, hlt]
      (first | refine Ask_b ?_ ?_ | refine Cnd_b ?_ ?_) <;> intro h6 <;> (try simp only [decide_eq_true_eq, decide_eq_false_iff_not, beq_iff_eq, beq_eq_false_iff_ne, bne_iff_ne, bne_eq_false_iff_eq, Bool.not_eq_true', Bool.not_eq_false', Bool.and_eq_true, Bool.or_eq_true, Bool.and_eq_false_iff, Bool.or_eq_false_iff] at h6) <;> simp -dsimp [h6, h1, h2, h3, h4, hlt, w1]
      · have : l.findIdx? p = some i := by
          rw [List.findIdx?_eq_some_iff_getElem]
          refine ⟨hlt, h6, fun j hj => ?_⟩
          have := h5 l[j] (by rw [List.mem_take_iff_getElem]; exact ⟨j, by omega, rfl⟩)
          simpa using this
        simp only [idxF, this]
      · intro x hx
        rw [take_snoc (List.getElem?_eq_getElem hlt), List.mem_append] at hx
        rcases hx with hx | hx
        · simpa using h5 x hx
        · simp at hx; subst hx; exact h6
    · have e : i = l.length := by omega
      subst e
      rw [List.take_length] at h5
      have : l.findIdx? p = none := by
        rw [List.findIdx?_eq_none_iff]; exact h5
      simp -dsimp [h1, h2, h3, h4, idxF, this]

theorem containsFunc_Con (l : List Co) (g : FuncId) (caps : List D) (p : Co → Bool) (hp : ∀ x ∈ l, Pure Tryz.prog g (.agg (cCo x) :: caps) [.bool (p x)]) :
    Pure Tryz.prog n_slices_ContainsFunc_Con [.sl 6 (l.map eCo), .clo g caps] [.bool (l.any p)] := by
  refine p_slices_ContainsFunc_Con rfl fun hs => ?_
  simp -dsimp [x_slices_ContainsFunc_Con]
  refine call_of (indexFunc_Con l g caps p hp) ?_
  simp -dsimp [idxF_ge]

end
section
attribute [local simp] allD_map_d sks_map_d w64 tk tn tks initA EndsM
def noneM (t : T) : Bool := if t.kind = 0 then if t.num = 0 then decide ((t.kids.length : Int) = 0) else false else false
theorem none_ok (t : T) : Pure Tryz.prog n_term_None [.agg (cT t)] [.bool (noneM t)] := by
  refine p_term_None rfl fun hs => ?_
  simp -dsimp [x_term_None, cT]
  (first | refine Ask_b ?_ ?_ | refine Cnd_b ?_ ?_) <;> intro h1 <;> (try simp only [decide_eq_true_eq, decide_eq_false_iff_not, beq_iff_eq, beq_eq_false_iff_ne, bne_iff_ne, bne_eq_false_iff_eq, Bool.not_eq_true', Bool.not_eq_false', Bool.and_eq_true, Bool.or_eq_true, Bool.and_eq_false_iff, Bool.or_eq_false_iff] at h1) <;> simp -dsimp [h1, noneM]
  (first | refine Ask_b ?_ ?_ | refine Cnd_b ?_ ?_) <;> intro h2 <;> (try simp only [decide_eq_true_eq, decide_eq_false_iff_not, beq_iff_eq, beq_eq_false_iff_ne, bne_iff_ne, bne_eq_false_iff_eq, Bool.not_eq_true', Bool.not_eq_false', Bool.and_eq_true, Bool.or_eq_true, Bool.and_eq_false_iff, Bool.or_eq_false_iff] at h2) <;> simp -dsimp [h2, noneM, h1]
def inM (t : T) (v : Int) : Bool := scopeM t v 65536
theorem in_ok (t : T) (v : Int) : Pure Tryz.prog n_shape_in [.agg (cT t), .int .i64 v] [.bool (inM t v)] := by
  refine p_shape_in rfl fun hs => ?_
  simp -dsimp [x_shape_in, cT]
  refine call_of (scope_ok t v 65536) ?_
  simp -dsimp [inM]
theorem all1_ok (t : T) (v : Int) : Pure Tryz.prog n_shape_all_1 [.agg (cT t), .rp [.int .i64 v]] [.bool (!inM t v)] := by
  refine p_shape_all_1 rfl fun hs => ?_
  simp -dsimp [x_shape_all_1, cT]
  refine call_of (in_ok t v) ?_
  simp -dsimp
def allM (l : List T) (v : Int) : Bool := !l.any fun t => !inM t v
theorem all_ok (l : List T) (v : Int) : Pure Tryz.prog n_shape_all [eTs l, .int .i64 v] [.bool (allM l v)] := by
  refine p_shape_all rfl fun hs => ?_
  simp -dsimp [x_shape_all, eTs]
  refine call_of (containsFunc_Term l n_shape_all_1 [.rp [.int .i64 v]] (fun t => !inM t v) (fun x _ => all1_ok x v)) ?_
  simp -dsimp [allM]
def maybeM (is : Bool) (t : T) (v : Int) : Bool := if is then inM t v else noneM t
theorem maybe_ok (is : Bool) (t : T) (v : Int) : Pure Tryz.prog n_shape_maybe [.bool is, .agg (cT t), .int .i64 v] [.bool (maybeM is t v)] := by
  refine p_shape_maybe rfl fun hs => ?_
  cases is with
  | false =>
    simp -dsimp [x_shape_maybe, cT]
    refine call_of (none_ok t) ?_
    simp -dsimp [maybeM]
  | true =>
    simp -dsimp [x_shape_maybe, cT]
    refine call_of (in_ok t v) ?_
    simp -dsimp [maybeM]
def allI {α : Type} (p : Nat → α → Bool) : Nat → List α → Bool
  | _, [] => true
  | i, x :: xs => p i x && allI p (i + 1) xs
theorem allI_iff {α : Type} (p : Nat → α → Bool) : ∀ (l : List α) (i : Nat), allI p i l = true ↔ ∀ (j : Nat) (hj : j < l.length), p (i + j) l[j] = true
  | [], i => by simp [allI]
  | x :: xs, i => by
    rw [allI, Bool.and_eq_true, allI_iff p xs (i + 1)]
    constructor
    · rintro ⟨h1, h2⟩ j hj
      cases j with
      | zero => simpa using h1
      | succ j =>
        have := h2 j (by simpa using hj)
        have e : i + 1 + j = i + (j + 1) := by omega
        rw [e] at this
        simpa using this
    · intro h
      refine ⟨h 0 (by simp), fun j hj => ?_⟩
      have := h (j + 1) (by simpa using hj)
      have e : i + 1 + j = i + (j + 1) := by omega
      rw [e]
      simpa using this
theorem allI_not {α : Type} {p : Nat → α → Bool} {l : List α} {j : Nat} (hj : j < l.length) (h : p j l[j] = false) : allI p 0 l = false := by
  cases hw : allI p 0 l with
  | false => rfl
  | true =>
    have := (allI_iff p l 0).1 hw j hj
    rw [Nat.zero_add, h] at this
    cases this
theorem allI_next {α : Type} {p : Nat → α → Bool} {l : List α} {i : Nat} (hi : i < l.length) (h : ∀ (j : Nat) (hj : j < l.length), j < i → p j l[j] = true) (hx : p i l[i] = true) :
    ∀ (j : Nat) (hj : j < l.length), j < i + 1 → p j l[j] = true := by
  intro j hj hji
  rcases Nat.lt_or_ge j i with h' | h'
  · exact h j hj h'
  · have : j = i := by omega
    subst this
    exact hx
theorem allI_all {α : Type} {p : Nat → α → Bool} {l : List α} (h : ∀ (j : Nat) (hj : j < l.length), j < l.length → p j l[j] = true) : allI p 0 l = true :=
  (allI_iff p l 0).2 fun j hj => by rw [Nat.zero_add]; exact h j hj hj
def domM (i : Int) (l : List T) : Bool := allI (fun j t => inM t (w64 (i + j))) 0 l
def argM (b : Bl) (a : Ar) (i : Int) : Bool :=
  if a.rc then
    if noneM a.ty then
      if 12 < (a.dom.length : Int) then false else if a.sort < 0 then false else match b.sorts[a.sort.toNat]? with
      | none => false
      | some s => if (a.idx.length : Int) = (s.idx.length : Int) then domM i a.dom && allM a.idx (w64 (i + a.dom.length)) else false
    else false
  else if inM a.ty i then if w64 (a.dom.length + a.idx.length) = 0 then decide (a.sort = 0) else false else false
theorem arg_ok (b : Bl) (a : Ar) (i : Int) : Pure Tryz.prog n_shape_arg [eBl b, .agg (cAr a), .int .i64 i] [.bool (argM b a i)] := by
  refine p_shape_arg rfl fun hs => ?_
  simp -dsimp [x_shape_arg, eBl, cBl, eSos, eCos, cAr, cT, eTs]
  cases hr : a.rc with
  | false =>
    simp -dsimp [hr]
    refine call_of (in_ok a.ty i) ?_
    simp -dsimp
    (first | refine Ask_b ?_ ?_ | refine Cnd_b ?_ ?_) <;> intro h1 <;> (try simp only [decide_eq_true_eq, decide_eq_false_iff_not, beq_iff_eq, beq_eq_false_iff_ne, bne_iff_ne, bne_eq_false_iff_eq, Bool.not_eq_true', Bool.not_eq_false', Bool.and_eq_true, Bool.or_eq_true, Bool.and_eq_false_iff, Bool.or_eq_false_iff] at h1) <;> simp -dsimp [h1, argM, hr]
    · (first | refine Ask_b ?_ ?_ | refine Cnd_b ?_ ?_) <;> intro h2 <;> (try simp only [decide_eq_true_eq, decide_eq_false_iff_not, beq_iff_eq, beq_eq_false_iff_ne, bne_iff_ne, bne_eq_false_iff_eq, Bool.not_eq_true', Bool.not_eq_false', Bool.and_eq_true, Bool.or_eq_true, Bool.and_eq_false_iff, Bool.or_eq_false_iff] at h2) <;> simp -dsimp [h2, argM, hr, h1]
  | true =>
    simp -dsimp [hr]
    refine call_of (none_ok a.ty) ?_
    simp -dsimp
    (first | refine Ask_b ?_ ?_ | refine Cnd_b ?_ ?_) <;> intro h1 <;> (try simp only [decide_eq_true_eq, decide_eq_false_iff_not, beq_iff_eq, beq_eq_false_iff_ne, bne_iff_ne, bne_eq_false_iff_eq, Bool.not_eq_true', Bool.not_eq_false', Bool.and_eq_true, Bool.or_eq_true, Bool.and_eq_false_iff, Bool.or_eq_false_iff] at h1) <;> simp -dsimp [h1, argM, hr]
    (first | refine Ask_b ?_ ?_ | refine Cnd_b ?_ ?_) <;> intro h2 <;> (try simp only [decide_eq_true_eq, decide_eq_false_iff_not, beq_iff_eq, beq_eq_false_iff_ne, bne_iff_ne, bne_eq_false_iff_eq, Bool.not_eq_true', Bool.not_eq_false', Bool.and_eq_true, Bool.or_eq_true, Bool.and_eq_false_iff, Bool.or_eq_false_iff] at h2) <;> simp -dsimp [h2, argM, hr, h1]
    (first | refine Ask_b ?_ ?_ | refine Cnd_b ?_ ?_) <;> intro h3 <;> (try simp only [decide_eq_true_eq, decide_eq_false_iff_not, beq_iff_eq, beq_eq_false_iff_ne, bne_iff_ne, bne_eq_false_iff_eq, Bool.not_eq_true', Bool.not_eq_false', Bool.and_eq_true, Bool.or_eq_true, Bool.and_eq_false_iff, Bool.or_eq_false_iff] at h3) <;> simp -dsimp [h3, argM, hr, h1, h2]
    (first | refine Ask_b ?_ ?_ | refine Cnd_b ?_ ?_) <;> intro h4 <;> (try simp only [decide_eq_true_eq, decide_eq_false_iff_not, beq_iff_eq, beq_eq_false_iff_ne, bne_iff_ne, bne_eq_false_iff_eq, Bool.not_eq_true', Bool.not_eq_false', Bool.and_eq_true, Bool.or_eq_true, Bool.and_eq_false_iff, Bool.or_eq_false_iff] at h4) <;> simp -dsimp [h4, argM, hr, h1, h2, h3]
    · have : b.sorts[a.sort.toNat]? = none := List.getElem?_eq_none (by omega)
      simp [this]
    have hlt : a.sort.toNat < b.sorts.length := by omega
    have h0 : 0 ≤ a.sort := by omega
    have hA : argM b a i = if (a.idx.length : Int) = (b.sorts[a.sort.toNat].idx.length : Int) then domM i a.dom && allM a.idx (w64 (i + a.dom.length)) else false := by
      simp [argM, hr, h1, h2, h3, hlt]
    simp -dsimp [hr, h1, h2, h3, h4, hlt, h0, eSo, cSo, eArs, cT]
    (first | refine Ask_b ?_ ?_ | refine Cnd_b ?_ ?_) <;> intro h5 <;> (try simp only [decide_eq_true_eq, decide_eq_false_iff_not, beq_iff_eq, beq_eq_false_iff_ne, bne_iff_ne, bne_eq_false_iff_eq, Bool.not_eq_true', Bool.not_eq_false', Bool.and_eq_true, Bool.or_eq_true, Bool.and_eq_false_iff, Bool.or_eq_false_iff] at h5) <;> simp -dsimp [h5, hr, h1, h2, h3, h4, hlt, h0, eSo, cSo, eArs, cT]
    · rw [hA, if_neg h5]
    rw [hA, if_pos h5]
    have hd : a.dom.length ≤ 12 := by omega
    refine wp_upto a.dom.length (fun j st => st.s 2 = .d (.int .i64 i) ∧ st.s 4 = .ptr 4 1 0 ∧ st.h 4 = ⟨1, .box [.d (.bool true), .d (.int .i64 a.ty.kind), .d (.int .i64 a.ty.num), .d (.sl 3 (a.ty.kids.map eT)), .d (.sl 3 (a.dom.map eT)), .d (.int .i64 a.sort), .d (.sl 3 (a.idx.map eT))] false⟩ ∧
      st.s 69 = .d (.sl 3 (a.dom.map eT)) ∧ st.s 70 = .d (.int .i64 a.dom.length) ∧ st.s 71 = .d (.int .i64 j) ∧ ∀ (k : Nat) (hk : k < a.dom.length), k < j → inM a.dom[k] (w64 (i + k)) = true) ?_ ?_
    · simp -dsimp [hr]
    · rintro j ⟨s, hp⟩ hj ⟨g1, g2, g3, g4, g5, g6, g7⟩
      dsimp only at g1 g2 g3 g4 g5 g6
      rcases Nat.lt_or_ge j a.dom.length with hlt | hge
      · have w1 : IntKind.i64.wrap ((j : Int) + 1) = (j : Int) + 1 := wrap_id (by omega) (by omega)
        simp -dsimp [g1, g2, g3, g4, g5, g6, hlt, cT]
        refine call_of (in_ok a.dom[j] _) ?_
        simp -dsimp [g1, g2, g3, g4, g5, g6, hlt]
        (first | refine Ask_b ?_ ?_ | refine Cnd_b ?_ ?_) <;> intro h6 <;> (try simp only [decide_eq_true_eq, decide_eq_false_iff_not, beq_iff_eq, beq_eq_false_iff_ne, bne_iff_ne, bne_eq_false_iff_eq, Bool.not_eq_true', Bool.not_eq_false', Bool.and_eq_true, Bool.or_eq_true, Bool.and_eq_false_iff, Bool.or_eq_false_iff] at h6) <;> simp -dsimp [h6, g1, g2, g3, g4, g5, g6, hlt, w1]
        · have : domM i a.dom = false := allI_not hlt h6
          simp [this]
        · exact allI_next (p := fun j t => inM t (w64 (i + j))) hlt g7 h6
      · have e : j = a.dom.length := by omega
        subst e
        have : domM i a.dom = true := allI_all g7
        simp -dsimp [g1, g2, g3, g4, g5, g6]
        refine call_of (all_ok a.idx _) ?_
        simp -dsimp [this]
def rowM (b : Bl) (l : List Ar) : Bool := if 12 < (l.length : Int) then false else allI (fun i a => argM b a i) 0 l
theorem row_ok (b : Bl) (l : List Ar) : Pure Tryz.prog n_shape_row [eBl b, eArs l] [.bool (rowM b l)] := by
  refine p_shape_row rfl fun hs => ?_
  simp -dsimp [x_shape_row, eBl, cBl, eSos, eCos, eArs]
  (first | refine Ask_b ?_ ?_ | refine Cnd_b ?_ ?_) <;> intro h1 <;> (try simp only [decide_eq_true_eq, decide_eq_false_iff_not, beq_iff_eq, beq_eq_false_iff_ne, bne_iff_ne, bne_eq_false_iff_eq, Bool.not_eq_true', Bool.not_eq_false', Bool.and_eq_true, Bool.or_eq_true, Bool.and_eq_false_iff, Bool.or_eq_false_iff] at h1) <;> simp -dsimp [h1, rowM]
  have hl : l.length ≤ 12 := by omega
  have hR : rowM b l = allI (fun i a => argM b a i) 0 l := by rw [rowM, if_neg h1]
  rw [hR]
  refine wp_upto l.length (fun i st => st.s 2 = .ptr 2 1 0 ∧ st.h 2 = ⟨1, .box [.d (.sl 6 (b.sorts.map eSo)), .d (.sl 6 (b.cons.map eCo)), .d (.int .i64 b.elim)] false⟩ ∧ st.s 10 = .d (.sl 7 (l.map eAr)) ∧ st.s 11 = .d (.int .i64 l.length) ∧ st.s 12 = .d (.int .i64 i) ∧
    ∀ (j : Nat) (hj : j < l.length), j < i → argM b l[j] j = true) ?_ ?_
  · simp -dsimp
  · rintro i ⟨s, hp⟩ hi ⟨g1, g2, g3, g4, g5, g6⟩
    dsimp only at g1 g2 g3 g4 g5
    rcases Nat.lt_or_ge i l.length with hlt | hge
    · have w1 : IntKind.i64.wrap ((i : Int) + 1) = (i : Int) + 1 := wrap_id (by omega) (by omega)
      simp -dsimp [g1, g2, g3, g4, g5, hlt, eAr, cAr, cT, eTs]
      refine call_of (arg_ok b l[i] i) ?_
      simp -dsimp [g1, g2, g3, g4, g5, hlt]
      (first | refine Ask_b ?_ ?_ | refine Cnd_b ?_ ?_) <;> intro h6 <;> (try simp only [decide_eq_true_eq, decide_eq_false_iff_not, beq_iff_eq, beq_eq_false_iff_ne, bne_iff_ne, bne_eq_false_iff_eq, Bool.not_eq_true', Bool.not_eq_false', Bool.and_eq_true, Bool.or_eq_true, Bool.and_eq_false_iff, Bool.or_eq_false_iff] at h6) <;> simp -dsimp [h6, g1, g2, g3, g4, g5, hlt, w1]
      · exact allI_not (p := fun i a => argM b a i) hlt h6
      · exact allI_next (p := fun i a => argM b a i) hlt g6 h6
    · have e : i = l.length := by omega
      subst e
      simp -dsimp [g1, g2, g3, g4, g5, allI_all (p := fun i a => argM b a i) g6]
def sortBad (k : Int) (s : So) (a : Ar) : Bool := if a.rc then if 0 < (a.dom.length : Int) then true else if k ≤ a.sort then true else s.dec else false
theorem sort1_ok (k : Int) (s : So) (a : Ar) : Pure Tryz.prog n_shape_sort_1 [.agg (cAr a), .rp [.int .i64 k], .rp (cSo s)] [.bool (sortBad k s a)] := by
  refine p_shape_sort_1 rfl fun hs => ?_
  cases hr : a.rc with
  | false =>
    simp -dsimp [x_shape_sort_1, cAr, cSo, cT, eTs, eArs, hr, sortBad]
  | true =>
    simp -dsimp [x_shape_sort_1, cAr, cSo, cT, eTs, eArs, hr]
    (first | refine Ask_b ?_ ?_ | refine Cnd_b ?_ ?_) <;> intro h1 <;> (try simp only [decide_eq_true_eq, decide_eq_false_iff_not, beq_iff_eq, beq_eq_false_iff_ne, bne_iff_ne, bne_eq_false_iff_eq, Bool.not_eq_true', Bool.not_eq_false', Bool.and_eq_true, Bool.or_eq_true, Bool.and_eq_false_iff, Bool.or_eq_false_iff] at h1) <;> simp -dsimp [h1, sortBad, hr]
    (first | refine Ask_b ?_ ?_ | refine Cnd_b ?_ ?_) <;> intro h2 <;> (try simp only [decide_eq_true_eq, decide_eq_false_iff_not, beq_iff_eq, beq_eq_false_iff_ne, bne_iff_ne, bne_eq_false_iff_eq, Bool.not_eq_true', Bool.not_eq_false', Bool.and_eq_true, Bool.or_eq_true, Bool.and_eq_false_iff, Bool.or_eq_false_iff] at h2) <;> simp -dsimp [h2, sortBad, hr, h1]
def levelM (n : Int) : Bool := decide (0 ≤ n) && decide (n ≤ 6)
def sortM (b : Bl) (k : Nat) (s : So) : Bool :=
  if rowM b s.idx then if levelM s.level then if maybeM s.dec s.dty s.idx.length then !s.idx.any (sortBad k s) else false else false else false
theorem sort_ok (b : Bl) (k : Nat) (hk : k < b.sorts.length) : Pure Tryz.prog n_shape_sort [eBl b, .int .i64 k] [.bool (sortM b k b.sorts[k])] := by
  refine p_shape_sort rfl fun hs => ?_
  simp -dsimp [x_shape_sort, eBl, cBl, eSos, eCos, hk, eSo, cSo, cT, eArs]
  refine call_of (row_ok b b.sorts[k].idx) ?_
  simp -dsimp
  (first | refine Ask_b ?_ ?_ | refine Cnd_b ?_ ?_) <;> intro h1 <;> (try simp only [decide_eq_true_eq, decide_eq_false_iff_not, beq_iff_eq, beq_eq_false_iff_ne, bne_iff_ne, bne_eq_false_iff_eq, Bool.not_eq_true', Bool.not_eq_false', Bool.and_eq_true, Bool.or_eq_true, Bool.and_eq_false_iff, Bool.or_eq_false_iff] at h1) <;> simp -dsimp [h1, sortM]
  refine call_of (rs := [.bool (levelM b.sorts[k].level)]) (level_ok b.sorts[k].level) ?_
  simp -dsimp [h1]
  (first | refine Ask_b ?_ ?_ | refine Cnd_b ?_ ?_) <;> intro h2 <;> (try simp only [decide_eq_true_eq, decide_eq_false_iff_not, beq_iff_eq, beq_eq_false_iff_ne, bne_iff_ne, bne_eq_false_iff_eq, Bool.not_eq_true', Bool.not_eq_false', Bool.and_eq_true, Bool.or_eq_true, Bool.and_eq_false_iff, Bool.or_eq_false_iff] at h2) <;> simp -dsimp [h2, sortM, h1]
  refine call_of (maybe_ok b.sorts[k].dec b.sorts[k].dty b.sorts[k].idx.length) ?_
  simp -dsimp [h1, h2]
  (first | refine Ask_b ?_ ?_ | refine Cnd_b ?_ ?_) <;> intro h3 <;> (try simp only [decide_eq_true_eq, decide_eq_false_iff_not, beq_iff_eq, beq_eq_false_iff_ne, bne_iff_ne, bne_eq_false_iff_eq, Bool.not_eq_true', Bool.not_eq_false', Bool.and_eq_true, Bool.or_eq_true, Bool.and_eq_false_iff, Bool.or_eq_false_iff] at h3) <;> simp -dsimp [h3, sortM, h1, h2]
  refine call_of (containsFunc_Arg b.sorts[k].idx n_shape_sort_1 [.rp [.int .i64 k], .rp (cSo b.sorts[k])] (sortBad k b.sorts[k]) (fun x _ => sort1_ok k _ x)) ?_
  simp -dsimp [sortM, h1, h2, h3]
def conM (b : Bl) (c : Co) : Bool :=
  if c.sort < 0 then false else if rowM b c.args then match b.sorts[c.sort.toNat]? with
  | none => false
  | some s => if (c.idx.length : Int) = (s.idx.length : Int) then if allM c.idx c.args.length then maybeM s.dec c.dec c.args.length else false else false
  else false
theorem con_ok (b : Bl) (c : Co) : Pure Tryz.prog n_shape_con [eBl b, eCo c] [.bool (conM b c)] := by
  refine p_shape_con rfl fun hs => ?_
  simp -dsimp [x_shape_con, eBl, cBl, eSos, eCos, eCo, cCo, cT, eArs, eTs]
  (first | refine Ask_b ?_ ?_ | refine Cnd_b ?_ ?_) <;> intro h1 <;> (try simp only [decide_eq_true_eq, decide_eq_false_iff_not, beq_iff_eq, beq_eq_false_iff_ne, bne_iff_ne, bne_eq_false_iff_eq, Bool.not_eq_true', Bool.not_eq_false', Bool.and_eq_true, Bool.or_eq_true, Bool.and_eq_false_iff, Bool.or_eq_false_iff] at h1) <;> simp -dsimp [h1, conM]
  (first | refine Ask_b ?_ ?_ | refine Cnd_b ?_ ?_) <;> intro h2 <;> (try simp only [decide_eq_true_eq, decide_eq_false_iff_not, beq_iff_eq, beq_eq_false_iff_ne, bne_iff_ne, bne_eq_false_iff_eq, Bool.not_eq_true', Bool.not_eq_false', Bool.and_eq_true, Bool.or_eq_true, Bool.and_eq_false_iff, Bool.or_eq_false_iff] at h2) <;> simp -dsimp [h2, conM, h1]
  · have : b.sorts[c.sort.toNat]? = none := List.getElem?_eq_none (by omega)
    simp [this]
  refine call_of (row_ok b c.args) ?_
  have hlt : c.sort.toNat < b.sorts.length := by omega
  have h0 : 0 ≤ c.sort := by omega
  simp -dsimp [h1, h2]
  (first | refine Ask_b ?_ ?_ | refine Cnd_b ?_ ?_) <;> intro h3 <;> (try simp only [decide_eq_true_eq, decide_eq_false_iff_not, beq_iff_eq, beq_eq_false_iff_ne, bne_iff_ne, bne_eq_false_iff_eq, Bool.not_eq_true', Bool.not_eq_false', Bool.and_eq_true, Bool.or_eq_true, Bool.and_eq_false_iff, Bool.or_eq_false_iff] at h3) <;> simp -dsimp [h3, conM, h1, h2]
  have hA : conM b c = if (c.idx.length : Int) = (b.sorts[c.sort.toNat].idx.length : Int) then if allM c.idx c.args.length then maybeM b.sorts[c.sort.toNat].dec c.dec c.args.length else false else false := by
    simp [conM, h1, h3, hlt]
  simp -dsimp [h1, h2, h3, hlt, h0, eSo, cSo, eArs, cT, eTs]
  (first | refine Ask_b ?_ ?_ | refine Cnd_b ?_ ?_) <;> intro h4 <;> (try simp only [decide_eq_true_eq, decide_eq_false_iff_not, beq_iff_eq, beq_eq_false_iff_ne, bne_iff_ne, bne_eq_false_iff_eq, Bool.not_eq_true', Bool.not_eq_false', Bool.and_eq_true, Bool.or_eq_true, Bool.and_eq_false_iff, Bool.or_eq_false_iff] at h4) <;> simp -dsimp [h4, h1, h2, h3, hlt, h0, eSo, cSo, eArs, cT]
  · refine call_of (all_ok c.idx _) ?_
    simp -dsimp [h4]
    (first | refine Ask_b ?_ ?_ | refine Cnd_b ?_ ?_) <;> intro h5 <;> (try simp only [decide_eq_true_eq, decide_eq_false_iff_not, beq_iff_eq, beq_eq_false_iff_ne, bne_iff_ne, bne_eq_false_iff_eq, Bool.not_eq_true', Bool.not_eq_false', Bool.and_eq_true, Bool.or_eq_true, Bool.and_eq_false_iff, Bool.or_eq_false_iff] at h5) <;> simp -dsimp [h5, h4]
    · refine call_of (maybe_ok _ c.dec _) ?_
      simp -dsimp [h4, h5, hA]
    · rw [hA, if_pos h4, h5]; rfl
  · rw [hA, if_neg h4]
theorem check1_ok (b : Bl) (c : Co) : Pure Tryz.prog n_shape_Check_1 [eCo c, .rp (cBl b)] [.bool (!conM b c)] := by
  refine p_shape_Check_1 rfl fun hs => ?_
  simp -dsimp [x_shape_Check_1, cBl, eSos, eCos, eCo, cCo, cT, eArs, eTs]
  refine call_of (con_ok b c) ?_
  simp -dsimp
def checkB (b : Bl) : Int :=
  if (b.sorts.length : Int) < 1 then 12 else if 4 < (b.sorts.length : Int) then 12 else if 8 < (b.cons.length : Int) then 12 else if levelM b.elim then
    if allI (fun k s => sortM b k s) 0 b.sorts then if b.cons.any fun c => !conM b c then 12 else 0 else 12
  else 12
theorem checkB_ok (b : Bl) : Pure Tryz.prog n_shape_Check [eBl b] [.int .i64 (checkB b)] := by
  refine p_shape_Check rfl fun hs => ?_
  simp -dsimp [x_shape_Check, eBl, cBl, eSos, eCos]
  (first | refine Ask_b ?_ ?_ | refine Cnd_b ?_ ?_) <;> intro h1 <;> (try simp only [decide_eq_true_eq, decide_eq_false_iff_not, beq_iff_eq, beq_eq_false_iff_ne, bne_iff_ne, bne_eq_false_iff_eq, Bool.not_eq_true', Bool.not_eq_false', Bool.and_eq_true, Bool.or_eq_true, Bool.and_eq_false_iff, Bool.or_eq_false_iff] at h1) <;> simp -dsimp [h1, checkB]
  (first | refine Ask_b ?_ ?_ | refine Cnd_b ?_ ?_) <;> intro h2 <;> (try simp only [decide_eq_true_eq, decide_eq_false_iff_not, beq_iff_eq, beq_eq_false_iff_ne, bne_iff_ne, bne_eq_false_iff_eq, Bool.not_eq_true', Bool.not_eq_false', Bool.and_eq_true, Bool.or_eq_true, Bool.and_eq_false_iff, Bool.or_eq_false_iff] at h2) <;> simp -dsimp [h2, checkB, h1]
  (first | refine Ask_b ?_ ?_ | refine Cnd_b ?_ ?_) <;> intro h3 <;> (try simp only [decide_eq_true_eq, decide_eq_false_iff_not, beq_iff_eq, beq_eq_false_iff_ne, bne_iff_ne, bne_eq_false_iff_eq, Bool.not_eq_true', Bool.not_eq_false', Bool.and_eq_true, Bool.or_eq_true, Bool.and_eq_false_iff, Bool.or_eq_false_iff] at h3) <;> simp -dsimp [h3, checkB, h1, h2]
  refine call_of (rs := [.bool (levelM b.elim)]) (level_ok b.elim) ?_
  simp -dsimp [h1, h2, h3]
  (first | refine Ask_b ?_ ?_ | refine Cnd_b ?_ ?_) <;> intro h4 <;> (try simp only [decide_eq_true_eq, decide_eq_false_iff_not, beq_iff_eq, beq_eq_false_iff_ne, bne_iff_ne, bne_eq_false_iff_eq, Bool.not_eq_true', Bool.not_eq_false', Bool.and_eq_true, Bool.or_eq_true, Bool.and_eq_false_iff, Bool.or_eq_false_iff] at h4) <;> simp -dsimp [h4, checkB, h1, h2, h3]
  have hl : b.sorts.length ≤ 4 := by omega
  have hC : checkB b = if allI (fun k s => sortM b k s) 0 b.sorts then if b.cons.any fun c => !conM b c then 12 else 0 else 12 := by
    rw [checkB, if_neg h1, if_neg h2, if_neg h3, if_pos h4]
  rw [hC]
  refine wp_upto b.sorts.length (fun i st => st.s 1 = .ptr 1 1 0 ∧ st.h 1 = ⟨1, .box [.d (.sl 6 (b.sorts.map eSo)), .d (.sl 6 (b.cons.map eCo)), .d (.int .i64 b.elim)] false⟩ ∧ st.s 28 = .d (.int .i64 b.sorts.length) ∧ st.s 29 = .d (.int .i64 i) ∧
    ∀ (j : Nat) (hj : j < b.sorts.length), j < i → sortM b j b.sorts[j] = true) ?_ ?_
  · simp -dsimp
  · rintro i ⟨s, hp⟩ hi ⟨g1, g2, g3, g4, g5⟩
    dsimp only at g1 g2 g3 g4
    rcases Nat.lt_or_ge i b.sorts.length with hlt | hge
    · have w1 : IntKind.i64.wrap ((i : Int) + 1) = (i : Int) + 1 := wrap_id (by omega) (by omega)
      simp -dsimp [g1, g2, g3, g4, hlt]
      refine call_of (sort_ok b i hlt) ?_
      simp -dsimp [g1, g2, g3, g4, hlt]
      (first | refine Ask_b ?_ ?_ | refine Cnd_b ?_ ?_) <;> intro h6 <;> (try simp only [decide_eq_true_eq, decide_eq_false_iff_not, beq_iff_eq, beq_eq_false_iff_ne, bne_iff_ne, bne_eq_false_iff_eq, Bool.not_eq_true', Bool.not_eq_false', Bool.and_eq_true, Bool.or_eq_true, Bool.and_eq_false_iff, Bool.or_eq_false_iff] at h6) <;> simp -dsimp [h6, g1, g2, g3, g4, hlt, w1]
      · intro h
        rw [allI_not (p := fun k s => sortM b k s) hlt h6] at h
        cases h
      · exact allI_next (p := fun k s => sortM b k s) hlt g5 h6
    · have e : i = b.sorts.length := by omega
      subst e
      have hA : allI (fun k s => sortM b k s) 0 b.sorts = true := allI_all (p := fun k s => sortM b k s) g5
      simp -dsimp [g1, g2, g3, g4, hA]
      refine call_of (containsFunc_Con b.cons n_shape_Check_1 [.rp (cBl b)] (fun c => !conM b c) (fun x _ => check1_ok b x)) ?_
      simp -dsimp [g1, g2, g3, g4]
      (first | refine Ask_b ?_ ?_ | refine Cnd_b ?_ ?_) <;> intro h7 <;> (try simp only [decide_eq_true_eq, decide_eq_false_iff_not, beq_iff_eq, beq_eq_false_iff_ne, bne_iff_ne, bne_eq_false_iff_eq, Bool.not_eq_true', Bool.not_eq_false', Bool.and_eq_true, Bool.or_eq_true, Bool.and_eq_false_iff, Bool.or_eq_false_iff] at h7) <;> simp -dsimp [h7, g1, g2, g3, g4, hA]
end
section
attribute [local simp] allD_map_d sks_map_d w64 tk tn tks initA EndsM
def recA (n : Int) (l : List T) : Ar := ⟨true, zT, [], n, l⟩
theorem rec_ok (n : Int) (l : List T) (hl : l.length * 40 ≤ maxRoom) : Pure Tryz.prog n_porismref20_rec [.int .i64 n, eTs l] [.agg (cAr (recA n l))] := by
  refine p_porismref20_rec rfl fun hs => ?_
  simp -dsimp [hl, x_porismref20_rec, eTs, cAr, recA, zT, cT, T.kind, T.num, T.kids]
def declC (b : Bl) : List D := [.int .i64 3, .int .i64 0, .int .i64 0, .sl 3 [], .int .i64 0, .int .i64 0, .sl 3 []] ++ cBl b
theorem decl_ok (b : Bl) : Pure Tryz.prog n_porismref20_decl [eBl b] [.agg (declC b)] := by
  refine p_porismref20_decl rfl fun hs => ?_
  simp -dsimp [x_porismref20_decl, eBl, cBl, eSos, eCos, declC]
def natB : Bl := ⟨[⟨[], 0, false, zT⟩], [⟨0, [], [], zT⟩, ⟨0, [recA 0 []], [], zT⟩], 0⟩
theorem nat_ok : Pure Tryz.prog n_porismref20_Nat [] [.agg (declC natB)] := by
  refine p_porismref20_Nat rfl fun hs => ?_
  simp -dsimp [x_porismref20_Nat]
  refine call_of (rec_ok 0 [] (by decide)) ?_
  simp -dsimp [cAr, recA, zT, cT, T.kind, T.num, T.kids, eTs]
  refine call_of (decl_ok natB) ?_
  simp -dsimp [declC, cBl, eSos, eCos]
end
section
attribute [local simp] allD_map_d sks_map_d tk tn tks initA EndsM
def is64 (n : Int) : Prop := -9223372036854775808 ≤ n ∧ n < 9223372036854775808
/-- No more than is played. -/
structure Fit (b : Bl) : Prop where
  s : b.sorts.length ≤ 10
  c : b.cons.length ≤ 20
theorem count_is {b : Bl} (hf : Fit b) : count b = 2 * b.sorts.length + decs b.sorts + b.cons.length := by
  have h1 := hf.s
  have h2 := hf.c
  have h3 := decs_le b.sorts
  rw [count, w64_id, w64_id, w64_id] <;> (try rw [w64_id, w64_id]) <;> (try rw [w64_id]) <;> omega
theorem place_is {base ahead k many : Int} (h0 : 0 ≤ base) (h1 : base ≤ 65535) (h2 : 0 ≤ ahead) (h3 : ahead ≤ 1000) (h4 : many ≤ 1000) :
    place base ahead k many = if 0 ≤ k ∧ k < many then base + ahead + k else -1 := by
  by_cases h : 0 ≤ k ∧ k < many
  · rw [place, if_neg (by omega), if_pos h, w64_id, w64_id] <;> (try rw [w64_id]) <;> omega
  · rw [place, if_pos (by omega), if_neg h]
theorem former_is {b : Bl} (hf : Fit b) {base : Int} (h0 : 0 ≤ base) (h1 : base ≤ 65535) (k : Int) : former b base k = if 0 ≤ k ∧ k < b.sorts.length then base + k else -1 := by
  have hs := hf.s
  rw [former, place_is h0 h1 (by omega) (by omega) (by omega)]
  split <;> omega
theorem constructor_is {b : Bl} (hf : Fit b) {base : Int} (h0 : 0 ≤ base) (h1 : base ≤ 65535) (k : Int) : constructor_ b base k = if 0 ≤ k ∧ k < b.cons.length then base + (b.sorts.length + decs b.sorts) + k else -1 := by
  have hs := hf.s
  have hc := hf.c
  have h3 := decs_le b.sorts
  rw [constructor_, w64_id (by omega) (by omega), place_is h0 h1 (by omega) (by omega) (by omega)]
theorem eliminator_is {b : Bl} (hf : Fit b) {base : Int} (h0 : 0 ≤ base) (h1 : base ≤ 65535) (k : Int) : eliminator b base k = if 0 ≤ k ∧ k < b.sorts.length then base + (b.sorts.length + decs b.sorts + b.cons.length) + k else -1 := by
  have hs := hf.s
  have hc := hf.c
  have h3 := decs_le b.sorts
  rw [eliminator, w64_id (n := (b.sorts.length : Int) + decs b.sorts) (by omega) (by omega), w64_id (by omega) (by omega), place_is h0 h1 (by omega) (by omega) (by omega)]
theorem decoder_is {b : Bl} (hf : Fit b) {base : Int} (h0 : 0 ≤ base) (h1 : base ≤ 65535) (k : Int) :
    decoder b base k = if h : 0 ≤ k ∧ k < b.sorts.length then if (b.sorts[k.toNat]'(by omega)).dec then base + b.sorts.length + decs (b.sorts.take k.toNat) else -1 else -1 := by
  have hs := hf.s
  by_cases h : 0 ≤ k ∧ k < b.sorts.length
  · have hlt : k.toNat < b.sorts.length := by omega
    have h3 := decs_le (b.sorts.take k.toNat)
    rw [List.length_take] at h3
    rw [dif_pos h, decoder, if_neg (by omega), List.getElem?_eq_getElem hlt]
    dsimp only
    split
    · rw [place_is h0 h1 (by omega) (by omega) (by omega), if_pos (by omega)]
    · rfl
  · rw [dif_neg h, decoder]
    by_cases hk : k < 0
    · rw [if_pos hk]
    · rw [if_neg hk, List.getElem?_eq_none (by omega)]
/-- Each of the sorts with decoders has its number. -/
theorem dec_at : ∀ (l : List So) (j : Nat), j < decs l → ∃ (k : Nat) (hk : k < l.length), l[k].dec = true ∧ decs (l.take k) = j
  | [], j, h => by simp [decs] at h
  | s :: l, j, h => by
    cases hd : s.dec with
    | false =>
      obtain ⟨k, hk, h1, h2⟩ := dec_at l j (by simpa [decs, hd] using h)
      exact ⟨k + 1, by simpa using hk, by simpa using h1, by simpa [decs, hd] using h2⟩
    | true =>
      cases j with
      | zero => exact ⟨0, by simp, by simpa using hd, by simp [decs]⟩
      | succ j =>
        obtain ⟨k, hk, h1, h2⟩ := dec_at l j (by simp [decs, hd] at h; simpa [decs] using h)
        exact ⟨k + 1, by simpa using hk, by simpa using h1, by simp [decs, hd] at h2 ⊢; exact h2⟩
theorem hit_some {n : Int} {e : En} {k : Nat} (h : hit n e = some k) : k < e.many ∧ e.of k = n := by
  have h1 := List.find?_some h
  have h2 := List.mem_of_find?_eq_some h
  exact ⟨by simpa using h2, by simpa using h1⟩
theorem seek_some {n : Int} {l : List En} {p : Int × Int} (h : seek n l = some p) : ∃ e ∈ l, ∃ k : Nat, k < e.many ∧ e.of k = n ∧ p = (e.kind, (k : Int)) := by
  obtain ⟨e, he, h1⟩ := List.exists_of_findSome?_eq_some h
  cases hh : hit n e with
  | none => rw [hh] at h1; cases h1
  | some k =>
    rw [hh] at h1
    obtain ⟨h2, h3⟩ := hit_some hh
    exact ⟨e, he, k, h2, h3, (Option.some.inj h1).symm⟩
theorem seek_isSome {n : Int} {l : List En} {e : En} (he : e ∈ l) {k : Nat} (hk : k < e.many) (hn : e.of k = n) : ∃ p, seek n l = some p := by
  cases h : seek n l with
  | some p => exact ⟨p, rfl⟩
  | none =>
    have h1 := List.findSome?_eq_none_iff.1 h e he
    cases hh : hit n e with
    | some k => rw [hh] at h1; cases h1
    | none =>
      have h2 := List.find?_eq_none.1 hh k (by simpa using hk)
      simp [hn] at h2
/-- A number out of the block's is one of its constants. -/
theorem of_in {b : Bl} (hf : Fit b) {base : Int} (h0 : 0 ≤ base) (h1 : base ≤ 65535) {n : Int} (hn : base ≤ n) (hc : n < base + count b) :
    ∃ e ∈ tab b base, ∃ k : Nat, k < e.many ∧ e.of k = n ∧ ofM b base n = (e.kind, (k : Int)) := by
  have hs := hf.s
  have hcc := hf.c
  have h3 := decs_le b.sorts
  have hci := count_is hf
  have hb : base ≤ 65535 := by omega
  have hso : ∃ p, seek n (tab b base) = some p := by
    by_cases c1 : n < base + b.sorts.length
    · exact seek_isSome (e := ⟨3, b.sorts.length, n_shape_Former, former b base⟩) (k := (n - base).toNat) (by simp [tab]) (by simp; omega) (by simp only; rw [former_is hf h0 hb, if_pos (by omega)]; omega)
    by_cases c2 : n < base + b.sorts.length + decs b.sorts
    · obtain ⟨k, hk, d1, d2⟩ := dec_at b.sorts (n - base - b.sorts.length).toNat (by omega)
      refine seek_isSome (e := ⟨4, b.sorts.length, n_shape_Decoder, decoder b base⟩) (k := k) (by simp [tab]) hk ?_
      simp only
      rw [decoder_is hf h0 hb, dif_pos (by omega), if_pos (by simpa using d1), Int.toNat_natCast, d2]
      omega
    by_cases c3 : n < base + b.sorts.length + decs b.sorts + b.cons.length
    · exact seek_isSome (e := ⟨5, b.cons.length, n_shape_Constructor, constructor_ b base⟩) (k := (n - base - b.sorts.length - decs b.sorts).toNat) (by simp [tab]) (by simp; omega) (by simp only; rw [constructor_is hf h0 hb, if_pos (by omega)]; omega)
    · exact seek_isSome (e := ⟨6, b.sorts.length, n_shape_Eliminator, eliminator b base⟩) (k := (n - base - b.sorts.length - decs b.sorts - b.cons.length).toNat) (by simp [tab]) (by simp; omega) (by simp only; rw [eliminator_is hf h0 hb, if_pos (by omega)]; omega)
  obtain ⟨p, hp⟩ := hso
  obtain ⟨e, he, k, g1, g2, g3⟩ := seek_some hp
  refine ⟨e, he, k, g1, g2, ?_⟩
  rw [ofM, if_neg, hp, g3]
  · rfl
  · rw [w64_id (by omega) (by omega)]; omega
theorem of_out {b : Bl} (hf : Fit b) {base : Int} (h0 : 0 ≤ base) {n : Int} (hn64 : is64 n) (hn : n < base ∨ base + count b ≤ n) : ofM b base n = (0, 0) := by
  obtain ⟨m1, m2⟩ := hn64
  rw [ofM, if_pos]
  rcases hn with hn | hn
  · omega
  · have := count_is hf
    rw [w64_id (by omega) (by omega)]
    omega
end
section
attribute [local simp] allD_map_d sks_map_d tk tn tks initA EndsM
theorem decs_mono (l : List So) {a c : Nat} (h : a ≤ c) : decs (l.take a) ≤ decs (l.take c) := by
  have h1 : (l.take a).Sublist (l.take c) := List.take_sublist_take_left h
  exact (h1.filter _).length_le
theorem dec_next (l : List So) {k : Nat} (hk : k < l.length) (hd : l[k].dec = true) : decs (l.take (k + 1)) = decs (l.take k) + 1 := by
  rw [decs_snoc l k l[k] (List.getElem?_eq_getElem hk), hd]
  rfl
theorem dec_one (l : List So) {k m : Nat} (hk : k < l.length) (hm : m < l.length) (hd : l[k].dec = true) (hd' : l[m].dec = true) (h : decs (l.take k) = decs (l.take m)) : k = m := by
  rcases Nat.lt_trichotomy k m with c | c | c
  · have := decs_mono l (show k + 1 ≤ m from c)
    rw [dec_next l hk hd] at this
    omega
  · exact c
  · have := decs_mono l (show m + 1 ≤ k from c)
    rw [dec_next l hm hd'] at this
    omega
theorem dec_in (l : List So) {k : Nat} (hk : k < l.length) (hd : l[k].dec = true) : decs (l.take k) + 1 ≤ decs l := by
  have := decs_mono l (show k + 1 ≤ l.length from hk)
  rw [dec_next l hk hd, List.take_length] at this
  exact this
theorem decoder_at {b : Bl} (hf : Fit b) {base : Int} (h0 : 0 ≤ base) (h1 : base ≤ 65535) {k n : Int} (hn : 0 ≤ n) (h : decoder b base k = n) :
    ∃ (j : Nat) (hj : j < b.sorts.length), k = j ∧ b.sorts[j].dec = true ∧ n = base + b.sorts.length + decs (b.sorts.take j) := by
  rw [decoder_is hf h0 h1] at h
  by_cases c : 0 ≤ k ∧ k < b.sorts.length
  · rw [dif_pos c] at h
    have hlt : k.toNat < b.sorts.length := by omega
    cases hd : b.sorts[k.toNat].dec with
    | true => rw [hd] at h; exact ⟨k.toNat, hlt, by omega, hd, by simpa using h.symm⟩
    | false => rw [hd] at h; simp at h; omega
  · rw [dif_neg c] at h; omega
theorem former_at {b : Bl} (hf : Fit b) {base : Int} (h0 : 0 ≤ base) (h1 : base ≤ 65535) {k n : Int} (hn : 0 ≤ n) (h : former b base k = n) : 0 ≤ k ∧ k < b.sorts.length ∧ n = base + k := by
  rw [former_is hf h0 h1] at h
  split at h <;> omega
theorem constructor_at {b : Bl} (hf : Fit b) {base : Int} (h0 : 0 ≤ base) (h1 : base ≤ 65535) {k n : Int} (hn : 0 ≤ n) (h : constructor_ b base k = n) : 0 ≤ k ∧ k < b.cons.length ∧ n = base + (b.sorts.length + decs b.sorts) + k := by
  rw [constructor_is hf h0 h1] at h
  split at h <;> omega
theorem eliminator_at {b : Bl} (hf : Fit b) {base : Int} (h0 : 0 ≤ base) (h1 : base ≤ 65535) {k n : Int} (hn : 0 ≤ n) (h : eliminator b base k = n) : 0 ≤ k ∧ k < b.sorts.length ∧ n = base + (b.sorts.length + decs b.sorts + b.cons.length) + k := by
  rw [eliminator_is hf h0 h1] at h
  split at h <;> omega
theorem off {b : Bl} {base : Int} (h : ¬(0 ≤ base ∧ base ≤ 65535)) (k : Int) : former b base k = -1 ∧ decoder b base k = -1 ∧ constructor_ b base k = -1 ∧ eliminator b base k = -1 := by
  refine ⟨?_, ?_, ?_, ?_⟩
  · rw [former, place, if_pos (by omega)]
  · rw [decoder]
    split
    · rfl
    · split
      · rfl
      · split
        · rw [place, if_pos (by omega)]
        · rfl
  · rw [constructor_, place, if_pos (by omega)]
  · rw [eliminator, place, if_pos (by omega)]
theorem of_at {b : Bl} (hf : Fit b) {base n : Int} (hn : 0 ≤ n) {e : En} (he : e ∈ tab b base) {k : Nat} (h : e.of k = n) : ofM b base n = (e.kind, (k : Int)) := by
  by_cases hb : 0 ≤ base ∧ base ≤ 65535
  · obtain ⟨h0, h1⟩ := hb
    have hs := hf.s
    have hc := hf.c
    have hd := decs_le b.sorts
    have hr : base ≤ n ∧ n < base + count b := by
      rw [count_is hf]
      simp only [tab, List.mem_cons, List.not_mem_nil, or_false] at he
      rcases he with rfl | rfl | rfl | rfl <;> simp only at h
      · have := former_at hf h0 h1 hn h; omega
      · obtain ⟨j, hj, _, hd1, hd2⟩ := decoder_at hf h0 h1 hn h
        have := dec_in b.sorts hj hd1
        omega
      · have := constructor_at hf h0 h1 hn h; omega
      · have := eliminator_at hf h0 h1 hn h; omega
    obtain ⟨e', he', k', _, g2, g3⟩ := of_in hf h0 h1 hr.1 hr.2
    rw [g3]
    simp only [tab, List.mem_cons, List.not_mem_nil, or_false] at he he'
    have D : ∀ {j : Nat} (hj : j < b.sorts.length), b.sorts[j].dec = true → decs (b.sorts.take j) + 1 ≤ decs b.sorts := fun hj hd1 => dec_in b.sorts hj hd1
    rcases he with rfl | rfl | rfl | rfl <;> rcases he' with rfl | rfl | rfl | rfl <;> simp only at h g2
    · have a1 := former_at hf h0 h1 hn h; have a2 := former_at hf h0 h1 hn g2
      have : k' = k := by omega
      subst this; rfl
    · have a1 := former_at hf h0 h1 hn h; obtain ⟨j, hj, _, hd1, hd2⟩ := decoder_at hf h0 h1 hn g2; omega
    · have a1 := former_at hf h0 h1 hn h; have a2 := constructor_at hf h0 h1 hn g2; omega
    · have a1 := former_at hf h0 h1 hn h; have a2 := eliminator_at hf h0 h1 hn g2; omega
    · obtain ⟨j, hj, _, hd1, hd2⟩ := decoder_at hf h0 h1 hn h; have a1 := former_at hf h0 h1 hn g2; omega
    · obtain ⟨j, hj, ej, hd1, hd2⟩ := decoder_at hf h0 h1 hn h; obtain ⟨i, hi, ei, he1, he2⟩ := decoder_at hf h0 h1 hn g2
      have : i = j := dec_one b.sorts hi hj he1 hd1 (by omega)
      have : k' = k := by omega
      subst this; rfl
    · obtain ⟨j, hj, _, hd1, hd2⟩ := decoder_at hf h0 h1 hn h; have a1 := constructor_at hf h0 h1 hn g2; have := D hj hd1; omega
    · obtain ⟨j, hj, _, hd1, hd2⟩ := decoder_at hf h0 h1 hn h; have a1 := eliminator_at hf h0 h1 hn g2; have := D hj hd1; omega
    · have a1 := constructor_at hf h0 h1 hn h; have a2 := former_at hf h0 h1 hn g2; omega
    · have a1 := constructor_at hf h0 h1 hn h; obtain ⟨j, hj, _, hd1, hd2⟩ := decoder_at hf h0 h1 hn g2; have := D hj hd1; omega
    · have a1 := constructor_at hf h0 h1 hn h; have a2 := constructor_at hf h0 h1 hn g2
      have : k' = k := by omega
      subst this; rfl
    · have a1 := constructor_at hf h0 h1 hn h; have a2 := eliminator_at hf h0 h1 hn g2; omega
    · have a1 := eliminator_at hf h0 h1 hn h; have a2 := former_at hf h0 h1 hn g2; omega
    · have a1 := eliminator_at hf h0 h1 hn h; obtain ⟨j, hj, _, hd1, hd2⟩ := decoder_at hf h0 h1 hn g2; have := D hj hd1; omega
    · have a1 := eliminator_at hf h0 h1 hn h; have a2 := constructor_at hf h0 h1 hn g2; omega
    · have a1 := eliminator_at hf h0 h1 hn h; have a2 := eliminator_at hf h0 h1 hn g2
      have : k' = k := by omega
      subst this; rfl
  · obtain ⟨o1, o2, o3, o4⟩ := off (b := b) hb (k : Int)
    simp only [tab, List.mem_cons, List.not_mem_nil, or_false] at he
    rcases he with rfl | rfl | rfl | rfl <;> simp only at h <;> omega
theorem of_former {b : Bl} (hf : Fit b) {base n : Int} (hn : 0 ≤ n) {k : Nat} (h : former b base k = n) : ofM b base n = (3, (k : Int)) := of_at hf hn (e := ⟨3, b.sorts.length, n_shape_Former, former b base⟩) (by simp [tab]) h
theorem of_decoder {b : Bl} (hf : Fit b) {base n : Int} (hn : 0 ≤ n) {k : Nat} (h : decoder b base k = n) : ofM b base n = (4, (k : Int)) := of_at hf hn (e := ⟨4, b.sorts.length, n_shape_Decoder, decoder b base⟩) (by simp [tab]) h
theorem of_constructor {b : Bl} (hf : Fit b) {base n : Int} (hn : 0 ≤ n) {k : Nat} (h : constructor_ b base k = n) : ofM b base n = (5, (k : Int)) := of_at hf hn (e := ⟨5, b.cons.length, n_shape_Constructor, constructor_ b base⟩) (by simp [tab]) h
theorem of_eliminator {b : Bl} (hf : Fit b) {base n : Int} (hn : 0 ≤ n) {k : Nat} (h : eliminator b base k = n) : ofM b base n = (6, (k : Int)) := of_at hf hn (e := ⟨6, b.sorts.length, n_shape_Eliminator, eliminator b base⟩) (by simp [tab]) h
end
section
attribute [local simp] allD_map_d sks_map_d tk tn tks initA EndsM
end
end Ev
end Go.Proofs.YtdhfkbdhdgaccaaGreat
/- The document on layer 7. -/
namespace Go.Proofs.YtdhfkbdhdgaccaaGreat
namespace Ev
open Go
set_option maxRecDepth 100000
set_option linter.unusedSimpArgs false
set_option linter.unusedVariables false
section
attribute [local simp] allD_map_d sks_map_d tk tn tks initA EndsM
structure okAr (a : Ar) : Prop where
  ty : okT a.ty
  dom : okTs a.dom
  sort : n64 a.sort
  idx : okTs a.idx
def okArs (l : List Ar) : Prop := l.length * 104 ≤ 140737488351232 ∧ ∀ x ∈ l, okAr x
structure okSo (s : So) : Prop where
  idx : okArs s.idx
  level : n64 s.level
  dty : okT s.dty
structure okCo (c : Co) : Prop where
  sort : n64 c.sort
  args : okArs c.args
  idx : okTs c.idx
  dec : okT c.dec
structure okBl (b : Bl) : Prop where
  sortsL : b.sorts.length * 80 ≤ 140737488351232
  sorts : ∀ x ∈ b.sorts, okSo x
  consL : b.cons.length * 96 ≤ 140737488351232
  cons : ∀ x ∈ b.cons, okCo x
  elim : n64 b.elim
end
section
attribute [local simp] allD_map_d sks_map_d tk tn tks initA EndsM
end
section
attribute [local simp] allD_map_d sks_map_d tk tn tks initA EndsM
end
section
attribute [local simp] allD_map_d sks_map_d tk tn tks initA EndsM
end
section
attribute [local simp] allD_map_d sks_map_d tk tn tks initA EndsM
theorem checkB_zero (b : Bl) : checkB b = 0 ↔ 1 ≤ b.sorts.length ∧ b.sorts.length ≤ 4 ∧ b.cons.length ≤ 8 ∧ levelM b.elim = true ∧ (∀ (j : Nat) (hj : j < b.sorts.length), sortM b j b.sorts[j] = true) ∧ ∀ c ∈ b.cons, conM b c = true := by
  have ha : allI (fun k s => sortM b k s) 0 b.sorts = true ↔ ∀ (j : Nat) (hj : j < b.sorts.length), sortM b j b.sorts[j] = true := by
    rw [allI_iff]
    simp
  rw [checkB]
  by_cases h1 : (b.sorts.length : Int) < 1
  · rw [if_pos h1]
    constructor
    · intro h; simp at h
    · rintro ⟨h, _⟩; omega
  rw [if_neg h1]
  by_cases h2 : 4 < (b.sorts.length : Int)
  · rw [if_pos h2]
    constructor
    · intro h; simp at h
    · rintro ⟨_, h, _⟩; omega
  rw [if_neg h2]
  by_cases h3 : 8 < (b.cons.length : Int)
  · rw [if_pos h3]
    constructor
    · intro h; simp at h
    · rintro ⟨_, _, h, _⟩; omega
  rw [if_neg h3, ← ha]
  cases hl : levelM b.elim with
  | false => simp
  | true =>
    cases hs : allI (fun k s => sortM b k s) 0 b.sorts with
    | false => simp
    | true =>
      have hc : (b.cons.any fun c => !conM b c) = false ↔ ∀ c ∈ b.cons, conM b c = true := by
        rw [List.any_eq_false]
        simp
      cases hq : b.cons.any fun c => !conM b c with
      | false =>
        simp only [hq] at hc ⊢
        simp only [if_true]
        exact ⟨fun _ => ⟨by omega, by omega, by omega, trivial, trivial, hc.1 trivial⟩, fun _ => rfl⟩
      | true =>
        simp only [hq] at hc ⊢
        simp only [if_true]
        constructor
        · intro h; simp at h
        · rintro ⟨_, _, _, _, _, h⟩
          exact absurd (hc.2 h) (by simp)
theorem sortM_true (b : Bl) (k : Nat) (s : So) : sortM b k s = true ↔ rowM b s.idx = true ∧ levelM s.level = true ∧ maybeM s.dec s.dty s.idx.length = true ∧ ∀ a ∈ s.idx, sortBad k s a = false := by
  rw [sortM]
  cases rowM b s.idx <;> cases levelM s.level <;> cases maybeM s.dec s.dty s.idx.length <;> simp
end
section
attribute [local simp] allD_map_d sks_map_d tk tn tks initA EndsM
end
section
attribute [local simp] allD_map_d sks_map_d tk tn tks initA EndsM
end
section
attribute [local simp] allD_map_d sks_map_d tk tn tks initA EndsM
end
end Ev
end Go.Proofs.YtdhfkbdhdgaccaaGreat
/- Variables counted, scopes, shifts. -/
namespace Go.Proofs.YtdhfkbdhdgaccaaGreat
namespace Ev
open Go
set_option maxRecDepth 100000
set_option linter.unusedSimpArgs false
set_option linter.unusedVariables false
attribute [local simp] allD_map_d sks_map_d tk tn tks initA EndsM
/-- What a map makes of what is in scope is in scope. -/
theorem wi_map (f : Int → Int → T) (c v w : Int) (hv : ∀ n b : Int, 0 ≤ n → n ≤ 65535 → 0 ≤ b → b ≤ 4194304 → n < v + b → wiT (f n b) (w + b) c = true) (t : T) :
    ∀ b : Int, formedM t = true → 0 ≤ b → b + nodes t ≤ 4194304 → wiT t (v + b) c = true → wiT (mapT f t b) (w + b) c = true := by
  refine T.ind (p := fun t => ∀ b : Int, formedM t = true → 0 ≤ b → b + nodes t ≤ 4194304 → wiT t (v + b) c = true → wiT (mapT f t b) (w + b) c = true) ?_ t
  intro k n ks ih b hfm h0 hb hw
  rw [wiT] at hw
  rw [mapT]
  by_cases h1 : k = 1
  · have hn := var_formed h1 hfm
    rw [if_pos h1] at hw ⊢
    exact hv n b hn.1 hn.2 h0 (by omega) (by simpa using hw)
  · rw [if_neg h1] at hw ⊢
    rw [wiT, if_neg h1]
    split
    · rename_i h2; rw [if_pos h2] at hw; exact hw
    · rename_i h2
      rw [if_neg h2] at hw
      split
      · rename_i h3; rw [if_pos h3] at hw; exact hw
      · rename_i h3
        rw [if_neg h3] at hw
        rw [wiL_at] at hw ⊢
        intro j hj
        rw [mapL_len] at hj
        have hxn := nodes_kid (k := k) (n := n) (List.getElem_mem hj)
        have hbl := binds_le k j
        rw [mapL_get _ _ _ _ _ _ hj]
        have := hw j hj
        rw [Nat.zero_add] at this ⊢
        have e1 : v + b + bindsM k j = v + (b + bindsM k j) := by omega
        have e2 : w + b + bindsM k j = w + (b + bindsM k j) := by omega
        rw [e1] at this
        rw [e2]
        exact ih ks[j] (List.getElem_mem _) _ (kids_formed hfm _ (List.getElem_mem _)) (by omega) (by omega) this
/-- Its free variables. -/
theorem wi_free (c : Int) (t : T) : ∀ v b : Int, formedM t = true → 0 ≤ b → 0 ≤ v → wiT t v c = true → freeT t b < v + nodes t := by
  refine T.ind (p := fun t => ∀ v b : Int, formedM t = true → 0 ≤ b → 0 ≤ v → wiT t v c = true → freeT t b < v + nodes t) ?_ t
  intro k n ks ih v b hfm hb hv0 hw
  rw [wiT] at hw
  rw [freeT]
  by_cases h1 : k = 1
  · have hks := var_leaf h1 hfm
    subst hks
    rw [if_pos h1] at hw
    rw [freeL, leaf_nodes]
    have : n < v := by simpa using hw
    split <;> omega
  · rw [if_neg (fun h => h1 h.1)]
    rw [if_neg h1] at hw
    have hnn : nodes (.mk k n ks) = (ks.map nodes).sum + 1 := by rw [nodes]
    by_cases h2 : k = 2 ∨ k = 3
    · have hk0 : kidsM k = 0 := by rcases h2 with rfl | rfl <;> rfl
      have hks : ks = [] := by
        rw [formedM_is, hk0] at hfm
        split at hfm
        · exact List.length_eq_zero_iff.1 (by omega)
        · cases hfm
      subst hks
      rw [freeL]
      omega
    · rw [if_neg (by omega), if_neg (by omega), wiL_at] at hw
      have go : ∀ (l : List T) (i : Nat) (a : Int), (∀ (j : Nat) (hj : j < l.length), l[j] ∈ ks ∧ wiT l[j] (v + bindsM k (i + j : Nat)) c = true) → a < v + nodes (.mk k n ks) → freeL k b i a l < v + nodes (.mk k n ks) := by
        intro l
        induction l with
        | nil => intro i a _ h; rw [freeL]; exact h
        | cons x xs ihx =>
          intro i a hm ha
          obtain ⟨hx, hwx⟩ := hm 0 (by simp)
          simp only [List.getElem_cons_zero, Nat.add_zero] at hx hwx
          have hxn := nodes_kid (k := k) (n := n) hx
          have hbl := binds_le k i
          have h3 := ih x hx (v + bindsM k i) (b + bindsM k i) (kids_formed hfm x hx) (by omega) (by omega) hwx
          rw [freeL]
          refine ihx (i + 1) _ (fun j hj => ?_) ?_
          · have := hm (j + 1) (by simpa using hj)
            rw [show i + (j + 1) = i + 1 + j by omega] at this
            simpa using this
          · rw [mx_eq]
            omega
      exact go ks 0 (-1) (fun j hj => ⟨List.getElem_mem _, hw j hj⟩) (by omega)
theorem wi_var {n w c : Int} (h : n < w) : wiT (.mk 1 n []) w c = true := by rw [wiT, if_pos rfl]; simpa using h
end Ev
end Go.Proofs.YtdhfkbdhdgaccaaGreat
/- The document's answers for layer 6: spines, telescopes. -/
namespace Go.Proofs.YtdhfkbdhdgaccaaGreat
namespace Ev
open Go
set_option maxRecDepth 100000
set_option linter.unusedSimpArgs false
set_option linter.unusedVariables false
attribute [local simp] allD_map_d sks_map_d tk tn tks

theorem rspine_ok (f : T) (l : List T) (hl : l.length ≤ 100000000) (hf : okT f) (ho : okTs l) : Pure Tryz.prog n_porismref01_Spine [.agg (cT f), eTs l] [.agg (cT (spT f l))] := by
  refine p_porismref01_Spine rfl fun hs => ?_
  simp -dsimp [x_porismref01_Spine, cT, eTs]
  refine call_of (twin_ok f hf) ?_
  simp -dsimp [cT]
  refine wp_upto l.length (fun i st => st.s 4 = .ptr 4 1 0 ∧ st.h 4 = ⟨1, .box [.d (.int .i64 0), .d (.int .i64 0), .fsl 3 []] false⟩ ∧ st.s 1 = .d (.sl 3 (l.map eT)) ∧ st.s 6 = .d (.int .i64 i) ∧
    st.s 5 = .ptr 5 1 0 ∧ ∃ cs, st.h 5 = ⟨1, .box [.d (.int .i64 (spT f (l.take i)).kind), .d (.int .i64 (spT f (l.take i)).num), cs] false⟩ ∧ (cs = .d (.sl 3 ((spT f (l.take i)).kids.map eT)) ∨ cs = .fsl 3 ((spT f (l.take i)).kids.map eT))) ?_ ?_
  · simp -dsimp [spT]
  · rintro i ⟨s, hp⟩ hi ⟨g1, g2, g3, g4, g5, cs, g6, g7⟩
    dsimp only at g1 g2 g3 g4 g5 g6
    rcases Nat.lt_or_ge i l.length with hlt | hge
    · have w1 : IntKind.i64.wrap ((i : Int) + 1) = (i : Int) + 1 := wrap_id (by omega) (by omega)
      have hnx : spT f (l.take (i + 1)) = .mk 6 0 [spT f (l.take i), l[i]] := by
        have e : l.take (i + 1) = l.take i ++ [l[i]] := by rw [List.take_add_one, List.getElem?_eq_getElem hlt]; rfl
        rw [spT, e, List.foldl_append]
        rfl
      rw [hnx]
      generalize spT f (l.take i) = Y at g6 g7
      have hnode := rt_ok 6 [Y, l[i]] (by simp [maxRoom])
      simp only [eTs, List.map_cons, List.map_nil, eT_eq, cT, tk, tn, tks] at hnode
      rcases g7 with rfl | rfl
      all_goals
        simp -dsimp [g1, g2, g3, g4, g5, g6, hlt, cT]
        refine call_of (twin_ok l[i] (ho.2 _ (List.getElem_mem _))) ?_
        simp -dsimp [g1, g2, g3, g4, g5, g6, hlt, cT]
        refine call_of hnode ?_
        simp -dsimp [g1, g2, g3, g4, g5, g6, hlt, w1, eT_eq, cT]
    · have e : i = l.length := by omega
      subst e
      rw [List.take_length] at g6 g7
      rcases g7 with rfl | rfl
      · simp -dsimp [g1, g2, g3, g4, g5, g6]
      · simp -dsimp [g1, g2, g3, g4, g5, g6]
theorem runpis_ok (t : T) (hb : (piD t).length ≤ 1000000) (h1 : okT (piB t)) (h2 : okTs (piD t)) : Pure Tryz.prog n_porismref01_Unpis [.agg (cT t)] [eTs (piD t), .agg (cT (piB t))] := by
  refine p_porismref01_Unpis rfl fun hs => ?_
  simp -dsimp [x_porismref01_Unpis, cT]
  refine wp_upto (piD t).length (fun i st => st.s 3 = .ptr 3 1 0 ∧ st.h 3 = ⟨1, .box [.d (.int .i64 0), .d (.int .i64 0), .fsl 3 []] false⟩ ∧ st.s 1 = .ptr 1 1 0 ∧ ∃ (cur : T) (L : List T),
    st.h 1 = ⟨1, .box [.d (.int .i64 cur.kind), .d (.int .i64 cur.num), .d (.sl 3 (cur.kids.map eT))] false⟩ ∧ L ++ piD cur = piD t ∧ L.length = i ∧ piB cur = piB t ∧
    st.s 4 = .rsl 4 (1 + i) ∧ st.h 4 = ⟨1 + i, .row 3 (L.map eT) false⟩) ?_ ?_
  · simp -dsimp
    exact ⟨t, ⟨rfl, rfl, rfl⟩, [], by simp⟩
  · rintro i ⟨s, hp⟩ hi ⟨g1, g2, g3, cur, L, g4, g5, g6, g7, g8, g9⟩
    dsimp only at g1 g2 g3 g4 g8 g9
    obtain ⟨k, n, ks⟩ := cur
    simp only [tk, tn, tks] at g4
    have hL : L.length ≤ (piD t).length := by rw [← g5, List.length_append]; omega
    by_cases hc : k = 4 ∧ ∃ a b, ks = [a, b]
    · obtain ⟨rfl, a, b, rfl⟩ := hc
      rw [(pi_two n a b).1] at g5
      rw [(pi_two n a b).2] at g7
      have hlt : i < (piD t).length := by rw [← g5, List.length_append, List.length_cons]; omega
      have hr : (L.length + 1) * 40 ≤ maxRoom := by simp only [maxRoom]; omega
      simp -dsimp [g1, g2, g3, g4, g8, g9, hr, eT_eq, cT]
      refine call_of (twin_ok a (h2.2 a (by rw [← g5]; simp))) ?_
      simp -dsimp [g1, g2, g3, g4, g8, g9, hr, eT_eq, cT]
      exact ⟨hlt, b, ⟨rfl, rfl, rfl⟩, L ++ [a], by simp [g5], by simp [g6], g7, by omega, by simp [eT_eq, cT]⟩
    · have e1 := pi_none (n := n) hc
      rw [e1.1, List.append_nil] at g5
      rw [e1.2] at g7
      subst g5
      rw [← g7] at h1
      have htw := twin_ok _ h1
      simp only [cT, tk, tn, tks] at htw
      by_cases h4 : k = 4
      · have h2' : ¬ (ks.length : Int) = 2 := fun h => hc ⟨h4, by
          match ks, h with
          | [a, b], _ => exact ⟨a, b, rfl⟩
          | [], h => simp at h
          | [_], h => simp at h
          | _ :: _ :: _ :: _, h => simp at h; omega⟩
        rw [h4] at htw g4 g7
        simp -dsimp [g1, g2, g3, g4, g8, g9, h4, h2']
        refine call_of htw ?_
        simp -dsimp [g1, g2, g3, g4, g8, g9, cT, ← g7, eTs]
      · simp -dsimp [g1, g2, g3, g4, g8, g9, h4]
        refine call_of htw ?_
        simp -dsimp [g1, g2, g3, g4, g8, g9, cT, ← g7, eTs]
end Ev
end Go.Proofs.YtdhfkbdhdgaccaaGreat
/- sig: what it tells; blocks within bounds. -/
namespace Go.Proofs.YtdhfkbdhdgaccaaGreat
namespace Ev
open Go
set_option maxRecDepth 100000
set_option linter.unusedSimpArgs false
set_option linter.unusedVariables false
theorem one_sos (l : List So) : (AV.d (eSos l)).one = true := rfl
theorem one_cos (l : List Co) : (AV.d (eCos l)).one = true := rfl
theorem one_ars (l : List Ar) : (AV.d (eArs l)).one = true := rfl
theorem one_ts (l : List T) : (AV.d (eTs l)).one = true := rfl
attribute [local simp] allD_map_d sks_map_d tk tn tks one_sos one_cos one_ars one_ts

/-! ### bounds -/
structure FineAr (a : Ar) : Prop where
  ty : nodes a.ty ≤ 9000
  domL : a.dom.length ≤ 60
  dom : (a.dom.map nodes).sum ≤ 9000
  idxL : a.idx.length ≤ 60
  idx : (a.idx.map nodes).sum ≤ 9000
def FineArs (l : List Ar) : Prop := l.length ≤ 20 ∧ ∀ a ∈ l, FineAr a
structure FineSo (s : So) : Prop where
  idx : FineArs s.idx
  dty : nodes s.dty ≤ 9000
structure FineCo (c : Co) : Prop where
  args : FineArs c.args
  idxL : c.idx.length ≤ 60
  idx : (c.idx.map nodes).sum ≤ 9000
  dec : nodes c.dec ≤ 9000
structure FineBl (b : Bl) : Prop where
  s : b.sorts.length ≤ 10
  c : b.cons.length ≤ 20
  sorts : ∀ s ∈ b.sorts, FineSo s
  cons : ∀ c ∈ b.cons, FineCo c
/-! ### what sig tells -/
theorem tc_ok (n : Int) : Pure Tryz.prog n_term_C [.int .i64 n] [.agg (cT (.mk 3 n []))] := by
  refine p_term_C rfl fun hs => ?_
  simp -dsimp [x_term_C, cT]
theorem tu_ok (n : Int) : Pure Tryz.prog n_term_U [.int .i64 n] [.agg (cT (.mk 2 n []))] := by
  refine p_term_U rfl fun hs => ?_
  simp -dsimp [x_term_U, cT]
def tC (n : Int) : T := .mk 3 n []
def fmT (b : Bl) (base k : Int) : T := tC (if 0 < former b base k then former b base k else 0)
theorem sformer_ok (b : Bl) (base k : Int) : Pure Tryz.prog n_sig_former [eBl b, .int .i64 base, .int .i64 k] [.agg (cT (fmT b base k))] := by
  refine p_sig_former rfl fun hs => ?_
  have h := former_ok b base k
  simp only [eBl, cBl] at h
  simp -dsimp [x_sig_former, eBl, cBl]
  refine call_of h ?_
  simp -dsimp
  refine call_of (tc_ok _) ?_
  simp -dsimp [cT, fmT, tC]
theorem place_n64 (a c k m : Int) : n64 (place a c k m) := by
  rw [place]
  split
  · exact ⟨by omega, by omega⟩
  · have := wrap_lo (w64 (a + c) + k)
    simp only [w64, n64] at this ⊢
    omega
theorem fmT_ok (b : Bl) (base k : Int) : okT (fmT b base k) := by
  have h := place_n64 base 0 k b.sorts.length
  refine .mk _ _ _ ⟨by omega, by omega⟩ ?_ (by simp) (by simp)
  show n64 (if 0 < former b base k then former b base k else 0)
  split
  · exact h
  · exact ⟨by omega, by omega⟩
def argTy (b : Bl) (base : Int) (a : Ar) : T := if a.rc = true then nestT 4 a.dom (spT (fmT b base a.sort) a.idx) else a.ty
theorem argTy_okT (b : Bl) (base : Int) {a : Ar} (h : okAr a) : okT (argTy b base a) := by
  rw [argTy]
  split
  · exact nest_okT (by omega) _ (sp_okT _ _ (fmT_ok _ _ _) h.idx.2) _ h.dom.2
  · exact h.ty
theorem argType_ok (b : Bl) (base : Int) (a : Ar) (h : okAr a) (hf : FineAr a) : Pure Tryz.prog n_sig_ArgType [eBl b, .int .i64 base, .agg (cAr a)] [.agg (cT (argTy b base a))] := by
  refine p_sig_ArgType rfl fun hs => ?_
  have d1 := hf.domL
  have i1 := hf.idxL
  have hF := sformer_ok b base a.sort
  have hS := spine_ok (fmT b base a.sort) a.idx (by omega) (fmT_ok _ _ _) h.idx
  have hP := pis_ok a.dom (spT (fmT b base a.sort) a.idx) (by omega) (sp_okT _ _ (fmT_ok _ _ _) h.idx.2) h.dom
  have hT := ttwin_ok a.ty h.ty
  cases hr : a.rc with
  | false =>
    have e : argTy b base a = a.ty := by rw [argTy, hr]; rfl
    rw [e]
    simp only [cT] at hT
    simp -dsimp [x_sig_ArgType, eBl, cBl, cAr, cT, hr]
    refine call_of hT ?_
    simp -dsimp
  | true =>
    have e : argTy b base a = nestT 4 a.dom (spT (fmT b base a.sort) a.idx) := by rw [argTy, hr]; rfl
    rw [e]
    generalize nestT 4 a.dom (spT (fmT b base a.sort) a.idx) = P at hP
    generalize spT (fmT b base a.sort) a.idx = Sp at hS hP
    generalize fmT b base a.sort = F at hF hS
    simp only [eBl, cBl, cT, eTs] at hF hS hP
    simp -dsimp [x_sig_ArgType, eBl, cBl, cAr, cT, eTs, hr]
    refine call_of hF ?_
    simp -dsimp [hr]
    refine call_of hS ?_
    simp -dsimp [hr]
    refine call_of hP ?_
    simp -dsimp [hr]
theorem argTypes_ok (b : Bl) (base : Int) (l : List Ar) (h : okArs l) (hf : FineArs l) : Pure Tryz.prog n_sig_ArgTypes [eBl b, .int .i64 base, eArs l] [eTs (l.map (argTy b base))] := by
  refine p_sig_ArgTypes rfl fun hs => ?_
  have hl := hf.1
  simp -dsimp [x_sig_ArgTypes, eBl, cBl, eArs]
  refine wp_upto l.length (fun i st => st.s 6 = .rsl 6 1 ∧ st.h 6 = ⟨1, .row 3 [] false⟩ ∧ st.s 1 = .d (.int .i64 base) ∧ st.s 3 = .ptr 3 1 0 ∧ st.h 3 = ⟨1, .box [.d (eSos b.sorts), .d (eCos b.cons), .d (.int .i64 b.elim)] false⟩ ∧
    st.s 10 = .d (.sl 7 (l.map eAr)) ∧ st.s 11 = .d (.int .i64 l.length) ∧ st.s 12 = .d (.int .i64 i) ∧ st.s 7 = .rsl 7 (1 + i) ∧ st.h 7 = ⟨1 + i, .row 3 (((l.map (argTy b base)).take i).map eT) false⟩) ?_ ?_
  · simp -dsimp
  · rintro i ⟨s, hp⟩ hi ⟨g1, g2, g3, g4, g5, g6, g7, g8, g9, g10⟩
    dsimp only at g1 g2 g3 g4 g5 g6 g7 g8 g9 g10
    rcases Nat.lt_or_ge i l.length with hlt | hge
    · have w1 : IntKind.i64.wrap ((i : Int) + 1) = (i : Int) + 1 := wrap_id (by omega) (by omega)
      have ha := argType_ok b base l[i] (h.2 _ (List.getElem_mem _)) (hf.2 _ (List.getElem_mem _))
      have hr : (min i l.length + 1) * 40 ≤ maxRoom := by simp only [maxRoom]; omega
      have htk : ((l.map (argTy b base)).take (i + 1)).map eT = ((l.map (argTy b base)).take i).map eT ++ [.agg (cT (argTy b base l[i]))] := by
        rw [take_snoc (List.getElem?_eq_getElem (by simpa using hlt) : (l.map (argTy b base))[i]? = some _), List.map_append]
        simp [eT_eq]
      rw [htk]
      generalize argTy b base l[i] = A at ha
      simp only [eBl, cBl, cAr, cT, eTs, List.cons_append, List.nil_append] at ha
      simp -dsimp [g1, g2, g3, g4, g5, g6, g7, g8, g9, g10, hlt, eAr, cAr, cT, eTs]
      refine call_of ha ?_
      simp -dsimp [g1, g2, g3, g4, g5, g6, g7, g8, g9, g10, hlt, w1, hr, cT]
      omega
    · have e : i = l.length := by omega
      subst e
      have ht : (l.map (argTy b base)).take l.length = l.map (argTy b base) := List.take_of_length_le (by simp)
      rw [ht] at g10
      simp -dsimp [g1, g2, g3, g4, g5, g6, g7, g8, g9, g10, eTs]
end Ev
end Go.Proofs.YtdhfkbdhdgaccaaGreat
/- posit: places, guarded variables, clean terms. -/
namespace Go.Proofs.YtdhfkbdhdgaccaaGreat
namespace Ev
open Go
set_option maxRecDepth 100000
set_option linter.unusedSimpArgs false
set_option linter.unusedVariables false
section
attribute [local simp] allD_map_d sks_map_d tk tn tks initA EndsM one_sos one_cos one_ars one_ts
structure Pl where
  b : Bl
  base : Int
  args : List Ar
  more : Int
def cPl (p : Pl) : List D := cBl p.b ++ [.int .i64 p.base, eArs p.args, .int .i64 p.more]
def Pl.fwd (p : Pl) (n : Int) : Pl := ⟨p.b, p.base, p.args, p.more + n⟩
theorem pin_ok (p : Pl) (n : Int) (h0 : 0 ≤ p.more) (h1 : p.more ≤ 1000000000) (h2 : 0 ≤ n) (h3 : n ≤ 1000000) : Pure Tryz.prog n_posit_place_in [.agg (cPl p), .int .i64 n] [.agg (cPl (p.fwd n))] := by
  refine p_posit_place_in rfl fun hs => ?_
  have w1 : IntKind.i64.wrap (p.more + n) = p.more + n := wrap_id (by omega) (by omega)
  simp -dsimp [x_posit_place_in, cPl, cBl, Pl.fwd, w1]
/-- Which argument a variable is. -/
def guardJ (p : Pl) (t : T) : Option Nat := if t.kind = 1 ∧ p.more ≤ t.num ∧ t.num - p.more < p.args.length then some (p.args.length - 1 - (t.num - p.more).toNat) else none
def guardB (p : Pl) (t : T) : Bool := match guardJ p t with
  | some j => match p.args[j]? with
    | some a => a.rc
    | none => false
  | none => false
def guardN (p : Pl) (t : T) : Int := match guardJ p t with
  | some j => j
  | none => 0
theorem guarded_ok (p : Pl) (t : T) (h0 : 0 ≤ p.more) (h1 : p.more ≤ 1000000000) (hl : p.args.length ≤ 1000000) (hn : n64 t.num) : Pure Tryz.prog n_posit_place_guarded [.agg (cPl p), .agg (cT t)] [.int .i64 (guardN p t), .bool (guardB p t)] := by
  refine p_posit_place_guarded rfl fun hs => ?_
  obtain ⟨n0, n1⟩ := hn
  simp -dsimp [x_posit_place_guarded, cPl, cBl, cT, eArs]
  by_cases c1 : t.kind = 1
  case neg =>
    have hJ : guardJ p t = none := by rw [guardJ, if_neg (fun h => c1 h.1)]
    simp -dsimp [c1, guardN, guardB, hJ]
  by_cases c2 : t.num < p.more
  · have hJ : guardJ p t = none := by rw [guardJ, if_neg (fun h => by omega)]
    simp -dsimp [c1, c2, guardN, guardB, hJ]
  have w1 : IntKind.i64.wrap ((p.args.length : Int) - 1) = (p.args.length : Int) - 1 := wrap_id (by omega) (by omega)
  have w2 : IntKind.i64.wrap (t.num - p.more) = t.num - p.more := wrap_id (by omega) (by omega)
  have w3 : IntKind.i64.wrap ((p.args.length : Int) - 1 - (t.num - p.more)) = (p.args.length : Int) - 1 - (t.num - p.more) := wrap_id (by omega) (by omega)
  by_cases c3 : (p.args.length : Int) - 1 - (t.num - p.more) < 0
  · have hJ : guardJ p t = none := by rw [guardJ, if_neg (fun h => by omega)]
    simp -dsimp [c1, c2, c3, w1, w2, w3, guardN, guardB, hJ]
  · have hJ : guardJ p t = some (p.args.length - 1 - (t.num - p.more).toNat) := by rw [guardJ, if_pos ⟨c1, by omega, by omega⟩]
    have hj : (p.args.length : Int) - 1 - (t.num - p.more) = ((p.args.length - 1 - (t.num - p.more).toNat : Nat) : Int) := by omega
    have hlt : p.args.length - 1 - (t.num - p.more).toNat < p.args.length := by omega
    rw [hj] at w3 c3
    generalize p.args.length - 1 - (t.num - p.more).toNat = j at *
    have hge : p.args[j]? = some p.args[j] := List.getElem?_eq_getElem hlt
    generalize hA : p.args[j] = A at *
    simp -dsimp [c1, c2, c3, w1, w2, w3, hj, guardN, guardB, hJ, hlt, hge, hA, eAr, cAr, cT]
/-- Is it a decoding, and all in it clean? -/
def decG (cl : T → Bool) (p : Pl) (t : T) : Bool := if (spH t).kind = 3 then if (ofM p.b p.base (spH t).num).1 = 4 then match p.b.sorts[(ofM p.b p.base (spH t).num).2.toNat]? with
      | some s => if ((spA t).length : Int) = s.idx.length + 1 then
          (match (spA t).reverse.getLast? with
          | some z => guardB p (spH z) && (((spA t).reverse.dropLast.all cl) && ((spA z).reverse.all cl))
          | none => false) else false
      | none => false else false else false
/-- Is it clean? (By fuel: as many as it has nodes.) -/
def cleanF : Nat → Pl → T → Bool
  | 0, _, _ => true
  | n + 1, p, t => if t.kind = 1 then !guardB p t else if t.kind = 3 then decide ((ofM p.b p.base t.num).1 = 0) else if t.kind = 6 ∧ decG (cleanF n p) p t = true then true else allI (fun i x => cleanF n (p.fwd (bindsM t.kind i)) x) 0 t.kids
theorem pall_ok (p : Pl) (l : List T) (cl : T → Bool) (hl : l.length ≤ 1000000) (h : ∀ x ∈ l, Pure Tryz.prog n_posit_place_clean [.agg (cPl p), .agg (cT x)] [.bool (cl x)]) : Pure Tryz.prog n_posit_place_all [.agg (cPl p), eTs l] [.bool (l.all cl)] := by
  refine p_posit_place_all rfl fun hs => ?_
  have hC := containsFunc_Term l n_posit_place_all_1 [.rp (cPl p)] (fun t => !cl t) (fun x hx => by
    refine p_posit_place_all_1 rfl fun hs => ?_
    have hx' := h x hx
    simp only [cPl, cBl, cT, List.cons_append, List.nil_append] at hx'
    simp -dsimp [x_posit_place_all_1, cPl, cBl, cT]
    refine call_of hx' ?_
    simp -dsimp)
  simp only [cPl, cBl, eTs, List.cons_append, List.nil_append] at hC
  simp -dsimp [x_posit_place_all, cPl, cBl, eTs]
  refine call_of hC ?_
  simp -dsimp
  rw [List.all_eq_not_any_not, Bool.not_not]
theorem of_kind {b : Bl} {base n : Int} (h : (ofM b base n).1 ≠ 0) : 0 ≤ (ofM b base n).2 ∧ ((ofM b base n).1 = 3 ∧ (ofM b base n).2 < b.sorts.length ∨ (ofM b base n).1 = 4 ∧ (ofM b base n).2 < b.sorts.length ∨ (ofM b base n).1 = 5 ∧ (ofM b base n).2 < b.cons.length ∨ (ofM b base n).1 = 6 ∧ (ofM b base n).2 < b.sorts.length) := by
  rw [ofM] at h ⊢
  split at h
  · exact absurd rfl h
  rename_i hc
  rw [if_neg hc]
  cases hs : seek n (tab b base) with
  | none => rw [hs] at h; exact absurd rfl h
  | some q =>
    obtain ⟨e, he, k, hk, _, rfl⟩ := seek_some hs
    simp only [tab, List.mem_cons, List.not_mem_nil, or_false] at he
    rcases he with rfl | rfl | rfl | rfl
    all_goals
      simp only [hs, Option.getD_some]
      first
        | (have hk' : k < b.sorts.length := hk; simp; exact hk')
        | (have hk' : k < b.cons.length := hk; simp; exact hk')
theorem spA_lt (t : T) : (spA t).length ≤ nodes t := by
  refine T.ind (p := fun t => (spA t).length ≤ nodes t) ?_ t
  intro k n ks ih
  by_cases hc : k = 6 ∧ ∃ a b, ks = [a, b]
  · obtain ⟨rfl, a, b, rfl⟩ := hc
    rw [(sp_two n a b).1, List.length_cons, nodes2]
    have := ih a (by simp)
    omega
  · rw [(sp_none hc).1]
    simp
theorem spA_mem (t : T) : (∀ x ∈ spA t, nodes x < nodes t) ∧ (okT t → okT (spH t) ∧ ∀ x ∈ spA t, okT x) := by
  refine T.ind (p := fun t => (∀ x ∈ spA t, nodes x < nodes t) ∧ (okT t → okT (spH t) ∧ ∀ x ∈ spA t, okT x)) ?_ t
  intro k n ks ih
  by_cases hc : k = 6 ∧ ∃ a b, ks = [a, b]
  · obtain ⟨rfl, a, b, rfl⟩ := hc
    obtain ⟨i1, i2⟩ := ih a (by simp)
    rw [(sp_two n a b).1, (sp_two n a b).2, nodes2]
    refine ⟨fun x hx => ?_, fun ho => ?_⟩
    · rcases List.mem_cons.1 hx with rfl | hx
      · omega
      · have := i1 x hx; omega
    · have hk := ho.kids.2
      obtain ⟨j1, j2⟩ := i2 (hk a (by simp))
      refine ⟨j1, fun x hx => ?_⟩
      rcases List.mem_cons.1 hx with rfl | hx
      · exact hk _ (by simp)
      · exact j2 x hx
  · rw [(sp_none hc).1, (sp_none hc).2]
    exact ⟨by simp, fun ho => ⟨ho, by simp⟩⟩
theorem okT.num64 {t : T} (h : okT t) : n64 t.num := by
  cases h with
  | mk k n ks hk hn hl h => exact hn
theorem decodes_ok (p : Pl) (h0 : 0 ≤ p.more) (h1 : p.more ≤ 1000000000) (hl : p.args.length ≤ 1000000) (t : T) (ot : okT t) (hn : nodes t ≤ 1000000) (hsl' : ∀ s ∈ p.b.sorts, s.idx.length ≤ 1000000) (cl : T → Bool) (h : ∀ x, okT x → nodes x < nodes t → Pure Tryz.prog n_posit_place_clean [.agg (cPl p), .agg (cT x)] [.bool (cl x)]) :
    Pure Tryz.prog n_posit_place_decodes [.agg (cPl p), .agg (cT t)] [.bool (decG cl p t)] := by
  refine p_posit_place_decodes rfl fun hs => ?_
  have hsl := spA_lt t
  have hS := split_ok t (by omega)
  have hO := of_ok p.b p.base (spH t).num
  obtain ⟨m1, m2⟩ := spA_mem t
  obtain ⟨_, m3⟩ := m2 ot
  have hm : ∀ x ∈ (spA t).reverse, nodes x < nodes t ∧ okT x := fun x hx => ⟨m1 x (by simpa using hx), m3 x (by simpa using hx)⟩
  have hAL : (spA t).length = (spA t).reverse.length := by simp
  have hD : decG cl p t = if (spH t).kind = 3 then if (ofM p.b p.base (spH t).num).1 = 4 then match p.b.sorts[(ofM p.b p.base (spH t).num).2.toNat]? with
      | some s => if ((spA t).reverse.length : Int) = s.idx.length + 1 then
          (match (spA t).reverse.getLast? with
          | some z => guardB p (spH z) && (((spA t).reverse.dropLast.all cl) && ((spA z).reverse.all cl))
          | none => false) else false
      | none => false else false else false := by rw [decG, hAL]
  rw [hAL] at hsl
  clear hAL m1 m2 m3
  rw [hD]
  clear hD
  simp only [cPl, cBl, eBl, cT, eTs, List.cons_append, List.nil_append] at hS hO h
  generalize (spA t).reverse = A at *
  generalize spH t = H at *
  simp -dsimp [x_posit_place_decodes, cPl, cBl, cT]
  refine call_of hS ?_
  by_cases c1 : H.kind = 3
  case neg => simp -dsimp [c1]
  simp -dsimp [c1]
  refine call_of hO ?_
  have hk := of_kind (b := p.b) (base := p.base) (n := H.num)
  generalize hof : ofM p.b p.base H.num = o at *
  by_cases c2 : o.1 = 4
  case neg => simp -dsimp [c1, c2]
  obtain ⟨k0, k1⟩ := hk (by omega)
  have hlt : o.2.toNat < p.b.sorts.length := by omega
  have hget : p.b.sorts[o.2.toNat]? = some p.b.sorts[o.2.toNat] := List.getElem?_eq_getElem hlt
  generalize hS' : p.b.sorts[o.2.toNat] = S at *
  have hsm : S.idx.length ≤ 1000000 := hsl' S (List.mem_of_getElem? hget)
  have w1 : IntKind.i64.wrap ((S.idx.length : Int) + 1) = (S.idx.length : Int) + 1 := wrap_id (by omega) (by omega)
  simp -dsimp [c1, c2, k0, hget, hlt, hS', eSos, eSo, cSo, eArs, cT, w1]
  by_cases c3 : (A.length : Int) = S.idx.length + 1
  case neg => simp -dsimp [c3, c1, c2, hget]
  have hAl : A.length = S.idx.length + 1 := by omega
  have hz : S.idx.length < A.length := by omega
  have hgl : A.getLast? = some A[S.idx.length] := by rw [List.getLast?_eq_getElem?, hAl, Nat.add_sub_cancel, List.getElem?_eq_getElem hz]
  have hdl : A.dropLast = A.take S.idx.length := by rw [List.dropLast_eq_take, hAl, Nat.add_sub_cancel]
  rw [hgl, hdl]
  simp only [c1, c2, hget, c3, if_true]
  obtain ⟨z1, z2⟩ := hm _ (List.getElem_mem hz)
  generalize hZ : A[S.idx.length] = z at *
  obtain ⟨n1, n2⟩ := spA_mem z
  obtain ⟨oH, n3⟩ := n2 z2
  have hSz := split_ok z (by have := spA_lt z; omega)
  have hG := guarded_ok p (spH z) h0 h1 hl oH.num64
  have a1 := pall_ok p (A.take S.idx.length) cl (by rw [List.length_take]; omega) (fun x hx => by have := hm x (List.mem_of_mem_take hx); simpa only [cPl, cBl, cT, List.cons_append, List.nil_append] using h x this.2 this.1)
  have a2 := pall_ok p (spA z).reverse cl (by rw [List.length_reverse]; have := spA_lt z; omega) (fun x hx => by have := n1 x (by simpa using hx); simpa only [cPl, cBl, cT, List.cons_append, List.nil_append] using h x (n3 x (by simpa using hx)) (by omega))
  have hZa : (spA z).all cl = (spA z).reverse.all cl := by simp
  generalize (spA z).reverse = Z at *
  generalize spH z = Hz at *
  simp only [cPl, cBl, cT, eTs, List.cons_append, List.nil_append, List.map_take] at hSz hG a1 a2
  have w2 : IntKind.i64.wrap (S.idx.length : Int) = S.idx.length := wrap_id (by omega) (by omega)
  have hle : (S.idx.length : Int) ≤ A.length := by omega
  simp -dsimp [c3, w2, hz, hZ, eT_eq, cT]
  refine call_of hSz ?_
  simp -dsimp
  refine call_of hG ?_
  cases hgB : guardB p Hz with
  | false => simp -dsimp [c1, c2, hget]
  | true =>
    simp -dsimp [hle]
    refine call_of a1 ?_
    cases h3 : (A.take S.idx.length).all cl with
    | false => simp -dsimp [c1, c2, hget]
    | true =>
      simp -dsimp
      refine call_of a2 ?_
      simp -dsimp [c1, c2, hget, c3, hZa]
theorem nodes_pos (t : T) : 1 ≤ nodes t := by obtain ⟨k, n, ks⟩ := t; rw [nodes]; omega
theorem kid_nodes (t : T) {x : T} (h : x ∈ t.kids) : nodes x + 1 ≤ nodes t := by obtain ⟨k, n, ks⟩ := t; exact nodes_kid h
theorem kid_ok {t x : T} (ot : okT t) (h : x ∈ t.kids) : okT x := by obtain ⟨k, n, ks⟩ := t; exact ot.kids.2 x h
theorem kids_len {t : T} (ot : okT t) : t.kids.length * 40 ≤ 140737488351232 := by obtain ⟨k, n, ks⟩ := t; exact ot.kids.1
theorem clean_ok (n : Nat) (hN : n ≤ 1000000) : ∀ (p : Pl) (t : T), 0 ≤ p.more → p.more + nodes t ≤ 1000000000 → p.args.length ≤ 1000000 → (∀ s ∈ p.b.sorts, s.idx.length ≤ 1000000) → okT t → nodes t ≤ n →
    Pure Tryz.prog n_posit_place_clean [.agg (cPl p), .agg (cT t)] [.bool (cleanF n p t)] := by
  induction n with
  | zero => intro p t _ _ _ _ _ h; have := nodes_pos t; omega
  | succ n ih =>
    intro p t h0 h1 hl hsl ot hn
    have hrec : ∀ x, okT x → nodes x < nodes t → Pure Tryz.prog n_posit_place_clean [.agg (cPl p), .agg (cT x)] [.bool (cleanF n p x)] := fun x ox hx => ih (by omega) p x h0 (by omega) hl hsl ox (by omega)
    have hkl := kids_len ot
    have hG := guarded_ok p t h0 (by omega) hl ot.num64
    have hO := of_ok p.b p.base t.num
    have hDe := decodes_ok p h0 (by omega) hl t ot (by omega) hsl (cleanF n p) hrec
    refine p_posit_place_clean rfl fun hs => ?_
    simp only [cPl, cBl, eBl, cT, List.cons_append, List.nil_append] at hG hO hDe
    simp -dsimp [x_posit_place_clean, cPl, cBl, cT]
    by_cases c1 : t.kind = 1
    · simp -dsimp [c1]
      rw [c1] at hG
      refine call_of hG ?_
      simp -dsimp [cleanF, c1]
    by_cases c3 : t.kind = 3
    · simp -dsimp [c1, c3]
      refine call_of hO ?_
      simp -dsimp [cleanF, c1, c3]
    by_cases c6 : t.kind = 6
    · simp -dsimp [c1, c3, c6]
      rw [c6] at hDe
      refine call_of hDe ?_
      cases hd : decG (cleanF n p) p t with
      | true =>
        have hv : cleanF (n + 1) p t = true := by rw [cleanF, if_neg c1, if_neg c3, if_pos ⟨c6, hd⟩]
        simp -dsimp [hv]
      | false =>
        have hv : cleanF (n + 1) p t = allI (fun i x => cleanF n (p.fwd (bindsM t.kind i)) x) 0 t.kids := by rw [cleanF, if_neg c1, if_neg c3, if_neg (fun h => by rw [hd] at h; cases h.2)]
        simp -dsimp [c1, c3, c6]
        refine wp_upto t.kids.length (fun i st => st.s 2 = .ptr 2 1 0 ∧ st.s 3 = .ptr 3 1 0 ∧ st.s 43 = .d (eTs t.kids) ∧ st.s 44 = .d (.int .i64 t.kids.length) ∧ st.s 45 = .d (.int .i64 i) ∧
          st.h 2 = ⟨1, .box [.d (eSos p.b.sorts), .d (eCos p.b.cons), .d (.int .i64 p.b.elim), .d (.int .i64 p.base), .d (eArs p.args), .d (.int .i64 p.more)] false⟩ ∧
          st.h 3 = ⟨1, .box [.d (.int .i64 t.kind), .d (.int .i64 t.num), .d (.sl 3 (t.kids.map eT))] false⟩ ∧ ∀ (j : Nat) (hj : j < t.kids.length), j < i → cleanF n (p.fwd (bindsM t.kind j)) t.kids[j] = true) ?_ ?_
        · simp -dsimp [eTs, c1, c3, c6]
        · rintro i ⟨s, hp⟩ hi ⟨g2, g3, g43, g44, g45, k2, k3, g⟩
          dsimp only at g2 g3 g43 g44 g45 k2 k3
          simp only [eTs] at g43
          rcases Nat.lt_or_ge i t.kids.length with hlt | hge
          · have w1 : IntKind.i64.wrap ((i : Int) + 1) = (i : Int) + 1 := wrap_id (by omega) (by omega)
            have hbl := binds_le t.kind i
            have hkn := kid_nodes t (List.getElem_mem hlt)
            have hB := binds_ok t.kind i
            have hP := pin_ok p (bindsM t.kind i) h0 (by omega) (by omega) (by omega)
            have hI := ih (by omega) (p.fwd (bindsM t.kind i)) t.kids[i] (by simp only [Pl.fwd]; omega) (by simp only [Pl.fwd]; omega) hl hsl (kid_ok ot (List.getElem_mem hlt)) (by omega)
            have hgi := g
            generalize hX : t.kids[i] = X at *
            simp only [cPl, cBl, cT, Pl.fwd, List.cons_append, List.nil_append] at hP hI
            simp -dsimp [g2, g3, g43, g44, g45, k2, k3, hlt, hX, cT]
            refine call_of hB ?_
            simp -dsimp [g2, g3, g43, g44, g45, k2, k3, hlt, hX, cT]
            refine call_of hP ?_
            simp -dsimp [g2, g3, g43, g44, g45, k2, k3, hlt, hX, cT]
            refine call_of hI ?_
            cases hc : cleanF n (p.fwd (bindsM t.kind i)) X with
            | true =>
              simp only [Pl.fwd] at hc
              simp -dsimp [g2, g3, g43, g44, g45, k2, k3, hlt, hX, cT, hc, w1, eTs]
              intro j hj hji
              rcases Nat.lt_or_ge j i with h' | h'
              · exact g j hj h'
              · have : j = i := by omega
                subst this
                rw [hX]; exact hc
            | false =>
              have hz : allI (fun i x => cleanF n (p.fwd (bindsM t.kind i)) x) 0 t.kids = false := by
                rw [Bool.eq_false_iff]
                intro h
                have := (allI_iff _ _ _).1 h i hlt
                rw [Nat.zero_add, hX, hc] at this
                cases this
              simp only [Pl.fwd] at hc
              rw [hv, hz]
              simp -dsimp [g2, g3, g43, g44, g45, k2, k3, hlt, hX, cT, hc]
          · have e : i = t.kids.length := by omega
            subst e
            have hz : allI (fun i x => cleanF n (p.fwd (bindsM t.kind i)) x) 0 t.kids = true := (allI_iff _ _ _).2 fun j hj => by rw [Nat.zero_add]; exact g j hj hj
            rw [hv, hz]
            simp -dsimp [g2, g3, g43, g44, g45, k2, k3]
    · have hv : cleanF (n + 1) p t = allI (fun i x => cleanF n (p.fwd (bindsM t.kind i)) x) 0 t.kids := by rw [cleanF, if_neg c1, if_neg c3, if_neg (fun h => c6 h.1)]
      simp -dsimp [c1, c3, c6]
      refine wp_upto t.kids.length (fun i st => st.s 2 = .ptr 2 1 0 ∧ st.s 3 = .ptr 3 1 0 ∧ st.s 43 = .d (eTs t.kids) ∧ st.s 44 = .d (.int .i64 t.kids.length) ∧ st.s 45 = .d (.int .i64 i) ∧
        st.h 2 = ⟨1, .box [.d (eSos p.b.sorts), .d (eCos p.b.cons), .d (.int .i64 p.b.elim), .d (.int .i64 p.base), .d (eArs p.args), .d (.int .i64 p.more)] false⟩ ∧
        st.h 3 = ⟨1, .box [.d (.int .i64 t.kind), .d (.int .i64 t.num), .d (.sl 3 (t.kids.map eT))] false⟩ ∧ ∀ (j : Nat) (hj : j < t.kids.length), j < i → cleanF n (p.fwd (bindsM t.kind j)) t.kids[j] = true) ?_ ?_
      · simp -dsimp [eTs, c1, c3, c6]
      · rintro i ⟨s, hp⟩ hi ⟨g2, g3, g43, g44, g45, k2, k3, g⟩
        dsimp only at g2 g3 g43 g44 g45 k2 k3
        simp only [eTs] at g43
        rcases Nat.lt_or_ge i t.kids.length with hlt | hge
        · have w1 : IntKind.i64.wrap ((i : Int) + 1) = (i : Int) + 1 := wrap_id (by omega) (by omega)
          have hbl := binds_le t.kind i
          have hkn := kid_nodes t (List.getElem_mem hlt)
          have hB := binds_ok t.kind i
          have hP := pin_ok p (bindsM t.kind i) h0 (by omega) (by omega) (by omega)
          have hI := ih (by omega) (p.fwd (bindsM t.kind i)) t.kids[i] (by simp only [Pl.fwd]; omega) (by simp only [Pl.fwd]; omega) hl hsl (kid_ok ot (List.getElem_mem hlt)) (by omega)
          have hgi := g
          generalize hX : t.kids[i] = X at *
          simp only [cPl, cBl, cT, Pl.fwd, List.cons_append, List.nil_append] at hP hI
          simp -dsimp [g2, g3, g43, g44, g45, k2, k3, hlt, hX, cT]
          refine call_of hB ?_
          simp -dsimp [g2, g3, g43, g44, g45, k2, k3, hlt, hX, cT]
          refine call_of hP ?_
          simp -dsimp [g2, g3, g43, g44, g45, k2, k3, hlt, hX, cT]
          refine call_of hI ?_
          cases hc : cleanF n (p.fwd (bindsM t.kind i)) X with
          | true =>
            simp only [Pl.fwd] at hc
            simp -dsimp [g2, g3, g43, g44, g45, k2, k3, hlt, hX, cT, hc, w1, eTs]
            intro j hj hji
            rcases Nat.lt_or_ge j i with h' | h'
            · exact g j hj h'
            · have : j = i := by omega
              subst this
              rw [hX]; exact hc
          | false =>
            have hz : allI (fun i x => cleanF n (p.fwd (bindsM t.kind i)) x) 0 t.kids = false := by
              rw [Bool.eq_false_iff]
              intro h
              have := (allI_iff _ _ _).1 h i hlt
              rw [Nat.zero_add, hX, hc] at this
              cases this
            simp only [Pl.fwd] at hc
            rw [hv, hz]
            simp -dsimp [g2, g3, g43, g44, g45, k2, k3, hlt, hX, cT, hc]
        · have e : i = t.kids.length := by omega
          subst e
          have hz : allI (fun i x => cleanF n (p.fwd (bindsM t.kind i)) x) 0 t.kids = true := (allI_iff _ _ _).2 fun j hj => by rw [Nat.zero_add]; exact g j hj hj
          rw [hv, hz]
          simp -dsimp [g2, g3, g43, g44, g45, k2, k3]
end
end Ev
end Go.Proofs.YtdhfkbdhdgaccaaGreat
/- posit: good terms, indices, rows, blocks. -/
namespace Go.Proofs.YtdhfkbdhdgaccaaGreat
namespace Ev
open Go
set_option maxRecDepth 100000
set_option linter.unusedSimpArgs false
set_option linter.unusedVariables false
section
attribute [local simp] allD_map_d sks_map_d tk tn tks initA EndsM one_sos one_cos one_ars one_ts
/-- Is what stands for an argument as it is to be? -/
def fitA (cl gd : T → Bool) (p : Pl) (a : Ar) (x : T) : Bool := if a.rc then if a.dom.length = 0 then gd x else guardB p x else cl x
def goodG (cl gd : T → Bool) (p : Pl) (t : T) (cons : Int) : Bool :=
  if guardB p (spH t) then (match p.args[(guardN p (spH t)).toNat]? with
    | some a => decide ((spA t).reverse.length = a.dom.length) && (spA t).reverse.all cl
    | none => false)
  else if (spH t).kind = 3 then if (ofM p.b p.base (spH t).num).1 = 5 then if (ofM p.b p.base (spH t).num).2 < cons then match p.b.cons[(ofM p.b p.base (spH t).num).2.toNat]? with
      | some c => if (spA t).reverse.length = c.args.length then allI (fun i a => match (spA t).reverse[i]? with | some x => fitA cl gd p a x | none => false) 0 c.args else false
      | none => false else false else false
  else false
def goodF : Nat → Pl → T → Int → Bool
  | 0, _, _, _ => true
  | n + 1, p, t, cons => goodG (cleanF n p) (fun x => goodF n p x cons) p t cons
theorem good_ok (n : Nat) (hN : n ≤ 1000000) : ∀ (p : Pl) (t : T) (cons : Int), 0 ≤ p.more → p.more + nodes t ≤ 1000000000 → p.args.length ≤ 1000000 → (∀ s ∈ p.b.sorts, s.idx.length ≤ 1000000) → (∀ c ∈ p.b.cons, c.args.length ≤ 1000000) → okT t → nodes t ≤ n →
    Pure Tryz.prog n_posit_place_good [.agg (cPl p), .agg (cT t), .int .i64 cons] [.bool (goodF n p t cons)] := by
  induction n with
  | zero => intro p t _ _ _ _ _ _ _ h; have := nodes_pos t; omega
  | succ n ih =>
    intro p t cons h0 h1 hl hsl hcl ot hn
    have hA := spA_lt t
    have hS := split_ok t (by omega)
    obtain ⟨m1, m2⟩ := spA_mem t
    obtain ⟨oH, m3⟩ := m2 ot
    have hm : ∀ x ∈ (spA t).reverse, nodes x < nodes t ∧ okT x := fun x hx => ⟨m1 x (by simpa using hx), m3 x (by simpa using hx)⟩
    have hG := guarded_ok p (spH t) h0 (by omega) hl oH.num64
    have hO := of_ok p.b p.base (spH t).num
    have hAl := pall_ok p (spA t).reverse (cleanF n p) (by rw [List.length_reverse]; omega) (fun x hx => clean_ok n (by omega) p x h0 (by have := (hm x hx).1; omega) hl hsl (hm x hx).2 (by have := (hm x hx).1; omega))
    refine p_posit_place_good rfl fun hs => ?_
    have hV : goodF (n + 1) p t cons = goodG (cleanF n p) (fun x => goodF n p x cons) p t cons := rfl
    have hW : goodG (cleanF n p) (fun x => goodF n p x cons) p t cons = if guardB p (spH t) then (match p.args[(guardN p (spH t)).toNat]? with
        | some a => decide ((spA t).reverse.length = a.dom.length) && (spA t).reverse.all (cleanF n p)
        | none => false)
      else if (spH t).kind = 3 then if (ofM p.b p.base (spH t).num).1 = 5 then if (ofM p.b p.base (spH t).num).2 < cons then match p.b.cons[(ofM p.b p.base (spH t).num).2.toNat]? with
          | some c => if (spA t).reverse.length = c.args.length then allI (fun i a => match (spA t).reverse[i]? with | some x => fitA (cleanF n p) (fun x => goodF n p x cons) p a x | none => false) 0 c.args else false
          | none => false else false else false
      else false := by rw [goodG]
    rw [hV]
    rw [← List.length_reverse] at hA
    generalize goodG (cleanF n p) (fun x => goodF n p x cons) p t cons = W at *
    generalize (spA t).reverse = A at *
    generalize spH t = H at *
    simp only [cPl, cBl, eBl, cT, eTs, List.cons_append, List.nil_append] at hS hG hO hAl
    simp -dsimp [x_posit_place_good, cPl, cBl, cT]
    refine call_of hS ?_
    simp -dsimp
    refine call_of hG ?_
    cases hg : guardB p H with
    | true =>
      obtain ⟨j, hj, hja⟩ : ∃ j, guardJ p H = some j ∧ ∃ a, p.args[j]? = some a := by
        rw [guardB] at hg
        cases hJ : guardJ p H with
        | none => rw [hJ] at hg; cases hg
        | some j =>
          rw [hJ] at hg
          cases ha : p.args[j]? with
          | none => simp [ha] at hg
          | some a => exact ⟨j, rfl, a, ha⟩
      obtain ⟨a, ha⟩ := hja
      have hN' : guardN p H = j := by rw [guardN, hj]
      have hjl := (List.getElem?_eq_some_iff.1 ha).1
      rw [hg, if_pos rfl, hN', Int.toNat_natCast, ha] at hW
      simp only at hW
      rw [hN']
      simp -dsimp [eArs, ha, eAr, cAr, cT, eTs]
      by_cases hc : A.length = a.dom.length
      · have hc' : (A.length : Int) = a.dom.length := by omega
        have hw : W = A.all (cleanF n p) := by rw [hW]; simp [hc]
        simp -dsimp [hc', hc]
        refine call_of hAl ?_
        simp -dsimp [hc', hc, hw]
      · have hc' : ¬ (A.length : Int) = a.dom.length := by omega
        have hw : W = false := by rw [hW]; simp [hc]
        simp -dsimp [hc', hc, hw]
    | false =>
      rw [hg, if_neg (by simp)] at hW
      simp -dsimp
      by_cases c1 : H.kind = 3
      case neg =>
        rw [if_neg c1] at hW
        simp -dsimp [c1, hW]
      rw [if_pos c1] at hW
      simp -dsimp [c1]
      refine call_of hO ?_
      have hk := of_kind (b := p.b) (base := p.base) (n := H.num)
      generalize hof : ofM p.b p.base H.num = o at *
      by_cases c2 : o.1 = 5
      case neg =>
        rw [if_neg c2] at hW
        simp -dsimp [c1, c2, hW]
      rw [if_pos c2] at hW
      obtain ⟨k0, k1⟩ := hk (by omega)
      have hlt : o.2.toNat < p.b.cons.length := by omega
      have hget : p.b.cons[o.2.toNat]? = some p.b.cons[o.2.toNat] := List.getElem?_eq_getElem hlt
      rw [hget] at hW
      generalize hS' : p.b.cons[o.2.toNat] = S at *
      have hsm : S.args.length ≤ 1000000 := hcl S (List.mem_of_getElem? hget)
      by_cases c3 : o.2 < cons
      case neg =>
        rw [if_neg c3] at hW
        have c3' : cons ≤ o.2 := by omega
        simp -dsimp [c1, c2, c3, c3', hW]
      rw [if_pos c3] at hW
      simp only at hW
      have c3' : ¬ cons ≤ o.2 := by omega
      simp -dsimp [c1, c2, c3, c3', k0, hget, hlt, hS', eCos, eCo, cCo, eArs, cT]
      by_cases c4 : A.length = S.args.length
      case neg =>
        rw [if_neg c4] at hW
        have c4' : ¬ (A.length : Int) = S.args.length := by omega
        simp -dsimp [c1, c2, c3, c4, c4', hget, hW]
      rw [if_pos c4] at hW
      have c4' : (A.length : Int) = S.args.length := by omega
      simp -dsimp [c1, c2, c3, c3', c4', k0, hget, hlt, hS', eCos, eCo, cCo, eArs, cT]
      have hfit : ∀ (i : Nat) (hi : i < S.args.length), (match A[i]? with | some x => fitA (cleanF n p) (fun x => goodF n p x cons) p S.args[i] x | none => false) = fitA (cleanF n p) (fun x => goodF n p x cons) p S.args[i] (A[i]'(by omega)) := fun i hi => by rw [List.getElem?_eq_getElem (by omega : i < A.length)]
      have hVt : (∀ (i : Nat) (hi : i < S.args.length), fitA (cleanF n p) (fun x => goodF n p x cons) p S.args[i] (A[i]'(by omega)) = true) → W = true := fun h => by
        rw [hW]
        exact (allI_iff _ _ _).2 fun j hj => by simp only [Nat.zero_add]; rw [hfit j hj]; exact h j hj
      have hVf : ∀ (i : Nat) (hi : i < S.args.length), fitA (cleanF n p) (fun x => goodF n p x cons) p S.args[i] (A[i]'(by omega)) = false → W = false := fun i hi h => by
        rw [hW, Bool.eq_false_iff]
        intro h2
        have := (allI_iff _ _ _).1 h2 i hi
        simp only [Nat.zero_add] at this
        rw [hfit i hi, h] at this
        cases this
      refine wp_upto S.args.length (fun i st => st.s 2 = .d (.int .i64 cons) ∧ st.s 3 = .ptr 3 1 0 ∧ st.s 8 = .d (eTs A) ∧ st.s 83 = .d (eArs S.args) ∧ st.s 84 = .d (.int .i64 S.args.length) ∧ st.s 85 = .d (.int .i64 i) ∧
        st.h 3 = ⟨1, .box [.d (eSos p.b.sorts), .d (eCos p.b.cons), .d (.int .i64 p.b.elim), .d (.int .i64 p.base), .d (eArs p.args), .d (.int .i64 p.more)] false⟩ ∧
        ∀ (j : Nat) (hj : j < S.args.length), j < i → fitA (cleanF n p) (fun x => goodF n p x cons) p S.args[j] (A[j]'(by omega)) = true) ?_ ?_
      · simp -dsimp [eTs, eArs, eCos]
      · rintro i ⟨s, hp⟩ hi ⟨g2, g3, g8, g83, g84, g85, k3, g⟩
        dsimp only at g2 g3 g8 g83 g84 g85 k3
        simp only [eTs, eArs] at g8 g83
        rcases Nat.lt_or_ge i S.args.length with hlt2 | hge
        · have w1 : IntKind.i64.wrap ((i : Int) + 1) = (i : Int) + 1 := wrap_id (by omega) (by omega)
          have hiA : i < A.length := by omega
          obtain ⟨x1, x2⟩ := hm _ (List.getElem_mem hiA)
          have hcv := hVf i hlt2
          have hfi : ∀ h : fitA (cleanF n p) (fun x => goodF n p x cons) p S.args[i] A[i] = true, ∀ (j : Nat) (hj : j < S.args.length), j < i + 1 → fitA (cleanF n p) (fun x => goodF n p x cons) p S.args[j] (A[j]'(by omega)) = true := fun h j hj hji => by
            rcases Nat.lt_or_ge j i with h' | h'
            · exact g j hj h'
            · have : j = i := by omega
              subst this
              exact h
          have hGx := guarded_ok p A[i] h0 (by omega) hl x2.num64
          have hCx := clean_ok n (by omega) p A[i] h0 (by omega) hl hsl x2 (by omega)
          have hDx := ih (by omega) p A[i] cons h0 (by omega) hl hsl hcl x2 (by omega)
          generalize hX : A[i] = X at *
          generalize hAr : S.args[i] = R at *
          simp only [cPl, cBl, cT, List.cons_append, List.nil_append] at hGx hCx hDx
          simp -dsimp [g2, g3, g8, g83, g84, g85, k3, hlt2, hiA, hX, hAr, eAr, cAr, cT]
          refine call_of hGx ?_
          simp -dsimp [g2, g3, g8, g83, g84, g85, k3, hlt2, hiA, hX, hAr, eAr, cAr, cT]
          cases hr : R.rc with
          | false =>
            simp -dsimp [g2, g3, g8, g83, g84, g85, k3, hlt2, hiA, hX, hAr, eAr, cAr, cT]
            refine call_of hCx ?_
            cases hc : cleanF n p X with
            | false =>
              have hw := hcv (by simp [fitA, hr, hc])
              simp -dsimp [g2, g3, g8, g83, g84, g85, k3, hlt2, hiA, hX, hAr, eAr, cAr, cT, hr, hw]
            | true =>
              have hnx := hfi (by simp [fitA, hr, hc])
              simp -dsimp [g2, g3, g8, g83, g84, g85, k3, hlt2, hiA, hX, hAr, eAr, cAr, cT, hr, w1, eTs, eArs]
              exact hnx
          | true =>
            by_cases hd : R.dom.length = 0
            · have hd' : (R.dom.length : Int) = 0 := by omega
              have hdn : R.dom = [] := List.length_eq_zero_iff.1 hd
              simp -dsimp [g2, g3, g8, g83, g84, g85, k3, hlt2, hiA, hX, hAr, eAr, cAr, cT, hr, hdn, eTs]
              refine call_of hDx ?_
              cases hc : goodF n p X cons with
              | false =>
                have hw := hcv (by simp [fitA, hr, hd, hc])
                simp -dsimp [g2, g3, g8, g83, g84, g85, k3, hlt2, hiA, hX, hAr, eAr, cAr, cT, hr, hdn, eTs, hw]
              | true =>
                have hnx := hfi (by simp [fitA, hr, hd, hc])
                simp -dsimp [g2, g3, g8, g83, g84, g85, k3, hlt2, hiA, hX, hAr, eAr, cAr, cT, hr, hdn, w1, eTs, eArs]
                exact hnx
            · have hd' : ¬ (R.dom.length : Int) = 0 := by omega
              have hd2 : (0 : Int) < R.dom.length := by omega
              have hdn : ¬ R.dom = [] := fun h => hd (by rw [h]; rfl)
              have hd3 : 0 < R.dom.length := by omega
              cases hc : guardB p X with
              | false =>
                have hw := hcv (by simp [fitA, hr, hdn, hc])
                simp -dsimp [g2, g3, g8, g83, g84, g85, k3, hlt2, hiA, hX, hAr, eAr, cAr, cT, hr, hdn, hd', hd2, hd3, eTs, hw]
              | true =>
                have hnx := hfi (by simp [fitA, hr, hdn, hc])
                simp -dsimp [g2, g3, g8, g83, g84, g85, k3, hlt2, hiA, hX, hAr, eAr, cAr, cT, hr, hdn, hd', hd2, hd3, w1, eTs, eArs]
                exact hnx
        · have e : i = S.args.length := by omega
          subst e
          have hz := hVt fun j hj => g j hj hj
          simp -dsimp [g2, g3, g8, g83, g84, g85, k3, hz]
/-- Are the indices of a sort as they are to be? -/
def indF (n : Nat) (p : Pl) (so : So) (l : List T) (cons : Int) : Bool := allI (fun i a => match l[i]? with | some x => if a.rc then goodF n p x cons else cleanF n p x | none => false) 0 so.idx
theorem indices_ok (n : Nat) (hN : n ≤ 1000000) (p : Pl) (k : Int) (so : So) (hk0 : 0 ≤ k) (hk : p.b.sorts[k.toNat]? = some so) (l : List T) (cons : Int) (hll : l.length = so.idx.length) (h0 : 0 ≤ p.more) (hm : p.more ≤ 1000000) (hl : p.args.length ≤ 1000000) (hsl : ∀ s ∈ p.b.sorts, s.idx.length ≤ 1000000) (hcl : ∀ c ∈ p.b.cons, c.args.length ≤ 1000000)
    (ol : ∀ x ∈ l, okT x ∧ nodes x ≤ n) : Pure Tryz.prog n_posit_place_indices [.agg (cPl p), .int .i64 k, eTs l, .int .i64 cons] [.bool (indF n p so l cons)] := by
  refine p_posit_place_indices rfl fun hs => ?_
  have hsm := hsl so (List.mem_of_getElem? hk)
  have hklt := (List.getElem?_eq_some_iff.1 hk).1
  simp -dsimp [x_posit_place_indices, cPl, cBl, eTs]
  simp -dsimp [eSos, hk0, hk, eSo, cSo, cT, eArs]
  generalize hV : indF n p so l cons = V
  have hfit : ∀ (i : Nat) (hi : i < so.idx.length), (match l[i]? with | some x => if so.idx[i].rc then goodF n p x cons else cleanF n p x | none => false) = if so.idx[i].rc then goodF n p (l[i]'(by omega)) cons else cleanF n p (l[i]'(by omega)) := fun i hi => by rw [List.getElem?_eq_getElem (by omega : i < l.length)]
  have hVt : (∀ (i : Nat) (hi : i < so.idx.length), (if so.idx[i].rc then goodF n p (l[i]'(by omega)) cons else cleanF n p (l[i]'(by omega))) = true) → V = true := fun h => by
    rw [← hV]
    exact (allI_iff _ _ _).2 fun j hj => by simp only [Nat.zero_add]; rw [hfit j hj]; exact h j hj
  have hVf : ∀ (i : Nat) (hi : i < so.idx.length), (if so.idx[i].rc then goodF n p (l[i]'(by omega)) cons else cleanF n p (l[i]'(by omega))) = false → V = false := fun i hi h => by
    rw [← hV, Bool.eq_false_iff]
    intro h2
    have := (allI_iff _ _ _).1 h2 i hi
    simp only [Nat.zero_add] at this
    rw [hfit i hi, h] at this
    cases this
  refine wp_upto so.idx.length (fun i st => st.s 2 = .d (eTs l) ∧ st.s 3 = .d (.int .i64 cons) ∧ st.s 4 = .ptr 4 1 0 ∧ st.s 17 = .d (eArs so.idx) ∧ st.s 18 = .d (.int .i64 so.idx.length) ∧ st.s 19 = .d (.int .i64 i) ∧
    st.h 4 = ⟨1, .box [.d (eSos p.b.sorts), .d (eCos p.b.cons), .d (.int .i64 p.b.elim), .d (.int .i64 p.base), .d (eArs p.args), .d (.int .i64 p.more)] false⟩ ∧
    ∀ (j : Nat) (hj : j < so.idx.length), j < i → (if so.idx[j].rc then goodF n p (l[j]'(by omega)) cons else cleanF n p (l[j]'(by omega))) = true) ?_ ?_
  · simp -dsimp [eTs, eArs, eSos]
  · rintro i ⟨s, hp⟩ hi ⟨g1, g2, g3, g17, g18, g19, k4, g⟩
    dsimp only at g1 g2 g3 g17 g18 g19 k4
    simp only [eTs, eArs] at g1 g17
    rcases Nat.lt_or_ge i so.idx.length with hlt | hge
    · have w1 : IntKind.i64.wrap ((i : Int) + 1) = (i : Int) + 1 := wrap_id (by omega) (by omega)
      have hiA : i < l.length := by omega
      obtain ⟨x1, x2⟩ := ol _ (List.getElem_mem hiA)
      have hcv := hVf i hlt
      have hfi : ∀ h : (if so.idx[i].rc then goodF n p l[i] cons else cleanF n p l[i]) = true, ∀ (j : Nat) (hj : j < so.idx.length), j < i + 1 → (if so.idx[j].rc then goodF n p (l[j]'(by omega)) cons else cleanF n p (l[j]'(by omega))) = true := fun h j hj hji => by
        rcases Nat.lt_or_ge j i with h' | h'
        · exact g j hj h'
        · have : j = i := by omega
          subst this
          exact h
      have hCx := clean_ok n hN p l[i] h0 (by omega) hl hsl x1 x2
      have hDx := good_ok n hN p l[i] cons h0 (by omega) hl hsl hcl x1 x2
      generalize hX : l[i] = X at *
      generalize hAr : so.idx[i] = R at *
      simp only [cPl, cBl, cT, List.cons_append, List.nil_append] at hCx hDx
      simp -dsimp [g1, g2, g3, g17, g18, g19, k4, hlt, hiA, hX, hAr, eAr, cAr, cT]
      cases hr : R.rc with
      | false =>
        rw [hr] at hcv hfi
        simp only [Bool.false_eq_true, if_false] at hcv hfi
        simp -dsimp [g1, g2, g3, g17, g18, g19, k4, hlt, hiA, hX, hAr, eAr, cAr, cT, hr]
        refine call_of hCx ?_
        cases hc : cleanF n p X with
        | false => simp -dsimp [g1, g2, g3, g17, g18, g19, k4, hlt, hiA, hX, hAr, eAr, cAr, cT, hr, hcv hc]
        | true =>
          have hnx := hfi hc
          simp -dsimp [g1, g2, g3, g17, g18, g19, k4, hlt, hiA, hX, hAr, eAr, cAr, cT, hr, w1, eTs, eArs]
          simpa using hnx
      | true =>
        rw [hr] at hcv hfi
        simp only [if_true] at hcv hfi
        simp -dsimp [g1, g2, g3, g17, g18, g19, k4, hlt, hiA, hX, hAr, eAr, cAr, cT, hr]
        refine call_of hDx ?_
        cases hc : goodF n p X cons with
        | false => simp -dsimp [g1, g2, g3, g17, g18, g19, k4, hlt, hiA, hX, hAr, eAr, cAr, cT, hr, hcv hc]
        | true =>
          have hnx := hfi hc
          simp -dsimp [g1, g2, g3, g17, g18, g19, k4, hlt, hiA, hX, hAr, eAr, cAr, cT, hr, w1, eTs, eArs]
          simpa using hnx
    · have e : i = so.idx.length := by omega
      subst e
      have hz := hVt fun j hj => g j hj hj
      simp -dsimp [g1, g2, g3, g17, g18, g19, k4, hz]
end
end Ev
end Go.Proofs.YtdhfkbdhdgaccaaGreat
/- posit: rows, blocks. -/
namespace Go.Proofs.YtdhfkbdhdgaccaaGreat
namespace Ev
open Go
set_option maxRecDepth 100000
set_option linter.unusedSimpArgs false
set_option linter.unusedVariables false
section
attribute [local simp] allD_map_d sks_map_d tk tn tks initA EndsM one_sos one_cos one_ars one_ts
/-- Is an argument as it is to be, behind those ahead of it? -/
def argF (n : Nat) (b : Bl) (base : Int) (l : List Ar) (cons : Int) (i : Nat) (a : Ar) : Bool :=
  if a.rc then (allI (fun j d => cleanF n ⟨b, base, l.take i, (j : Int)⟩ d) 0 a.dom) && (match b.sorts[a.sort.toNat]? with
    | some so => indF n ⟨b, base, l.take i, (a.dom.length : Int)⟩ so a.idx cons
    | none => false)
  else cleanF n ⟨b, base, l.take i, 0⟩ a.ty
def rowF (n : Nat) (b : Bl) (base : Int) (l : List Ar) (cons : Int) : Bool := allI (fun i a => argF n b base l cons i a) 0 l
theorem row_ok8 (n : Nat) (hN : n ≤ 1000000) (b : Bl) (base : Int) (l : List Ar) (cons : Int) (hl : l.length ≤ 1000000) (hsl : ∀ s ∈ b.sorts, s.idx.length ≤ 1000000) (hcl : ∀ c ∈ b.cons, c.args.length ≤ 1000000)
    (hty : ∀ a ∈ l, a.rc = false → okT a.ty ∧ nodes a.ty ≤ n) (hrc : ∀ a ∈ l, a.rc = true → a.dom.length ≤ 60 ∧ (∀ x ∈ a.dom, okT x ∧ nodes x ≤ n) ∧ (∀ x ∈ a.idx, okT x ∧ nodes x ≤ n) ∧ 0 ≤ a.sort ∧ ∃ so, b.sorts[a.sort.toNat]? = some so ∧ a.idx.length = so.idx.length) :
    Pure Tryz.prog n_posit_row [eBl b, .int .i64 base, eArs l, .int .i64 cons] [.bool (rowF n b base l cons)] := by
  refine p_posit_row rfl fun hs => ?_
  generalize hV : rowF n b base l cons = V
  have hVt : (∀ (i : Nat) (hi : i < l.length), argF n b base l cons i l[i] = true) → V = true := fun h => by
    rw [← hV]
    exact (allI_iff _ _ _).2 fun j hj => by simp only [Nat.zero_add]; exact h j hj
  have hVf : ∀ (i : Nat) (hi : i < l.length), argF n b base l cons i l[i] = false → V = false := fun i hi h => by
    rw [← hV, Bool.eq_false_iff]
    intro h2
    have := (allI_iff _ _ _).1 h2 i hi
    simp only [Nat.zero_add] at this
    rw [h] at this
    cases this
  simp -dsimp [x_posit_row, eBl, cBl, eArs]
  refine wp_upto l.length (fun i st => st.s 1 = .d (.int .i64 base) ∧ st.s 2 = .d (eArs l) ∧ st.s 3 = .d (.int .i64 cons) ∧ st.s 4 = .ptr 4 1 0 ∧ st.s 14 = .d (eArs l) ∧ st.s 15 = .d (.int .i64 l.length) ∧ st.s 16 = .d (.int .i64 i) ∧
    st.h 4 = ⟨1, .box [.d (eSos b.sorts), .d (eCos b.cons), .d (.int .i64 b.elim)] false⟩ ∧ ∀ (j : Nat) (hj : j < l.length), j < i → argF n b base l cons j l[j] = true) ?_ ?_
  · simp -dsimp [eArs]
  · rintro i ⟨s, hp⟩ hi ⟨g1, g2, g3, g4, g14, g15, g16, k4, g⟩
    dsimp only at g1 g2 g3 g4 g14 g15 g16 k4
    simp only [eArs] at g2 g14
    rcases Nat.lt_or_ge i l.length with hlt | hge
    · have w1 : IntKind.i64.wrap ((i : Int) + 1) = (i : Int) + 1 := wrap_id (by omega) (by omega)
      have hile : i ≤ l.length := hi
      have hcv := hVf i hlt
      have hmem := List.getElem_mem hlt
      have h1 := hty _ hmem
      have h2 := hrc _ hmem
      have hfi : ∀ h : argF n b base l cons i l[i] = true, ∀ (j : Nat) (hj : j < l.length), j < i + 1 → argF n b base l cons j l[j] = true := fun h j hj hji => by
        rcases Nat.lt_or_ge j i with h' | h'
        · exact g j hj h'
        · have : j = i := by omega
          subst this
          exact h
      generalize hAr : l[i] = R at *
      simp -dsimp [g1, g2, g3, g4, g14, g15, g16, k4, hlt, hile, hAr, eAr, cAr, cT]
      cases hr : R.rc with
      | false =>
        obtain ⟨o1, o2⟩ := h1 hr
        have hC := clean_ok n hN ⟨b, base, l.take i, 0⟩ R.ty (by simp) (by simp; omega) (by simp; omega) hsl o1 o2
        have hAF : argF n b base l cons i R = cleanF n ⟨b, base, l.take i, 0⟩ R.ty := by rw [argF, hr, if_neg (by simp)]
        rw [hAF] at hcv hfi
        simp only [cPl, cBl, cT, eArs, List.cons_append, List.nil_append, List.map_take] at hC
        simp -dsimp [g1, g2, g3, g4, g14, g15, g16, k4, hlt, hile, hAr, eAr, cAr, cT, hr]
        refine call_of hC ?_
        cases hc : cleanF n ⟨b, base, l.take i, 0⟩ R.ty with
        | false => simp -dsimp [g1, g2, g3, g4, g14, g15, g16, k4, hlt, hile, hAr, eAr, cAr, cT, hr, hcv hc]
        | true =>
          have hnx := hfi hc
          simp -dsimp [g1, g2, g3, g4, g14, g15, g16, k4, hlt, hile, hAr, eAr, cAr, cT, hr, w1, eArs]
          simpa using hnx
      | true =>
        obtain ⟨r1, r2, r3, r4, so, hso, r5⟩ := h2 hr
        have hAF : argF n b base l cons i R = ((allI (fun j d => cleanF n ⟨b, base, l.take i, (j : Int)⟩ d) 0 R.dom) && indF n ⟨b, base, l.take i, (R.dom.length : Int)⟩ so R.idx cons) := by rw [argF, hr, if_pos rfl, hso]
        rw [hAF] at hcv hfi
        simp -dsimp [g1, g2, g3, g4, g14, g15, g16, k4, hlt, hile, hAr, eAr, cAr, cT, hr]
        simp -dsimp [eTs]
        refine wp_upto R.dom.length (fun j st => st.s 1 = .d (.int .i64 base) ∧ st.s 2 = .d (eArs l) ∧ st.s 3 = .d (.int .i64 cons) ∧ st.s 4 = .ptr 4 1 0 ∧ st.s 10 = .ptr 10 ((hp 10).ver + 1) 0 ∧ st.s 11 = .ptr 11 ((hp 11).ver + 1) 0 ∧ st.s 14 = .d (eArs l) ∧ st.s 15 = .d (.int .i64 l.length) ∧ st.s 16 = .d (.int .i64 i) ∧
          st.s 36 = .d (eTs R.dom) ∧ st.s 37 = .d (.int .i64 R.dom.length) ∧ st.s 38 = .d (.int .i64 j) ∧
          st.h 4 = ⟨1, .box [.d (eSos b.sorts), .d (eCos b.cons), .d (.int .i64 b.elim)] false⟩ ∧
          st.h 10 = ⟨(hp 10).ver + 1, .box [.d (.bool true), .d (.int .i64 R.ty.kind), .d (.int .i64 R.ty.num), .d (.sl 3 (R.ty.kids.map eT)), .d (eTs R.dom), .d (.int .i64 R.sort), .d (eTs R.idx)] false⟩ ∧
          st.h 11 = ⟨(hp 11).ver + 1, .box [.d (eSos b.sorts), .d (eCos b.cons), .d (.int .i64 b.elim), .d (.int .i64 base), .d (eArs (l.take i)), .d (.int .i64 0)] false⟩ ∧
          ∀ (q : Nat) (hq : q < R.dom.length), q < j → cleanF n ⟨b, base, l.take i, (q : Int)⟩ R.dom[q] = true) ?_ ?_
        · simp -dsimp [g1, g2, g3, g4, g14, g15, g16, k4, hlt, hile, hAr, eAr, cAr, cT, hr, eArs, eTs]
        · clear g1 g2 g3 g4 g14 g15 g16 k4
          rintro j ⟨s, hq⟩ hj ⟨g1, g2, g3, g4, g10, g11, g14, g15, g16, g36, g37, g38, k4, k10, k11, gd⟩
          dsimp only at g1 g2 g3 g4 g10 g11 g14 g15 g16 g36 g37 g38 k4 k10 k11
          simp only [eTs, eArs] at g2 g14 g36 k11
          rcases Nat.lt_or_ge j R.dom.length with hlt2 | hge2
          · have w2 : IntKind.i64.wrap ((j : Int) + 1) = (j : Int) + 1 := wrap_id (by omega) (by omega)
            obtain ⟨d1, d2⟩ := r2 _ (List.getElem_mem hlt2)
            have hP := pin_ok ⟨b, base, l.take i, 0⟩ (j : Int) (by simp) (by simp) (by omega) (by omega)
            have hC := clean_ok n hN ⟨b, base, l.take i, (j : Int)⟩ R.dom[j] (by simp) (by simp; omega) (by simp; omega) hsl d1 d2
            generalize hX : R.dom[j] = X at *
            simp only [cPl, cBl, cT, eArs, Pl.fwd, Int.zero_add, List.cons_append, List.nil_append, List.map_take] at hP hC
            simp -dsimp [g1, g2, g3, g4, g10, g11, g14, g15, g16, g36, g37, g38, k4, k10, k11, hlt2, hX, cT]
            refine call_of hP ?_
            simp -dsimp [g1, g2, g3, g4, g10, g11, g14, g15, g16, g36, g37, g38, k4, k10, k11, hlt2, hX, cT]
            refine call_of hC ?_
            cases hc : cleanF n ⟨b, base, l.take i, (j : Int)⟩ X with
            | false =>
              have hz : allI (fun j d => cleanF n ⟨b, base, l.take i, (j : Int)⟩ d) 0 R.dom = false := by
                rw [Bool.eq_false_iff]
                intro h
                have := (allI_iff _ _ _).1 h j hlt2
                rw [Nat.zero_add, hX, hc] at this
                cases this
              simp -dsimp [g1, g2, g3, g4, g10, g11, g14, g15, g16, g36, g37, g38, k4, k10, k11, hcv (by rw [hz]; rfl)]
            | true =>
              simp -dsimp [g1, g2, g3, g4, g10, g11, g14, g15, g16, g36, g37, g38, k4, k10, k11, hlt2, hX, cT, w2, eTs, eArs]
              intro q hq' hqj
              rcases Nat.lt_or_ge q j with h' | h'
              · exact gd q hq' h'
              · have : q = j := by omega
                subst this
                rw [hX]; exact hc
          · have ej : j = R.dom.length := by omega
            subst ej
            have hz : allI (fun j d => cleanF n ⟨b, base, l.take i, (j : Int)⟩ d) 0 R.dom = true := (allI_iff _ _ _).2 fun q hq' => by rw [Nat.zero_add]; exact gd q hq' hq'
            rw [hz, Bool.true_and] at hcv hfi
            have hP := pin_ok ⟨b, base, l.take i, 0⟩ (R.dom.length : Int) (by simp) (by simp) (by omega) (by omega)
            have hI := indices_ok n hN ⟨b, base, l.take i, (R.dom.length : Int)⟩ R.sort so r4 hso R.idx cons r5 (by simp) (by simp; omega) (by simp; omega) hsl hcl r3
            simp only [cPl, cBl, cT, eTs, eArs, Pl.fwd, Int.zero_add, List.cons_append, List.nil_append, List.map_take] at hP hI
            simp -dsimp [g1, g2, g3, g4, g10, g11, g14, g15, g16, g36, g37, g38, k4, k10, k11, eTs]
            refine call_of hP ?_
            simp -dsimp [g1, g2, g3, g4, g10, g11, g14, g15, g16, g36, g37, g38, k4, k10, k11, eTs]
            refine call_of hI ?_
            cases hc : indF n ⟨b, base, l.take i, (R.dom.length : Int)⟩ so R.idx cons with
            | false => simp -dsimp [g1, g2, g3, g4, g10, g11, g14, g15, g16, g36, g37, g38, k4, k10, k11, hcv hc]
            | true =>
              have hnx := hfi hc
              simp -dsimp [g1, g2, g3, g4, g10, g11, g14, g15, g16, g36, g37, g38, k4, k10, k11, w1, eArs]
              exact ⟨hlt, hnx⟩
    · have e : i = l.length := by omega
      subst e
      have hz := hVt fun j hj => g j hj hj
      simp -dsimp [g1, g2, g3, g4, g14, g15, g16, k4, hz]
end
end Ev
end Go.Proofs.YtdhfkbdhdgaccaaGreat
/- posit: blocks. -/
namespace Go.Proofs.YtdhfkbdhdgaccaaGreat
namespace Ev
open Go
set_option maxRecDepth 100000
set_option linter.unusedSimpArgs false
set_option linter.unusedVariables false
section
attribute [local simp] allD_map_d sks_map_d tk tn tks initA EndsM one_sos one_cos one_ars one_ts
def sortF (n : Nat) (b : Bl) (base : Int) (so : So) : Bool := rowF n b base so.idx 0 && (!so.dec || cleanF n ⟨b, base, so.idx, 0⟩ so.dty)
def conF (n : Nat) (b : Bl) (base : Int) (c : Nat) (co : Co) : Bool := rowF n b base co.args c && match b.sorts[co.sort.toNat]? with
  | some so => indF n ⟨b, base, co.args, 0⟩ so co.idx c && (!so.dec || cleanF n ⟨b, base, co.args, 0⟩ co.dec)
  | none => false
/-- Is the block positive? -/
def posF (n : Nat) (b : Bl) (base : Int) : Bool := allI (fun _ s => sortF n b base s) 0 b.sorts && allI (fun c x => conF n b base c x) 0 b.cons
def positE (n : Nat) (b : Bl) (base : Int) : Int := if checkB b = 0 then if base < 0 ∨ 65535 < base then 1 else if posF n b base then 0 else 11 else checkB b
/-- What row, indices and clean ask of a right block. -/
structure Ready (n : Nat) (b : Bl) : Prop where
  s : ∀ s ∈ b.sorts, s.idx.length ≤ 1000000
  c : ∀ c ∈ b.cons, c.args.length ≤ 1000000
theorem args_ready {n : Nat} (hn : 9000 ≤ n) {b : Bl} {l : List Ar} (ol : okArs l) (fl : FineArs l) (hr : rowM b l = true) :
    (∀ a ∈ l, a.rc = false → okT a.ty ∧ nodes a.ty ≤ n) ∧ (∀ a ∈ l, a.rc = true → a.dom.length ≤ 60 ∧ (∀ x ∈ a.dom, okT x ∧ nodes x ≤ n) ∧ (∀ x ∈ a.idx, okT x ∧ nodes x ≤ n) ∧ 0 ≤ a.sort ∧ ∃ so, b.sorts[a.sort.toNat]? = some so ∧ a.idx.length = so.idx.length) := by
  refine ⟨fun a ha _ => ⟨(ol.2 a ha).ty, by have := (fl.2 a ha).ty; omega⟩, fun a ha hrc => ?_⟩
  have oa := ol.2 a ha
  have fa := fl.2 a ha
  refine ⟨fa.domL, fun x hx => ⟨oa.dom.2 x hx, ?_⟩, fun x hx => ⟨oa.idx.2 x hx, ?_⟩, ?_⟩
  · have := Nat.le_trans (sum_mem (List.mem_map.2 ⟨x, hx, rfl⟩)) fa.dom; omega
  · have := Nat.le_trans (sum_mem (List.mem_map.2 ⟨x, hx, rfl⟩)) fa.idx; omega
  · rw [rowM] at hr
    split at hr
    · cases hr
    obtain ⟨i, hi, rfl⟩ := List.mem_iff_getElem.1 ha
    have hA := (allI_iff _ _ _).1 hr i hi
    rw [Nat.zero_add, argM, if_pos hrc] at hA
    split at hA
    case isFalse => cases hA
    split at hA
    · cases hA
    split at hA
    · cases hA
    split at hA
    · cases hA
    rename_i so hso
    split at hA
    case isFalse => cases hA
    rename_i hlen
    exact ⟨by omega, so, hso, by omega⟩
theorem con_parts {b : Bl} {c : Co} (h : conM b c = true) : rowM b c.args = true ∧ 0 ≤ c.sort ∧ ∃ so, b.sorts[c.sort.toNat]? = some so ∧ c.idx.length = so.idx.length := by
  rw [conM] at h
  split at h
  · cases h
  split at h
  case isFalse => cases h
  rename_i h1
  split at h
  · cases h
  rename_i so hso
  split at h
  case isFalse => cases h
  exact ⟨h1, by omega, so, hso, by omega⟩
theorem sort_row {b : Bl} {k : Nat} {s : So} (h : sortM b k s = true) : rowM b s.idx = true := by
  rw [sortM] at h
  split at h
  · assumption
  · cases h
theorem posit_ok (n : Nat) (hn : 9000 ≤ n) (hN : n ≤ 1000000) (b : Bl) (ob : okBl b) (fb : FineBl b) (base : Int) : Pure Tryz.prog n_posit_Check [eBl b, .int .i64 base] [.int .i64 (positE n b base)] := by
  refine p_posit_Check rfl fun hs => ?_
  have hC := checkB_ok b
  have hbs := fb.s
  have hbc := fb.c
  have hsl : ∀ s ∈ b.sorts, s.idx.length ≤ 1000000 := fun s hs => by have := (fb.sorts s hs).idx.1; omega
  have hcl : ∀ c ∈ b.cons, c.args.length ≤ 1000000 := fun c hc => by have := (fb.cons c hc).args.1; omega
  simp only [eBl, cBl] at hC
  generalize hE : positE n b base = E
  simp -dsimp [x_posit_Check, eBl, cBl]
  refine call_of hC ?_
  by_cases hz : checkB b = 0
  case neg =>
    rw [positE, if_neg hz] at hE
    simp -dsimp [hz, ← hE]
  rw [positE, if_pos hz] at hE
  obtain ⟨z1, z4, z8, zl, zs, zc⟩ := (checkB_zero b).1 hz
  simp -dsimp [hz]
  by_cases b1 : base < 0
  · rw [if_pos (.inl b1)] at hE
    simp -dsimp [b1, ← hE]
  by_cases b2 : 65535 < base
  · rw [if_pos (.inr b2)] at hE
    simp -dsimp [b1, b2, ← hE]
  rw [if_neg (by omega)] at hE
  simp -dsimp [b1, b2, eSos]
  have hbad : posF n b base = false → E = 11 := fun h => by rw [← hE, h]; rfl
  have hgood : posF n b base = true → E = 0 := fun h => by rw [← hE, h]; rfl
  have hbs1 : ∀ (i : Nat) (hi : i < b.sorts.length), sortF n b base b.sorts[i] = false → E = 11 := fun i hi h => hbad (by
    rw [posF, Bool.and_eq_false_iff]
    refine .inl (Bool.eq_false_iff.2 fun h2 => ?_)
    have := (allI_iff _ _ _).1 h2 i hi
    rw [h] at this
    cases this)
  have hbc1 : ∀ (i : Nat) (hi : i < b.cons.length), conF n b base i b.cons[i] = false → E = 11 := fun i hi h => hbad (by
    rw [posF, Bool.and_eq_false_iff]
    refine .inr (Bool.eq_false_iff.2 fun h2 => ?_)
    have := (allI_iff _ _ _).1 h2 i hi
    rw [Nat.zero_add, h] at this
    cases this)
  refine wp_upto b.sorts.length (fun i st => st.s 1 = .d (.int .i64 base) ∧ st.s 2 = .ptr 2 1 0 ∧ st.s 26 = .d (eSos b.sorts) ∧ st.s 27 = .d (.int .i64 b.sorts.length) ∧ st.s 28 = .d (.int .i64 i) ∧
    st.h 2 = ⟨1, .box [.d (eSos b.sorts), .d (eCos b.cons), .d (.int .i64 b.elim)] false⟩ ∧ ∀ (j : Nat) (hj : j < b.sorts.length), j < i → sortF n b base b.sorts[j] = true) ?_ ?_
  · simp -dsimp [eSos]
  · rintro i ⟨s, hp⟩ hi ⟨g1, g2, g26, g27, g28, k2, g⟩
    dsimp only at g1 g2 g26 g27 g28 k2
    simp only [eSos] at g26
    rcases Nat.lt_or_ge i b.sorts.length with hlt | hge
    · have w1 : IntKind.i64.wrap ((i : Int) + 1) = (i : Int) + 1 := wrap_id (by omega) (by omega)
      have hcv := hbs1 i hlt
      have hmem := List.getElem_mem hlt
      have os := ob.sorts _ hmem
      have fs := fb.sorts _ hmem
      obtain ⟨q1, q2⟩ := args_ready (b := b) hn os.idx fs.idx (sort_row (zs i hlt))
      have hfi : sortF n b base b.sorts[i] = true → ∀ (j : Nat) (hj : j < b.sorts.length), j < i + 1 → sortF n b base b.sorts[j] = true := fun h j hj hji => by
        rcases Nat.lt_or_ge j i with h' | h'
        · exact g j hj h'
        · have : j = i := by omega
          subst this
          exact h
      generalize hS : b.sorts[i] = S at *
      have hR := row_ok8 n hN b base S.idx 0 (by have := fs.idx.1; omega) hsl hcl q1 q2
      have hD := clean_ok n hN ⟨b, base, S.idx, 0⟩ S.dty (by simp) (by have := fs.dty; simp; omega) (by have := fs.idx.1; simp; omega) hsl os.dty (by have := fs.dty; omega)
      simp only [cPl, cBl, eBl, cT, eArs, List.cons_append, List.nil_append] at hR hD
      simp -dsimp [g1, g2, g26, g27, g28, k2, hlt, hS, eSo, cSo, cT, eArs]
      refine call_of hR ?_
      cases hr : rowF n b base S.idx 0 with
      | false =>
        have hw := hcv (by rw [sortF, hr]; rfl)
        simp -dsimp [g1, g2, g26, g27, g28, k2, hlt, hS, eSo, cSo, cT, eArs, hw]
      | true =>
        cases hd : S.dec with
        | false =>
          have hnx := hfi (by rw [sortF, hr, hd]; rfl)
          simp -dsimp [g1, g2, g26, g27, g28, k2, hlt, hS, eSo, cSo, cT, eArs, hd, w1, eSos]
          exact hnx
        | true =>
          simp -dsimp [g1, g2, g26, g27, g28, k2, hlt, hS, eSo, cSo, cT, eArs, hd]
          refine call_of hD ?_
          cases hc : cleanF n ⟨b, base, S.idx, 0⟩ S.dty with
          | false =>
            have hw := hcv (by rw [sortF, hr, hd, hc]; rfl)
            simp -dsimp [g1, g2, g26, g27, g28, k2, hlt, hS, eSo, cSo, cT, eArs, hd, hw]
          | true =>
            have hnx := hfi (by rw [sortF, hr, hd, hc]; rfl)
            simp -dsimp [g1, g2, g26, g27, g28, k2, hlt, hS, eSo, cSo, cT, eArs, hd, w1, eSos]
            exact hnx
    · have e : i = b.sorts.length := by omega
      subst e
      have hzs : allI (fun _ s => sortF n b base s) 0 b.sorts = true := (allI_iff _ _ _).2 fun j hj => g j hj hj
      simp -dsimp [g1, g2, g26, g27, g28, k2, eCos]
      refine wp_upto b.cons.length (fun i st => st.s 1 = .d (.int .i64 base) ∧ st.s 2 = .ptr 2 1 0 ∧ st.s 56 = .d (eCos b.cons) ∧ st.s 57 = .d (.int .i64 b.cons.length) ∧ st.s 58 = .d (.int .i64 i) ∧
        st.h 2 = ⟨1, .box [.d (eSos b.sorts), .d (eCos b.cons), .d (.int .i64 b.elim)] false⟩ ∧ ∀ (j : Nat) (hj : j < b.cons.length), j < i → conF n b base j b.cons[j] = true) ?_ ?_
      · simp -dsimp [eSos, eCos, g1, g2, k2]
      · clear g1 g2 g26 g27 g28 k2
        rintro i ⟨s, hp⟩ hi ⟨g1, g2, g56, g57, g58, k2, g⟩
        dsimp only at g1 g2 g56 g57 g58 k2
        simp only [eCos] at g56
        rcases Nat.lt_or_ge i b.cons.length with hlt | hge
        · have w1 : IntKind.i64.wrap ((i : Int) + 1) = (i : Int) + 1 := wrap_id (by omega) (by omega)
          have hcv := hbc1 i hlt
          have hmem := List.getElem_mem hlt
          have os := ob.cons _ hmem
          have fs := fb.cons _ hmem
          obtain ⟨hrow, c0, so, hso, hil⟩ := con_parts (zc _ hmem)
          obtain ⟨q1, q2⟩ := args_ready (b := b) hn os.args fs.args hrow
          have hsolt := (List.getElem?_eq_some_iff.1 hso).1
          have hso' := (List.getElem?_eq_some_iff.1 hso).2
          have hfi : conF n b base i b.cons[i] = true → ∀ (j : Nat) (hj : j < b.cons.length), j < i + 1 → conF n b base j b.cons[j] = true := fun h j hj hji => by
            rcases Nat.lt_or_ge j i with h' | h'
            · exact g j hj h'
            · have : j = i := by omega
              subst this
              exact h
          generalize hS : b.cons[i] = S at *
          have hR := row_ok8 n hN b base S.args (i : Int) (by have := fs.args.1; omega) hsl hcl q1 q2
          have hI := indices_ok n hN ⟨b, base, S.args, 0⟩ S.sort so c0 hso S.idx (i : Int) hil (by simp) (by simp) (by have := fs.args.1; simp; omega) hsl hcl (fun x hx => ⟨os.idx.2 x hx, by have := Nat.le_trans (sum_mem (List.mem_map.2 ⟨x, hx, rfl⟩)) fs.idx; omega⟩)
          have hD := clean_ok n hN ⟨b, base, S.args, 0⟩ S.dec (by simp) (by have := fs.dec; simp; omega) (by have := fs.args.1; simp; omega) hsl os.dec (by have := fs.dec; omega)
          simp only [cPl, cBl, eBl, cT, eTs, eArs, List.cons_append, List.nil_append] at hR hI hD
          have hF : conF n b base i S = (rowF n b base S.args i && (indF n ⟨b, base, S.args, 0⟩ so S.idx i && (!so.dec || cleanF n ⟨b, base, S.args, 0⟩ S.dec))) := by rw [conF, hso]
          simp -dsimp [g1, g2, g56, g57, g58, k2, hlt, hS, eCo, cCo, cT, eArs]
          refine call_of hR ?_
          cases hr : rowF n b base S.args i with
          | false =>
            have hw := hcv (by rw [hF, hr]; rfl)
            simp -dsimp [g1, g2, g56, g57, g58, k2, hlt, hS, eCo, cCo, cT, eArs, hw]
          | true =>
            simp -dsimp [g1, g2, g56, g57, g58, k2, hlt, hS, eCo, cCo, cT, eArs, eTs]
            refine call_of hI ?_
            cases hii : indF n ⟨b, base, S.args, 0⟩ so S.idx i with
            | false =>
              have hw := hcv (by rw [hF, hr, hii]; rfl)
              simp -dsimp [g1, g2, g56, g57, g58, k2, hlt, hS, eCo, cCo, cT, eArs, hw]
            | true =>
              cases hd : so.dec with
              | false =>
                have hnx := hfi (by rw [hF, hr, hii, hd]; rfl)
                simp -dsimp [g1, g2, g56, g57, g58, k2, hlt, hS, eCo, cCo, cT, eArs, eSos, eTs, c0, hso, hsolt, hso', eSo, cSo, hd, w1]
                exact ⟨rfl, hnx⟩
              | true =>
                simp -dsimp [g1, g2, g56, g57, g58, k2, hlt, hS, eCo, cCo, cT, eArs, eSos, eTs, c0, hso, hsolt, hso', eSo, cSo, hd]
                refine call_of hD ?_
                cases hc : cleanF n ⟨b, base, S.args, 0⟩ S.dec with
                | false =>
                  have hw := hcv (by rw [hF, hr, hii, hd, hc]; rfl)
                  simp -dsimp [g1, g2, g56, g57, g58, k2, hlt, hS, eCo, cCo, cT, eArs, eSos, eTs, c0, hso, hsolt, hso', eSo, cSo, hd, hw]
                | true =>
                  have hnx := hfi (by rw [hF, hr, hii, hd, hc]; rfl)
                  simp -dsimp [g1, g2, g56, g57, g58, k2, hlt, hS, eCo, cCo, cT, eArs, eSos, eTs, c0, hso, hsolt, hso', eSo, cSo, hd, w1]
                  exact ⟨rfl, hnx⟩
        · have e : i = b.cons.length := by omega
          subst e
          have hzc : allI (fun c x => conF n b base c x) 0 b.cons = true := (allI_iff _ _ _).2 fun j hj => by rw [Nat.zero_add]; exact g j hj hj
          have hw := hgood (by rw [posF, hzs, hzc]; rfl)
          simp -dsimp [g1, g2, g56, g57, g58, k2, hw]
end
end Ev
end Go.Proofs.YtdhfkbdhdgaccaaGreat
/- posit: a block with its last constructors left out. -/
namespace Go.Proofs.YtdhfkbdhdgaccaaGreat
namespace Ev
open Go
set_option maxRecDepth 100000
set_option linter.unusedSimpArgs false
set_option linter.unusedVariables false
structure Few (b b' : Bl) (base : Int) (m : Int) : Prop where
  s : b'.sorts = b.sorts
  h0 : ∀ c, n64 c → (ofM b base c).1 = 0 → (ofM b' base c).1 = 0
  h4 : ∀ c, n64 c → (ofM b base c).1 = 4 → ofM b' base c = ofM b base c
  h5 : ∀ c, n64 c → (ofM b base c).1 = 5 → (ofM b base c).2 < m → ofM b' base c = ofM b base c
  c : ∀ j : Nat, (j : Int) < m → b'.cons[j]? = b.cons[j]?
theorem of_five {b : Bl} {base n : Int} (h : (ofM b base n).1 = 5) : ∃ k : Nat, k < b.cons.length ∧ constructor_ b base k = n ∧ ofM b base n = (5, (k : Int)) := by
  have h0 := h
  rw [ofM] at h
  split at h
  · cases h
  rename_i hc
  cases hs : seek n (tab b base) with
  | none => rw [hs] at h; cases h
  | some q =>
    obtain ⟨e, he, k, hk, hn, rfl⟩ := seek_some hs
    rw [hs] at h
    simp only [Option.getD_some] at h
    have e0 : ofM b base n = (e.kind, (k : Int)) := by rw [ofM, if_neg hc, hs]; rfl
    rw [h] at e0
    simp only [tab, List.mem_cons, List.not_mem_nil, or_false] at he
    rcases he with rfl | rfl | rfl | rfl
    · cases h
    · cases h
    · exact ⟨k, hk, hn, e0⟩
    · cases h
theorem tab_kind {b : Bl} {base : Int} {e : En} (h : e ∈ tab b base) : e.kind ≠ 0 := by
  simp only [tab, List.mem_cons, List.not_mem_nil, or_false] at h
  rcases h with rfl | rfl | rfl | rfl
  · show (3 : Int) ≠ 0; decide
  · show (4 : Int) ≠ 0; decide
  · show (5 : Int) ≠ 0; decide
  · show (6 : Int) ≠ 0; decide
end Ev
end Go.Proofs.YtdhfkbdhdgaccaaGreat
/- sig: formers', constructors', decoders' types. -/
namespace Go.Proofs.YtdhfkbdhdgaccaaGreat
namespace Ev
open Go
set_option maxRecDepth 100000
set_option linter.unusedSimpArgs false
set_option linter.unusedVariables false
attribute [local simp] allD_map_d sks_map_d tk tn tks one_sos one_cos one_ars one_ts

theorem okT_of_formed {t : T} : formedM t = true → okT t := by
  refine T.ind (p := fun t => formedM t = true → okT t) ?_ t
  intro k n ks ih h
  have hk := kids_formed h
  have hs := slim_of _ h
  have hl := hs.kids.1
  have h1 := h
  rw [formedM_is] at h1
  have hkb : 0 ≤ k ∧ k ≤ 13 := by
    split at h1
    · rename_i hl'
      have : ¬ kidsM k < 0 := by omega
      rw [kidsM] at this
      by_cases hi : isM k = true
      · simp only [isM, Bool.and_eq_true, decide_eq_true_eq] at hi
        omega
      · repeat' split at this
        all_goals omega
    · cases h1
  have hnb : n64 n := by
    split at h1
    · split at h1
      · rw [Bool.and_eq_true] at h1
        have := (inB_iff n 0 65535).1 h1.1
        exact ⟨by omega, by omega⟩
      · split at h1
        · rename_i h0
          subst h0
          exact ⟨by omega, by omega⟩
        · cases h1
    · cases h1
  exact .mk k n ks ⟨by omega, by omega⟩ hnb (by omega) fun x hx => ih x hx (hk x hx)
def rightT (t : T) : T := if checkM t = 0 then t else zT
theorem args_okTs (b : Bl) (base : Int) {l : List Ar} (h : okArs l) (hf : FineArs l) : okTs (l.map (argTy b base)) :=
  okTs_of (by have := hf.1; simp; omega) fun x hx => by
    obtain ⟨a, ha, rfl⟩ := List.mem_map.1 hx
    exact argTy_okT b base (h.2 a ha)
theorem vars_is (n : Nat) (h : n ≤ 60) : Pure Tryz.prog n_tele_Vars [.int .i64 n] [eTs (varsN n)] := by
  have h1 := vars_ok n
  have hV : varsT n = varsN n := by
    rw [varsT]
    split
    · have : n = 0 := by omega
      subst this
      rfl
    · rfl
  rw [hV] at h1
  exact h1
theorem varsN_okTs (n : Nat) (h : n ≤ 60) : okTs (varsN n) := ⟨by rw [varsN_len]; omega, fun x hx => by
  obtain ⟨q, hq, rfl⟩ := varsN_mem hx
  exact okT_leaf (by omega) (by omega)⟩
end Ev
end Go.Proofs.YtdhfkbdhdgaccaaGreat
/- sig, in plain terms: what is told of a right block is formed, and closed. -/
namespace Go.Proofs.YtdhfkbdhdgaccaaGreat
namespace Ev
open Go
set_option maxRecDepth 100000
set_option linter.unusedSimpArgs false
set_option linter.unusedVariables false
attribute [local simp] allD_map_d sks_map_d tk tn tks one_sos one_cos one_ars one_ts

theorem argM_plain {b : Bl} {a : Ar} {i : Int} (h : argM b a i = true) (hr : a.rc = false) : inM a.ty i = true := by
  rw [argM, hr] at h
  simp only [Bool.false_eq_true, if_false] at h
  split at h
  · assumption
  · cases h
theorem argM_rec {b : Bl} {a : Ar} {i : Int} (h : argM b a i = true) (hr : a.rc = true) (h0 : 0 ≤ i) (h1 : i ≤ 1000) : noneM a.ty = true ∧ 0 ≤ a.sort ∧ a.sort < b.sorts.length ∧ a.dom.length ≤ 12 ∧
    (∃ s, b.sorts[a.sort.toNat]? = some s ∧ a.idx.length = s.idx.length) ∧ (∀ (j : Nat) (hj : j < a.dom.length), inM a.dom[j] (i + j) = true) ∧ ∀ x ∈ a.idx, inM x (i + a.dom.length) = true := by
  rw [argM, hr] at h
  simp only [if_true] at h
  split at h
  · rename_i hn
    split at h
    · cases h
    · rename_i hd
      split at h
      · cases h
      · rename_i hs
        split at h
        · cases h
        · rename_i s hs2
          split at h
          · rename_i hl
            rw [Bool.and_eq_true] at h
            have hlt := (List.getElem?_eq_some_iff.1 hs2).1
            refine ⟨hn, by omega, by omega, by omega, ⟨s, hs2, by omega⟩, fun j hj => ?_, fun x hx => ?_⟩
            · have := (allI_iff _ _ 0).1 h.1 j hj
              rw [Nat.zero_add, w64_id (by omega) (by omega)] at this
              exact this
            · have h2 := h.2
              rw [w64_id (by omega) (by omega), allM, Bool.not_eq_true', List.any_eq_false] at h2
              have := h2 x hx
              simpa using this
          · cases h
  · cases h
theorem in_facts {t : T} {v : Int} (h : inM t v = true) (h0 : 0 ≤ v) (h1 : v ≤ 60000) (hn : nodes t ≤ 1048576) : wiT t v 65536 = true ∧ formedM t = true ∧ checkM t = 0 := by
  obtain ⟨h2, h3⟩ := (scope_is2 h0 (by omega) (by omega)).1 h
  exact ⟨h3, formed_of h2, h2⟩
theorem fmT_is {b : Bl} (hf : Fit b) {base k : Int} (h0 : 0 ≤ base) (h1 : base ≤ 60000) (k0 : 0 ≤ k) (k1 : k < b.sorts.length) : fmT b base k = tC (base + k) := by
  have hs := hf.s
  have e : former b base k = base + k := by rw [former_is hf h0 (by omega), if_pos ⟨k0, k1⟩]
  rw [fmT, e]
  split
  · rfl
  · rw [show base + k = 0 by omega]
theorem tC_formed {n : Int} (h : 0 ≤ n ∧ n ≤ 65535) : formedM (tC n) = true := leaf_formed (.inr rfl) h
theorem tC_wi {n v c : Int} (h : n < c) : wiT (tC n) v c = true := by simp [tC, wiT, h]
theorem nest_formed4 (l : List T) (t : T) (hl : ∀ x ∈ l, formedM x = true) (ht : formedM t = true) : formedM (nestT 4 l t) = true := by
  induction l with
  | nil => exact ht
  | cons a l ih =>
    show formedM (.mk 4 0 [a, nestT 4 l t]) = true
    rw [formedM_is]
    have h0 : kidsM 4 = 2 := rfl
    rw [h0]
    simp [hl a (by simp), ih fun x hx => hl x (by simp [hx])]
theorem sum_mem' {l : List T} {x : T} (h : x ∈ l) : nodes x ≤ (l.map nodes).sum := sum_mem (List.mem_map.2 ⟨x, h, rfl⟩)
theorem argTy_right {b : Bl} (hf : Fit b) {base : Int} (h0 : 0 ≤ base) (h1 : base ≤ 60000) {a : Ar} (fa : FineAr a) {i : Nat} (hi : i ≤ 1000) (h : argM b a i = true) : wiT (argTy b base a) i 65536 = true ∧ formedM (argTy b base a) = true := by
  have hfs := hf.s
  rw [argTy]
  split
  · rename_i hr
    obtain ⟨_, s0, s1, d1, _, hd, hx⟩ := argM_rec h hr (by omega) (by omega)
    rw [fmT_is hf h0 h1 s0 s1]
    have hd' : ∀ (j : Nat) (hj : j < a.dom.length), wiT a.dom[j] (i + j) 65536 = true ∧ formedM a.dom[j] = true := fun j hj => by
      obtain ⟨q1, q2, _⟩ := in_facts (hd j hj) (by omega) (by omega) (by have := sum_mem' (List.getElem_mem hj); have := fa.dom; omega)
      exact ⟨q1, q2⟩
    have hx' : ∀ x ∈ a.idx, wiT x (i + a.dom.length) 65536 = true ∧ formedM x = true := fun x hm => by
      obtain ⟨q1, q2, _⟩ := in_facts (hx x hm) (by omega) (by omega) (by have := sum_mem' hm; have := fa.idx; omega)
      exact ⟨q1, q2⟩
    refine ⟨nest_wi (.inl rfl) _ _ _ (fun j hj => (hd' j hj).1) ?_, nest_formed4 _ _ (fun x hm => ?_) (sp_formed _ _ (tC_formed (by omega)) fun x hm => (hx' x hm).2)⟩
    · rw [sp_wi, tC_wi (by omega), Bool.true_and, List.all_eq_true]
      exact fun x hm => (hx' x hm).1
    · obtain ⟨j, hj, rfl⟩ := List.mem_iff_getElem.1 hm
      exact (hd' j hj).2
  · rename_i hr
    have hr' : a.rc = false := by cases h' : a.rc <;> simp_all
    obtain ⟨q1, q2, _⟩ := in_facts (argM_plain h hr') (by omega) (by omega) (by have := fa.ty; omega)
    exact ⟨q1, q2⟩
theorem argTy_nodes {b : Bl} {base : Int} {a : Ar} (fa : FineAr a) : nodes (argTy b base a) ≤ 20000 := by
  have h1 := fa.ty
  have h2 := fa.dom
  have h3 := fa.domL
  have h4 := fa.idx
  have h5 := fa.idxL
  rw [argTy]
  split
  · rw [nest_nodes, sp_nodes', fmT, tC, leaf_nodes]
    omega
  · omega
theorem rowM_at {b : Bl} {l : List Ar} (h : rowM b l = true) : l.length ≤ 12 ∧ ∀ (j : Nat) (hj : j < l.length), argM b l[j] j = true := by
  rw [rowM] at h
  split at h
  · cases h
  · refine ⟨by omega, fun j hj => ?_⟩
    have := (allI_iff _ _ 0).1 h j hj
    rwa [Nat.zero_add] at this
end Ev
end Go.Proofs.YtdhfkbdhdgaccaaGreat
/- disp: displayed telescopes; what stands where, terms put. -/
namespace Go.Proofs.YtdhfkbdhdgaccaaGreat
namespace Ev
open Go
set_option maxRecDepth 100000
set_option linter.unusedSimpArgs false
set_option linter.unusedVariables false
section
attribute [local simp] allD_map_d sks_map_d tk tn tks initA EndsM one_sos one_cos one_ars one_ts
structure Vw where
  b : Bl
  base : Int
  args : List Ar
  pos : List Int
  fin : Int
def cVw (v : Vw) : List D := cBl v.b ++ [.int .i64 v.base, eArs v.args, .sl 1 (v.pos.map (.int .i64)), .int .i64 v.fin]
def posL : Int → List Ar → List Int
  | _, [] => []
  | e, a :: l => e :: posL (if a.rc then e + 2 else e + 1) l
def finL : Int → List Ar → Int
  | e, [] => e
  | e, a :: l => finL (if a.rc then e + 2 else e + 1) l
theorem fin_snoc : ∀ (l : List Ar) (e : Int) (i : Nat) (h : i < l.length), finL e (l.take (i + 1)) = if l[i].rc then finL e (l.take i) + 2 else finL e (l.take i) + 1
  | a :: l, e, 0, h => by simp [finL]
  | a :: l, e, i + 1, h => by
    simp only [List.take_succ_cons, finL, List.getElem_cons_succ]
    exact fin_snoc l _ i (by simpa using h)
theorem pos_snoc : ∀ (l : List Ar) (e : Int) (i : Nat) (_ : i < l.length), posL e (l.take (i + 1)) = posL e (l.take i) ++ [finL e (l.take i)]
  | a :: l, e, 0, h => by simp [posL, finL]
  | a :: l, e, i + 1, h => by
    simp only [List.take_succ_cons, posL, finL, List.cons_append]
    rw [pos_snoc l _ i (by simpa using h)]
theorem pos_len : ∀ (l : List Ar) (e : Int), (posL e l).length = l.length
  | [], e => rfl
  | a :: l, e => by rw [posL, List.length_cons, pos_len l, List.length_cons]
theorem fin_le : ∀ (l : List Ar) (e : Int), e ≤ finL e l ∧ finL e l ≤ e + 2 * l.length
  | [], e => by simp [finL]
  | a :: l, e => by
    have h := fin_le l (if a.rc then e + 2 else e + 1)
    rw [finL]
    simp only [List.length_cons]
    split <;> rename_i hr <;> simp only [hr, if_true, if_false, Bool.false_eq_true] at h <;> omega
theorem show_ok (b : Bl) (base from_ : Int) (l : List Ar) (hl : l.length ≤ 20) (h0 : 0 ≤ from_) (h1 : from_ ≤ 1000) : Pure Tryz.prog n_disp_show [eBl b, .int .i64 base, eArs l, .int .i64 from_] [.rp (cVw ⟨b, base, l, posL from_ l, finL from_ l⟩)] := by
  refine p_disp_show rfl fun hs => ?_
  simp -dsimp [x_disp_show, eBl, cBl, eArs, cVw]
  refine wp_upto l.length (fun i st => st.s 18 = .d (eArs l) ∧ st.s 19 = .d (.int .i64 l.length) ∧ st.s 20 = .d (.int .i64 i) ∧ st.s 9 = .ptr 17 1 0 ∧ ∃ c, st.h 17 = ⟨1, .box [.d (eSos b.sorts), .d (eCos b.cons), .d (.int .i64 b.elim), .d (.int .i64 base), .d (eArs l), c, .d (.int .i64 (finL from_ (l.take i)))] false⟩ ∧
    ((i = 0 ∧ c = .fsl 1 []) ∨ (0 < i ∧ ∃ v, c = .rsl 34 v ∧ st.h 34 = ⟨v, .row 1 ((posL from_ (l.take i)).map (.int .i64)) false⟩))) ?_ ?_
  · simp -dsimp [eArs, finL]
  · rintro i ⟨s, hp⟩ hi ⟨g18, g19, g20, g9, c, k17, k34⟩
    dsimp only at g18 g19 g20 g9 k17 k34
    simp only [eArs] at g18 k17
    rcases Nat.lt_or_ge i l.length with hlt | hge
    · have w1 : IntKind.i64.wrap ((i : Int) + 1) = (i : Int) + 1 := wrap_id (by omega) (by omega)
      have hfl := fin_le (l.take i) from_
      rw [List.length_take] at hfl
      have hfs := fin_snoc l from_ i hlt
      have hps := pos_snoc l from_ i hlt
      have hpl := pos_len (l.take i) from_
      rw [List.length_take] at hpl
      generalize finL from_ (l.take (i + 1)) = F' at *
      generalize finL from_ (l.take i) = F at *
      generalize posL from_ (l.take (i + 1)) = P' at *
      generalize posL from_ (l.take i) = P at *
      subst hps
      generalize hR : l[i] = R at *
      have w2 : IntKind.i64.wrap (F + 1) = F + 1 := wrap_id (by omega) (by omega)
      have w3 : IntKind.i64.wrap (F + 1 + 1) = F + 2 := by rw [wrap_id (by omega) (by omega)]; omega
      have hr : (P.length + 1) * 8 ≤ maxRoom := by simp only [maxRoom]; omega
      have hP0 : i = 0 → P = [] := fun h => List.length_eq_zero_iff.1 (by omega)
      rcases k34 with ⟨rfl, rfl⟩ | ⟨hi0, v, rfl, k34⟩
      · have hPn := hP0 rfl
        subst hPn
        have w1' : IntKind.i64.wrap 1 = 1 := by rfl
        cases hrc : R.rc with
        | true =>
          rw [hrc, if_pos rfl] at hfs
          simp -dsimp [g18, g19, g20, g9, k17, hlt, hR, hrc, eAr, cAr, cT, w1', w2, w3, (by decide : 8 ≤ maxRoom), eArs, hfs]
        | false =>
          rw [hrc, if_neg (by simp)] at hfs
          simp -dsimp [g18, g19, g20, g9, k17, hlt, hR, hrc, eAr, cAr, cT, w1', w2, w3, (by decide : 8 ≤ maxRoom), eArs, hfs]
      · cases hrc : R.rc with
        | true =>
          rw [hrc, if_pos rfl] at hfs
          simp -dsimp [g18, g19, g20, g9, k17, k34, hlt, hR, hrc, eAr, cAr, cT, w1, w2, w3, hr, eArs, hfs]
        | false =>
          rw [hrc, if_neg (by simp)] at hfs
          simp -dsimp [g18, g19, g20, g9, k17, k34, hlt, hR, hrc, eAr, cAr, cT, w1, w2, w3, hr, eArs, hfs]
    · have e : i = l.length := by omega
      subst e
      rw [List.take_length] at k17 k34
      rcases k34 with ⟨hz, rfl⟩ | ⟨hi0, v, rfl, k34⟩
      · have hl0 : l = [] := List.length_eq_zero_iff.1 hz
        subst hl0
        simp -dsimp [g18, g19, g20, g9, k17, posL]
      · simp -dsimp [g18, g19, g20, g9, k17, k34]
/-- A level's variable. -/
def lv (l vars : Int) : T := .mk 1 (vars - 1 - l) []
theorem level_ok8 (l vars : Int) (h0 : -1000000 ≤ l) (h1 : l ≤ 1000000) (h2 : -1000000 ≤ vars) (h3 : vars ≤ 1000000) : Pure Tryz.prog n_disp_level [.int .i64 l, .int .i64 vars] [.agg (cT (lv l vars))] := by
  refine p_disp_level rfl fun hs => ?_
  have w1 : IntKind.i64.wrap (vars - 1) = vars - 1 := wrap_id (by omega) (by omega)
  have w2 : IntKind.i64.wrap (vars - 1 - l) = vars - 1 - l := wrap_id (by omega) (by omega)
  have hV := v_ok (vars - 1 - l)
  simp only [cT, tk, tn, tks, List.map_nil] at hV
  simp -dsimp [x_disp_level, w1, w2]
  refine call_of hV ?_
  simp -dsimp [lv, cT]
def putF (pos : List Int) (first : Nat) (more vars n b : Int) : T :=
  if n < more + b ∨ (first : Int) ≤ n - (more + b) then .mk 1 n [] else .mk 1 (vars - 1 - (pos[first - 1 - (n - (more + b)).toNat]?).getD 0 + (more + b)) []
def putT (v : Vw) (t : T) (first : Nat) (more vars : Int) : T := mapT (putF v.pos first more vars) t 0
structure Pos (v : Vw) : Prop where
  len : v.pos.length ≤ 1000
  at_ : ∀ p ∈ v.pos, 0 ≤ p ∧ p ≤ 10000
theorem put1_ok (v : Vw) (hp : Pos v) (first : Nat) (hf : first ≤ v.pos.length) (more vars : Int) (h0 : 0 ≤ more) (h1 : more ≤ 10000) (h2 : 0 ≤ vars) (h3 : vars ≤ 10000) (n b : Int) (hn0 : 0 ≤ n) (hn1 : n ≤ 65535) (hb0 : 0 ≤ b) (hb1 : b ≤ 1099511627776) :
    Pure Tryz.prog n_disp_view_put_1 [.int .i64 n, .int .i64 b, .rp [.int .i64 more], .rp [.int .i64 first], .rp [.rp (cVw v)], .rp [.int .i64 vars]] [.agg (cT (putF v.pos first more vars n b))] := by
  refine p_disp_view_put_1 rfl fun hs => ?_
  have hpl := hp.len
  have w1 : IntKind.i64.wrap (more + b) = more + b := wrap_id (by omega) (by omega)
  have w2 : IntKind.i64.wrap (n - (more + b)) = n - (more + b) := wrap_id (by omega) (by omega)
  have hV1 := v_ok n
  simp only [cT, tk, tn, tks, List.map_nil] at hV1
  simp -dsimp [x_disp_view_put_1, w1]
  by_cases c1 : n < more + b
  · have e : putF v.pos first more vars n b = .mk 1 n [] := by rw [putF, if_pos (.inl c1)]
    rw [e]
    simp -dsimp [c1]
    refine call_of hV1 ?_
    simp -dsimp [cT]
  by_cases c2 : (first : Int) ≤ n - (more + b)
  · have e : putF v.pos first more vars n b = .mk 1 n [] := by rw [putF, if_pos (.inr c2)]
    rw [e]
    simp -dsimp [c1, c2, w2]
    refine call_of hV1 ?_
    simp -dsimp [cT]
  obtain ⟨j, hj⟩ : ∃ j : Nat, (first : Int) - 1 - (n - (more + b)) = j := ⟨((first : Int) - 1 - (n - (more + b))).toNat, by omega⟩
  have hjl : j < v.pos.length := by omega
  have hje : first - 1 - (n - (more + b)).toNat = j := by omega
  have hge : v.pos[j]? = some v.pos[j] := List.getElem?_eq_getElem hjl
  have e : putF v.pos first more vars n b = .mk 1 (vars - 1 - v.pos[j] + (more + b)) [] := by rw [putF, if_neg (by omega), hje, hge]; rfl
  have hpj := hp.at_ _ (List.getElem_mem hjl)
  generalize hP : v.pos[j] = p at *
  rw [e]
  have w3 : IntKind.i64.wrap ((first : Int) - 1) = (first : Int) - 1 := wrap_id (by omega) (by omega)
  have w4 : IntKind.i64.wrap ((first : Int) - 1 - (n - (more + b))) = (j : Int) := by rw [wrap_id (by omega) (by omega), hj]
  have w5 : IntKind.i64.wrap (vars - 1) = vars - 1 := wrap_id (by omega) (by omega)
  have w6 : IntKind.i64.wrap (vars - 1 - p) = vars - 1 - p := wrap_id (by omega) (by omega)
  have w7 : IntKind.i64.wrap (vars - 1 - p + (more + b)) = vars - 1 - p + (more + b) := wrap_id (by omega) (by omega)
  have hV2 := v_ok (vars - 1 - p + (more + b))
  simp only [cT, tk, tn, tks, List.map_nil] at hV2
  simp -dsimp [c1, c2, w2, w3, w4, w5, w6, w7, cVw, cBl, hjl, hge, hP]
  refine call_of hV2 ?_
  simp -dsimp [cT]
theorem put_ok8 (v : Vw) (hp : Pos v) (t : T) (ft : formedM t = true) (hn : nodes t ≤ 1000000) (first : Nat) (hf : first ≤ v.pos.length) (more vars : Int) (h0 : 0 ≤ more) (h1 : more ≤ 10000) (h2 : 0 ≤ vars) (h3 : vars ≤ 10000) :
    Pure Tryz.prog n_disp_view_put [.rp (cVw v), .agg (cT t), .int .i64 first, .int .i64 more, .int .i64 vars] [.agg (cT (putT v t first more vars))] := by
  refine p_disp_view_put rfl fun hs => ?_
  have hM := map_ok (putF v.pos first more vars) n_disp_view_put_1 [.rp [.int .i64 more], .rp [.int .i64 first], .rp [.rp (cVw v)], .rp [.int .i64 vars]] (fun n b hn0 hn1 hb0 hb1 => put1_ok v hp first hf more vars h0 h1 h2 h3 n b hn0 hn1 hb0 hb1) t 0 ft (by omega) (by omega)
  simp only [cVw, cBl, cT, List.cons_append, List.nil_append] at hM
  simp -dsimp [x_disp_view_put, cT, cVw, cBl]
  refine call_of hM ?_
  simp -dsimp [cT, putT]
end
end Ev
end Go.Proofs.YtdhfkbdhdgaccaaGreat
