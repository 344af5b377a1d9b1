/- Texts of this claim, in one. -/
import Derived.Test.YtdhfkbdhdgaccaaGreatSA
import Derived.Test.YtdhfkbdhdgaccaaGreatXs
import Derived.Test.YtdhfkbdhdgaccaaGreatRA
import Derived.Test.YtdhfkbdhdgaccaaGreatXd
namespace Go.Proofs.YtdhfkbdhdgaccaaGreat
namespace Ev
open Go
set_option maxRecDepth 100000
set_option linter.unusedSimpArgs false
set_option linter.unusedVariables false
section
attribute [local simp] zae zaf tk tn tks zb6 zb9
mutual
def mapT (f : Int → Int → T) : T → Int → T
  | .mk k n ks, b => if k = 1 then f n b else .mk k n (mapL f k b 0 ks)
def mapL (f : Int → Int → T) (k b : Int) : Nat → List T → List T
  | _, [] => []
  | i, x :: xs => mapT f x (b + zai k i) :: mapL f k b (i + 1) xs
end
theorem zja (f : Int → Int → T) (k b : Int) : ∀ (l : List T) (i : Nat), (mapL f k b i l).length = l.length
  | [], i => by simp [mapL]
  | x :: xs, i => by simp [mapL, zja f k b xs (i + 1)]
theorem zow (f : Int → Int → T) (k b : Int) : ∀ (l : List T) (i j : Nat) (h : j < l.length), (mapL f k b i l)[j]'(by rw [zja]; exact h) = mapT f l[j] (b + zai k (i + j : Nat))
  | x :: xs, i, 0, h => by simp [mapL]
  | x :: xs, i, j + 1, h => by
    have := zow f k b xs (i + 1) j (by simpa using h)
    simp only [mapL, List.getElem_cons_succ]
    rw [this]
    congr 3
    omega
theorem zJt (f : Int → Int → T) (g : FuncId) (caps : List D) (hf : ∀ n b : Int, 0 ≤ n → n ≤ 65535 → 0 ≤ b → b ≤ 1099511627776 → Pure Tryz.prog g (.int .i64 n :: .int .i64 b :: caps) [.agg (cT (f n b))]) (t : T) : ∀ b : Int, zab t = true → 0 ≤ b → b + zac t ≤ 1099511627776 →
    Pure Tryz.prog zid [.agg (cT t), .int .i64 b, .clo g caps] [.agg (cT (mapT f t b))] := by
  refine T.ind (p := fun t => ∀ b : Int, zab t = true → 0 ≤ b → b + zac t ≤ 1099511627776 → Pure Tryz.prog zid [.agg (cT t), .int .i64 b, .clo g caps] [.agg (cT (mapT f t b))]) ?_ t
  intro k n ks ih b hfm h0 hb
  obtain ⟨hl, _⟩ := (zKn _ hfm).kids
  have hsk := zbm hfm
  refine zGu rfl fun hs => ?_
  simp -dsimp [zsx, cT]
  (first | refine zak ?_ ?_ | refine zaj ?_ ?_) <;> intro h1 <;> (try simp only [nrm] at h1) <;> simp -dsimp [h1]
  · have hn := zc9 h1 hfm
    refine zaa (hf n b hn.1 hn.2 h0 (by omega)) ?_
    rw [mapT, if_pos h1]
    simp -dsimp [h1, cT]
  have hM : mapT f (.mk k n ks) b = .mk k n (mapL f k b 0 ks) := by rw [mapT, if_neg h1]
  rw [hM]
  by_cases hz : ks = []
  · subst hz
    simp -dsimp [h1, mapL]
  simp -dsimp [h1, hz]
  have r1 : (ks.length : Int) * 40 ≤ (zal : Int) := by simp only [zal]; omega
  have r2 : ks.length ≤ zal := by simp only [zal]; omega
  have hll : (mapL f k b 0 ks).length = ks.length := zja f k b ks 0
  simp -dsimp [h1, hz, r1, r2]
  refine zam ks.length (fun i st => st.s 3 = .ptr 3 1 0 ∧ st.h 3 = ⟨1, .box [.d (.int .i64 k), .d (.int .i64 n), .d (.sl 3 (ks.map eT))] false⟩ ∧ st.s 1 = .d (.int .i64 b) ∧ st.s 2 = .d (.clo g caps) ∧
    st.s 6 = .ptr 6 1 0 ∧ st.h 6 = ⟨1, .box [.d (.int .i64 0), .d (.int .i64 0), .fsl 3 []] false⟩ ∧ st.s 7 = .rsl 27 1 ∧ st.s 29 = .d (.sl 3 (ks.map eT)) ∧ st.s 30 = .d (.int .i64 ks.length) ∧ st.s 31 = .d (.int .i64 i) ∧
    st.h 27 = ⟨1, .row 3 (((mapL f k b 0 ks).map eT).take i ++ List.replicate (ks.length - i) (D.agg [.int .i64 0, .int .i64 0, .sl 3 []])) false⟩) ?_ ?_
  · simp -dsimp
  · rintro i ⟨s, hp⟩ hi ⟨g1, g2, g3, g4, g5, g6, g7, g8, g9, g10, g11⟩
    dsimp only at g1 g2 g3 g4 g5 g6 g7 g8 g9 g10 g11
    rcases Nat.lt_or_ge i ks.length with hlt | hge
    · have w1 : IntKind.i64.wrap ((i : Int) + 1) = (i : Int) + 1 := zad (by omega) (by omega)
      have hbl := zdf k i
      have hnk := zcq (k := k) (n := n) (List.getElem_mem hlt : ks[i] ∈ ks)
      have w2 : IntKind.i64.wrap (b + zai k i) = b + zai k i := zad (by omega) (by omega)
      simp -dsimp [g1, g2, g3, g4, g5, g6, g7, g8, g9, g10, g11, hlt, cT]
      refine zaa (zmk k i) ?_
      simp -dsimp [g1, g2, g3, g4, g5, g6, g7, g8, g9, g10, g11, hlt, w2]
      refine zaa (ih ks[i] (List.getElem_mem _) (b + zai k i) (hsk _ (List.getElem_mem _)) (by omega) (by omega)) ?_
      have q1 : (i : Int) < ((min i ks.length : Nat) : Int) + ((ks.length - i : Nat) : Int) := by omega
      have q2 : i < min i ks.length + (ks.length - i) := by omega
      have hle : ((mapL f k b 0 ks).map eT).length = ks.length := by rw [List.length_map, hll]
      have hfn := zxb (l := (mapL f k b 0 ks).map eT) (z := D.agg [.int .i64 0, .int .i64 0, .sl 3 []]) (i := i) (by rw [hle]; exact hlt)
      have hel : ((mapL f k b 0 ks).map eT)[i]'(by rw [hle]; exact hlt) = .agg (cT (mapT f ks[i] (b + zai k i))) := by
        rw [List.getElem_map, zow f k b ks 0 i hlt, zcc, Nat.zero_add]
      rw [hel, hle] at hfn
      simp only [cT] at hfn
      simp -dsimp [g1, g2, g3, g4, g5, g6, g7, g8, g9, g10, g11, hlt, w1, w2, hll, q1, q2, cT, hfn]
    · have e : i = ks.length := by omega
      subst e
      have ht : ((mapL f k b 0 ks).map eT).take ks.length = (mapL f k b 0 ks).map eT := List.take_of_length_le (by rw [List.length_map, hll]; exact Nat.le_refl _)
      rw [ht, Nat.sub_self, List.replicate_zero, List.append_nil] at g11
      simp -dsimp [g1, g2, g3, g4, g5, g6, g7, g8, g9, g10, g11]
def zm4 (y : Int) (t : T) : T := mapT (fun n b => .mk 1 (if b ≤ n then w64 (n + y) else n) []) t 0
theorem zJe (n b y : Int) : Pure Tryz.prog zgx [.int .i64 n, .int .i64 b, .rp [.int .i64 y]] [.agg (cT (.mk 1 (if b ≤ n then w64 (n + y) else n) []))] := by
  refine zvu rfl fun hs => ?_
  simp -dsimp [zj5]
  (first | refine zak ?_ ?_ | refine zaj ?_ ?_) <;> intro h1 <;> (try simp only [nrm] at h1) <;> simp -dsimp [h1, w64]
  · refine zaa (v_ok _) ?_
    simp -dsimp [h1, w64, cT]
  · refine zaa (v_ok _) ?_
    simp -dsimp [h1, cT]
theorem zLq (t : T) (y : Int) (hs : zab t = true) (hn : zac t ≤ 1099511627776) : Pure Tryz.prog zlz [.agg (cT t), .int .i64 y] [.agg (cT (zm4 y t))] := by
  refine zz1 rfl fun hs' => ?_
  simp -dsimp [zmv, cT]
  refine zaa (zJt (fun n b => .mk 1 (if b ≤ n then w64 (n + y) else n) []) zgx [.rp [.int .i64 y]] (fun n b _ _ _ _ => zJe n b y) t 0 hs (by omega) (by omega)) ?_
  simp -dsimp [zm4, cT]
mutual
def zfl : T → Int → Int
  | .mk k n ks, b => zkn k b 0 (if k = 1 ∧ b ≤ n then n else -1) ks
def zkn (k b : Int) : Nat → Int → List T → Int
  | _, a, [] => a
  | i, a, x :: xs => zkn k b (i + 1) (mx a (zfl x (b + zai k i))) xs
end
theorem zyi (k b : Int) : ∀ (l : List T) (i : Nat) (a : Int) (j : Nat) (h : j < l.length), zkn k b i a (l.take (j + 1)) = mx (zkn k b i a (l.take j)) (zfl l[j] (b + zai k (i + j : Nat)))
  | x :: xs, i, a, 0, h => by simp [zkn]
  | x :: xs, i, a, j + 1, h => by
    simp only [List.take_succ_cons, zkn, List.getElem_cons_succ]
    rw [zyi k b xs (i + 1) _ j (by simpa using h)]
    congr 4
    omega
theorem zQ2 (t : T) : ∀ b : Int, 0 ≤ b → b + zac t ≤ 1099511627776 → Pure Tryz.prog zir [.agg (cT t), .int .i64 b] [.int .i64 (zfl t b)] := by
  refine T.ind (p := fun t => ∀ b : Int, 0 ≤ b → b + zac t ≤ 1099511627776 → Pure Tryz.prog zir [.agg (cT t), .int .i64 b] [.int .i64 (zfl t b)]) ?_ t
  intro k n ks ih b h0 hb
  refine zBk rfl fun hs => ?_
  have hl := zgn (t := .mk k n ks) (fun d hd => hs d (by simp at hd; simp [hd]))
  simp [T.kids] at hl
  have hF : zfl (.mk k n ks) b = zkn k b 0 (if k = 1 ∧ b ≤ n then n else -1) ks := by rw [zfl]
  have c1 : k = 1 → b ≤ n → n = (if k = 1 ∧ b ≤ n then n else -1) := fun h1 h2 => (if_pos ⟨h1, h2⟩).symm
  have c2 : ¬(k = 1 ∧ b ≤ n) → -1 = (if k = 1 ∧ b ≤ n then n else -1) := fun h => (if_neg h).symm
  rw [hF]
  generalize (if k = 1 ∧ b ≤ n then n else -1) = A at c1 c2 ⊢
  simp -dsimp [zn7, cT]
  (first | refine zak ?_ ?_ | refine zaj ?_ ?_) <;> intro h1 <;> (try simp only [nrm] at h1) <;> simp -dsimp [h1]
  (first | refine zak ?_ ?_ | refine zaj ?_ ?_) <;> intro h2 <;> (try simp only [nrm] at h2) <;> simp -dsimp [h2, h1]
  all_goals
    refine zam ks.length (fun i st => st.s 2 = .ptr 2 1 0 ∧ st.h 2 = ⟨1, .box [.d (.int .i64 k), .d (.int .i64 n), .d (.sl 3 (ks.map eT))] false⟩ ∧ st.s 1 = .d (.int .i64 b) ∧ st.s 20 = .d (.sl 3 (ks.map eT)) ∧ st.s 21 = .d (.int .i64 ks.length) ∧ st.s 22 = .d (.int .i64 i) ∧
      st.s 5 = .d (.int .i64 (zkn k b 0 A (ks.take i)))) ?_ ?_
    · simp -dsimp [zkn]
      first | exact ⟨h1.symm, c1 h1 h2⟩ | exact ⟨h1.symm, c2 (fun h => h2 h.2)⟩ | exact c2 (fun h => h1 h.1)
    · rintro i ⟨s, hp⟩ hi ⟨g1, g2, g3, g4, g5, g6, g7⟩
      dsimp only at g1 g2 g3 g4 g5 g6 g7
      rcases Nat.lt_or_ge i ks.length with hlt | hge
      · have w1 : IntKind.i64.wrap ((i : Int) + 1) = (i : Int) + 1 := zad (by omega) (by omega)
        have hbl := zdf k i
        have hnk := zcq (k := k) (n := n) (List.getElem_mem hlt : ks[i] ∈ ks)
        have w2 : IntKind.i64.wrap (b + zai k i) = b + zai k i := zad (by omega) (by omega)
        have hsn := zyi k b ks 0 A i hlt
        rw [Nat.zero_add] at hsn
        simp -dsimp [g1, g2, g3, g4, g5, g6, g7, hlt, cT]
        refine zaa (zmk k i) ?_
        simp -dsimp [g1, g2, g3, g4, g5, g6, g7, hlt, w2]
        refine zaa (ih ks[i] (List.getElem_mem _) (b + zai k i) (by omega) (by omega)) ?_
        simp -dsimp [g1, g2, g3, g4, g5, g6, g7, hlt, w1, hsn, mx]
      · have e : i = ks.length := by omega
        subst e
        rw [List.take_length] at g7
        simp -dsimp [g1, g2, g3, g4, g5, g6, g7]
structure Ag where
  t : T
  size : Int
  depth : Int
  free : Int
def cAg (a : Ag) : List D := cT a.t ++ [.int .i64 a.size, .int .i64 a.depth, .int .i64 a.free]
def eAg (a : Ag) : D := .agg (cAg a)
@[simp] theorem zTd (a : Ag) : (eAg a).cells = cAg a := rfl
def jobD (l : List Ag) (u : Int) (sc : Bool) (sz dp : Int) : D := .rp [.sl 6 (l.map eAg), .int .i64 u, .bool sc, .int .i64 sz, .int .i64 dp]
def zc7 (len : Nat) (u n b : Int) : Int := if n < u + b ∨ (len : Int) ≤ n - (u + b) then -1 else len - 1 - (n - (u + b))
theorem zzr (l : List Ag) (u : Int) (sc : Bool) (sz dp n b : Int) (hu : 0 ≤ u ∧ u ≤ 65535) (hb : 0 ≤ b ∧ b ≤ 1099511627776) (hn : 0 ≤ n ∧ n ≤ 65535) : Pure Tryz.prog zfa [jobD l u sc sz dp, .int .i64 n, .int .i64 b] [.int .i64 (zc7 l.length u n b)] := by
  refine zsk rfl fun hs => ?_
  have hl : ((l.length : Int)) ≤ 9223372036854775807 := by
    have := hs (jobD l u sc sz dp) (by simp)
    simp -dsimp [jobD, small] at this
    omega
  have w1 : IntKind.i64.wrap (u + b) = u + b := zad (by omega) (by omega)
  have w2 : IntKind.i64.wrap (n - (u + b)) = n - (u + b) := zad (by omega) (by omega)
  have w3 : IntKind.i64.wrap ((l.length : Int) - 1) = (l.length : Int) - 1 := zad (by omega) (by omega)
  simp -dsimp [zhu, jobD, w1, w2, w3]
  (first | refine zak ?_ ?_ | refine zaj ?_ ?_) <;> intro h1 <;> (try simp only [nrm] at h1) <;> simp -dsimp [h1, zc7, w1, w2, w3]
  (first | refine zak ?_ ?_ | refine zaj ?_ ?_) <;> intro h2 <;> (try simp only [nrm] at h2) <;> simp -dsimp [h2, zc7, h1, w1, w2, w3]
  have w4 : IntKind.i64.wrap ((l.length : Int) - 1 - (n - (u + b))) = (l.length : Int) - 1 - (n - (u + b)) := zad (by omega) (by omega)
  rw [w4]
structure St3 where
  sc : Bool
  sz : Int
  dp : Int
def mn (a b : Int) : Int := if b < a then b else a
def zhp : Int := 1099511627776
mutual
def zmh (l : List Ag) (u : Int) : T → Int → Int → St3 → St3
  | .mk k n ks, b, d, st =>
    if k = 1 then
      if 0 ≤ zc7 l.length u n b then match l[(zc7 l.length u n b).toNat]? with
        | some a => ⟨if st.sc then true else if 0 ≤ a.free then decide (65535 < w64 (w64 (a.free + u) + b)) else false, mn (w64 (st.sz + a.size)) zhp, mx st.dp (w64 (d + a.depth))⟩
        | none => st
      else ⟨st.sc, mn (w64 (st.sz + 1)) zhp, mx st.dp (w64 (d + 1))⟩
    else znx l u k b d 0 ⟨st.sc, mn (w64 (st.sz + 1)) zhp, mx st.dp (w64 (d + 1))⟩ ks
def znx (l : List Ag) (u k b d : Int) : Nat → St3 → List T → St3
  | _, st, [] => st
  | i, st, x :: xs => znx l u k b d (i + 1) (zmh l u x (b + zai k i) (w64 (d + 1)) st) xs
end
theorem ztb (l : List Ag) (u k b d : Int) : ∀ (xs : List T) (i : Nat) (st : St3) (j : Nat) (h : j < xs.length), znx l u k b d i st (xs.take (j + 1)) = zmh l u xs[j] (b + zai k (i + j : Nat)) (w64 (d + 1)) (znx l u k b d i st (xs.take j))
  | x :: xs, i, st, 0, h => by simp [znx]
  | x :: xs, i, st, j + 1, h => by
    simp only [List.take_succ_cons, znx, List.getElem_cons_succ]
    rw [ztb l u k b d xs (i + 1) _ j (by simpa using h)]
    congr 3
    omega
def jobC (c0 : AV) (u : Int) (st : St3) : List AV := [c0, .d (.int .i64 u), .d (.bool st.sc), .d (.int .i64 st.sz), .d (.int .i64 st.dp)]
def jobH (k v : Nat) (b : Body) (e : Ent) : Nat → Ent := fun q => if q = k then ⟨v, b⟩ else e
theorem zMz {G : GS} {h : Nat → Ent} {w : World} {v : Value} {d : D} (r : ARel G h w v (.d d)) : small 8 d := r.d_inv.small 8
theorem zz5 {P : Program} {g : FuncId} {K : List Nat} {h0 h1 : Nat → Ent} {rs : List D} {pre post : List AV} {cs : List D} (hm : MutC P g (pre ++ .d (.agg cs) :: post) K h0 rs h1) : MutC P g (pre ++ .agg (cs.map .d) :: post) K h0 rs h1 := by
  obtain ⟨a1, a2, a3⟩ := hm
  refine ⟨a1, a2, fun G h w vs b1 b2 b3 b4 b5 => a3 G h w vs b1 b2 b3 (by simpa using b4) fun j a hj => ?_⟩
  rw [List.getElem?_append] at hj
  split at hj
  · rename_i hlt
    exact b5 j a (by rw [List.getElem?_append_left hlt]; exact hj)
  · rename_i hge
    cases hjj : j - pre.length with
    | zero =>
      rw [hjj] at hj
      simp at hj
      subst hj
      have := b5 j (.agg (cs.map .d)) (by rw [List.getElem?_append_right (by omega), hjj]; rfl)
      generalize hq : vs.getD j undef = q at this ⊢
      generalize hz : cs.map AV.d = zs at this
      cases this with
      | agg vs' _ hn hr =>
        subst hz
        refine .d _ _ (.agg vs' cs (by simpa using hn) fun i c hi => ?_)
        exact (hr i (.d c) (by rw [List.getElem?_map, hi]; rfl)).d_inv
    | succ i =>
      rw [hjj] at hj
      exact b5 j a (by rw [List.getElem?_append_right (by omega), hjj]; simpa using hj)
theorem zNc {aa : List AV} {K : List Nat} {h0 h1 : Nat → Ent} {rs : List D} (hl : aa.length = 4) (hov : ∀ k ∈ K, zGp K (h1 k).body)
    (hw : ∀ (h : Nat → Ent), (∀ k ∈ K, h k = h0 k) → (∀ d, AV.d d ∈ aa → small 8 d) → wpX Tryz.prog zee.code (zb9 zee.res rs K h1) ⟨zb6 aa, h⟩) : MutC Tryz.prog zcn aa K h0 rs h1 :=
  zNg hm Tryz.func202 zul hl hov fun G h w vs hk hlen hr => hw h hk fun d hd => by
    obtain ⟨j, hj⟩ := List.mem_iff_getElem?.1 hd
    exact zMz (hr j _ hj)
theorem zOo (l : List Ag) (u : Int) (hu : 0 ≤ u ∧ u ≤ 65535) (t : T) : ∀ (k v r rv : Nat) (b d : Int) (st : St3), k ≠ r → k ≠ 5 → k ≠ 11 → k ≠ 13 → r ≠ 5 → r ≠ 11 → r ≠ 13 → zab t = true → 0 ≤ b → b + zac t ≤ 1099511627776 →
    MutC Tryz.prog zcn [.ptr k v 0, .d (.agg (cT t)), .d (.int .i64 b), .d (.int .i64 d)] [k, r] (jobH k v (.box (jobC (.rsl r rv) u st) false) ⟨rv, .row 6 (l.map eAg) false⟩) []
      (jobH k v (.box (jobC (.rsl r rv) u (zmh l u t b d st)) false) ⟨rv, .row 6 (l.map eAg) false⟩) := by
  refine T.ind (p := fun t => ∀ (k v r rv : Nat) (b d : Int) (st : St3), k ≠ r → k ≠ 5 → k ≠ 11 → k ≠ 13 → r ≠ 5 → r ≠ 11 → r ≠ 13 → zab t = true → 0 ≤ b → b + zac t ≤ 1099511627776 →
    MutC Tryz.prog zcn [.ptr k v 0, .d (.agg (cT t)), .d (.int .i64 b), .d (.int .i64 d)] [k, r] (jobH k v (.box (jobC (.rsl r rv) u st) false) ⟨rv, .row 6 (l.map eAg) false⟩) []
      (jobH k v (.box (jobC (.rsl r rv) u (zmh l u t b d st)) false) ⟨rv, .row 6 (l.map eAg) false⟩)) ?_ t
  intro kd n ks ih k v r rv b d st hkr hk5 hk11 hk13 hr5 hr11 hr13 hfm hb0 hb
  have hrk : r ≠ k := Ne.symm hkr
  have n1 : 5 ≠ k := Ne.symm hk5
  have n2 : 11 ≠ k := Ne.symm hk11
  have n3 : 13 ≠ k := Ne.symm hk13
  have n4 : 5 ≠ r := Ne.symm hr5
  have n5 : 11 ≠ r := Ne.symm hr11
  have n6 : 13 ≠ r := Ne.symm hr13
  refine zNc rfl ?_ fun h hh hs => ?_
  · intro q hq
    simp only [jobH]
    split
    · intro c hc
      simp only [jobC, List.mem_cons, List.not_mem_nil, or_false] at hc
      rcases hc with rfl | rfl | rfl | rfl | rfl
      · exact .rsl _ _ (by simp)
      all_goals exact .d _
    · trivial
  have e1 : h k = ⟨v, .box (jobC (.rsl r rv) u st) false⟩ := by rw [hh k (by simp)]; simp [jobH]
  have e2 : h r = ⟨rv, .row 6 (l.map eAg) false⟩ := by rw [hh r (by simp)]; simp [jobH, hrk]
  simp only [jobC] at e1
  have hsm := hs (.agg (cT (.mk kd n ks))) (by simp)
  simp -dsimp [cT, small] at hsm
  simp -dsimp [zee, cT, jobC, jobH]
  (first | refine zak ?_ ?_ | refine zaj ?_ ?_) <;> intro g1 <;> (try simp only [nrm] at g1) <;> simp -dsimp [g1, e1, e2, hkr, hrk, hk5, hk11, hk13, hr5, hr11, hr13, n1, n2, n3, n4, n5, n6]
  · have hn : 0 ≤ n ∧ n ≤ 65535 := by
      rw [za0, g1] at hfm
      have h0 : zds 1 = 0 := rfl
      rw [h0] at hfm
      split at hfm
      · simp only [if_true, Bool.and_eq_true] at hfm
        exact (zdn _ _ _).1 hfm.1
      · cases hfm
    refine zuu (zzr l u st.sc st.sz st.dp n b hu ⟨hb0, by omega⟩ hn) (by simp [D.flat]) ?_
    generalize hw : zc7 l.length u n b = W
    have hL : zmh l u (.mk kd n ks) b d st = if 0 ≤ W then match l[W.toNat]? with
        | some a => ⟨if st.sc then true else if 0 ≤ a.free then decide (65535 < w64 (w64 (a.free + u) + b)) else false, mn (w64 (st.sz + a.size)) zhp, mx st.dp (w64 (d + a.depth))⟩
        | none => st
      else ⟨st.sc, mn (w64 (st.sz + 1)) zhp, mx st.dp (w64 (d + 1))⟩ := by rw [zmh, if_pos g1, hw]
    rw [hL]
    simp -dsimp [e1, e2, hkr, hrk, hk5, hk11, hk13, hr5, hr11, hr13, n1, n2, n3, n4, n5, n6, g1]
    (first | refine zak ?_ ?_ | refine zaj ?_ ?_) <;> intro g2 <;> (try simp only [nrm] at g2) <;> simp -dsimp [g2, e1, e2, hkr, hrk, hk5, hk11, hk13, hr5, hr11, hr13, n1, n2, n3, n4, n5, n6, g1]
    · have hlt : W.toNat < l.length := by
        rw [zc7] at hw
        split at hw <;> omega
      have hget : l[W.toNat]? = some l[W.toNat] := List.getElem?_eq_getElem hlt
      have hltI : W < (l.length : Int) := by omega
      simp -dsimp [e1, e2, hkr, hrk, hk5, hk11, hk13, hr5, hr11, hr13, n1, n2, n3, n4, n5, n6, g1, g2, hlt, hltI, hget, eAg, cAg, cT]
      cases hsc : st.sc with
      | true =>
        simp -dsimp [e1, e2, hkr, hrk, hk5, hk11, hk13, hr5, hr11, hr13, n1, n2, n3, n4, n5, n6, g1, g2, hlt, hltI, hget, eAg, cAg, cT, hsc]
        (simp -dsimp [jobH, hrk, jobC, mn, mx, zhp, w64, g2, hget, hsc]) <;> (first | exact ⟨rfl, rfl⟩ | exact ⟨rfl, rfl, rfl⟩)
      | false =>
        simp -dsimp [e1, e2, hkr, hrk, hk5, hk11, hk13, hr5, hr11, hr13, n1, n2, n3, n4, n5, n6, g1, g2, hlt, hltI, hget, eAg, cAg, cT, hsc]
        (first | refine zak ?_ ?_ | refine zaj ?_ ?_) <;> intro g3 <;> (try simp only [nrm] at g3) <;> simp -dsimp [g3, e1, e2, hkr, hrk, hk5, hk11, hk13, hr5, hr11, hr13, n1, n2, n3, n4, n5, n6, g1, g2, hlt, hltI, hget, eAg, cAg, cT, hsc]
        · (simp -dsimp [jobH, hrk, jobC, mn, mx, zhp, w64, g2, hget, hsc, g3]) <;> (first | exact ⟨rfl, rfl⟩ | exact ⟨rfl, rfl, rfl⟩)
        · (simp -dsimp [jobH, hrk, jobC, mn, mx, zhp, w64, g2, hget, hsc, g3]) <;> (first | exact ⟨rfl, rfl⟩ | exact ⟨rfl, rfl, rfl⟩)
    · (simp -dsimp [jobH, hrk, jobC, mn, mx, zhp, w64, g2]) <;> (first | exact ⟨rfl, rfl⟩ | exact ⟨rfl, rfl, rfl⟩)
  · have hL : zmh l u (.mk kd n ks) b d st = znx l u kd b d 0 ⟨st.sc, mn (w64 (st.sz + 1)) zhp, mx st.dp (w64 (d + 1))⟩ ks := by rw [zmh, if_neg g1]
    rw [hL]
    have hks : ks.all zab = true := by
      rw [za0] at hfm
      split at hfm
      · split at hfm
        · rw [Bool.and_eq_true] at hfm; exact hfm.2
        · split at hfm
          · exact hfm
          · cases hfm
      · cases hfm
    generalize hA : (⟨st.sc, mn (w64 (st.sz + 1)) zhp, mx st.dp (w64 (d + 1))⟩ : St3) = A
    refine zam ks.length (fun i st' => st'.s 0 = .ptr k v 0 ∧ st'.s 2 = .d (.int .i64 b) ∧ st'.s 3 = .d (.int .i64 d) ∧ st'.s 5 = .ptr 5 ((h 5).ver + 1) 0 ∧ st'.h 5 = ⟨(h 5).ver + 1, .box [.d (.int .i64 kd), .d (.int .i64 n), .d (.sl 3 (ks.map eT))] false⟩ ∧
      st'.s 100 = .d (.sl 3 (ks.map eT)) ∧ st'.s 101 = .d (.int .i64 ks.length) ∧ st'.s 102 = .d (.int .i64 i) ∧
      st'.h k = ⟨v, .box (jobC (.rsl r rv) u (znx l u kd b d 0 A (ks.take i))) false⟩ ∧ st'.h r = ⟨rv, .row 6 (l.map eAg) false⟩) ?_ ?_
    · simp -dsimp [e1, e2, hkr, hrk, hk5, hk11, hk13, hr5, hr11, hr13, n1, n2, n3, n4, n5, n6, g1, znx, jobC]
      simp -dsimp [← hA, mn, mx, zhp, w64] <;> exact ⟨rfl, rfl⟩
    · rintro i ⟨s, hp⟩ hi ⟨f1, f2, f3, f4, f5, f6, f7, f8, f9, f10⟩
      dsimp only at f1 f2 f3 f4 f5 f6 f7 f8 f9 f10
      generalize (h 5).ver + 1 = v5 at f4 f5
      rcases Nat.lt_or_ge i ks.length with hlt | hge
      · have w1 : IntKind.i64.wrap ((i : Int) + 1) = (i : Int) + 1 := zad (by omega) (by omega)
        have hbl := zdf kd i
        have hnk := zcq (k := kd) (n := n) (List.getElem_mem hlt : ks[i] ∈ ks)
        have w2 : IntKind.i64.wrap (b + zai kd i) = b + zai kd i := zad (by omega) (by omega)
        simp only [jobC] at f9
        simp -dsimp [e1, e2, hkr, hrk, hk5, hk11, hk13, hr5, hr11, hr13, n1, n2, n3, n4, n5, n6, g1, f1, f2, f3, f4, f5, f6, f7, f8, f9, f10, hlt, cT]
        refine zuu (zmk kd i) (by simp [D.flat]) ?_
        simp -dsimp [e1, e2, hkr, hrk, hk5, hk11, hk13, hr5, hr11, hr13, n1, n2, n3, n4, n5, n6, g1, f1, f2, f3, f4, f5, f6, f7, f8, f9, f10, hlt, w2]
        generalize hX : znx l u kd b d 0 A (ks.take i) = X at f9
        have hrec := ih ks[i] (List.getElem_mem _) k v r rv (b + zai kd i) (w64 (d + 1)) X hkr hk5 hk11 hk13 hr5 hr11 hr13 (List.all_eq_true.1 hks _ (List.getElem_mem _)) (by omega) (by omega)
        have hrec2 := zz5 (pre := [.ptr k v 0]) (post := [.d (.int .i64 (b + zai kd i)), .d (.int .i64 (w64 (d + 1)))]) hrec
        refine zsa hrec2 ?_ ?_
        · simp [jobH, jobC, hrk, f9, f10, upd, hkr, hk5, hk11, hk13, hr5, hr11, hr13]
        have hsn := ztb l u kd b d ks 0 A i hlt
        rw [Nat.zero_add, hX] at hsn
        simp -dsimp [e1, e2, hkr, hrk, hk5, hk11, hk13, hr5, hr11, hr13, n1, n2, n3, n4, n5, n6, g1, zj6, zlg, jobH, f1, f2, f3, f4, f5, f6, f7, f8, f9, f10, hlt, w1, hsn]
      · have e : i = ks.length := by omega
        subst e
        rw [List.take_length] at f9
        simp -dsimp [e1, e2, hkr, hrk, hk5, hk11, hk13, hr5, hr11, hr13, n1, n2, n3, n4, n5, n6, g1, f1, f2, f3, f4, f5, f6, f7, f8, f9, f10]
        simp [jobH, jobC, hrk]
theorem zSc (u n b : Int) (h : 0 ≤ u) (hb : 0 ≤ b) : zc7 0 u n b = -1 := by
  rw [zc7, if_pos]
  omega
theorem zL0 (u : Int) (hu : 0 ≤ u ∧ u ≤ 65535) (t : T) : ∀ (k v : Nat) (b d : Int) (st : St3), k ≠ 5 → k ≠ 11 → k ≠ 13 → zab t = true → 0 ≤ b → b + zac t ≤ 1099511627776 →
    MutC Tryz.prog zcn [.ptr k v 0, .d (.agg (cT t)), .d (.int .i64 b), .d (.int .i64 d)] [k] (jobH k v (.box (jobC (.fsl 6 []) u st) false) ⟨0, .dead⟩) []
      (jobH k v (.box (jobC (.fsl 6 []) u (zmh [] u t b d st)) false) ⟨0, .dead⟩) := by
  refine T.ind (p := fun t => ∀ (k v : Nat) (b d : Int) (st : St3), k ≠ 5 → k ≠ 11 → k ≠ 13 → zab t = true → 0 ≤ b → b + zac t ≤ 1099511627776 →
    MutC Tryz.prog zcn [.ptr k v 0, .d (.agg (cT t)), .d (.int .i64 b), .d (.int .i64 d)] [k] (jobH k v (.box (jobC (.fsl 6 []) u st) false) ⟨0, .dead⟩) []
      (jobH k v (.box (jobC (.fsl 6 []) u (zmh [] u t b d st)) false) ⟨0, .dead⟩)) ?_ t
  intro kd n ks ih k v b d st hk5 hk11 hk13 hfm hb0 hb
  have n1 : 5 ≠ k := Ne.symm hk5
  have n2 : 11 ≠ k := Ne.symm hk11
  have n3 : 13 ≠ k := Ne.symm hk13
  refine zNc rfl ?_ fun h hh hs => ?_
  · intro q hq
    simp only [jobH]
    split
    · intro c hc
      simp only [jobC, List.mem_cons, List.not_mem_nil, or_false] at hc
      rcases hc with rfl | rfl | rfl | rfl | rfl
      · exact .fsl _ _
      all_goals exact .d _
    · trivial
  have e1 : h k = ⟨v, .box (jobC (.fsl 6 []) u st) false⟩ := by rw [hh k (by simp)]; simp [jobH]
  simp only [jobC] at e1
  have hsm := hs (.agg (cT (.mk kd n ks))) (by simp)
  simp -dsimp [cT, small] at hsm
  simp -dsimp [zee, cT, jobC, jobH]
  (first | refine zak ?_ ?_ | refine zaj ?_ ?_) <;> intro g1 <;> (try simp only [nrm] at g1) <;> simp -dsimp [g1, e1, hk5, hk11, hk13, n1, n2, n3]
  · have hn : 0 ≤ n ∧ n ≤ 65535 := by
      rw [za0, g1] at hfm
      have h0 : zds 1 = 0 := rfl
      rw [h0] at hfm
      split at hfm
      · simp only [if_true, Bool.and_eq_true] at hfm
        exact (zdn _ _ _).1 hfm.1
      · cases hfm
    refine zuu (zzr [] u st.sc st.sz st.dp n b hu ⟨hb0, by omega⟩ hn) (by simp [D.flat]) ?_
    have hw : zc7 ([] : List Ag).length u n b = -1 := zSc u n b hu.1 hb0
    have hL : zmh [] u (.mk kd n ks) b d st = ⟨st.sc, mn (w64 (st.sz + 1)) zhp, mx st.dp (w64 (d + 1))⟩ := by rw [zmh, if_pos g1, hw, if_neg (by omega)]
    rw [hL, hw]
    simp -dsimp [e1, hk5, hk11, hk13, n1, n2, n3, g1]
    simp -dsimp [jobH, jobC, mn, mx, zhp, w64] <;> (first | exact ⟨rfl, rfl⟩ | exact ⟨rfl, rfl, rfl⟩)
  · have hL : zmh [] u (.mk kd n ks) b d st = znx [] u kd b d 0 ⟨st.sc, mn (w64 (st.sz + 1)) zhp, mx st.dp (w64 (d + 1))⟩ ks := by rw [zmh, if_neg g1]
    rw [hL]
    have hks : ks.all zab = true := by
      rw [za0] at hfm
      split at hfm
      · split at hfm
        · rw [Bool.and_eq_true] at hfm; exact hfm.2
        · split at hfm
          · exact hfm
          · cases hfm
      · cases hfm
    generalize hA : (⟨st.sc, mn (w64 (st.sz + 1)) zhp, mx st.dp (w64 (d + 1))⟩ : St3) = A
    refine zam ks.length (fun i st' => st'.s 0 = .ptr k v 0 ∧ st'.s 2 = .d (.int .i64 b) ∧ st'.s 3 = .d (.int .i64 d) ∧ st'.s 5 = .ptr 5 ((h 5).ver + 1) 0 ∧ st'.h 5 = ⟨(h 5).ver + 1, .box [.d (.int .i64 kd), .d (.int .i64 n), .d (.sl 3 (ks.map eT))] false⟩ ∧
      st'.s 100 = .d (.sl 3 (ks.map eT)) ∧ st'.s 101 = .d (.int .i64 ks.length) ∧ st'.s 102 = .d (.int .i64 i) ∧
      st'.h k = ⟨v, .box (jobC (.fsl 6 []) u (znx [] u kd b d 0 A (ks.take i))) false⟩) ?_ ?_
    · simp -dsimp [e1, hk5, hk11, hk13, n1, n2, n3, g1, znx, jobC]
      simp -dsimp [← hA, mn, mx, zhp, w64] <;> exact ⟨rfl, rfl⟩
    · rintro i ⟨s, hp⟩ hi ⟨f1, f2, f3, f4, f5, f6, f7, f8, f9⟩
      dsimp only at f1 f2 f3 f4 f5 f6 f7 f8 f9
      generalize (h 5).ver + 1 = v5 at f4 f5
      rcases Nat.lt_or_ge i ks.length with hlt | hge
      · have w1 : IntKind.i64.wrap ((i : Int) + 1) = (i : Int) + 1 := zad (by omega) (by omega)
        have hbl := zdf kd i
        have hnk := zcq (k := kd) (n := n) (List.getElem_mem hlt : ks[i] ∈ ks)
        have w2 : IntKind.i64.wrap (b + zai kd i) = b + zai kd i := zad (by omega) (by omega)
        simp only [jobC] at f9
        simp -dsimp [e1, hk5, hk11, hk13, n1, n2, n3, g1, f1, f2, f3, f4, f5, f6, f7, f8, f9, hlt, cT]
        refine zuu (zmk kd i) (by simp [D.flat]) ?_
        simp -dsimp [e1, hk5, hk11, hk13, n1, n2, n3, g1, f1, f2, f3, f4, f5, f6, f7, f8, f9, hlt, w2]
        generalize hX : znx [] u kd b d 0 A (ks.take i) = X at f9
        have hrec := ih ks[i] (List.getElem_mem _) k v (b + zai kd i) (w64 (d + 1)) X hk5 hk11 hk13 (List.all_eq_true.1 hks _ (List.getElem_mem _)) (by omega) (by omega)
        have hrec2 := zz5 (pre := [.ptr k v 0]) (post := [.d (.int .i64 (b + zai kd i)), .d (.int .i64 (w64 (d + 1)))]) hrec
        refine zsa hrec2 ?_ ?_
        · simp [jobH, jobC, f9, upd, hk5, hk11, hk13]
        have hsn := ztb [] u kd b d ks 0 A i hlt
        rw [Nat.zero_add, hX] at hsn
        simp -dsimp [e1, hk5, hk11, hk13, n1, n2, n3, g1, zj6, zlg, jobH, f1, f2, f3, f4, f5, f6, f7, f8, f9, hlt, w1, hsn]
      · have e : i = ks.length := by omega
        subst e
        rw [List.take_length] at f9
        simp -dsimp [e1, hk5, hk11, hk13, n1, n2, n3, g1, f1, f2, f3, f4, f5, f6, f7, f8, f9]
        simp [jobH, jobC]
def agOf (x : T) : Ag := ⟨x, zfu x, zdd x, zfl x 0⟩
def zrr : List T → Int
  | [] => 0
  | x :: xs => if zau x = 0 then zrr xs else zau x
theorem zFx : ∀ (l : List T) (i : Nat) (h : i < l.length), (∀ (j : Nat) (hj : j < l.length), j < i → zau l[j] = 0) → zau l[i] ≠ 0 → zrr l = zau l[i]
  | x :: xs, 0, h, _, hn => by simp only [List.getElem_cons_zero] at hn ⊢; rw [zrr, if_neg hn]
  | x :: xs, i + 1, h, ha, hn => by
    have h0 := ha 0 (by simp) (by omega)
    simp only [List.getElem_cons_zero] at h0
    rw [zrr, if_pos h0]
    simp only [List.getElem_cons_succ] at hn ⊢
    exact zFx xs i (by simpa using h) (fun j hj hji => by have := ha (j + 1) (by simpa using hj) (by omega); simpa using this) hn
theorem zAp : ∀ (l : List T), (∀ (j : Nat) (hj : j < l.length), j < l.length → zau l[j] = 0) → zrr l = 0
  | [], _ => rfl
  | x :: xs, ha => by
    have h0 := ha 0 (by simp) (by simp)
    simp only [List.getElem_cons_zero] at h0
    rw [zrr, if_pos h0]
    exact zAp xs fun j hj _ => by have := ha (j + 1) (by simpa using hj) (by simpa using hj); simpa using this
def zi5 (t : T) (l : List T) (u : Int) : Int := if zau t = 0 then if zrr l = 0 then if u < 0 ∨ 65535 < u then 1 else 0 else zrr l else zau t
def st0 : St3 := ⟨false, 0, 0⟩
def zgq (t : T) (l : List T) (u : Int) : St3 := zmh (l.map agOf) u t 0 0 st0
def zuq (t : T) (l : List T) (u : Int) : D := if zi5 t l u = 0 then jobD (l.map agOf) u (zgq t l u).sc (zgq t l u).sz (zgq t l u).dp else .nilp
theorem zOc (t : T) (l : List T) (u : Int) (ht : zac t ≤ 549755813888) (hl : ∀ x ∈ l, zac x ≤ 549755813888) (hn : l.length ≤ 2097152) :
    Pure Tryz.prog zn3 [.agg (cT t), eTs l, .int .i64 u] [zuq t l u, .int .i64 (zi5 t l u)] := by
  refine zB2 rfl fun hs => ?_
  simp -dsimp [znc, cT, eTs]
  refine zaa (zra t) ?_
  simp -dsimp
  (first | refine zak ?_ ?_ | refine zaj ?_ ?_) <;> intro h1 <;> (try simp only [nrm] at h1) <;> simp -dsimp [h1]
  · have hE : zi5 t l u = zau t := by rw [zi5, if_neg h1]
    rw [zuq, hE, if_neg h1]
    simp -dsimp
  have hfm := zfp h1
  refine zam l.length (fun i st => st.s 2 = .d (.int .i64 u) ∧ st.s 3 = .ptr 3 1 0 ∧ st.h 3 = ⟨1, .box [.d (.int .i64 t.kind), .d (.int .i64 t.num), .d (.sl 3 (t.kids.map eT))] false⟩ ∧
    st.s 9 = .ptr 20 1 0 ∧ st.s 21 = .d (.sl 3 (l.map eT)) ∧ st.s 22 = .d (.int .i64 l.length) ∧ st.s 23 = .d (.int .i64 i) ∧
    (∃ c0, st.h 20 = ⟨1, .box [c0, .d (.int .i64 u), .d (.bool false), .d (.int .i64 0), .d (.int .i64 0)] false⟩ ∧ ((i = 0 ∧ c0 = .fsl 6 []) ∨ ∃ v, c0 = .rsl 46 v ∧ st.h 46 = ⟨v, .row 6 ((l.map (eAg ∘ agOf)).take i) false⟩)) ∧
    ∀ (j : Nat) (hj : j < l.length), j < i → zau l[j] = 0) ?_ ?_
  · simp -dsimp
  · rintro i ⟨s, hp⟩ hi ⟨g1, g2, g3, g4, g5, g6, g7, ⟨c0, g8, g9⟩, g10⟩
    dsimp only at g1 g2 g3 g4 g5 g6 g7 g8 g9
    rcases Nat.lt_or_ge i l.length with hlt | hge
    · have w1 : IntKind.i64.wrap ((i : Int) + 1) = (i : Int) + 1 := zad (by omega) (by omega)
      simp -dsimp [g1, g2, g3, g4, g5, g6, g7, g8, hlt, cT]
      refine zaa (zra l[i]) ?_
      simp -dsimp [g1, g2, g3, g4, g5, g6, g7, g8, hlt, cT]
      (first | refine zak ?_ ?_ | refine zaj ?_ ?_) <;> intro h2 <;> (try simp only [nrm] at h2) <;> simp -dsimp [h2, g1, g2, g3, g4, g5, g6, g7, g8, hlt, cT]
      · have hA := zFx l i hlt g10 h2
        have hE : zi5 t l u = zau l[i] := by rw [zi5, if_pos h1, if_neg (by rw [hA]; exact h2), hA]
        have hR : zuq t l u = .nilp := by rw [zuq, if_neg (by rw [hE]; exact h2)]
        simp -dsimp [hE, hR]
      refine zaa (zFu l[i]) ?_
      simp -dsimp [g1, g2, g3, g4, g5, g6, g7, g8, hlt, cT]
      refine zaa (zA0 l[i]) ?_
      simp -dsimp [g1, g2, g3, g4, g5, g6, g7, g8, hlt, cT]
      have hln := hl l[i] (List.getElem_mem _)
      refine zaa (zQ2 l[i] 0 (by omega) (by omega)) ?_
      have hr : (min i l.length + 1) * 64 ≤ zal := by simp only [zal]; omega
      have hsn : (l.map (eAg ∘ agOf)).take i ++ [D.agg [.int .i64 l[i].kind, .int .i64 l[i].num, .sl 3 (l[i].kids.map eT), .int .i64 (zfu l[i]), .int .i64 (zdd l[i]), .int .i64 (zfl l[i] 0)]] = (l.map (eAg ∘ agOf)).take (i + 1) :=
        zCj (eAg ∘ agOf) (fun x => cAg (agOf x)) (fun _ => rfl) l i hlt
      rcases g9 with ⟨rfl, rfl⟩ | ⟨v, rfl, g9⟩
      · have h64 : 64 ≤ zal := by decide
        simp only [List.take_zero, List.nil_append, Nat.zero_add] at hsn
        simp at hlt w1
        simp -dsimp [g1, g2, g3, g4, g5, g6, g7, g8, hlt, cT, h64, w1]
        exact ⟨hsn, fun j hj hji => by have : j = 0 := by omega
                                       subst this; exact h2⟩
      · simp -dsimp [g1, g2, g3, g4, g5, g6, g7, g8, g9, hlt, cT, hr, hsn, w1]
        intro j hj hji
        rcases Nat.lt_or_ge j i with h | h
        · exact g10 j hj h
        · have : j = i := by omega
          subst this
          exact h2
    · have e : i = l.length := by omega
      subst e
      have hA := zAp l g10
      simp -dsimp [g1, g2, g3, g4, g5, g6, g7, g8]
      have bad : (u < 0 ∨ 65535 < u) → zuq t l u = .nilp ∧ zi5 t l u = 1 := fun hu => by
        have hE : zi5 t l u = 1 := by rw [zi5, if_pos h1, if_pos hA, if_pos hu]
        exact ⟨by rw [zuq, hE]; rfl, hE⟩
      (first | refine zak ?_ ?_ | refine zaj ?_ ?_) <;> intro h3 <;> (try simp only [nrm] at h3) <;> simp -dsimp [h3, g1, g2, g3, g4, g5, g6, g7, g8]
      · simp -dsimp [bad (.inl h3)]
      (first | refine zak ?_ ?_ | refine zaj ?_ ?_) <;> intro h4 <;> (try simp only [nrm] at h4) <;> simp -dsimp [h4, g1, g2, g3, g4, g5, g6, g7, g8, h3]
      · simp -dsimp [bad (.inr h4)]
      have hE : zi5 t l u = 0 := by rw [zi5, if_pos h1, if_pos hA, if_neg (by omega)]
      have hR : zuq t l u = jobD (l.map agOf) u (zgq t l u).sc (zgq t l u).sz (zgq t l u).dp := by rw [zuq, if_pos hE]
      rw [hE, hR]
      have hu : 0 ≤ u ∧ u ≤ 65535 := by omega
      have hnt : (0 : Int) + zac t ≤ 1099511627776 := by omega
      rcases g9 with ⟨hz, rfl⟩ | ⟨v, rfl, g9⟩
      · have hl0 : l = [] := List.length_eq_zero_iff.1 hz
        subst hl0
        refine zsa (zz5 (pre := [.ptr 20 1 0]) (post := [.d (.int .i64 0), .d (.int .i64 0)]) (zL0 u hu t 20 1 0 0 st0 (by omega) (by omega) (by omega) hfm (by omega) hnt)) ?_ ?_
        · simp [jobH, jobC, g8, st0]
        simp -dsimp [zj6, zlg, jobH, jobC, g1, g2, g3, g4, jobD, zgq]
      · rw [List.take_of_length_le (by simp)] at g9
        rw [zpk]
        refine zsa (zz5 (pre := [.ptr 20 1 0]) (post := [.d (.int .i64 0), .d (.int .i64 0)]) (zOo (l.map agOf) u hu t 20 1 46 v 0 0 st0 (by omega) (by omega) (by omega) (by omega) (by omega) (by omega) (by omega) hfm (by omega) hnt)) ?_ ?_
        · simp [jobH, jobC, g8, g9, st0]
        simp -dsimp [zj6, zlg, jobH, jobC, g1, g2, g3, g4, jobD, zgq]
def zT : T := .mk 0 0 []
def zd1 (l : List T) (u n b : Int) : T :=
  if 0 ≤ zc7 l.length u n b then match l[(zc7 l.length u n b).toNat]? with
    | some a => zm4 (w64 (u + b)) a
    | none => zT
  else .mk 1 (if u + b ≤ n then w64 (n - l.length) else n) []
theorem zMx (l : List T) (u : Int) (sc : Bool) (sz dp : Int) (hu : 0 ≤ u ∧ u ≤ 65535) (hl : ∀ x ∈ l, zab x = true ∧ zac x ≤ 549755813888) (n b : Int) (hn : 0 ≤ n) (hn' : n ≤ 65535) (hb : 0 ≤ b) (hb' : b ≤ 1099511627776) :
    Pure Tryz.prog zig [.int .i64 n, .int .i64 b, .rp [jobD (l.map agOf) u sc sz dp], .rp [.int .i64 u], .rp [eTs l]] [.agg (cT (zd1 l u n b))] := by
  refine zxn rfl fun hs => ?_
  have w1 : IntKind.i64.wrap (u + b) = u + b := zad (by omega) (by omega)
  have w1' : w64 (u + b) = u + b := w1
  simp -dsimp [zky, eTs]
  have hw := zzr (l.map agOf) u sc sz dp n b hu ⟨hb, hb'⟩ ⟨hn, hn'⟩
  rw [List.length_map] at hw
  refine zaa hw ?_
  generalize hW : zc7 l.length u n b = W
  have hI : zd1 l u n b = if 0 ≤ W then match l[W.toNat]? with
    | some a => zm4 (w64 (u + b)) a
    | none => zT
    else .mk 1 (if u + b ≤ n then w64 (n - l.length) else n) [] := by rw [zd1, hW]
  simp -dsimp
  (first | refine zak ?_ ?_ | refine zaj ?_ ?_) <;> intro g1 <;> (try simp only [nrm] at g1) <;> simp -dsimp [g1]
  · have hlt : W.toNat < l.length := by
      rw [zc7] at hW
      split at hW <;> omega
    have hget : l[W.toNat]? = some l[W.toNat] := List.getElem?_eq_getElem hlt
    have hI2 : zd1 l u n b = zm4 (w64 (u + b)) l[W.toNat] := by rw [hI, if_pos g1, hget]
    rw [hI2, w1']
    simp -dsimp [jobD, g1, hlt, w1, agOf, cAg, eAg, cT]
    obtain ⟨hf, hnn⟩ := hl l[W.toNat] (List.getElem_mem _)
    refine zaa (zLq l[W.toNat] (u + b) hf (by omega)) ?_
    simp -dsimp [cT]
  · have hI2 : zd1 l u n b = .mk 1 (if u + b ≤ n then w64 (n - l.length) else n) [] := by rw [hI, if_neg g1]
    rw [hI2]
    simp -dsimp [g1, w1]
    (first | refine zak ?_ ?_ | refine zaj ?_ ?_) <;> intro g2 <;> (try simp only [nrm] at g2) <;> simp -dsimp [g2, g1, w1]
    · refine zaa (v_ok _) ?_
      simp -dsimp [g2, cT, w64]
    · refine zaa (v_ok _) ?_
      simp -dsimp [g2, cT, w64]
def zgr (t : T) (l : List T) (u : Int) : Int :=
  if zi5 t l u = 0 then if (zgq t l u).sc then 6 else if 6000 < (zgq t l u).sz then 4 else if 200 < (zgq t l u).dp then 5 else 0 else zi5 t l u
def zfs (t : T) (l : List T) (u : Int) : T := if zgr t l u = 0 then mapT (zd1 l u) t 0 else zT
theorem zp1 {t : T} {l : List T} {u : Int} (h : zi5 t l u = 0) : zab t = true ∧ (∀ x ∈ l, zab x = true) ∧ 0 ≤ u ∧ u ≤ 65535 := by
  rw [zi5] at h
  by_cases h1 : zau t = 0
  · rw [if_pos h1] at h
    by_cases h2 : zrr l = 0
    · rw [if_pos h2] at h
      refine ⟨zfp h1, ?_, ?_⟩
      · clear h h1
        induction l with
        | nil => simp
        | cons x xs ih =>
          rw [zrr] at h2
          by_cases h3 : zau x = 0
          · rw [if_pos h3] at h2
            intro y hy
            rcases List.mem_cons.1 hy with rfl | hy
            · exact zfp h3
            · exact ih h2 y hy
          · rw [if_neg h3] at h2; exact absurd h2 h3
      · by_cases h3 : u < 0 ∨ 65535 < u
        · rw [if_pos h3] at h; cases h
        · omega
    · rw [if_neg h2] at h; exact absurd h h2
  · rw [if_neg h1] at h; exact absurd h h1
theorem zP8 (t : T) (l : List T) (u : Int) (ht : zac t ≤ 549755813888) (hl : ∀ x ∈ l, zac x ≤ 549755813888) (hn : l.length ≤ 2097152) :
    Pure Tryz.prog znz [.agg (cT t), eTs l, .int .i64 u] [.agg (cT (zfs t l u)), .int .i64 (zgr t l u)] := by
  refine zBd rfl fun hs => ?_
  simp -dsimp [znl, cT, eTs]
  refine zaa (zOc t l u ht hl hn) ?_
  by_cases h1 : zi5 t l u = 0
  · have hR : zuq t l u = jobD (l.map agOf) u (zgq t l u).sc (zgq t l u).sz (zgq t l u).dp := by rw [zuq, if_pos h1]
    obtain ⟨f1, f2, f3⟩ := zp1 h1
    have hE : zgr t l u = if (zgq t l u).sc then 6 else if 6000 < (zgq t l u).sz then 4 else if 200 < (zgq t l u).dp then 5 else 0 := by rw [zgr, if_pos h1]
    generalize zgq t l u = st at hR hE
    obtain ⟨sc, sz, dp⟩ := st
    have bad : zgr t l u ≠ 0 → zfs t l u = zT := fun h => by rw [zfs, if_neg h]
    rw [hR, h1]
    cases sc with
    | true =>
      have hE1 : zgr t l u = 6 := by rw [hE]; rfl
      have hT := bad (by omega)
      simp -dsimp [jobD, hE1, hT, zT, cT]
    | false =>
      simp -dsimp [jobD]
      (first | refine zak ?_ ?_ | refine zaj ?_ ?_) <;> intro h2 <;> (try simp only [nrm] at h2) <;> simp -dsimp [h2]
      · have hE1 : zgr t l u = 4 := by rw [hE]; simp [h2]
        have hT := bad (by omega)
        simp -dsimp [hE1, hT, zT, cT]
      (first | refine zak ?_ ?_ | refine zaj ?_ ?_) <;> intro h3 <;> (try simp only [nrm] at h3) <;> simp -dsimp [h3, h2]
      · have hE1 : zgr t l u = 5 := by rw [hE]; simp [h2, h3]
        have hT := bad (by omega)
        simp -dsimp [hE1, hT, zT, cT]
      have hE1 : zgr t l u = 0 := by rw [hE]; simp [h2, h3]
      have hT : zfs t l u = mapT (zd1 l u) t 0 := by rw [zfs, if_pos hE1]
      rw [hE1, hT]
      have hmap := zJt (zd1 l u) zig [.rp [jobD (l.map agOf) u false sz dp], .rp [.int .i64 u], .rp [eTs l]] (fun n b a1 a2 a3 a4 => zMx l u false sz dp f3 (fun x hx => ⟨f2 x hx, hl x hx⟩) n b a1 a2 a3 a4) t 0 f1 (by omega) (show (0 : Int) + zac t ≤ 1099511627776 by omega)
      have hj : jobD (l.map agOf) u false sz dp = .rp [.sl 6 (l.map (eAg ∘ agOf)), .int .i64 u, .bool false, .int .i64 sz, .int .i64 dp] := by simp [jobD]
      rw [hj] at hmap
      refine zaa hmap ?_
      simp -dsimp [h2, h3, cT]
  · have hR : zuq t l u = .nilp := by rw [zuq, if_neg h1]
    have hE : zgr t l u = zi5 t l u := by rw [zgr, if_neg h1]
    have hT : zfs t l u = zT := by rw [zfs, hE, if_neg h1]
    rw [hR, hE, hT]
    simp -dsimp [h1, zT, cT]
theorem zJ8 (a b : Int) : mn a b = min a b := by rw [mn]; split <;> omega
theorem zza (f : Int → Int → T) (k b : Int) (g : T → Nat) : ∀ (l : List T) (i : Nat), (∀ x ∈ l, ∀ c, g (mapT f x c) = g x) → (mapL f k b i l).map g = l.map g
  | [], i, _ => by simp [mapL]
  | x :: xs, i, h => by
    simp only [mapL, List.map_cons]
    rw [h x (by simp) _, zza f k b g xs (i + 1) fun y hy => h y (by simp [hy])]
theorem zox (f : Int → Int → T) (hf : ∀ n b, zac (f n b) = 1) (t : T) : zab t = true → ∀ b, zac (mapT f t b) = zac t := by
  refine T.ind (p := fun t => zab t = true → ∀ b, zac (mapT f t b) = zac t) ?_ t
  intro k n ks ih hfm b
  rw [mapT]
  by_cases h1 : k = 1
  · rw [if_pos h1, hf, zlw h1 hfm, zar]
  · rw [if_neg h1, zac, zac, zza f k b zac ks 0 fun x hx c => ih x hx (zbm hfm x hx) c]
theorem zsi (f : Int → Int → T) (hf : ∀ n b, zbg (f n b) = 1) (t : T) : zab t = true → ∀ b, zbg (mapT f t b) = zbg t := by
  refine T.ind (p := fun t => zab t = true → ∀ b, zbg (mapT f t b) = zbg t) ?_ t
  intro k n ks ih hfm b
  rw [mapT]
  by_cases h1 : k = 1
  · rw [if_pos h1, hf, zlw h1 hfm, zgl]
  · rw [if_neg h1, zbg, zbg, zza f k b zbg ks 0 fun x hx c => ih x hx (zbm hfm x hx) c]
theorem zD9 {a : T} (h : zab a = true) (y : Int) : zac (zm4 y a) = zac a := zox _ (fun _ _ => zar _ _) a h 0
theorem zvc {a : T} (h : zab a = true) (y : Int) : zbg (zm4 y a) = zbg a := zsi _ (fun _ _ => zgl _ _) a h 0
def zLo (a : T) (c : Int) : Bool := decide (0 ≤ zfl a 0) && decide (65535 < zfl a 0 + c)
mutual
def scI (l : List T) (u : Int) : T → Int → Bool
  | .mk k n ks, b => if k = 1 then (match (if 0 ≤ zc7 l.length u n b then l[(zc7 l.length u n b).toNat]? else none) with | some a => zLo a (u + b) | none => false) else scL l u k b 0 ks
def scL (l : List T) (u k b : Int) : Nat → List T → Bool
  | _, [] => false
  | i, x :: xs => scI l u x (b + zai k i) || scL l u k b (i + 1) xs
end
theorem zI8 (t : T) : zab t = true → ∀ b, -1 ≤ zfl t b ∧ zfl t b ≤ 65535 := by
  refine T.ind (p := fun t => zab t = true → ∀ b, -1 ≤ zfl t b ∧ zfl t b ≤ 65535) ?_ t
  intro k n ks ih hfm b
  rw [zfl]
  have h0 : -1 ≤ (if k = 1 ∧ b ≤ n then n else -1) ∧ (if k = 1 ∧ b ≤ n then n else -1) ≤ 65535 := by
    split
    · rename_i h
      have := zc9 h.1 hfm
      omega
    · omega
  have hk := zbm hfm
  generalize (if k = 1 ∧ b ≤ n then n else -1) = a at h0
  have go : ∀ (l : List T) (i : Nat) (a : Int), (∀ x ∈ l, zab x = true → ∀ b, -1 ≤ zfl x b ∧ zfl x b ≤ 65535) → (∀ x ∈ l, zab x = true) → -1 ≤ a ∧ a ≤ 65535 → -1 ≤ zkn k b i a l ∧ zkn k b i a l ≤ 65535 := by
    intro l
    induction l with
    | nil => intro i a _ _ h; simpa [zkn] using h
    | cons x xs ihx =>
      intro i a h1 h2 h3
      rw [zkn]
      have hx := h1 x (by simp) (h2 x (by simp)) (b + zai k i)
      refine ihx (i + 1) _ (fun y hy => h1 y (by simp [hy])) (fun y hy => h2 y (by simp [hy])) ?_
      rw [zvk]
      omega
  exact go ks 0 a ih hk h0
theorem zG2 (l : List T) (u : Int) (hl : ∀ x ∈ l, zab x = true ∧ zac x ≤ 1048576) (t : T) : ∀ b, zbg (mapT (zd1 l u) t b) ≤ zbg t + 1048576 := by
  refine T.ind (p := fun t => ∀ b, zbg (mapT (zd1 l u) t b) ≤ zbg t + 1048576) ?_ t
  intro k n ks ih b
  rw [mapT]
  by_cases h1 : k = 1
  · rw [if_pos h1, zd1]
    have hz : zbg zT = 1 := zgl 0 0
    split
    · split
      · rename_i a ha
        obtain ⟨h2, h3⟩ := hl a (List.mem_of_getElem? ha)
        rw [zvc h2]
        have := zpa a
        omega
      · rw [hz]; omega
    · rw [zgl]; omega
  · rw [if_neg h1, zbg, zbg]
    have go : ∀ (xs : List T) (i : Nat), (∀ x ∈ xs, x ∈ ks) → dmax ((mapL (zd1 l u) k b i xs).map zbg) ≤ dmax (xs.map zbg) + 1048576 := by
      intro xs
      induction xs with
      | nil => intro i _; simp [mapL, dmax]
      | cons x xs ihx =>
        intro i hm
        have h2 := ih x (hm x (by simp)) (b + zai k i)
        have h3 := ihx (i + 1) fun y hy => hm y (by simp [hy])
        simp only [mapL, List.map_cons, dmax, List.foldr_cons] at h3 ⊢
        omega
    have := go ks 0 fun x hx => hx
    omega
theorem zP2 (l : List T) (u : Int) (hu : 0 ≤ u ∧ u ≤ 65535) (hl : ∀ x ∈ l, zab x = true ∧ zac x ≤ 1048576) (t : T) : ∀ (b d : Int) (st : St3), zab t = true → 0 ≤ b → b + zac t ≤ 2097152 → 0 ≤ d → d + zac t ≤ 2097152 →
    0 ≤ st.sz → st.sz ≤ zhp → 0 ≤ st.dp → st.dp ≤ 1099511627776 →
    zmh (l.map agOf) u t b d st = ⟨st.sc || scI l u t b, min (st.sz + zac (mapT (zd1 l u) t b)) zhp, max st.dp (d + zbg (mapT (zd1 l u) t b))⟩ := by
  refine T.ind (p := fun t => ∀ (b d : Int) (st : St3), zab t = true → 0 ≤ b → b + zac t ≤ 2097152 → 0 ≤ d → d + zac t ≤ 2097152 →
    0 ≤ st.sz → st.sz ≤ zhp → 0 ≤ st.dp → st.dp ≤ 1099511627776 →
    zmh (l.map agOf) u t b d st = ⟨st.sc || scI l u t b, min (st.sz + zac (mapT (zd1 l u) t b)) zhp, max st.dp (d + zbg (mapT (zd1 l u) t b))⟩) ?_ t
  intro k n ks ih b d st hfm hb0 hb hd0 hd hs0 hs1 hp0 hp1
  have hM : zhp = 1099511627776 := rfl
  have hn1 : 1 ≤ zac (.mk k n ks) := by rw [zac]; omega
  by_cases h1 : k = 1
  · have hks := zlw h1 hfm
    have hn := zc9 h1 hfm
    subst h1 hks
    rw [zmh, if_pos rfl, scI, if_pos rfl, mapT, if_pos rfl, zd1, List.length_map]
    by_cases hW : 0 ≤ zc7 l.length u n b
    · have hlt : (zc7 l.length u n b).toNat < l.length := by
        have h2 := hW
        rw [zc7] at h2 ⊢
        split at h2
        · omega
        · rename_i h3
          rw [if_neg h3]
          omega
      have hx := hl _ (List.getElem_mem hlt)
      generalize hw : (zc7 l.length u n b).toNat = m at hlt hx
      have hfr := zI8 l[m] hx.1 0
      rw [if_pos hW, if_pos hW, if_pos hW, List.getElem?_map, List.getElem?_eq_getElem hlt]
      simp only [Option.map_some, agOf]
      rw [zzi _ (by omega), zu0 _ (by omega), zD9 hx.1, zvc hx.1]
      have hdl := zpa l[m]
      rw [zb0 (n := st.sz + _) (by omega) (by omega), zb0 (n := d + _) (by omega) (by omega), zJ8, zvk, hM, zb0 (n := zfl l[m] 0 + u) (by omega) (by omega), zb0 (n := zfl l[m] 0 + u + b) (by omega) (by omega)]
      congr 1
      rw [zLo]
      have e : zfl l[m] 0 + u + b = zfl l[m] 0 + (u + b) := by omega
      rw [e]
      cases st.sc
      · by_cases h4 : 0 ≤ zfl l[m] 0 <;> simp [h4]
      · simp
    · rw [if_neg hW, if_neg hW, if_neg hW]
      simp only [zar, zgl]
      rw [zb0 (by omega) (by omega), zb0 (by omega) (by omega), zJ8, zvk, hM]
      simp
  · have hkf := zbm hfm
    rw [zmh, if_neg h1, scI, if_neg h1, mapT, if_neg h1, zac, zbg]
    have hnn : zac (.mk k n ks) = (ks.map zac).sum + 1 := by rw [zac]
    have go : ∀ (xs : List T) (i : Nat) (st : St3), (∀ x ∈ xs, x ∈ ks) → 0 ≤ st.sz → st.sz ≤ zhp → d + 1 ≤ st.dp → st.dp ≤ 1099511627776 →
        znx (l.map agOf) u k b d i st xs = ⟨st.sc || scL l u k b i xs, min (st.sz + ((mapL (zd1 l u) k b i xs).map zac).sum) zhp, max st.dp (d + 1 + dmax ((mapL (zd1 l u) k b i xs).map zbg))⟩ := by
      intro xs
      induction xs with
      | nil =>
        intro i st _ a0 a1 a2 a3
        simp only [znx, scL, mapL, List.map_nil, List.sum_nil, dmax, List.foldr_nil]
        obtain ⟨sc, sz, dp⟩ := st
        simp only [Bool.or_false, St3.mk.injEq, true_and]
        simp only at a0 a1 a2 a3
        omega
      | cons x xs ihx =>
        intro i st hmem a0 a1 a2 a3
        have hxk := hmem x (by simp)
        have hxn := zcq (k := k) (n := n) hxk
        have hbl := zdf k i
        rw [znx, zb0 (n := d + 1) (by omega) (by omega), ih x hxk (b + zai k i) (d + 1) st (hkf x hxk) (by omega) (by omega) (by omega) (by omega) a0 a1 (by omega) a3]
        have hdx := zpa x
        rw [ihx (i + 1) _ (fun y hy => hmem y (by simp [hy])) (by simp only; omega) (by simp only; omega) (by simp only; omega) ?_]
        · simp only [scL, mapL, List.map_cons, List.sum_cons, dmax, List.foldr_cons, Bool.or_assoc, St3.mk.injEq, true_and]
          omega
        · simp only
          have := zG2 l u hl x (b + zai k i)
          omega
    have hg := go ks 0 ⟨st.sc, mn (w64 (st.sz + 1)) zhp, mx st.dp (w64 (d + 1))⟩ (fun x hx => hx) (by simp only; rw [zb0 (by omega) (by omega), zJ8]; omega) (by simp only; rw [zJ8]; omega) (by simp only; rw [zb0 (by omega) (by omega), zvk]; omega)
      (by simp only; rw [zb0 (by omega) (by omega), zvk]; omega)
    rw [hg]
    simp only [St3.mk.injEq, true_and]
    rw [zb0 (n := st.sz + 1) (by omega) (by omega), zb0 (n := d + 1) (by omega) (by omega), zJ8, zvk]
    omega
theorem zwt {t : T} {l : List T} {u : Int} (h : zi5 t l u = 0) (ht : zac t ≤ 1048576) (hl : ∀ x ∈ l, zac x ≤ 1048576) :
    zgq t l u = ⟨scI l u t 0, min (zac (mapT (zd1 l u) t 0) : Int) zhp, zbg (mapT (zd1 l u) t 0)⟩ := by
  obtain ⟨f1, f2, f3⟩ := zp1 h
  rw [zgq, zP2 l u f3 (fun x hx => ⟨f2 x hx, hl x hx⟩) t 0 0 st0 f1 (by omega) (by omega) (by omega) (by omega) (by simp [st0]) (by simp [st0, zhp]) (by simp [st0]) (by simp [st0])]
  simp only [st0, Bool.false_or, St3.mk.injEq, true_and]
  omega
theorem zEr {t : T} {l : List T} {u : Int} (ht : zac t ≤ 1048576) (hl : ∀ x ∈ l, zac x ≤ 1048576) :
    zgr t l u = 0 ↔ zi5 t l u = 0 ∧ scI l u t 0 = false ∧ zac (mapT (zd1 l u) t 0) ≤ 6000 ∧ zbg (mapT (zd1 l u) t 0) ≤ 200 := by
  have hM : zhp = 1099511627776 := rfl
  rw [zgr]
  by_cases h : zi5 t l u = 0
  · rw [if_pos h, zwt h ht hl]
    simp only
    cases scI l u t 0 with
    | true => simp
    | false =>
      simp only [Bool.false_eq_true, if_false, true_and, h]
      by_cases h1 : (6000 : Int) < min (zac (mapT (zd1 l u) t 0) : Int) zhp
      · rw [if_pos h1]
        constructor
        · intro h; cases h
        · omega
      · rw [if_neg h1]
        by_cases h2 : (200 : Int) < zbg (mapT (zd1 l u) t 0)
        · rw [if_pos h2]
          constructor
          · intro h; cases h
          · omega
        · rw [if_neg h2]
          constructor
          · intro _; omega
          · intro _; rfl
  · rw [if_neg h]
    constructor
    · intro h'; exact absurd h' h
    · rintro ⟨h', _⟩; exact absurd h' h
theorem zw8 {t : T} {l : List T} {u : Int} (h : zgr t l u = 0) : zfs t l u = mapT (zd1 l u) t 0 := by rw [zfs, if_pos h]
theorem zBj (t : T) (l : List T) (u : Int) : zi5 t l u = 0 ↔ zau t = 0 ∧ (∀ x ∈ l, zau x = 0) ∧ 0 ≤ u ∧ u ≤ 65535 := by
  have ha : zrr l = 0 ↔ ∀ x ∈ l, zau x = 0 := by
    induction l with
    | nil => simp [zrr]
    | cons x xs ih =>
      rw [zrr]
      by_cases h : zau x = 0
      · simp [h, ih]
      · simp [h]
  rw [zi5, ← ha]
  by_cases h1 : zau t = 0
  · rw [if_pos h1]
    by_cases h2 : zrr l = 0
    · rw [if_pos h2]
      by_cases h3 : u < 0 ∨ 65535 < u
      · rw [if_pos h3]
        constructor
        · intro h; cases h
        · omega
      · rw [if_neg h3]
        constructor
        · intro _; exact ⟨h1, h2, by omega⟩
        · intro _; rfl
    · rw [if_neg h2]
      constructor
      · intro h; exact absurd h h2
      · intro h; exact absurd h.2.1 h2
  · rw [if_neg h1]
    constructor
    · intro h; exact absurd h h1
    · intro h; exact absurd h.1 h1
theorem zNv (l : List T) (u k b : Int) : ∀ (xs : List T) (i j : Nat) (h : j < xs.length), scL l u k b i xs = false → scI l u xs[j] (b + zai k (i + j : Nat)) = false
  | x :: xs, i, 0, h, hs => by
    rw [scL, Bool.or_eq_false_iff] at hs
    simpa using hs.1
  | x :: xs, i, j + 1, h, hs => by
    rw [scL, Bool.or_eq_false_iff] at hs
    have := zNv l u k b xs (i + 1) j (by simpa using h) hs.2
    simp only [List.getElem_cons_succ]
    rw [show i + (j + 1) = i + 1 + j by omega]
    exact this
theorem map_map (f g h : Int → Int → T) (e : Int) (hv : ∀ n b : Int, 0 ≤ n → n ≤ 65535 → 0 ≤ b → b ≤ 4194304 → mapT f (g n b) (b + e) = h n b) (t : T) : ∀ b : Int, zab t = true → 0 ≤ b → b + zac t ≤ 4194304 → mapT f (mapT g t b) (b + e) = mapT h t b := by
  refine T.ind (p := fun t => ∀ b : Int, zab t = true → 0 ≤ b → b + zac t ≤ 4194304 → mapT f (mapT g t b) (b + e) = mapT h t b) ?_ t
  intro k n ks ih b hfm h0 hb
  rw [mapT, mapT]
  by_cases h1 : k = 1
  · have hn := zc9 h1 hfm
    rw [if_pos h1, if_pos h1, hv n b hn.1 hn.2 h0 (by omega)]
  · rw [if_neg h1, if_neg h1, mapT, if_neg h1]
    congr 1
    have go : ∀ (xs : List T) (i : Nat), (∀ x ∈ xs, x ∈ ks) → mapL f k (b + e) i (mapL g k b i xs) = mapL h k b i xs := by
      intro xs
      induction xs with
      | nil => intro i _; simp [mapL]
      | cons x xs ihx =>
        intro i hm
        have hx := hm x (by simp)
        have hxn := zcq (k := k) (n := n) hx
        have hbl := zdf k i
        have e1 : b + e + zai k i = b + zai k i + e := by omega
        rw [mapL, mapL, mapL, e1, ih x hx _ (zbm hfm x hx) (by omega) (by omega), ihx (i + 1) fun y hy => hm y (by simp [hy])]
    exact go ks 0 fun x hx => hx
def mv (y : Int) (n b : Int) : T := .mk 1 (if b ≤ n then w64 (n + y) else n) []
theorem zFs (y : Int) (t : T) : zm4 y t = mapT (mv y) t 0 := rfl
theorem zSy {y n b : Int} (h : n < b) : mv y n b = .mk 1 n [] := by rw [mv, if_neg (by omega)]
theorem mv_hi {y n b : Int} (h : b ≤ n) (hn : 0 ≤ n) (hn' : n ≤ 10000000) (hy : 0 ≤ y) (hy' : y ≤ 10000000) : mv y n b = .mk 1 (n + y) [] := by rw [mv, if_pos h, zb0 (by omega) (by omega)]
theorem zqs {f : Int → Int → T} {k n b : Int} {ks : List T} (h1 : k ≠ 1) (hfm : zab (.mk k n ks) = true) (h : ∀ (j : Nat) (hj : j < ks.length), zab (mapT f ks[j] (b + zai k j)) = true) : zab (.mk k n (mapL f k b 0 ks)) = true := by
  have ha : (mapL f k b 0 ks).all zab = true := by
    rw [List.all_eq_true]
    intro x hx
    obtain ⟨j, hj, rfl⟩ := List.mem_iff_getElem.1 hx
    rw [zja] at hj
    rw [zow f k b ks 0 j hj, Nat.zero_add]
    exact h j hj
  rw [za0] at hfm ⊢
  rw [zja, ha]
  split at hfm
  · rename_i c1
    rw [if_pos c1]
    split at hfm
    · rename_i c2
      rw [if_pos c2]
      rw [Bool.and_eq_true] at hfm
      rw [hfm.1]; rfl
    · rename_i c2
      rw [if_neg c2]
      split at hfm
      · rename_i c3; rw [if_pos c3]
      · cases hfm
  · cases hfm
theorem zbj {n : Int} (h : 0 ≤ n ∧ n ≤ 65535) : zab (.mk 1 n []) = true := by simp [za0, zds, (zdn n 0 65535).2 h]
theorem zAd (k b : Int) : ∀ (xs : List T) (i : Nat) (a : Int), a ≤ zkn k b i a xs ∧ ∀ (j : Nat) (hj : j < xs.length), zfl xs[j] (b + zai k (i + j : Nat)) ≤ zkn k b i a xs
  | [], i, a => ⟨by rw [zkn]; omega, fun j hj => by simp at hj⟩
  | x :: xs, i, a => by
    obtain ⟨h1, h2⟩ := zAd k b xs (i + 1) (mx a (zfl x (b + zai k i)))
    rw [zvk] at h1
    rw [zkn]
    refine ⟨by rw [zvk] at *; omega, fun j hj => ?_⟩
    cases j with
    | zero => simp only [List.getElem_cons_zero, Nat.add_zero]; rw [zvk] at *; omega
    | succ j =>
      have := h2 j (by simpa using hj)
      simp only [List.getElem_cons_succ]
      rw [show i + (j + 1) = i + 1 + j by omega]
      exact this
theorem zAr (t : T) : ∀ (b y F : Int), zab t = true → 0 ≤ y → y ≤ 10000000 → zfl t b ≤ F → (F < 0 ∨ F + y ≤ 65535) → 0 ≤ b → zab (mapT (mv y) t b) = true := by
  refine T.ind (p := fun t => ∀ (b y F : Int), zab t = true → 0 ≤ y → y ≤ 10000000 → zfl t b ≤ F → (F < 0 ∨ F + y ≤ 65535) → 0 ≤ b → zab (mapT (mv y) t b) = true) ?_ t
  intro k n ks ih b y F hfm hy0 hy1 hF hFy hb
  rw [zfl] at hF
  rw [mapT]
  by_cases h1 : k = 1
  · have hn := zc9 h1 hfm
    rw [if_pos h1]
    by_cases c : b ≤ n
    · rw [mv_hi c hn.1 (by omega) hy0 hy1]
      have := (zAd k b ks 0 (if k = 1 ∧ b ≤ n then n else -1)).1
      rw [if_pos ⟨h1, c⟩] at this hF
      exact zbj (by omega)
    · rw [zSy (by omega)]
      exact zbj hn
  · rw [if_neg h1]
    refine zqs h1 hfm fun j hj => ?_
    have h2 := (zAd k b ks 0 (if k = 1 ∧ b ≤ n then n else -1)).2 j hj
    rw [Nat.zero_add] at h2
    have hbl := zdf k j
    exact ih ks[j] (List.getElem_mem _) _ y F (zbm hfm _ (List.getElem_mem _)) hy0 hy1 (by omega) hFy (by omega)
theorem zDi (l : List T) (u : Int) (hu : 0 ≤ u ∧ u ≤ 65535) (hl : ∀ x ∈ l, zab x = true) (t : T) : ∀ b : Int, zab t = true → 0 ≤ b → b + zac t ≤ 2097152 → scI l u t b = false → zab (mapT (zd1 l u) t b) = true := by
  refine T.ind (p := fun t => ∀ b : Int, zab t = true → 0 ≤ b → b + zac t ≤ 2097152 → scI l u t b = false → zab (mapT (zd1 l u) t b) = true) ?_ t
  intro k n ks ih b hfm h0 hb hsc
  rw [mapT]
  rw [scI] at hsc
  by_cases h1 : k = 1
  · have hn := zc9 h1 hfm
    rw [if_pos h1] at hsc ⊢
    rw [zd1]
    by_cases hW : 0 ≤ zc7 l.length u n b
    · have hlt : (zc7 l.length u n b).toNat < l.length := by
        have h2 := hW
        rw [zc7] at h2 ⊢
        split at h2
        · omega
        · rename_i h3
          rw [if_neg h3]
          omega
      generalize (zc7 l.length u n b).toNat = m at hlt hsc
      rw [if_pos hW, List.getElem?_eq_getElem hlt] at hsc ⊢
      have hx := hl _ (List.getElem_mem hlt)
      have hfr := zI8 l[m] hx 0
      simp only [zLo, Bool.and_eq_false_iff, decide_eq_false_iff_not] at hsc
      show zab (zm4 (w64 (u + b)) l[m]) = true
      rw [zb0 (by omega) (by omega), zFs]
      exact zAr l[m] 0 (u + b) (zfl l[m] 0) hx (by omega) (by omega) (Int.le_refl _) (by omega) (by omega)
    · rw [if_neg hW]
      have h2 := hW
      rw [zc7] at h2
      by_cases c : u + b ≤ n
      · rw [if_pos c]
        have : (l.length : Int) ≤ n - (u + b) := by
          split at h2
          · rename_i h3; omega
          · omega
        rw [zb0 (by omega) (by omega)]
        exact zbj (by omega)
      · rw [if_neg c]
        exact zbj hn
  · rw [if_neg h1] at hsc ⊢
    refine zqs h1 hfm fun j hj => ?_
    have hxn := zcq (k := k) (n := n) (List.getElem_mem hj)
    have hbl := zdf k j
    have h2 := zNv l u k b ks 0 j hj hsc
    rw [Nat.zero_add] at h2
    exact ih ks[j] (List.getElem_mem _) _ (zbm hfm _ (List.getElem_mem _)) (by omega) (by omega) h2
theorem zxz {t : T} {l : List T} {u : Int} (ht : zac t ≤ 1048576) (hl : ∀ x ∈ l, zac x ≤ 1048576) (h : zgr t l u = 0) : zau (zfs t l u) = 0 ∧ zac (zfs t l u) ≤ 6000 ∧ zab (zfs t l u) = true := by
  obtain ⟨h1, h2, h3, h4⟩ := (zEr ht hl).1 h
  obtain ⟨f1, f2, f3⟩ := zp1 h1
  rw [zw8 h]
  have hf := zDi l u f3 f2 t 0 f1 (by omega) (by omega) h2
  exact ⟨(znj (by omega)).2 ⟨h3, h4, hf⟩, h3, hf⟩
end
section
section
attribute [local simp] zae zaf tk tn tks zb6 zb9
theorem zFr (n : Int) : Pure Tryz.prog zje [.int .i64 n] [.bool (decide (0 ≤ n) && decide (n ≤ 6))] := by
  refine zy4 rfl fun hs => ?_
  simp -dsimp [zl9]
  (first | refine zak ?_ ?_ | refine zaj ?_ ?_) <;> intro h <;> (try simp only [nrm] at h) <;> simp -dsimp [h]
def zif (base ahead k many : Int) : Int := if base < 0 ∨ 65535 < base ∨ k < 0 ∨ many ≤ k then -1 else w64 (w64 (base + ahead) + k)
theorem zu8 (a b c d : Int) : Pure Tryz.prog zfe [.int .i64 a, .int .i64 b, .int .i64 c, .int .i64 d] [.int .i64 (zif a b c d)] := by
  refine zAn rfl fun hs => ?_
  simp -dsimp [zmz]
  (first | refine zak ?_ ?_ | refine zaj ?_ ?_) <;> intro h1 <;> (try simp only [nrm] at h1) <;> simp -dsimp [h1, zif, w64]
  (first | refine zak ?_ ?_ | refine zaj ?_ ?_) <;> intro h2 <;> (try simp only [nrm] at h2) <;> simp -dsimp [h2, h1, zif, w64]
  (first | refine zak ?_ ?_ | refine zaj ?_ ?_) <;> intro h3 <;> (try simp only [nrm] at h3) <;> simp -dsimp [h3, h1, h2, zif, w64]
  (first | refine zak ?_ ?_ | refine zaj ?_ ?_) <;> intro h4 <;> (try simp only [nrm] at h4) <;> simp -dsimp [h4, h1, h2, h3, zif, w64]
def decs (l : List So) : Nat := (l.filter (·.dec)).length
theorem zwq (l : List So) (i : Nat) (x : So) (h : l[i]? = some x) : decs (l.take (i + 1)) = decs (l.take i) + if x.dec then 1 else 0 := by
  simp only [decs, List.take_add_one, h]
  cases hd : x.dec <;> simp -dsimp [hd]
theorem zhb (l : List So) : decs l ≤ l.length := List.length_filter_le _ _
theorem zz9 (b : Bl) (k : Int) (h0 : 0 ≤ k) (hk : k ≤ b.sorts.length) : Pure Tryz.prog zgm [eBl b, .int .i64 k] [.int .i64 (decs (b.sorts.take k.toNat))] := by
  refine zBr rfl fun hs => ?_
  have hb : b.sorts.length ≤ 9223372036854775807 := by
    have := hs (eBl b) (by simp)
    simp -dsimp [eBl, cBl, eSos, small] at this
    exact this.1.1
  obtain ⟨m, rfl⟩ : ∃ m : Nat, k = m := ⟨k.toNat, by omega⟩
  have hm : m ≤ b.sorts.length := by omega
  simp -dsimp [znt, eBl, cBl, eSos, eCos, h0, hk]
  refine zam m (fun i st => st.s 11 = .d (.sl 6 ((b.sorts.take m).map eSo)) ∧ st.s 12 = .d (.int .i64 m) ∧ st.s 13 = .d (.int .i64 i) ∧ st.s 5 = .d (.int .i64 (decs (b.sorts.take i)))) ?_ ?_
  · simp -dsimp [decs, hm]
  · rintro i ⟨s, hp⟩ hi ⟨h1, h2, h3, h4⟩
    dsimp only at h1 h2 h3 h4
    rcases Nat.lt_or_ge i m with hlt | hge
    · obtain ⟨x, hx⟩ : ∃ x, b.sorts[i]? = some x := ⟨_, List.getElem?_eq_getElem (by omega)⟩
      have hx' : (b.sorts.take m)[i]? = some x := by rw [List.getElem?_take_of_lt hlt, hx]
      simp -dsimp [h1, h2, h3, h4, hlt, hx, hx', eSo, cSo, cT, eArs]
      have hd := zhb (b.sorts.take i)
      rw [List.length_take] at hd
      have w1 : IntKind.i64.wrap ((i : Int) + 1) = (i : Int) + 1 := zad (by omega) (by omega)
      have w2 : IntKind.i64.wrap ((decs (b.sorts.take i) : Int) + 1) = (decs (b.sorts.take i) : Int) + 1 := zad (by omega) (by omega)
      cases hxd : x.dec <;> simp -dsimp [hxd, hlt, h1, h2, h3, h4, w1, w2, zwq _ _ _ hx]
    · have e : i = m := by omega
      subst e
      simp -dsimp [h1, h2, h3, h4]
def ztq (b : Bl) : Int := w64 (w64 (w64 (2 * b.sorts.length) + decs b.sorts) + b.cons.length)
theorem zK5 (b : Bl) : Pure Tryz.prog zml [eBl b] [.int .i64 (ztq b)] := by
  refine zzs rfl fun hs => ?_
  simp -dsimp [zmi, eBl, cBl, eSos, eCos]
  refine zaa (zz9 b b.sorts.length (by omega) (by omega)) ?_
  simp -dsimp [ztq, w64]
def zbq (b : Bl) (base k : Int) : Int := zif base 0 k b.sorts.length
theorem zrs (b : Bl) (base k : Int) : Pure Tryz.prog zcf [eBl b, .int .i64 base, .int .i64 k] [.int .i64 (zbq b base k)] := by
  refine zxk rfl fun hs => ?_
  simp -dsimp [zkz, eBl, cBl, eSos, eCos]
  refine zaa (zu8 _ _ _ _) ?_
  simp -dsimp [zbq]
def zdp (b : Bl) (base k : Int) : Int :=
  if k < 0 then -1 else match b.sorts[k.toNat]? with
    | none => -1
    | some s => if s.dec then zif base b.sorts.length (decs (b.sorts.take k.toNat)) b.sorts.length else -1
theorem zG5 (b : Bl) (base k : Int) : Pure Tryz.prog zd0 [eBl b, .int .i64 base, .int .i64 k] [.int .i64 (zdp b base k)] := by
  refine zw1 rfl fun hs => ?_
  simp -dsimp [zkd, eBl, cBl, eSos, eCos]
  (first | refine zak ?_ ?_ | refine zaj ?_ ?_) <;> intro h1 <;> (try simp only [nrm] at h1) <;> simp -dsimp [h1, zdp]
  (first | refine zak ?_ ?_ | refine zaj ?_ ?_) <;> intro h2 <;> (try simp only [nrm] at h2) <;> simp -dsimp [h2, h1, zdp]
  · have : b.sorts[k.toNat]? = none := List.getElem?_eq_none (by omega)
    simp -dsimp [this]
  · obtain ⟨s, hs⟩ : ∃ s, b.sorts[k.toNat]? = some s := ⟨_, List.getElem?_eq_getElem (by omega)⟩
    have h3 : 0 ≤ k := by omega
    simp -dsimp [hs, h1, h2, h3, eSo, cSo, cT, eArs]
    (first | refine zak ?_ ?_ | refine zaj ?_ ?_) <;> intro h4 <;> (try simp only [nrm] at h4) <;> simp -dsimp [h4, hs, h1, h2, h3, zdp]
    · 
      refine zaa (zz9 b k (by omega) (by omega)) ?_
      simp -dsimp
      refine zaa (zu8 _ _ _ _) ?_
      simp -dsimp [zdp, h1, h4, hs]
def zap (b : Bl) (base k : Int) : Int := zif base (w64 (b.sorts.length + decs b.sorts)) k b.cons.length
theorem zpl (b : Bl) (base k : Int) : Pure Tryz.prog zbs [eBl b, .int .i64 base, .int .i64 k] [.int .i64 (zap b base k)] := by
  refine zp8 rfl fun hs => ?_
  simp -dsimp [zgb, eBl, cBl, eSos, eCos]
  refine zaa (zz9 b b.sorts.length (by omega) (by omega)) ?_
  simp -dsimp
  refine zaa (zu8 _ _ _ _) ?_
  simp -dsimp [zap, w64]
def za6 (b : Bl) (base k : Int) : Int := zif base (w64 (w64 (b.sorts.length + decs b.sorts) + b.cons.length)) k b.sorts.length
theorem zr9 (b : Bl) (base k : Int) : Pure Tryz.prog zb1 [eBl b, .int .i64 base, .int .i64 k] [.int .i64 (za6 b base k)] := by
  refine zr1 rfl fun hs => ?_
  simp -dsimp [zg9, eBl, cBl, eSos, eCos]
  refine zaa (zz9 b b.sorts.length (by omega) (by omega)) ?_
  simp -dsimp
  refine zaa (zu8 _ _ _ _) ?_
  simp -dsimp [za6, w64]
end
section
attribute [local simp] zae zaf tk tn tks zb6 zb9
theorem zq3 (t : T) : Pure Tryz.prog za8 [.sl 3 [.agg (cT t)]] [.bool (zes [t])] := by
  have h := zov [t]
  simp only [eTs, List.map_cons, List.map_nil, zcc] at h
  exact h
theorem zAf {α : Type} {p : α → Bool} {l : List α} {i : Nat} (hlt : i < l.length) (h : (l.take i).any p = false) (hx : p l[i] = false) : (l.take (i + 1)).any p = false := by
  rw [zdb (List.getElem?_eq_getElem hlt), List.any_append, h]
  simp [hx]
theorem zvq {α : Type} {p : α → Bool} {l : List α} {i : Nat} (hlt : i < l.length) (hx : p l[i] = true) : l.any p = true := List.any_eq_true.2 ⟨l[i], List.getElem_mem _, hx⟩
def pArg (a : Ar) : Bool := zes [a.ty] || zes a.dom || zes a.idx
def zhs (l : List Ar) : Bool := decide ((20 : Int) < (l.length : Int)) || l.any pArg
theorem zt4 (l : List Ar) : Pure Tryz.prog zct [eArs l] [.bool (zhs l)] := by
  refine zmx rfl fun hs => ?_
  simp -dsimp [zd7, eArs]
  (first | refine zak ?_ ?_ | refine zaj ?_ ?_) <;> intro h1 <;> (try simp only [nrm] at h1) <;> simp -dsimp [h1, zhs]
  have hl : l.length ≤ 20 := by omega
  refine zam l.length (fun i st => st.s 0 = .d (.sl 7 (l.map eAr)) ∧ st.s 3 = .d (.int .i64 i) ∧ (l.take i).any pArg = false) ?_ ?_
  · simp -dsimp
  · rintro i ⟨s, hp⟩ hi ⟨h2, h3, h5⟩
    dsimp only at h2 h3 h5
    rcases Nat.lt_or_ge i l.length with hlt | hge
    · have w1 : IntKind.i64.wrap ((i : Int) + 1) = (i : Int) + 1 := zad (by omega) (by omega)
      have ht : ∀ b, pArg l[i] = b → zes [l[i].ty] = true ∨ zes l[i].dom = true ∨ zes l[i].idx = true → b = true := by
        rintro b rfl h
        simp only [pArg, Bool.or_eq_true]
        rcases h with h | h | h <;> simp [h]
      have fin : pArg l[i] = true → zhs l = true := fun h => by simp only [zhs, zvq hlt h, Bool.or_true]
      simp -dsimp [h2, h3, hlt, eAr, cAr, cT, eTs]
      refine zaa (zq3 l[i].ty) ?_
      simp -dsimp [h2, h3, hlt]
      (first | refine zak ?_ ?_ | refine zaj ?_ ?_) <;> intro h6 <;> (try simp only [nrm] at h6) <;> simp -dsimp [h6, h2, h3, hlt]
      · exact fin (ht _ rfl (.inl h6))
      · simp -dsimp [h2, h3, hlt, h6, eAr, cAr, cT, eTs]
        refine zaa (zov l[i].dom) ?_
        simp -dsimp [h2, h3, hlt, h6]
        (first | refine zak ?_ ?_ | refine zaj ?_ ?_) <;> intro h7 <;> (try simp only [nrm] at h7) <;> simp -dsimp [h7, h2, h3, hlt, h6]
        · exact fin (ht _ rfl (.inr (.inl h7)))
        · simp -dsimp [h2, h3, hlt, h6, h7, eAr, cAr, cT, eTs]
          refine zaa (zov l[i].idx) ?_
          simp -dsimp [h2, h3, hlt, h6, h7]
          (first | refine zak ?_ ?_ | refine zaj ?_ ?_) <;> intro h8 <;> (try simp only [nrm] at h8) <;> simp -dsimp [h8, h2, h3, hlt, h6, h7]
          · exact fin (ht _ rfl (.inr (.inr h8)))
          · simp -dsimp [h2, h3, hlt, h6, h7, h8, w1]
            have := zAf hlt h5 (by simp [pArg, h6, h7, h8])
            simpa using this
    · have e : i = l.length := by omega
      subst e
      simp -dsimp [h2, h3, zhs]
      rw [List.take_length] at h5
      exact ⟨by omega, by simpa using h5⟩
def pSo (s : So) : Bool := zhs s.idx || zes [s.dty]
def pCo (c : Co) : Bool := zhs c.args || zes c.idx || zes [c.dec]
def zi2 (b : Bl) : Bool := decide ((10 : Int) < (b.sorts.length : Int)) || decide ((20 : Int) < (b.cons.length : Int)) || b.sorts.any pSo || b.cons.any pCo
theorem zGe (b : Bl) : Pure Tryz.prog zgh [eBl b] [.bool (zi2 b)] := by
  refine zp4 rfl fun hs => ?_
  simp -dsimp [zf8, eBl, cBl, eSos, eCos]
  (first | refine zak ?_ ?_ | refine zaj ?_ ?_) <;> intro h1 <;> (try simp only [nrm] at h1) <;> simp -dsimp [h1, zi2]
  (first | refine zak ?_ ?_ | refine zaj ?_ ?_) <;> intro h2 <;> (try simp only [nrm] at h2) <;> simp -dsimp [h2, zi2, h1]
  have hl : b.sorts.length ≤ 10 := by omega
  have hl2 : b.cons.length ≤ 20 := by omega
  refine zam b.sorts.length (fun i st => st.s 1 = .ptr 1 1 0 ∧ st.h 1 = ⟨1, .box [.d (.sl 6 (b.sorts.map eSo)), .d (.sl 6 (b.cons.map eCo)), .d (.int .i64 b.elim)] false⟩ ∧ st.s 3 = .d (.int .i64 i) ∧ (b.sorts.take i).any pSo = false) ?_ ?_
  · simp -dsimp
  · rintro i ⟨s, hp⟩ hi ⟨h3, h4, h5, h6⟩
    dsimp only at h3 h4 h5 h6
    rcases Nat.lt_or_ge i b.sorts.length with hlt | hge
    · have w1 : IntKind.i64.wrap ((i : Int) + 1) = (i : Int) + 1 := zad (by omega) (by omega)
      have fin : pSo b.sorts[i] = true → zi2 b = true := fun h => by simp only [zi2, zvq hlt h, Bool.or_true, Bool.true_or]
      simp -dsimp [h3, h4, h5, hlt, eSo, cSo, cT, eArs]
      refine zaa (zt4 b.sorts[i].idx) ?_
      simp -dsimp [h3, h4, h5, hlt]
      (first | refine zak ?_ ?_ | refine zaj ?_ ?_) <;> intro h7 <;> (try simp only [nrm] at h7) <;> simp -dsimp [h7, h3, h4, h5, hlt]
      · exact fin (by simp [pSo, h7])
      · simp -dsimp [h3, h4, h5, hlt, h7, eSo, cSo, cT, eArs]
        refine zaa (zq3 b.sorts[i].dty) ?_
        simp -dsimp [h3, h4, h5, hlt, h7]
        (first | refine zak ?_ ?_ | refine zaj ?_ ?_) <;> intro h8 <;> (try simp only [nrm] at h8) <;> simp -dsimp [h8, h3, h4, h5, hlt, h7]
        · exact fin (by simp [pSo, h8])
        · simp -dsimp [h3, h4, h5, hlt, h7, h8, w1]
          simpa using zAf hlt h6 (by simp [pSo, h7, h8])
    · have e : i = b.sorts.length := by omega
      subst e
      rw [List.take_length] at h6
      simp -dsimp [h3, h4, h5]
      refine zam b.cons.length (fun i st => st.s 1 = .ptr 1 1 0 ∧ st.h 1 = ⟨1, .box [.d (.sl 6 (b.sorts.map eSo)), .d (.sl 6 (b.cons.map eCo)), .d (.int .i64 b.elim)] false⟩ ∧ st.s 4 = .d (.int .i64 i) ∧ (b.cons.take i).any pCo = false) ?_ ?_
      · simp -dsimp [h3, h4, h5]
      · rintro i ⟨s, hp⟩ hi ⟨h3, h4, h5, h10⟩
        dsimp only at h3 h4 h5 h10
        rcases Nat.lt_or_ge i b.cons.length with hlt | hge
        · have w1 : IntKind.i64.wrap ((i : Int) + 1) = (i : Int) + 1 := zad (by omega) (by omega)
          have fin : pCo b.cons[i] = true → zi2 b = true := fun h => by simp only [zi2, zvq hlt h, Bool.or_true, Bool.true_or]
          simp -dsimp [h3, h4, h5, hlt, eCo, cCo, cT, eArs, eTs]
          refine zaa (zt4 b.cons[i].args) ?_
          simp -dsimp [h3, h4, h5, hlt]
          (first | refine zak ?_ ?_ | refine zaj ?_ ?_) <;> intro h7 <;> (try simp only [nrm] at h7) <;> simp -dsimp [h7, h3, h4, h5, hlt]
          · exact fin (by simp [pCo, h7])
          · simp -dsimp [h3, h4, h5, hlt, h7, eCo, cCo, cT, eArs, eTs]
            refine zaa (zov b.cons[i].idx) ?_
            simp -dsimp [h3, h4, h5, hlt, h7]
            (first | refine zak ?_ ?_ | refine zaj ?_ ?_) <;> intro h8 <;> (try simp only [nrm] at h8) <;> simp -dsimp [h8, h3, h4, h5, hlt, h7]
            · exact fin (by simp [pCo, h8])
            · simp -dsimp [h3, h4, h5, hlt, h7, h8, eCo, cCo, cT, eArs, eTs]
              refine zaa (zq3 b.cons[i].dec) ?_
              simp -dsimp [h3, h4, h5, hlt, h7, h8]
              (first | refine zak ?_ ?_ | refine zaj ?_ ?_) <;> intro h9 <;> (try simp only [nrm] at h9) <;> simp -dsimp [h9, h3, h4, h5, hlt, h7, h8]
              · exact fin (by simp [pCo, h9])
              · simp -dsimp [h3, h4, h5, hlt, h7, h8, h9, w1]
                simpa using zAf hlt h10 (by simp [pCo, h7, h8, h9])
        · have e : i = b.cons.length := by omega
          subst e
          rw [List.take_length] at h10
          simp -dsimp [h3, h4, h5, zi2, h6, h10]
          exact ⟨by omega, by omega⟩
end
section
attribute [local simp] zae zaf tk tn tks zb6 zb9
structure En where
  kind : Int
  many : Nat
  f : Nat
  of : Int → Int
def eEn (e : En) : D := .agg [.int .i64 e.kind, .int .i64 e.many, .clo e.f []]
def tab (b : Bl) (base : Int) : List En :=
  [⟨3, b.sorts.length, zcf, zbq b base⟩, ⟨4, b.sorts.length, zd0, zdp b base⟩, ⟨5, b.cons.length, zbs, zap b base⟩, ⟨6, b.sorts.length, zb1, za6 b base⟩]
def hit (n : Int) (e : En) : Option Nat := (List.range e.many).find? fun k => e.of k == n
def seek (n : Int) (l : List En) : Option (Int × Int) := l.findSome? fun e => (hit n e).map fun (k : Nat) => (e.kind, (k : Int))
def ofM (b : Bl) (base n : Int) : Int × Int :=
  if base < 0 ∨ 65535 < base ∨ n < base ∨ ztq b ≤ w64 (n - base) then (0, 0) else (seek n (tab b base)).getD (0, 0)
theorem zR9 (b : Bl) (base : Int) : ∀ e ∈ tab b base, ∀ k : Int, Pure Tryz.prog e.f [eBl b, .int .i64 base, .int .i64 k] [.int .i64 (e.of k)] := by
  intro e he k
  simp only [tab, List.mem_cons, List.not_mem_nil, or_false] at he
  rcases he with rfl | rfl | rfl | rfl
  · exact zrs b base k
  · exact zG5 b base k
  · exact zpl b base k
  · exact zr9 b base k
theorem zMb (b : Bl) (base : Int) (hl : b.sorts.length ≤ 9223372036854775807) (hc : b.cons.length ≤ 9223372036854775807) : ∀ e ∈ tab b base, e.many ≤ 9223372036854775807 := by
  intro e he
  simp only [tab, List.mem_cons, List.not_mem_nil, or_false] at he
  rcases he with rfl | rfl | rfl | rfl <;> assumption
theorem zGg {p : Nat → Bool} {n i : Nat} (hi : i < n) (hb : ∀ j, j < i → p j = false) (h : p i = true) : (List.range n).find? p = some i := by
  rw [List.find?_eq_some_iff_append]
  refine ⟨h, List.range i, (List.range (n - i - 1)).map (· + (i + 1)), ?_, ?_⟩
  · apply List.ext_getElem
    · simp; omega
    · intro j h1 h2
      simp [List.getElem_append, List.getElem_cons]
      split
      · omega
      · omega
  · intro a ha
    simp at ha
    simp [hb a ha]
theorem zI0 {n : Int} {l : List En} {i : Nat} (hlt : i < l.length) (h : seek n (l.take i) = none) (hx : hit n l[i] = none) : seek n (l.take (i + 1)) = none := by
  rw [zdb (List.getElem?_eq_getElem hlt)]
  simp only [seek, List.findSome?_append] at h ⊢
  rw [h]
  simp [hx]
theorem zLd {n : Int} {l : List En} {i k : Nat} (hlt : i < l.length) (h : seek n (l.take i) = none) (hx : hit n l[i] = some k) : seek n l = some (l[i].kind, (k : Int)) := by
  have e : seek n (l.take i ++ l[i] :: l.drop (i + 1)) = some (l[i].kind, (k : Int)) := by
    simp only [seek, List.findSome?_append] at h ⊢
    rw [h, List.findSome?_cons, hx]
    rfl
  rwa [List.getElem_cons_drop, List.take_append_drop] at e
theorem zMh (b : Bl) (base n : Int) : Pure Tryz.prog zjp [eBl b, .int .i64 base, .int .i64 n] [.int .i64 (ofM b base n).1, .int .i64 (ofM b base n).2] := by
  refine zF5 rfl fun hs => ?_
  have hsm := hs (eBl b) (by simp)
  simp [eBl, cBl, eSos, eCos, small] at hsm
  obtain ⟨⟨hl, _⟩, hlc, _⟩ := hsm
  simp -dsimp [ztj, eBl, cBl, eSos, eCos]
  (first | refine zak ?_ ?_ | refine zaj ?_ ?_) <;> intro h1 <;> (try simp only [nrm] at h1) <;> simp -dsimp [h1, ofM]
  (first | refine zak ?_ ?_ | refine zaj ?_ ?_) <;> intro h2 <;> (try simp only [nrm] at h2) <;> simp -dsimp [h2, ofM, h1]
  (first | refine zak ?_ ?_ | refine zaj ?_ ?_) <;> intro h3 <;> (try simp only [nrm] at h3) <;> simp -dsimp [h3, ofM, h1, h2]
  refine zaa (zK5 b) ?_
  simp -dsimp [h1, h2, h3]
  (first | refine zak ?_ ?_ | refine zaj ?_ ?_) <;> intro h4 <;> (try simp only [nrm] at h4) <;> simp -dsimp [h4, h1, h2, h3]
  · have : ofM b base n = (0, 0) := by rw [ofM, if_pos (.inr (.inr (.inr h4)))]
    simp [this]
  have hof : ofM b base n = (seek n (tab b base)).getD (0, 0) := by
    rw [ofM, if_neg]
    rintro (h | h | h | h)
    · exact h1 h
    · exact h2 h
    · exact h3 h
    · exact h4 h
  rw [hof]
  refine zam 4 (fun i st => st.s 1 = .d (.int .i64 base) ∧ st.s 2 = .d (.int .i64 n) ∧ st.s 3 = .ptr 3 1 0 ∧ st.h 3 = ⟨1, .box [.d (.sl 6 (b.sorts.map eSo)), .d (.sl 6 (b.cons.map eCo)), .d (.int .i64 b.elim)] false⟩ ∧
    st.s 46 = .fsl 3 ((tab b base).map eEn) ∧ st.s 47 = .d (.int .i64 4) ∧ st.s 48 = .d (.int .i64 i) ∧ seek n ((tab b base).take i) = none) ?_ ?_
  · simp -dsimp [tab, eEn, seek]
  · rintro i ⟨s, hp⟩ hi ⟨g1, g2, g3, g4, g5, g6, g7, g8⟩
    dsimp only at g1 g2 g3 g4 g5 g6 g7 g8
    have htl : (tab b base).length = 4 := rfl
    rcases Nat.lt_or_ge i 4 with hlt | hge
    · have w1 : IntKind.i64.wrap ((i : Int) + 1) = (i : Int) + 1 := zad (by omega) (by omega)
      have hlt' : i < (tab b base).length := by omega
      generalize he : (tab b base)[i] = e at *
      have hm := zMb b base hl hlc e (he ▸ List.getElem_mem _)
      have hok := zR9 b base e (he ▸ List.getElem_mem _)
      have hi4 : ((i : Int) < 4) := by omega
      simp -dsimp [g1, g2, g3, g4, g5, g6, g7, hi4, hlt', he, eEn]
      refine zam e.many (fun j st => st.s 1 = .d (.int .i64 base) ∧ st.s 2 = .d (.int .i64 n) ∧ st.s 3 = .ptr 3 1 0 ∧ st.h 3 = ⟨1, .box [.d (.sl 6 (b.sorts.map eSo)), .d (.sl 6 (b.cons.map eCo)), .d (.int .i64 b.elim)] false⟩ ∧
        st.s 46 = .fsl 3 ((tab b base).map eEn) ∧ st.s 47 = .d (.int .i64 4) ∧ st.s 48 = .d (.int .i64 i) ∧ (∃ v, st.s 9 = .ptr 9 v 0 ∧ st.h 9 = ⟨v, .box [.d (.int .i64 e.kind), .d (.int .i64 e.many), .d (.clo e.f [])] false⟩) ∧
        st.s 53 = .d (.int .i64 e.many) ∧ st.s 54 = .d (.int .i64 j) ∧ ∀ k, k < j → (e.of k == n) = false) ?_ ?_
      · simp -dsimp [g1, g2, g3, g4, g5, g6, g7]
      · rintro j ⟨s, hp⟩ hj ⟨g1, g2, g3, g4, g5, g6, g7, ⟨v, g9, g10⟩, g11, g12, g13⟩
        dsimp only at g1 g2 g3 g4 g5 g6 g7 g9 g10 g11 g12
        rcases Nat.lt_or_ge j e.many with hjl | hjg
        · have w2 : IntKind.i64.wrap ((j : Int) + 1) = (j : Int) + 1 := zad (by omega) (by omega)
          simp -dsimp [g1, g2, g3, g4, g5, g6, g7, g9, g10, g11, g12, hjl]
          refine zaa (hok j) ?_
          simp -dsimp [g1, g2, g3, g4, g5, g6, g7, g9, g10, g11, g12, hjl]
          (first | refine zak ?_ ?_ | refine zaj ?_ ?_) <;> intro h5 <;> (try simp only [nrm] at h5) <;> simp -dsimp [h5, g1, g2, g3, g4, g5, g6, g7, g9, g10, g11, g12, hjl, w2]
          · have hh : hit n e = some j := zGg hjl g13 (by simpa using h5)
            have hk := zLd hlt' g8 (by rw [he]; exact hh)
            rw [hk, he]
            simp
          · intro k hk
            rcases Nat.lt_or_ge k j with h | h
            · simpa using g13 k h
            · have : k = j := by omega
              subst this
              exact h5
        · have e2 : j = e.many := by omega
          subst e2
          simp -dsimp [g1, g2, g3, g4, g5, g6, g7, g9, g10, g11, g12, w1, hlt]
          refine zI0 hlt' g8 ?_
          rw [he]
          simp only [hit, List.find?_eq_none]
          intro k hk
          simpa using g13 k (by simpa using hk)
    · have e : i = 4 := by omega
      subst e
      simp -dsimp [g1, g2, g3, g4, g5, g6, g7]
      have : (tab b base).take 4 = tab b base := List.take_of_length_le (by omega)
      rw [this] at g8
      simp [g8]
end
section
attribute [local simp] zae zaf tk tn tks zb6 zb9
theorem zy2 (l : List Ar) (g : FuncId) (caps : List D) (p : Ar → Bool) (hp : ∀ x ∈ l, Pure Tryz.prog g (.agg (cAr x) :: caps) [.bool (p x)]) :
    Pure Tryz.prog zen [.sl 7 (l.map eAr), .clo g caps] [.int .i64 (idxF l p)] := by
  refine zna rfl fun hs => ?_
  have hl := hs (.sl 7 (l.map eAr)) (by simp)
  simp [small] at hl
  replace hl := hl.1
  simp -dsimp [zel]
  refine zam l.length (fun i st => st.s 0 = .d (.sl 7 (l.map eAr)) ∧ st.s 1 = .d (.clo g caps) ∧ st.s 7 = .d (.int .i64 l.length) ∧ st.s 8 = .d (.int .i64 i) ∧ ∀ x ∈ l.take i, p x = false) ?_ ?_
  · simp -dsimp
  · rintro i ⟨s, hp'⟩ hi ⟨h1, h2, h3, h4, h5⟩
    dsimp only at h1 h2 h3 h4 h5
    rcases Nat.lt_or_ge i l.length with hlt | hge
    · have w1 : IntKind.i64.wrap ((i : Int) + 1) = (i : Int) + 1 := zad (by omega) (by omega)
      have hc : (cAr l[i]).length = 7 := rfl
      simp -dsimp [h1, h2, h3, h4, hlt, hc]
      have ht : (cAr l[i]).take 7 = cAr l[i] := List.take_of_length_le (by omega)
      refine zaa (by rw [ht]; exact hp l[i] (List.getElem_mem _)) ?_
      simp -dsimp [h1, h2, h3, h4, hlt]
      (first | refine zak ?_ ?_ | refine zaj ?_ ?_) <;> intro h6 <;> (try simp only [nrm] at h6) <;> simp -dsimp [h6, h1, h2, h3, h4, hlt, w1]
      · have : l.findIdx? p = some i := by
          rw [List.findIdx?_eq_some_iff_getElem]
          refine ⟨hlt, h6, fun j hj => ?_⟩
          have := h5 l[j] (by rw [List.mem_take_iff_getElem]; exact ⟨j, by omega, rfl⟩)
          simpa using this
        simp only [idxF, this]
      · intro x hx
        rw [zdb (List.getElem?_eq_getElem hlt), List.mem_append] at hx
        rcases hx with hx | hx
        · simpa using h5 x hx
        · simp at hx; subst hx; exact h6
    · have e : i = l.length := by omega
      subst e
      rw [List.take_length] at h5
      have : l.findIdx? p = none := by
        rw [List.findIdx?_eq_none_iff]; exact h5
      simp -dsimp [h1, h2, h3, h4, idxF, this]

theorem zuk (l : List Ar) (g : FuncId) (caps : List D) (p : Ar → Bool) (hp : ∀ x ∈ l, Pure Tryz.prog g (.agg (cAr x) :: caps) [.bool (p x)]) :
    Pure Tryz.prog zdm [.sl 7 (l.map eAr), .clo g caps] [.bool (l.any p)] := by
  refine zk1 rfl fun hs => ?_
  simp -dsimp [zdi]
  refine zaa (zy2 l g caps p hp) ?_
  simp -dsimp [zDw]

theorem zy1 (l : List Co) (g : FuncId) (caps : List D) (p : Co → Bool) (hp : ∀ x ∈ l, Pure Tryz.prog g (.agg (cCo x) :: caps) [.bool (p x)]) :
    Pure Tryz.prog zek [.sl 6 (l.map eCo), .clo g caps] [.int .i64 (idxF l p)] := by
  refine zm7 rfl fun hs => ?_
  have hl := hs (.sl 6 (l.map eCo)) (by simp)
  simp [small] at hl
  replace hl := hl.1
  simp -dsimp [zei]
  refine zam l.length (fun i st => st.s 0 = .d (.sl 6 (l.map eCo)) ∧ st.s 1 = .d (.clo g caps) ∧ st.s 7 = .d (.int .i64 l.length) ∧ st.s 8 = .d (.int .i64 i) ∧ ∀ x ∈ l.take i, p x = false) ?_ ?_
  · simp -dsimp
  · rintro i ⟨s, hp'⟩ hi ⟨h1, h2, h3, h4, h5⟩
    dsimp only at h1 h2 h3 h4 h5
    rcases Nat.lt_or_ge i l.length with hlt | hge
    · have w1 : IntKind.i64.wrap ((i : Int) + 1) = (i : Int) + 1 := zad (by omega) (by omega)
      have hc : (cCo l[i]).length = 6 := rfl
      simp -dsimp [h1, h2, h3, h4, hlt, hc]
      have ht : (cCo l[i]).take 6 = cCo l[i] := List.take_of_length_le (by omega)
      refine zaa (by rw [ht]; exact hp l[i] (List.getElem_mem _)) ?_
      simp -dsimp [h1, h2, h3, h4, hlt]
      (first | refine zak ?_ ?_ | refine zaj ?_ ?_) <;> intro h6 <;> (try simp only [nrm] at h6) <;> simp -dsimp [h6, h1, h2, h3, h4, hlt, w1]
      · have : l.findIdx? p = some i := by
          rw [List.findIdx?_eq_some_iff_getElem]
          refine ⟨hlt, h6, fun j hj => ?_⟩
          have := h5 l[j] (by rw [List.mem_take_iff_getElem]; exact ⟨j, by omega, rfl⟩)
          simpa using this
        simp only [idxF, this]
      · intro x hx
        rw [zdb (List.getElem?_eq_getElem hlt), List.mem_append] at hx
        rcases hx with hx | hx
        · simpa using h5 x hx
        · simp at hx; subst hx; exact h6
    · have e : i = l.length := by omega
      subst e
      rw [List.take_length] at h5
      have : l.findIdx? p = none := by
        rw [List.findIdx?_eq_none_iff]; exact h5
      simp -dsimp [h1, h2, h3, h4, idxF, this]

theorem zuo (l : List Co) (g : FuncId) (caps : List D) (p : Co → Bool) (hp : ∀ x ∈ l, Pure Tryz.prog g (.agg (cCo x) :: caps) [.bool (p x)]) :
    Pure Tryz.prog zdl [.sl 6 (l.map eCo), .clo g caps] [.bool (l.any p)] := by
  refine zla rfl fun hs => ?_
  simp -dsimp [zdj]
  refine zaa (zy1 l g caps p hp) ?_
  simp -dsimp [zDw]

end
section
attribute [local simp] zae zaf w64 tk tn tks zb6 zb9
def zv7 (t : T) : Bool := if t.kind = 0 then if t.num = 0 then decide ((t.kids.length : Int) = 0) else false else false
theorem zIx (t : T) : Pure Tryz.prog zmo [.agg (cT t)] [.bool (zv7 t)] := by
  refine zDu rfl fun hs => ?_
  simp -dsimp [zpy, cT]
  (first | refine zak ?_ ?_ | refine zaj ?_ ?_) <;> intro h1 <;> (try simp only [nrm] at h1) <;> simp -dsimp [h1, zv7]
  (first | refine zak ?_ ?_ | refine zaj ?_ ?_) <;> intro h2 <;> (try simp only [nrm] at h2) <;> simp -dsimp [h2, zv7, h1]
def inM (t : T) (v : Int) : Bool := zj0 t v 65536
theorem zLt (t : T) (v : Int) : Pure Tryz.prog zjo [.agg (cT t), .int .i64 v] [.bool (inM t v)] := by
  refine zF0 rfl fun hs => ?_
  simp -dsimp [zth, cT]
  refine zaa (zEl t v 65536) ?_
  simp -dsimp [inM]
theorem zP9 (t : T) (v : Int) : Pure Tryz.prog zjn [.agg (cT t), .rp [.int .i64 v]] [.bool (!inM t v)] := by
  refine zAh rfl fun hs => ?_
  simp -dsimp [zmw, cT]
  refine zaa (zLt t v) ?_
  simp -dsimp
def allM (l : List T) (v : Int) : Bool := !l.any fun t => !inM t v
theorem zNm (l : List T) (v : Int) : Pure Tryz.prog zl4 [eTs l, .int .i64 v] [.bool (allM l v)] := by
  refine zDf rfl fun hs => ?_
  simp -dsimp [zqc, eTs]
  refine zaa (zfd l zjn [.rp [.int .i64 v]] (fun t => !inM t v) (fun x _ => zP9 x v)) ?_
  simp -dsimp [allM]
def zeq (is : Bool) (t : T) (v : Int) : Bool := if is then inM t v else zv7 t
theorem zEm (is : Bool) (t : T) (v : Int) : Pure Tryz.prog zjd [.bool is, .agg (cT t), .int .i64 v] [.bool (zeq is t v)] := by
  refine zyw rfl fun hs => ?_
  cases is with
  | false =>
    simp -dsimp [zji, cT]
    refine zaa (zIx t) ?_
    simp -dsimp [zeq]
  | true =>
    simp -dsimp [zji, cT]
    refine zaa (zLt t v) ?_
    simp -dsimp [zeq]
def allI {α : Type} (p : Nat → α → Bool) : Nat → List α → Bool
  | _, [] => true
  | i, x :: xs => p i x && allI p (i + 1) xs
theorem zan {α : Type} (p : Nat → α → Bool) : ∀ (l : List α) (i : Nat), allI p i l = true ↔ ∀ (j : Nat) (hj : j < l.length), p (i + j) l[j] = true
  | [], i => by simp [allI]
  | x :: xs, i => by
    rw [allI, Bool.and_eq_true, zan p xs (i + 1)]
    constructor
    · rintro ⟨h1, h2⟩ j hj
      cases j with
      | zero => simpa using h1
      | succ j =>
        have := h2 j (by simpa using hj)
        have e : i + 1 + j = i + (j + 1) := by omega
        rw [e] at this
        simpa using this
    · intro h
      refine ⟨h 0 (by simp), fun j hj => ?_⟩
      have := h (j + 1) (by simpa using hj)
      have e : i + 1 + j = i + (j + 1) := by omega
      rw [e]
      simpa using this
theorem zot {α : Type} {p : Nat → α → Bool} {l : List α} {j : Nat} (hj : j < l.length) (h : p j l[j] = false) : allI p 0 l = false := by
  cases hw : allI p 0 l with
  | false => rfl
  | true =>
    have := (zan p l 0).1 hw j hj
    rw [Nat.zero_add, h] at this
    cases this
theorem zis {α : Type} {p : Nat → α → Bool} {l : List α} {i : Nat} (hi : i < l.length) (h : ∀ (j : Nat) (hj : j < l.length), j < i → p j l[j] = true) (hx : p i l[i] = true) :
    ∀ (j : Nat) (hj : j < l.length), j < i + 1 → p j l[j] = true := by
  intro j hj hji
  rcases Nat.lt_or_ge j i with h' | h'
  · exact h j hj h'
  · have : j = i := by omega
    subst this
    exact hx
theorem zo3 {α : Type} {p : Nat → α → Bool} {l : List α} (h : ∀ (j : Nat) (hj : j < l.length), j < l.length → p j l[j] = true) : allI p 0 l = true :=
  (zan p l 0).2 fun j hj => by rw [Nat.zero_add]; exact h j hj hj
def domM (i : Int) (l : List T) : Bool := allI (fun j t => inM t (w64 (i + j))) 0 l
def argM (b : Bl) (a : Ar) (i : Int) : Bool :=
  if a.rc then
    if zv7 a.ty then
      if 12 < (a.dom.length : Int) then false else if a.sort < 0 then false else match b.sorts[a.sort.toNat]? with
      | none => false
      | some s => if (a.idx.length : Int) = (s.idx.length : Int) then domM i a.dom && allM a.idx (w64 (i + a.dom.length)) else false
    else false
  else if inM a.ty i then if w64 (a.dom.length + a.idx.length) = 0 then decide (a.sort = 0) else false else false
theorem zRi (b : Bl) (a : Ar) (i : Int) : Pure Tryz.prog zqm [eBl b, .agg (cAr a), .int .i64 i] [.bool (argM b a i)] := by
  refine zC4 rfl fun hs => ?_
  simp -dsimp [zqr, eBl, cBl, eSos, eCos, cAr, cT, eTs]
  cases hr : a.rc with
  | false =>
    simp -dsimp [hr]
    refine zaa (zLt a.ty i) ?_
    simp -dsimp
    (first | refine zak ?_ ?_ | refine zaj ?_ ?_) <;> intro h1 <;> (try simp only [nrm] at h1) <;> simp -dsimp [h1, argM, hr]
    · (first | refine zak ?_ ?_ | refine zaj ?_ ?_) <;> intro h2 <;> (try simp only [nrm] at h2) <;> simp -dsimp [h2, argM, hr, h1]
  | true =>
    simp -dsimp [hr]
    refine zaa (zIx a.ty) ?_
    simp -dsimp
    (first | refine zak ?_ ?_ | refine zaj ?_ ?_) <;> intro h1 <;> (try simp only [nrm] at h1) <;> simp -dsimp [h1, argM, hr]
    (first | refine zak ?_ ?_ | refine zaj ?_ ?_) <;> intro h2 <;> (try simp only [nrm] at h2) <;> simp -dsimp [h2, argM, hr, h1]
    (first | refine zak ?_ ?_ | refine zaj ?_ ?_) <;> intro h3 <;> (try simp only [nrm] at h3) <;> simp -dsimp [h3, argM, hr, h1, h2]
    (first | refine zak ?_ ?_ | refine zaj ?_ ?_) <;> intro h4 <;> (try simp only [nrm] at h4) <;> simp -dsimp [h4, argM, hr, h1, h2, h3]
    · have : b.sorts[a.sort.toNat]? = none := List.getElem?_eq_none (by omega)
      simp [this]
    have hlt : a.sort.toNat < b.sorts.length := by omega
    have h0 : 0 ≤ a.sort := by omega
    have hA : argM b a i = if (a.idx.length : Int) = (b.sorts[a.sort.toNat].idx.length : Int) then domM i a.dom && allM a.idx (w64 (i + a.dom.length)) else false := by
      simp [argM, hr, h1, h2, h3, hlt]
    simp -dsimp [hr, h1, h2, h3, h4, hlt, h0, eSo, cSo, eArs, cT]
    (first | refine zak ?_ ?_ | refine zaj ?_ ?_) <;> intro h5 <;> (try simp only [nrm] at h5) <;> simp -dsimp [h5, hr, h1, h2, h3, h4, hlt, h0, eSo, cSo, eArs, cT]
    · rw [hA, if_neg h5]
    rw [hA, if_pos h5]
    have hd : a.dom.length ≤ 12 := by omega
    refine zam a.dom.length (fun j st => st.s 2 = .d (.int .i64 i) ∧ st.s 4 = .ptr 4 1 0 ∧ st.h 4 = ⟨1, .box [.d (.bool true), .d (.int .i64 a.ty.kind), .d (.int .i64 a.ty.num), .d (.sl 3 (a.ty.kids.map eT)), .d (.sl 3 (a.dom.map eT)), .d (.int .i64 a.sort), .d (.sl 3 (a.idx.map eT))] false⟩ ∧
      st.s 69 = .d (.sl 3 (a.dom.map eT)) ∧ st.s 70 = .d (.int .i64 a.dom.length) ∧ st.s 71 = .d (.int .i64 j) ∧ ∀ (k : Nat) (hk : k < a.dom.length), k < j → inM a.dom[k] (w64 (i + k)) = true) ?_ ?_
    · simp -dsimp [hr]
    · rintro j ⟨s, hp⟩ hj ⟨g1, g2, g3, g4, g5, g6, g7⟩
      dsimp only at g1 g2 g3 g4 g5 g6
      rcases Nat.lt_or_ge j a.dom.length with hlt | hge
      · have w1 : IntKind.i64.wrap ((j : Int) + 1) = (j : Int) + 1 := zad (by omega) (by omega)
        simp -dsimp [g1, g2, g3, g4, g5, g6, hlt, cT]
        refine zaa (zLt a.dom[j] _) ?_
        simp -dsimp [g1, g2, g3, g4, g5, g6, hlt]
        (first | refine zak ?_ ?_ | refine zaj ?_ ?_) <;> intro h6 <;> (try simp only [nrm] at h6) <;> simp -dsimp [h6, g1, g2, g3, g4, g5, g6, hlt, w1]
        · have : domM i a.dom = false := zot hlt h6
          simp [this]
        · exact zis (p := fun j t => inM t (w64 (i + j))) hlt g7 h6
      · have e : j = a.dom.length := by omega
        subst e
        have : domM i a.dom = true := zo3 g7
        simp -dsimp [g1, g2, g3, g4, g5, g6]
        refine zaa (zNm a.idx _) ?_
        simp -dsimp [this]
def rowM (b : Bl) (l : List Ar) : Bool := if 12 < (l.length : Int) then false else allI (fun i a => argM b a i) 0 l
theorem zNt (b : Bl) (l : List Ar) : Pure Tryz.prog zlt [eBl b, eArs l] [.bool (rowM b l)] := by
  refine zDr rfl fun hs => ?_
  simp -dsimp [zqf, eBl, cBl, eSos, eCos, eArs]
  (first | refine zak ?_ ?_ | refine zaj ?_ ?_) <;> intro h1 <;> (try simp only [nrm] at h1) <;> simp -dsimp [h1, rowM]
  have hl : l.length ≤ 12 := by omega
  have hR : rowM b l = allI (fun i a => argM b a i) 0 l := by rw [rowM, if_neg h1]
  rw [hR]
  refine zam l.length (fun i st => st.s 2 = .ptr 2 1 0 ∧ st.h 2 = ⟨1, .box [.d (.sl 6 (b.sorts.map eSo)), .d (.sl 6 (b.cons.map eCo)), .d (.int .i64 b.elim)] false⟩ ∧ st.s 10 = .d (.sl 7 (l.map eAr)) ∧ st.s 11 = .d (.int .i64 l.length) ∧ st.s 12 = .d (.int .i64 i) ∧
    ∀ (j : Nat) (hj : j < l.length), j < i → argM b l[j] j = true) ?_ ?_
  · simp -dsimp
  · rintro i ⟨s, hp⟩ hi ⟨g1, g2, g3, g4, g5, g6⟩
    dsimp only at g1 g2 g3 g4 g5
    rcases Nat.lt_or_ge i l.length with hlt | hge
    · have w1 : IntKind.i64.wrap ((i : Int) + 1) = (i : Int) + 1 := zad (by omega) (by omega)
      simp -dsimp [g1, g2, g3, g4, g5, hlt, eAr, cAr, cT, eTs]
      refine zaa (zRi b l[i] i) ?_
      simp -dsimp [g1, g2, g3, g4, g5, hlt]
      (first | refine zak ?_ ?_ | refine zaj ?_ ?_) <;> intro h6 <;> (try simp only [nrm] at h6) <;> simp -dsimp [h6, g1, g2, g3, g4, g5, hlt, w1]
      · exact zot (p := fun i a => argM b a i) hlt h6
      · exact zis (p := fun i a => argM b a i) hlt g6 h6
    · have e : i = l.length := by omega
      subst e
      simp -dsimp [g1, g2, g3, g4, g5, zo3 (p := fun i a => argM b a i) g6]
def zem (k : Int) (s : So) (a : Ar) : Bool := if a.rc then if 0 < (a.dom.length : Int) then true else if k ≤ a.sort then true else s.dec else false
theorem zMk (k : Int) (s : So) (a : Ar) : Pure Tryz.prog zih [.agg (cAr a), .rp [.int .i64 k], .rp (cSo s)] [.bool (zem k s a)] := by
  refine zxt rfl fun hs => ?_
  cases hr : a.rc with
  | false =>
    simp -dsimp [zik, cAr, cSo, cT, eTs, eArs, hr, zem]
  | true =>
    simp -dsimp [zik, cAr, cSo, cT, eTs, eArs, hr]
    (first | refine zak ?_ ?_ | refine zaj ?_ ?_) <;> intro h1 <;> (try simp only [nrm] at h1) <;> simp -dsimp [h1, zem, hr]
    (first | refine zak ?_ ?_ | refine zaj ?_ ?_) <;> intro h2 <;> (try simp only [nrm] at h2) <;> simp -dsimp [h2, zem, hr, h1]
def zi8 (n : Int) : Bool := decide (0 ≤ n) && decide (n ≤ 6)
def zf3 (b : Bl) (k : Nat) (s : So) : Bool :=
  if rowM b s.idx then if zi8 s.level then if zeq s.dec s.dty s.idx.length then !s.idx.any (zem k s) else false else false else false
theorem zQp (b : Bl) (k : Nat) (hk : k < b.sorts.length) : Pure Tryz.prog zon [eBl b, .int .i64 k] [.bool (zf3 b k b.sorts[k])] := by
  refine zBx rfl fun hs => ?_
  simp -dsimp [znv, eBl, cBl, eSos, eCos, hk, eSo, cSo, cT, eArs]
  refine zaa (zNt b b.sorts[k].idx) ?_
  simp -dsimp
  (first | refine zak ?_ ?_ | refine zaj ?_ ?_) <;> intro h1 <;> (try simp only [nrm] at h1) <;> simp -dsimp [h1, zf3]
  refine zaa (rs := [.bool (zi8 b.sorts[k].level)]) (zFr b.sorts[k].level) ?_
  simp -dsimp [h1]
  (first | refine zak ?_ ?_ | refine zaj ?_ ?_) <;> intro h2 <;> (try simp only [nrm] at h2) <;> simp -dsimp [h2, zf3, h1]
  refine zaa (zEm b.sorts[k].dec b.sorts[k].dty b.sorts[k].idx.length) ?_
  simp -dsimp [h1, h2]
  (first | refine zak ?_ ?_ | refine zaj ?_ ?_) <;> intro h3 <;> (try simp only [nrm] at h3) <;> simp -dsimp [h3, zf3, h1, h2]
  refine zaa (zuk b.sorts[k].idx zih [.rp [.int .i64 k], .rp (cSo b.sorts[k])] (zem k b.sorts[k]) (fun x _ => zMk k _ x)) ?_
  simp -dsimp [zf3, h1, h2, h3]
def conM (b : Bl) (c : Co) : Bool :=
  if c.sort < 0 then false else if rowM b c.args then match b.sorts[c.sort.toNat]? with
  | none => false
  | some s => if (c.idx.length : Int) = (s.idx.length : Int) then if allM c.idx c.args.length then zeq s.dec c.dec c.args.length else false else false
  else false
theorem zRd (b : Bl) (c : Co) : Pure Tryz.prog zpt [eBl b, eCo c] [.bool (conM b c)] := by
  refine zDn rfl fun hs => ?_
  simp -dsimp [zp9, eBl, cBl, eSos, eCos, eCo, cCo, cT, eArs, eTs]
  (first | refine zak ?_ ?_ | refine zaj ?_ ?_) <;> intro h1 <;> (try simp only [nrm] at h1) <;> simp -dsimp [h1, conM]
  (first | refine zak ?_ ?_ | refine zaj ?_ ?_) <;> intro h2 <;> (try simp only [nrm] at h2) <;> simp -dsimp [h2, conM, h1]
  · have : b.sorts[c.sort.toNat]? = none := List.getElem?_eq_none (by omega)
    simp [this]
  refine zaa (zNt b c.args) ?_
  have hlt : c.sort.toNat < b.sorts.length := by omega
  have h0 : 0 ≤ c.sort := by omega
  simp -dsimp [h1, h2]
  (first | refine zak ?_ ?_ | refine zaj ?_ ?_) <;> intro h3 <;> (try simp only [nrm] at h3) <;> simp -dsimp [h3, conM, h1, h2]
  have hA : conM b c = if (c.idx.length : Int) = (b.sorts[c.sort.toNat].idx.length : Int) then if allM c.idx c.args.length then zeq b.sorts[c.sort.toNat].dec c.dec c.args.length else false else false := by
    simp [conM, h1, h3, hlt]
  simp -dsimp [h1, h2, h3, hlt, h0, eSo, cSo, eArs, cT, eTs]
  (first | refine zak ?_ ?_ | refine zaj ?_ ?_) <;> intro h4 <;> (try simp only [nrm] at h4) <;> simp -dsimp [h4, h1, h2, h3, hlt, h0, eSo, cSo, eArs, cT]
  · refine zaa (zNm c.idx _) ?_
    simp -dsimp [h4]
    (first | refine zak ?_ ?_ | refine zaj ?_ ?_) <;> intro h5 <;> (try simp only [nrm] at h5) <;> simp -dsimp [h5, h4]
    · refine zaa (zEm _ c.dec _) ?_
      simp -dsimp [h4, h5, hA]
    · rw [hA, if_pos h4, h5]; rfl
  · rw [hA, if_neg h4]
theorem zIu (b : Bl) (c : Co) : Pure Tryz.prog zhr [eCo c, .rp (cBl b)] [.bool (!conM b c)] := by
  refine zwj rfl fun hs => ?_
  simp -dsimp [zke, cBl, eSos, eCos, eCo, cCo, cT, eArs, eTs]
  refine zaa (zRd b c) ?_
  simp -dsimp
def zey (b : Bl) : Int :=
  if (b.sorts.length : Int) < 1 then 12 else if 4 < (b.sorts.length : Int) then 12 else if 8 < (b.cons.length : Int) then 12 else if zi8 b.elim then
    if allI (fun k s => zf3 b k s) 0 b.sorts then if b.cons.any fun c => !conM b c then 12 else 0 else 12
  else 12
theorem zI5 (b : Bl) : Pure Tryz.prog zme [eBl b] [.int .i64 (zey b)] := by
  refine zAm rfl fun hs => ?_
  simp -dsimp [zl3, eBl, cBl, eSos, eCos]
  (first | refine zak ?_ ?_ | refine zaj ?_ ?_) <;> intro h1 <;> (try simp only [nrm] at h1) <;> simp -dsimp [h1, zey]
  (first | refine zak ?_ ?_ | refine zaj ?_ ?_) <;> intro h2 <;> (try simp only [nrm] at h2) <;> simp -dsimp [h2, zey, h1]
  (first | refine zak ?_ ?_ | refine zaj ?_ ?_) <;> intro h3 <;> (try simp only [nrm] at h3) <;> simp -dsimp [h3, zey, h1, h2]
  refine zaa (rs := [.bool (zi8 b.elim)]) (zFr b.elim) ?_
  simp -dsimp [h1, h2, h3]
  (first | refine zak ?_ ?_ | refine zaj ?_ ?_) <;> intro h4 <;> (try simp only [nrm] at h4) <;> simp -dsimp [h4, zey, h1, h2, h3]
  have hl : b.sorts.length ≤ 4 := by omega
  have hC : zey b = if allI (fun k s => zf3 b k s) 0 b.sorts then if b.cons.any fun c => !conM b c then 12 else 0 else 12 := by
    rw [zey, if_neg h1, if_neg h2, if_neg h3, if_pos h4]
  rw [hC]
  refine zam b.sorts.length (fun i st => st.s 1 = .ptr 1 1 0 ∧ st.h 1 = ⟨1, .box [.d (.sl 6 (b.sorts.map eSo)), .d (.sl 6 (b.cons.map eCo)), .d (.int .i64 b.elim)] false⟩ ∧ st.s 28 = .d (.int .i64 b.sorts.length) ∧ st.s 29 = .d (.int .i64 i) ∧
    ∀ (j : Nat) (hj : j < b.sorts.length), j < i → zf3 b j b.sorts[j] = true) ?_ ?_
  · simp -dsimp
  · rintro i ⟨s, hp⟩ hi ⟨g1, g2, g3, g4, g5⟩
    dsimp only at g1 g2 g3 g4
    rcases Nat.lt_or_ge i b.sorts.length with hlt | hge
    · have w1 : IntKind.i64.wrap ((i : Int) + 1) = (i : Int) + 1 := zad (by omega) (by omega)
      simp -dsimp [g1, g2, g3, g4, hlt]
      refine zaa (zQp b i hlt) ?_
      simp -dsimp [g1, g2, g3, g4, hlt]
      (first | refine zak ?_ ?_ | refine zaj ?_ ?_) <;> intro h6 <;> (try simp only [nrm] at h6) <;> simp -dsimp [h6, g1, g2, g3, g4, hlt, w1]
      · intro h
        rw [zot (p := fun k s => zf3 b k s) hlt h6] at h
        cases h
      · exact zis (p := fun k s => zf3 b k s) hlt g5 h6
    · have e : i = b.sorts.length := by omega
      subst e
      have hA : allI (fun k s => zf3 b k s) 0 b.sorts = true := zo3 (p := fun k s => zf3 b k s) g5
      simp -dsimp [g1, g2, g3, g4, hA]
      refine zaa (zuo b.cons zhr [.rp (cBl b)] (fun c => !conM b c) (fun x _ => zIu b x)) ?_
      simp -dsimp [g1, g2, g3, g4]
      (first | refine zak ?_ ?_ | refine zaj ?_ ?_) <;> intro h7 <;> (try simp only [nrm] at h7) <;> simp -dsimp [h7, g1, g2, g3, g4, hA]
end
section
attribute [local simp] zae zaf w64 tk tn tks zb6 zb9
def recA (n : Int) (l : List T) : Ar := ⟨true, zT, [], n, l⟩
theorem zTi (n : Int) (l : List T) (hl : l.length * 40 ≤ zal) : Pure Tryz.prog zic [.int .i64 n, eTs l] [.agg (cAr (recA n l))] := by
  refine ztm rfl fun hs => ?_
  simp -dsimp [hl, zh1, eTs, cAr, recA, zT, cT, T.kind, T.num, T.kids]
def zH7 (b : Bl) : List D := [.int .i64 3, .int .i64 0, .int .i64 0, .sl 3 [], .int .i64 0, .int .i64 0, .sl 3 []] ++ cBl b
theorem zPx (b : Bl) : Pure Tryz.prog zhd [eBl b] [.agg (zH7 b)] := by
  refine zrn rfl fun hs => ?_
  simp -dsimp [zgw, eBl, cBl, eSos, eCos, zH7]
def natB : Bl := ⟨[⟨[], 0, false, zT⟩], [⟨0, [], [], zT⟩, ⟨0, [recA 0 []], [], zT⟩], 0⟩
theorem zRp : Pure Tryz.prog zh7 [] [.agg (zH7 natB)] := by
  refine zsz rfl fun hs => ?_
  simp -dsimp [zhw]
  refine zaa (zTi 0 [] (by decide)) ?_
  simp -dsimp [cAr, recA, zT, cT, T.kind, T.num, T.kids, eTs]
  refine zaa (zPx natB) ?_
  simp -dsimp [zH7, cBl, eSos, eCos]
end
section
attribute [local simp] zae zaf tk tn tks zb6 zb9
def is64 (n : Int) : Prop := -9223372036854775808 ≤ n ∧ n < 9223372036854775808
structure Fit (b : Bl) : Prop where
  s : b.sorts.length ≤ 10
  c : b.cons.length ≤ 20
theorem zNa {b : Bl} (h : zi2 b = false) : Fit b := by
  simp only [zi2, Bool.or_eq_false_iff, decide_eq_false_iff_not] at h
  exact ⟨by omega, by omega⟩
theorem zzp {b : Bl} (hf : Fit b) : ztq b = 2 * b.sorts.length + decs b.sorts + b.cons.length := by
  have h1 := hf.s
  have h2 := hf.c
  have h3 := zhb b.sorts
  rw [ztq, zb0, zb0, zb0] <;> (try rw [zb0, zb0]) <;> (try rw [zb0]) <;> omega
theorem zu1 {base ahead k many : Int} (h0 : 0 ≤ base) (h1 : base ≤ 65535) (h2 : 0 ≤ ahead) (h3 : ahead ≤ 1000) (h4 : many ≤ 1000) :
    zif base ahead k many = if 0 ≤ k ∧ k < many then base + ahead + k else -1 := by
  by_cases h : 0 ≤ k ∧ k < many
  · rw [zif, if_neg (by omega), if_pos h, zb0, zb0] <;> (try rw [zb0]) <;> omega
  · rw [zif, if_pos (by omega), if_neg h]
theorem zhg {b : Bl} (hf : Fit b) {base : Int} (h0 : 0 ≤ base) (h1 : base ≤ 65535) (k : Int) : zbq b base k = if 0 ≤ k ∧ k < b.sorts.length then base + k else -1 := by
  have hs := hf.s
  rw [zbq, zu1 h0 h1 (by omega) (by omega) (by omega)]
  split <;> omega
theorem zfq {b : Bl} (hf : Fit b) {base : Int} (h0 : 0 ≤ base) (h1 : base ≤ 65535) (k : Int) : zap b base k = if 0 ≤ k ∧ k < b.cons.length then base + (b.sorts.length + decs b.sorts) + k else -1 := by
  have hs := hf.s
  have hc := hf.c
  have h3 := zhb b.sorts
  rw [zap, zb0 (by omega) (by omega), zu1 h0 h1 (by omega) (by omega) (by omega)]
theorem zjj {b : Bl} (hf : Fit b) {base : Int} (h0 : 0 ≤ base) (h1 : base ≤ 65535) (k : Int) : za6 b base k = if 0 ≤ k ∧ k < b.sorts.length then base + (b.sorts.length + decs b.sorts + b.cons.length) + k else -1 := by
  have hs := hf.s
  have hc := hf.c
  have h3 := zhb b.sorts
  rw [za6, zb0 (n := (b.sorts.length : Int) + decs b.sorts) (by omega) (by omega), zb0 (by omega) (by omega), zu1 h0 h1 (by omega) (by omega) (by omega)]
theorem zss {b : Bl} (hf : Fit b) {base : Int} (h0 : 0 ≤ base) (h1 : base ≤ 65535) (k : Int) :
    zdp b base k = if h : 0 ≤ k ∧ k < b.sorts.length then if (b.sorts[k.toNat]'(by omega)).dec then base + b.sorts.length + decs (b.sorts.take k.toNat) else -1 else -1 := by
  have hs := hf.s
  by_cases h : 0 ≤ k ∧ k < b.sorts.length
  · have hlt : k.toNat < b.sorts.length := by omega
    have h3 := zhb (b.sorts.take k.toNat)
    rw [List.length_take] at h3
    rw [dif_pos h, zdp, if_neg (by omega), List.getElem?_eq_getElem hlt]
    dsimp only
    split
    · rw [zu1 h0 h1 (by omega) (by omega) (by omega), if_pos (by omega)]
    · rfl
  · rw [dif_neg h, zdp]
    by_cases hk : k < 0
    · rw [if_pos hk]
    · rw [if_neg hk, List.getElem?_eq_none (by omega)]
theorem zIc : ∀ (l : List So) (j : Nat), j < decs l → ∃ (k : Nat) (hk : k < l.length), l[k].dec = true ∧ decs (l.take k) = j
  | [], j, h => by simp [decs] at h
  | s :: l, j, h => by
    cases hd : s.dec with
    | false =>
      obtain ⟨k, hk, h1, h2⟩ := zIc l j (by simpa [decs, hd] using h)
      exact ⟨k + 1, by simpa using hk, by simpa using h1, by simpa [decs, hd] using h2⟩
    | true =>
      cases j with
      | zero => exact ⟨0, by simp, by simpa using hd, by simp [decs]⟩
      | succ j =>
        obtain ⟨k, hk, h1, h2⟩ := zIc l j (by simp [decs, hd] at h; simpa [decs] using h)
        exact ⟨k + 1, by simpa using hk, by simpa using h1, by simp [decs, hd] at h2 ⊢; exact h2⟩
theorem zMt {n : Int} {e : En} {k : Nat} (h : hit n e = some k) : k < e.many ∧ e.of k = n := by
  have h1 := List.find?_some h
  have h2 := List.mem_of_find?_eq_some h
  exact ⟨by simpa using h2, by simpa using h1⟩
theorem zro {n : Int} {l : List En} {p : Int × Int} (h : seek n l = some p) : ∃ e ∈ l, ∃ k : Nat, k < e.many ∧ e.of k = n ∧ p = (e.kind, (k : Int)) := by
  obtain ⟨e, he, h1⟩ := List.exists_of_findSome?_eq_some h
  cases hh : hit n e with
  | none => rw [hh] at h1; cases h1
  | some k =>
    rw [hh] at h1
    obtain ⟨h2, h3⟩ := zMt hh
    exact ⟨e, he, k, h2, h3, (Option.some.inj h1).symm⟩
theorem zmn {n : Int} {l : List En} {e : En} (he : e ∈ l) {k : Nat} (hk : k < e.many) (hn : e.of k = n) : ∃ p, seek n l = some p := by
  cases h : seek n l with
  | some p => exact ⟨p, rfl⟩
  | none =>
    have h1 := List.findSome?_eq_none_iff.1 h e he
    cases hh : hit n e with
    | some k => rw [hh] at h1; cases h1
    | none =>
      have h2 := List.find?_eq_none.1 hh k (by simpa using hk)
      simp [hn] at h2
theorem zRt {b : Bl} (hf : Fit b) {base : Int} (h0 : 0 ≤ base) (h1 : base ≤ 65535) {n : Int} (hn : base ≤ n) (hc : n < base + ztq b) :
    ∃ e ∈ tab b base, ∃ k : Nat, k < e.many ∧ e.of k = n ∧ ofM b base n = (e.kind, (k : Int)) := by
  have hs := hf.s
  have hcc := hf.c
  have h3 := zhb b.sorts
  have hci := zzp hf
  have hb : base ≤ 65535 := by omega
  have hso : ∃ p, seek n (tab b base) = some p := by
    by_cases c1 : n < base + b.sorts.length
    · exact zmn (e := ⟨3, b.sorts.length, zcf, zbq b base⟩) (k := (n - base).toNat) (by simp [tab]) (by simp; omega) (by simp only; rw [zhg hf h0 hb, if_pos (by omega)]; omega)
    by_cases c2 : n < base + b.sorts.length + decs b.sorts
    · obtain ⟨k, hk, d1, d2⟩ := zIc b.sorts (n - base - b.sorts.length).toNat (by omega)
      refine zmn (e := ⟨4, b.sorts.length, zd0, zdp b base⟩) (k := k) (by simp [tab]) hk ?_
      simp only
      rw [zss hf h0 hb, dif_pos (by omega), if_pos (by simpa using d1), Int.toNat_natCast, d2]
      omega
    by_cases c3 : n < base + b.sorts.length + decs b.sorts + b.cons.length
    · exact zmn (e := ⟨5, b.cons.length, zbs, zap b base⟩) (k := (n - base - b.sorts.length - decs b.sorts).toNat) (by simp [tab]) (by simp; omega) (by simp only; rw [zfq hf h0 hb, if_pos (by omega)]; omega)
    · exact zmn (e := ⟨6, b.sorts.length, zb1, za6 b base⟩) (k := (n - base - b.sorts.length - decs b.sorts - b.cons.length).toNat) (by simp [tab]) (by simp; omega) (by simp only; rw [zjj hf h0 hb, if_pos (by omega)]; omega)
  obtain ⟨p, hp⟩ := hso
  obtain ⟨e, he, k, g1, g2, g3⟩ := zro hp
  refine ⟨e, he, k, g1, g2, ?_⟩
  rw [ofM, if_neg, hp, g3]
  · rfl
  · rw [zb0 (by omega) (by omega)]; omega
theorem zTe {b : Bl} (hf : Fit b) {base : Int} (h0 : 0 ≤ base) {n : Int} (hn64 : is64 n) (hn : n < base ∨ base + ztq b ≤ n) : ofM b base n = (0, 0) := by
  obtain ⟨m1, m2⟩ := hn64
  rw [ofM, if_pos]
  rcases hn with hn | hn
  · omega
  · have := zzp hf
    rw [zb0 (by omega) (by omega)]
    omega
end
section
attribute [local simp] zae zaf tk tn tks zb6 zb9
theorem zv9 (l : List So) {a c : Nat} (h : a ≤ c) : decs (l.take a) ≤ decs (l.take c) := by
  have h1 : (l.take a).Sublist (l.take c) := List.take_sublist_take_left h
  exact (h1.filter _).length_le
theorem zz0 (l : List So) {k : Nat} (hk : k < l.length) (hd : l[k].dec = true) : decs (l.take (k + 1)) = decs (l.take k) + 1 := by
  rw [zwq l k l[k] (List.getElem?_eq_getElem hk), hd]
  rfl
theorem zPz (l : List So) {k m : Nat} (hk : k < l.length) (hm : m < l.length) (hd : l[k].dec = true) (hd' : l[m].dec = true) (h : decs (l.take k) = decs (l.take m)) : k = m := by
  rcases Nat.lt_trichotomy k m with c | c | c
  · have := zv9 l (show k + 1 ≤ m from c)
    rw [zz0 l hk hd] at this
    omega
  · exact c
  · have := zv9 l (show m + 1 ≤ k from c)
    rw [zz0 l hm hd'] at this
    omega
theorem zNp (l : List So) {k : Nat} (hk : k < l.length) (hd : l[k].dec = true) : decs (l.take k) + 1 ≤ decs l := by
  have := zv9 l (show k + 1 ≤ l.length from hk)
  rw [zz0 l hk hd, List.take_length] at this
  exact this
theorem zfh {b : Bl} (hf : Fit b) {base : Int} (h0 : 0 ≤ base) (h1 : base ≤ 65535) {k n : Int} (hn : 0 ≤ n) (h : zdp b base k = n) :
    ∃ (j : Nat) (hj : j < b.sorts.length), k = j ∧ b.sorts[j].dec = true ∧ n = base + b.sorts.length + decs (b.sorts.take j) := by
  rw [zss hf h0 h1] at h
  by_cases c : 0 ≤ k ∧ k < b.sorts.length
  · rw [dif_pos c] at h
    have hlt : k.toNat < b.sorts.length := by omega
    cases hd : b.sorts[k.toNat].dec with
    | true => rw [hd] at h; exact ⟨k.toNat, hlt, by omega, hd, by simpa using h.symm⟩
    | false => rw [hd] at h; simp at h; omega
  · rw [dif_neg c] at h; omega
theorem zg6 {b : Bl} (hf : Fit b) {base : Int} (h0 : 0 ≤ base) (h1 : base ≤ 65535) {k n : Int} (hn : 0 ≤ n) (h : zbq b base k = n) : 0 ≤ k ∧ k < b.sorts.length ∧ n = base + k := by
  rw [zhg hf h0 h1] at h
  split at h <;> omega
theorem zce {b : Bl} (hf : Fit b) {base : Int} (h0 : 0 ≤ base) (h1 : base ≤ 65535) {k n : Int} (hn : 0 ≤ n) (h : zap b base k = n) : 0 ≤ k ∧ k < b.cons.length ∧ n = base + (b.sorts.length + decs b.sorts) + k := by
  rw [zfq hf h0 h1] at h
  split at h <;> omega
theorem zcs {b : Bl} (hf : Fit b) {base : Int} (h0 : 0 ≤ base) (h1 : base ≤ 65535) {k n : Int} (hn : 0 ≤ n) (h : za6 b base k = n) : 0 ≤ k ∧ k < b.sorts.length ∧ n = base + (b.sorts.length + decs b.sorts + b.cons.length) + k := by
  rw [zjj hf h0 h1] at h
  split at h <;> omega
theorem off {b : Bl} {base : Int} (h : ¬(0 ≤ base ∧ base ≤ 65535)) (k : Int) : zbq b base k = -1 ∧ zdp b base k = -1 ∧ zap b base k = -1 ∧ za6 b base k = -1 := by
  refine ⟨?_, ?_, ?_, ?_⟩
  · rw [zbq, zif, if_pos (by omega)]
  · rw [zdp]
    split
    · rfl
    · split
      · rfl
      · split
        · rw [zif, if_pos (by omega)]
        · rfl
  · rw [zap, zif, if_pos (by omega)]
  · rw [za6, zif, if_pos (by omega)]
theorem zL8 {b : Bl} (hf : Fit b) {base n : Int} (hn : 0 ≤ n) {e : En} (he : e ∈ tab b base) {k : Nat} (h : e.of k = n) : ofM b base n = (e.kind, (k : Int)) := by
  by_cases hb : 0 ≤ base ∧ base ≤ 65535
  · obtain ⟨h0, h1⟩ := hb
    have hs := hf.s
    have hc := hf.c
    have hd := zhb b.sorts
    have hr : base ≤ n ∧ n < base + ztq b := by
      rw [zzp hf]
      simp only [tab, List.mem_cons, List.not_mem_nil, or_false] at he
      rcases he with rfl | rfl | rfl | rfl <;> simp only at h
      · have := zg6 hf h0 h1 hn h; omega
      · obtain ⟨j, hj, _, hd1, hd2⟩ := zfh hf h0 h1 hn h
        have := zNp b.sorts hj hd1
        omega
      · have := zce hf h0 h1 hn h; omega
      · have := zcs hf h0 h1 hn h; omega
    obtain ⟨e', he', k', _, g2, g3⟩ := zRt hf h0 h1 hr.1 hr.2
    rw [g3]
    simp only [tab, List.mem_cons, List.not_mem_nil, or_false] at he he'
    have D : ∀ {j : Nat} (hj : j < b.sorts.length), b.sorts[j].dec = true → decs (b.sorts.take j) + 1 ≤ decs b.sorts := fun hj hd1 => zNp b.sorts hj hd1
    rcases he with rfl | rfl | rfl | rfl <;> rcases he' with rfl | rfl | rfl | rfl <;> simp only at h g2
    · have a1 := zg6 hf h0 h1 hn h; have a2 := zg6 hf h0 h1 hn g2
      have : k' = k := by omega
      subst this; rfl
    · have a1 := zg6 hf h0 h1 hn h; obtain ⟨j, hj, _, hd1, hd2⟩ := zfh hf h0 h1 hn g2; omega
    · have a1 := zg6 hf h0 h1 hn h; have a2 := zce hf h0 h1 hn g2; omega
    · have a1 := zg6 hf h0 h1 hn h; have a2 := zcs hf h0 h1 hn g2; omega
    · obtain ⟨j, hj, _, hd1, hd2⟩ := zfh hf h0 h1 hn h; have a1 := zg6 hf h0 h1 hn g2; omega
    · obtain ⟨j, hj, ej, hd1, hd2⟩ := zfh hf h0 h1 hn h; obtain ⟨i, hi, ei, he1, he2⟩ := zfh hf h0 h1 hn g2
      have : i = j := zPz b.sorts hi hj he1 hd1 (by omega)
      have : k' = k := by omega
      subst this; rfl
    · obtain ⟨j, hj, _, hd1, hd2⟩ := zfh hf h0 h1 hn h; have a1 := zce hf h0 h1 hn g2; have := D hj hd1; omega
    · obtain ⟨j, hj, _, hd1, hd2⟩ := zfh hf h0 h1 hn h; have a1 := zcs hf h0 h1 hn g2; have := D hj hd1; omega
    · have a1 := zce hf h0 h1 hn h; have a2 := zg6 hf h0 h1 hn g2; omega
    · have a1 := zce hf h0 h1 hn h; obtain ⟨j, hj, _, hd1, hd2⟩ := zfh hf h0 h1 hn g2; have := D hj hd1; omega
    · have a1 := zce hf h0 h1 hn h; have a2 := zce hf h0 h1 hn g2
      have : k' = k := by omega
      subst this; rfl
    · have a1 := zce hf h0 h1 hn h; have a2 := zcs hf h0 h1 hn g2; omega
    · have a1 := zcs hf h0 h1 hn h; have a2 := zg6 hf h0 h1 hn g2; omega
    · have a1 := zcs hf h0 h1 hn h; obtain ⟨j, hj, _, hd1, hd2⟩ := zfh hf h0 h1 hn g2; have := D hj hd1; omega
    · have a1 := zcs hf h0 h1 hn h; have a2 := zce hf h0 h1 hn g2; omega
    · have a1 := zcs hf h0 h1 hn h; have a2 := zcs hf h0 h1 hn g2
      have : k' = k := by omega
      subst this; rfl
  · obtain ⟨o1, o2, o3, o4⟩ := off (b := b) hb (k : Int)
    simp only [tab, List.mem_cons, List.not_mem_nil, or_false] at he
    rcases he with rfl | rfl | rfl | rfl <;> simp only at h <;> omega
theorem zH9 {b : Bl} (hf : Fit b) {base n : Int} (hn : 0 ≤ n) {k : Nat} (h : zbq b base k = n) : ofM b base n = (3, (k : Int)) := zL8 hf hn (e := ⟨3, b.sorts.length, zcf, zbq b base⟩) (by simp [tab]) h
theorem zGl {b : Bl} (hf : Fit b) {base n : Int} (hn : 0 ≤ n) {k : Nat} (h : zdp b base k = n) : ofM b base n = (4, (k : Int)) := zL8 hf hn (e := ⟨4, b.sorts.length, zd0, zdp b base⟩) (by simp [tab]) h
theorem zxj {b : Bl} (hf : Fit b) {base n : Int} (hn : 0 ≤ n) {k : Nat} (h : zap b base k = n) : ofM b base n = (5, (k : Int)) := zL8 hf hn (e := ⟨5, b.cons.length, zbs, zap b base⟩) (by simp [tab]) h
theorem zz7 {b : Bl} (hf : Fit b) {base n : Int} (hn : 0 ≤ n) {k : Nat} (h : za6 b base k = n) : ofM b base n = (6, (k : Int)) := zL8 hf hn (e := ⟨6, b.sorts.length, zb1, za6 b base⟩) (by simp [tab]) h
theorem zQf {b : Bl} (hf : Fit b) {base n : Int} (hn : is64 n) (h : ∀ e ∈ tab b base, ∀ k : Nat, k < e.many → 0 ≤ n → e.of k ≠ n) : ofM b base n = (0, 0) := by
  by_cases hb : 0 ≤ base ∧ base ≤ 65535
  · by_cases hr : base ≤ n ∧ n < base + ztq b
    · obtain ⟨e, he, k, g1, g2, _⟩ := zRt hf hb.1 hb.2 hr.1 hr.2
      exact absurd g2 (h e he k g1 (by omega))
    · exact zTe hf hb.1 hn (by omega)
  · rw [ofM, if_pos (by omega)]
end
section
attribute [local simp] zae zaf tk tn tks zb6 zb9
end
end
section
section
attribute [local simp] zae zaf tk tn tks zb6 zb9
theorem zS6 : Tryz.prog.cellsOf 59 = 7 := by kernel_rfl
theorem zM5 : Tryz.prog.cellsOf 38 = 1 := by kernel_rfl
theorem zM8 : Tryz.prog.cellsOf 40 = 6 := by kernel_rfl
theorem zRe : Tryz.prog.cellsOf 61 = 6 := by kernel_rfl
theorem zN9 : Tryz.prog.cellsOf 22 = 1 := by kernel_rfl
theorem zRg : Tryz.prog.cellsOf 23 = 1 := by kernel_rfl
theorem zQ3 : Tryz.prog.cellsOf 25 = 3 := by kernel_rfl
theorem y_arg : Tryz.prog.bytesOf 59 = 104 := by kernel_rfl
theorem zSe : Tryz.prog.bytesOf 40 = 80 := by kernel_rfl
theorem y_con : Tryz.prog.bytesOf 61 = 96 := by kernel_rfl
theorem zSu : zbd Tryz.prog 59 = true := by simp only [zbd, Tryz.underlying59]
theorem zPf : zbd Tryz.prog 40 = true := by simp only [zbd, Tryz.underlying40]
theorem zRc : zbd Tryz.prog 61 = true := by simp only [zbd, Tryz.underlying61]
theorem zM0 : zbd Tryz.prog 25 = true := by simp only [zbd, Tryz.underlying25]
structure okAr (a : Ar) : Prop where
  ty : okT a.ty
  dom : okTs a.dom
  sort : n64 a.sort
  idx : okTs a.idx
def zxq (l : List Ar) : Prop := l.length * 104 ≤ 140737488351232 ∧ ∀ x ∈ l, okAr x
structure okSo (s : So) : Prop where
  idx : zxq s.idx
  level : n64 s.level
  dty : okT s.dty
structure okCo (c : Co) : Prop where
  sort : n64 c.sort
  args : zxq c.args
  idx : okTs c.idx
  dec : okT c.dec
structure okBl (b : Bl) : Prop where
  sortsL : b.sorts.length * 80 ≤ 140737488351232
  sorts : ∀ x ∈ b.sorts, okSo x
  consL : b.cons.length * 96 ≤ 140737488351232
  cons : ∀ x ∈ b.cons, okCo x
  elim : n64 b.elim
theorem len6 {xs : List D} (h : xs.length = 6) : ∃ a b c d e f, xs = [a, b, c, d, e, f] := by
  match xs, h with
  | [a, b, c, d, e, f], _ => exact ⟨a, b, c, d, e, f, rfl⟩
theorem len7 {xs : List D} (h : xs.length = 7) : ∃ a b c d e f g, xs = [a, b, c, d, e, f, g] := by
  match xs, h with
  | [a, b, c, d, e, f, g], _ => exact ⟨a, b, c, d, e, f, g, rfl⟩
theorem zQ5 {n : Nat} {cs : List D} (h : typ Tryz.prog n 59 cs) : ∃ a : Ar, cs = cAr a ∧ okAr a := by
  cases n with
  | zero => exact h.elim
  | succ n =>
    simp only [typ, Tryz.underlying59, zS6, zJg, zM7, zyp, zDl, List.forall_mem_cons] at h
    obtain ⟨hl, h1, h2, h3, h4, h5, _⟩ := h
    obtain ⟨a, b, c, d, e, f, g, rfl⟩ := len7 hl
    obtain ⟨r, hr⟩ := zEq h1
    obtain ⟨t, ht, q1⟩ := zu2 _ h2
    obtain ⟨ds, hd, q2⟩ := zvd h3
    obtain ⟨i, hi, q3⟩ := zpp h4
    obtain ⟨js, hj, q4⟩ := zvd h5
    simp at hr ht hd hi hj
    refine ⟨⟨r, t, ds, i, js⟩, ?_, ⟨q1, q2, q3, q4⟩⟩
    simp [cAr, ← ht, hr, hd, hi, hj]
theorem zFk {n : Nat} {cs : List D} (h : typ Tryz.prog n 38 cs) : ∃ l : List Ar, cs = [eArs l] ∧ zxq l := by
  obtain ⟨m, xs, rfl, hc, hb, hx⟩ := zoe Tryz.underlying38 zS6 y_arg zSu h
  obtain ⟨ks, rfl, hks⟩ : ∃ l : List Ar, xs = l.map eAr ∧ ∀ a ∈ l, okAr a := zyt fun x hxx => by
    obtain ⟨h4, h5⟩ := hx x hxx
    obtain ⟨t, ht, hq⟩ := zQ5 h4
    exact ⟨t, hq, by rw [h5, ht]; rfl⟩
  exact ⟨ks, hc, by simpa using hb, hks⟩
theorem zLs {n : Nat} {cs : List D} (h : typ Tryz.prog n 40 cs) : ∃ a : So, cs = cSo a ∧ okSo a := by
  cases n with
  | zero => exact h.elim
  | succ n =>
    simp only [typ, Tryz.underlying40, zM8, zJg, zM7, zyp, zM5, List.forall_mem_cons] at h
    obtain ⟨hl, h1, h2, h3, h4, _⟩ := h
    obtain ⟨a, b, c, d, e, f, rfl⟩ := len6 hl
    obtain ⟨l, hq, q1⟩ := zFk h1
    obtain ⟨i, hi, q2⟩ := zpp h2
    obtain ⟨r, hr⟩ := zEq h3
    obtain ⟨t, ht, q3⟩ := zu2 _ h4
    simp at hr ht hi hq
    refine ⟨⟨l, i, r, t⟩, ?_, ⟨q1, q2, q3⟩⟩
    simp [cSo, ← ht, hr, hi, hq]
theorem zQ0 {n : Nat} {cs : List D} (h : typ Tryz.prog n 61 cs) : ∃ a : Co, cs = cCo a ∧ okCo a := by
  cases n with
  | zero => exact h.elim
  | succ n =>
    simp only [typ, Tryz.underlying61, zRe, zJg, zM5, zyp, zDl, List.forall_mem_cons] at h
    obtain ⟨hl, h1, h2, h3, h4, _⟩ := h
    obtain ⟨a, b, c, d, e, f, rfl⟩ := len6 hl
    obtain ⟨i, hi, q1⟩ := zpp h1
    obtain ⟨l, hq, q2⟩ := zFk h2
    obtain ⟨js, hj, q3⟩ := zvd h3
    obtain ⟨t, ht, q4⟩ := zu2 _ h4
    simp at ht hi hq hj
    refine ⟨⟨i, l, js, t⟩, ?_, ⟨q1, q2, q3, q4⟩⟩
    simp [cCo, ← ht, hi, hq, hj]
theorem zHm {n : Nat} {cs : List D} (h : typ Tryz.prog n 25 cs) : ∃ b : Bl, cs = cBl b ∧ okBl b := by
  cases n with
  | zero => exact h.elim
  | succ n =>
    simp only [typ, Tryz.underlying25, zQ3, zJg, zN9, zRg, List.forall_mem_cons] at h
    obtain ⟨hl, h1, h2, h3, _⟩ := h
    obtain ⟨a, b, c, rfl⟩ := len3 hl
    obtain ⟨m, xs, rfl, hc, hb, hx⟩ := zoe Tryz.underlying22 zM8 zSe zPf h1
    obtain ⟨m', ys, _, hd, hb', hy⟩ := zoe Tryz.underlying23 zRe y_con zRc h2
    obtain ⟨i, hi, q1⟩ := zpp h3
    obtain ⟨ss, rfl, q2⟩ : ∃ l : List So, xs = l.map eSo ∧ ∀ a ∈ l, okSo a := zyt fun x hxx => by
      obtain ⟨h4, h5⟩ := hx x hxx
      obtain ⟨t, ht, hq⟩ := zLs h4
      exact ⟨t, hq, by rw [h5, ht]; rfl⟩
    obtain ⟨ks, rfl, q3⟩ : ∃ l : List Co, ys = l.map eCo ∧ ∀ a ∈ l, okCo a := zyt fun x hxx => by
      obtain ⟨h4, h5⟩ := hy x hxx
      obtain ⟨t, ht, hq⟩ := zQ0 h4
      exact ⟨t, hq, by rw [h5, ht]; rfl⟩
    simp at hc hd hi
    refine ⟨⟨ss, ks, i⟩, ?_, ⟨by simpa using hb, q2, by simpa using hb', q3, q1⟩⟩
    simp [cBl, hc, hd, hi, eSos, eCos]
theorem zKm {x : D} (h : TypD Tryz.prog 25 x) : ∃ b : Bl, x = eBl b ∧ okBl b := by
  obtain ⟨⟨n, h1⟩, h2⟩ := h
  obtain ⟨b, hb, hq⟩ := zHm h1
  exact ⟨b, by rw [zNh (h2.trans zM0), hb]; rfl, hq⟩
end
section
attribute [local simp] zae zaf tk tn tks zb6 zb9
end
section
attribute [local simp] zae zaf tk tn tks zb6 zb9
end
section
attribute [local simp] zae zaf tk tn tks zb6 zb9
theorem zGr (t : T) : ∀ v c : Int, Pure Tryz.prog zcp [.agg (cT t), .int .i64 v, .int .i64 c] [.bool (zcm t v c)] := by
  refine T.ind (p := fun t => ∀ v c : Int, Pure Tryz.prog zcp [.agg (cT t), .int .i64 v, .int .i64 c] [.bool (zcm t v c)]) ?_ t
  intro k n ks ih v c
  refine zpd rfl fun hs => ?_
  have hl := zgn (t := .mk k n ks) (fun d hd => hs d (by simp at hd; simp [hd]))
  simp [T.kids] at hl
  simp -dsimp [zfn, cT, T.kind, T.num, T.kids]
  (first | refine zak ?_ ?_ | refine zaj ?_ ?_) <;> intro h1 <;> (try simp only [nrm] at h1) <;> simp -dsimp [h1, zcm]
  (first | refine zak ?_ ?_ | refine zaj ?_ ?_) <;> intro h2 <;> (try simp only [nrm] at h2) <;> simp -dsimp [h2, zcm, h1]
  (first | refine zak ?_ ?_ | refine zaj ?_ ?_) <;> intro h3 <;> (try simp only [nrm] at h3) <;> simp -dsimp [h3, zcm, h1, h2]
  have hw : zcm (.mk k n ks) v c = zgu k v c 0 ks := by rw [zcm, if_neg h1, if_neg h2, if_neg h3]
  rw [hw]
  refine zam ks.length (fun i st => st.s 3 = .ptr 3 1 0 ∧ st.h 3 = ⟨1, .box [.d (.int .i64 k), .d (.int .i64 n), .d (.sl 3 (ks.map eT))] false⟩ ∧ st.s 1 = .d (.int .i64 v) ∧ st.s 2 = .d (.int .i64 c) ∧
    st.s 7 = .d (.int .i64 i) ∧ ∀ (j : Nat) (hj : j < ks.length), j < i → zcm ks[j] (w64 (v + zai k j)) c = true) ?_ ?_
  · simp -dsimp
  · rintro i ⟨s, hp⟩ hi ⟨g1, g2, g3, g4, g5, g8⟩
    dsimp only at g1 g2 g3 g4 g5
    rcases Nat.lt_or_ge i ks.length with hlt | hge
    · have w1 : IntKind.i64.wrap ((i : Int) + 1) = (i : Int) + 1 := zad (by omega) (by omega)
      simp -dsimp [g1, g2, g3, g4, g5, hlt, cT]
      refine zaa (zCm k i) ?_
      simp -dsimp [g1, g2, g3, g4, g5, hlt]
      refine zaa (ih ks[i] (List.getElem_mem _) (w64 (v + zai k i)) c) ?_
      simp -dsimp [g1, g2, g3, g4, g5, hlt]
      (first | refine zak ?_ ?_ | refine zaj ?_ ?_) <;> intro h4 <;> (try simp only [nrm] at h4) <;> simp -dsimp [h4, g1, g2, g3, g4, g5, hlt, w1]
      · cases hw : zgu k v c 0 ks with
        | false => rfl
        | true =>
          have := (zjw k v c ks 0).1 hw i hlt
          rw [Nat.zero_add, h4] at this
          cases this
      · intro j hj hji
        rcases Nat.lt_or_ge j i with h | h
        · exact g8 j hj h
        · have : j = i := by omega
          subst this
          exact h4
    · have e : i = ks.length := by omega
      subst e
      have : zgu k v c 0 ks = true := (zjw k v c ks 0).2 fun j hj => by simpa using g8 j hj hj
      simp -dsimp [g1, g2, g3, g4, g5, this]
def zn0 (t : T) (v c : Int) : Bool := if v < 0 then false else if c < 0 then false else if zau t = 0 then zcm t (if 1048576 < v then 1048576 else v) c else false
theorem zJ0 {t : T} {v c : Int} (h : v ≤ 65536) : zn0 t v c = zj0 t v c := by
  rw [zn0, zj0, if_neg (show ¬1048576 < v by omega), if_neg (show ¬65536 < v by omega)]
theorem zJ1 (t : T) (v c : Int) : Pure Tryz.prog zgg [.agg (cT t), .int .i64 v, .int .i64 c] [.bool (zn0 t v c)] := by
  refine zp5 rfl fun hs => ?_
  simp -dsimp [zfz, cT]
  (first | refine zak ?_ ?_ | refine zaj ?_ ?_) <;> intro h1 <;> (try simp only [nrm] at h1) <;> simp -dsimp [h1, zn0]
  · (first | refine zak ?_ ?_ | refine zaj ?_ ?_) <;> intro h2 <;> (try simp only [nrm] at h2) <;> simp -dsimp [h2, zn0, h1]
    · refine zaa (zHv t) ?_
      simp -dsimp [h1, h2]
      (first | refine zak ?_ ?_ | refine zaj ?_ ?_) <;> intro h3 <;> (try simp only [nrm] at h3) <;> simp -dsimp [h3, zn0, h1, h2]
      · refine zaa (zGr t _ _) ?_
        have hS : zn0 t v c = zcm t (if 1048576 < v then 1048576 else v) c := by rw [zn0, if_neg (by omega), if_neg (by omega), if_pos h3]
        rw [hS]
        simp -dsimp [h3]
end
section
attribute [local simp] zae zaf tk tn tks zb6 zb9
theorem zkt (n lo hi : Int) : Pure Tryz.prog zav [.int .i64 n, .int .i64 lo, .int .i64 hi] [.bool (inB n lo hi)] := by
  refine zuj rfl fun hs => ?_
  simp -dsimp [ziy, inB]
  (first | refine zak ?_ ?_ | refine zaj ?_ ?_) <;> intro h1 <;> (try simp only [nrm] at h1) <;> simp -dsimp [h1]
theorem zz2 (t : T) : Pure Tryz.prog zdc [.agg (cT t)] [.bool (zv7 t)] := by
  refine zr6 rfl fun hs => ?_
  simp -dsimp [zg3, cT]
  (first | refine zak ?_ ?_ | refine zaj ?_ ?_) <;> intro h1 <;> (try simp only [nrm] at h1) <;> simp -dsimp [h1, zv7]
  (first | refine zak ?_ ?_ | refine zaj ?_ ?_) <;> intro h2 <;> (try simp only [nrm] at h2) <;> simp -dsimp [h2, zv7, h1]
theorem zoy (t : T) (v : Int) (hv : v ≤ 65536) : Pure Tryz.prog zbn [.agg (cT t), .int .i64 v] [.bool (inM t v)] := by
  refine zry rfl fun hs => ?_
  simp -dsimp [zgv, cT]
  refine zaa (zJ1 t v 65536) ?_
  simp -dsimp [inM, zJ0 hv]
theorem zIs (b : Bl) (a : Ar) (i : Int) (h0 : 0 ≤ i) (h1 : i ≤ 1000) : Pure Tryz.prog zfb [eBl b, .agg (cAr a), .int .i64 i] [.bool (argM b a i)] := by
  refine zti rfl fun hs => ?_
  have hi : ((a.idx.length : Int)) ≤ 9223372036854775807 := by
    have := hs (.agg (cAr a)) (by simp)
    simp -dsimp [cAr, cT, eTs, small] at this
    omega
  simp -dsimp [zh0, eBl, cBl, eSos, eCos, cAr, cT, eTs]
  cases hr : a.rc with
  | false =>
    simp -dsimp [hr]
    refine zaa (zoy a.ty i (by omega)) ?_
    simp -dsimp
    (first | refine zak ?_ ?_ | refine zaj ?_ ?_) <;> intro g1 <;> (try simp only [nrm] at g1) <;> simp -dsimp [g1, argM, hr]
    (first | refine zak ?_ ?_ | refine zaj ?_ ?_) <;> intro g2 <;> (try simp only [nrm] at g2) <;> simp -dsimp [g2, argM, hr, g1, w64]
  | true =>
    simp -dsimp [hr]
    refine zaa (zz2 a.ty) ?_
    simp -dsimp
    (first | refine zak ?_ ?_ | refine zaj ?_ ?_) <;> intro g1 <;> (try simp only [nrm] at g1) <;> simp -dsimp [g1, argM, hr]
    (first | refine zak ?_ ?_ | refine zaj ?_ ?_) <;> intro g2 <;> (try simp only [nrm] at g2) <;> simp -dsimp [g2, argM, hr, g1]
    refine zaa (zkt a.sort 0 _) ?_
    have hbl : ((b.sorts.length : Int)) ≤ 9223372036854775807 := by
      have := hs (eBl b) (by simp)
      simp -dsimp [eBl, cBl, eSos, small] at this
      omega
    have wS : IntKind.i64.wrap ((b.sorts.length : Int) - 1) = (b.sorts.length : Int) - 1 := zad (by omega) (by omega)
    simp -dsimp [hr, g1, g2, wS]
    (first | refine zak ?_ ?_ | refine zaj ?_ ?_) <;> intro g3 <;> (try simp only [nrm] at g3) <;> simp -dsimp [g3, hr, g1, g2, wS]
    · have h5 := (zgz _ _ _).1 g3
      by_cases h6 : a.sort < 0
      · simp -dsimp [argM, hr, g1, g2, h6]
      · have h7 : b.sorts[a.sort.toNat]? = none := List.getElem?_eq_none (by omega)
        simp -dsimp [argM, hr, g1, g2, h6, h7]
    have h5 := (zdn _ _ _).1 g3
    have hlt : a.sort.toNat < b.sorts.length := by omega
    have hs0 : 0 ≤ a.sort := h5.1
    have hA : argM b a i = if (a.idx.length : Int) = (b.sorts[a.sort.toNat].idx.length : Int) then domM i a.dom && allM a.idx (w64 (i + a.dom.length)) else false := by
      have : ¬a.sort < 0 := by omega
      simp [argM, hr, g1, g2, hlt, this]
    simp -dsimp [hr, g1, g2, g3, hlt, hs0, eSo, cSo, eArs, cT]
    (first | refine zak ?_ ?_ | refine zaj ?_ ?_) <;> intro g4 <;> (try simp only [nrm] at g4) <;> simp -dsimp [g4, hr, g1, g2, g3, hlt, hs0, eSo, cSo, eArs, cT]
    · rw [hA, if_neg g4]
    rw [hA, if_pos g4]
    have hd : a.dom.length ≤ 12 := by omega
    refine zam a.dom.length (fun j st => st.s 2 = .d (.int .i64 i) ∧ st.s 4 = .ptr 4 1 0 ∧ st.h 4 = ⟨1, .box [.d (.bool true), .d (.int .i64 a.ty.kind), .d (.int .i64 a.ty.num), .d (.sl 3 (a.ty.kids.map eT)), .d (.sl 3 (a.dom.map eT)), .d (.int .i64 a.sort), .d (.sl 3 (a.idx.map eT))] false⟩ ∧
      st.s 7 = .d (.int .i64 j) ∧ ∀ (k : Nat) (hk : k < a.dom.length), k < j → inM a.dom[k] (w64 (i + k)) = true) ?_ ?_
    · simp -dsimp [hr]
    · rintro j ⟨s, hp⟩ hj ⟨f1, f2, f3, f4, f7⟩
      dsimp only at f1 f2 f3 f4
      rcases Nat.lt_or_ge j a.dom.length with hlt | hge
      · have w1 : IntKind.i64.wrap ((j : Int) + 1) = (j : Int) + 1 := zad (by omega) (by omega)
        have w2 : IntKind.i64.wrap (i + (j : Int)) = i + (j : Int) := zad (by omega) (by omega)
        have w3 : w64 (i + (j : Int)) = i + (j : Int) := w2
        simp -dsimp [f1, f2, f3, f4, hlt, cT, w2]
        refine zaa (zoy a.dom[j] _ (by omega)) ?_
        simp -dsimp [f1, f2, f3, f4, hlt]
        (first | refine zak ?_ ?_ | refine zaj ?_ ?_) <;> intro h6 <;> (try simp only [nrm] at h6) <;> simp -dsimp [h6, f1, f2, f3, f4, hlt, w1]
        · have : domM i a.dom = false := zot (p := fun j t => inM t (w64 (i + j))) hlt (by rw [w3]; exact h6)
          simp [this]
        · exact zis (p := fun j t => inM t (w64 (i + j))) hlt f7 (by rw [w3]; exact h6)
      · have e : j = a.dom.length := by omega
        subst e
        have hD : domM i a.dom = true := zo3 f7
        have w2 : IntKind.i64.wrap (i + (a.dom.length : Int)) = i + (a.dom.length : Int) := zad (by omega) (by omega)
        have w3 : w64 (i + (a.dom.length : Int)) = i + (a.dom.length : Int) := w2
        rw [hD, Bool.true_and]
        simp -dsimp [f1, f2, f3, f4]
        clear f4 f7 hj
        refine zam a.idx.length (fun j st => st.s 2 = .d (.int .i64 i) ∧ st.s 4 = .ptr 4 1 0 ∧ st.h 4 = ⟨1, .box [.d (.bool true), .d (.int .i64 a.ty.kind), .d (.int .i64 a.ty.num), .d (.sl 3 (a.ty.kids.map eT)), .d (.sl 3 (a.dom.map eT)), .d (.int .i64 a.sort), .d (.sl 3 (a.idx.map eT))] false⟩ ∧
          st.s 8 = .d (.int .i64 j) ∧ ∀ (k : Nat) (hk : k < a.idx.length), k < j → inM a.idx[k] (i + a.dom.length) = true) ?_ ?_
        · simp -dsimp [f1, f2, f3]
        · clear f1 f2 f3 s hp
          rintro j ⟨s, hp⟩ hj ⟨f1, f2, f3, f4, f7⟩
          dsimp only at f1 f2 f3 f4
          rcases Nat.lt_or_ge j a.idx.length with hlt | hge
          · have w1 : IntKind.i64.wrap ((j : Int) + 1) = (j : Int) + 1 := zad (by omega) (by omega)
            simp -dsimp [f1, f2, f3, f4, hlt, cT, w2]
            refine zaa (zoy a.idx[j] _ (by omega)) ?_
            simp -dsimp [f1, f2, f3, f4, hlt]
            (first | refine zak ?_ ?_ | refine zaj ?_ ?_) <;> intro h6 <;> (try simp only [nrm] at h6) <;> simp -dsimp [h6, f1, f2, f3, f4, hlt, w1]
            · rw [allM, w3]
              have : (a.idx.any fun t => !inM t (i + a.dom.length)) = true := zvq hlt (by simp [h6])
              rw [this]; rfl
            · exact zni (p := fun t => inM t (i + a.dom.length)) hlt f7 h6
          · have e : j = a.idx.length := by omega
            subst e
            have hI : allM a.idx (w64 (i + a.dom.length)) = true := by
              rw [allM, w3]
              have := zva (p := fun t => inM t (i + a.dom.length)) f7
              rw [List.all_eq_not_any_not] at this
              exact this
            simp -dsimp [f1, f2, f3, f4, hI]
theorem zPq (b : Bl) (c : Co) : Pure Tryz.prog zh9 [eBl b, .agg (cCo c)] [.bool (conM b c)] := by
  refine ztg rfl fun hs => ?_
  have hi : ((c.idx.length : Int)) ≤ 9223372036854775807 := by
    have := hs (.agg (cCo c)) (by simp)
    simp -dsimp [cCo, cT, eTs, eArs, small] at this
    omega
  have hbl : ((b.sorts.length : Int)) ≤ 9223372036854775807 := by
    have := hs (eBl b) (by simp)
    simp -dsimp [eBl, cBl, eSos, small] at this
    omega
  have wS : IntKind.i64.wrap ((b.sorts.length : Int) - 1) = (b.sorts.length : Int) - 1 := zad (by omega) (by omega)
  simp -dsimp [zib, eBl, cBl, eSos, eCos, cCo, cT, eTs, eArs, wS]
  refine zaa (zkt c.sort 0 _) ?_
  simp -dsimp
  (first | refine zak ?_ ?_ | refine zaj ?_ ?_) <;> intro g1 <;> (try simp only [nrm] at g1) <;> simp -dsimp [g1]
  · have h5 := (zgz _ _ _).1 g1
    by_cases h6 : c.sort < 0
    · simp -dsimp [conM, h6]
    · have h7 : b.sorts[c.sort.toNat]? = none := List.getElem?_eq_none (by omega)
      simp -dsimp [conM, h6, h7]
  have h5 := (zdn _ _ _).1 g1
  have hlt : c.sort.toNat < b.sorts.length := by omega
  have hs0 : 0 ≤ c.sort := h5.1
  have hA : conM b c = if rowM b c.args then if (c.idx.length : Int) = (b.sorts[c.sort.toNat].idx.length : Int) then if allM c.idx c.args.length then zeq b.sorts[c.sort.toNat].dec c.dec c.args.length else false else false else false := by
    have : ¬c.sort < 0 := by omega
    simp [conM, hlt, this]
  (first | refine zak ?_ ?_ | refine zaj ?_ ?_) <;> intro g2 <;> (try simp only [nrm] at g2) <;> simp -dsimp [g2, g1]
  · rw [hA, rowM, if_pos g2]; rfl
  simp -dsimp [g1, g2, hlt, hs0, eSo, cSo, eArs, cT]
  (first | refine zak ?_ ?_ | refine zaj ?_ ?_) <;> intro g3 <;> (try simp only [nrm] at g3) <;> simp -dsimp [g3, g1, g2]
  · rw [hA, if_neg g3]
    split <;> rfl
  have hal : c.args.length ≤ 12 := by omega
  rw [if_pos g3] at hA
  have hR : rowM b c.args = allI (fun i a => argM b a i) 0 c.args := by rw [rowM, if_neg g2]
  rw [hA]
  refine zam c.args.length (fun i st => st.s 2 = .ptr 2 1 0 ∧ st.h 2 = ⟨1, .box [.d (.sl 6 (b.sorts.map eSo)), .d (.sl 6 (b.cons.map eCo)), .d (.int .i64 b.elim)] false⟩ ∧
    st.s 3 = .ptr 3 1 0 ∧ st.h 3 = ⟨1, .box [.d (.int .i64 c.sort), .d (.sl 7 (c.args.map eAr)), .d (.sl 3 (c.idx.map eT)), .d (.int .i64 c.dec.kind), .d (.int .i64 c.dec.num), .d (.sl 3 (c.dec.kids.map eT))] false⟩ ∧
    st.s 5 = .d (.int .i64 i) ∧ ∀ (j : Nat) (hj : j < c.args.length), j < i → argM b c.args[j] j = true) ?_ ?_
  · simp -dsimp
  · rintro i ⟨s, hp⟩ hi ⟨f1, f2, f3, f4, f5, f7⟩
    dsimp only at f1 f2 f3 f4 f5
    rcases Nat.lt_or_ge i c.args.length with hlt' | hge
    · have w1 : IntKind.i64.wrap ((i : Int) + 1) = (i : Int) + 1 := zad (by omega) (by omega)
      simp -dsimp [f1, f2, f3, f4, f5, hlt', eAr, cAr, cT, eTs]
      refine zaa (zIs b c.args[i] i (by omega) (by omega)) ?_
      simp -dsimp [f1, f2, f3, f4, f5, hlt']
      (first | refine zak ?_ ?_ | refine zaj ?_ ?_) <;> intro h6 <;> (try simp only [nrm] at h6) <;> simp -dsimp [h6, f1, f2, f3, f4, f5, hlt', w1]
      · intro h
        rw [hR, zot (p := fun i a => argM b a i) hlt' h6] at h
        cases h
      · exact zis (p := fun i a => argM b a i) hlt' f7 h6
    · have e : i = c.args.length := by omega
      subst e
      have hD : rowM b c.args = true := by rw [hR]; exact zo3 (p := fun i a => argM b a i) f7
      rw [if_pos hD]
      simp -dsimp [f1, f2, f3, f4, f5]
      clear f5 f7 hi
      refine zam c.idx.length (fun i st => st.s 2 = .ptr 2 1 0 ∧ st.h 2 = ⟨1, .box [.d (.sl 6 (b.sorts.map eSo)), .d (.sl 6 (b.cons.map eCo)), .d (.int .i64 b.elim)] false⟩ ∧
        st.s 3 = .ptr 3 1 0 ∧ st.h 3 = ⟨1, .box [.d (.int .i64 c.sort), .d (.sl 7 (c.args.map eAr)), .d (.sl 3 (c.idx.map eT)), .d (.int .i64 c.dec.kind), .d (.int .i64 c.dec.num), .d (.sl 3 (c.dec.kids.map eT))] false⟩ ∧
        st.s 6 = .d (.int .i64 i) ∧ ∀ (j : Nat) (hj : j < c.idx.length), j < i → inM c.idx[j] c.args.length = true) ?_ ?_
      · simp -dsimp [f1, f2, f3, f4]
      · clear f1 f2 f3 f4 s hp
        rintro i ⟨s, hp⟩ hi ⟨f1, f2, f3, f4, f5, f7⟩
        dsimp only at f1 f2 f3 f4 f5
        rcases Nat.lt_or_ge i c.idx.length with hlt' | hge
        · have w1 : IntKind.i64.wrap ((i : Int) + 1) = (i : Int) + 1 := zad (by omega) (by omega)
          simp -dsimp [f1, f2, f3, f4, f5, hlt', cT]
          refine zaa (zoy c.idx[i] _ (by omega)) ?_
          simp -dsimp [f1, f2, f3, f4, f5, hlt']
          (first | refine zak ?_ ?_ | refine zaj ?_ ?_) <;> intro h6 <;> (try simp only [nrm] at h6) <;> simp -dsimp [h6, f1, f2, f3, f4, f5, hlt', w1]
          · intro h
            have : (c.idx.any fun t => !inM t c.args.length) = true := zvq hlt' (by simp [h6])
            rw [allM, this] at h
            cases h
          · exact zni (p := fun t => inM t c.args.length) hlt' f7 h6
        · have e : i = c.idx.length := by omega
          subst e
          have hI : allM c.idx c.args.length = true := by
            rw [allM]
            have := zva (p := fun t => inM t c.args.length) f7
            rw [List.all_eq_not_any_not] at this
            exact this
          rw [if_pos hI]
          simp -dsimp [f1, f2, f3, f4, f5, hlt, hs0, eSo, cSo, eArs, cT]
          (first | refine zak ?_ ?_ | refine zaj ?_ ?_) <;> intro g6 <;> (try simp only [nrm] at g6) <;> simp -dsimp [g6, f1, f2, f3, f4, f5, zeq]
          · refine zaa (zoy c.dec _ (by omega)) ?_
            simp -dsimp [f1, f2, f3, f4, f5, zeq, g6]
          · refine zaa (zz2 c.dec) ?_
            simp -dsimp [f1, f2, f3, f4, f5, zeq, g6]
theorem za2 (b : Bl) : zey b = 0 ↔ 1 ≤ b.sorts.length ∧ b.sorts.length ≤ 4 ∧ b.cons.length ≤ 8 ∧ zi8 b.elim = true ∧ (∀ (j : Nat) (hj : j < b.sorts.length), zf3 b j b.sorts[j] = true) ∧ ∀ c ∈ b.cons, conM b c = true := by
  have ha : allI (fun k s => zf3 b k s) 0 b.sorts = true ↔ ∀ (j : Nat) (hj : j < b.sorts.length), zf3 b j b.sorts[j] = true := by
    rw [zan]
    simp
  rw [zey]
  by_cases h1 : (b.sorts.length : Int) < 1
  · rw [if_pos h1]
    constructor
    · intro h; simp at h
    · rintro ⟨h, _⟩; omega
  rw [if_neg h1]
  by_cases h2 : 4 < (b.sorts.length : Int)
  · rw [if_pos h2]
    constructor
    · intro h; simp at h
    · rintro ⟨_, h, _⟩; omega
  rw [if_neg h2]
  by_cases h3 : 8 < (b.cons.length : Int)
  · rw [if_pos h3]
    constructor
    · intro h; simp at h
    · rintro ⟨_, _, h, _⟩; omega
  rw [if_neg h3, ← ha]
  cases hl : zi8 b.elim with
  | false => simp
  | true =>
    cases hs : allI (fun k s => zf3 b k s) 0 b.sorts with
    | false => simp
    | true =>
      have hc : (b.cons.any fun c => !conM b c) = false ↔ ∀ c ∈ b.cons, conM b c = true := by
        rw [List.any_eq_false]
        simp
      cases hq : b.cons.any fun c => !conM b c with
      | false =>
        simp only [hq] at hc ⊢
        simp only [if_true]
        exact ⟨fun _ => ⟨by omega, by omega, by omega, trivial, trivial, hc.1 trivial⟩, fun _ => rfl⟩
      | true =>
        simp only [hq] at hc ⊢
        simp only [if_true]
        constructor
        · intro h; simp at h
        · rintro ⟨_, _, _, _, _, h⟩
          exact absurd (hc.2 h) (by simp)
def zln (b : Bl) : Bool := decide (zey b = 0)
theorem zB8 (n : Int) : zi8 n = inB n 0 6 := rfl
theorem zbx (b : Bl) (k : Nat) (s : So) : zf3 b k s = true ↔ rowM b s.idx = true ∧ zi8 s.level = true ∧ zeq s.dec s.dty s.idx.length = true ∧ ∀ a ∈ s.idx, zem k s a = false := by
  rw [zf3]
  cases rowM b s.idx <;> cases zi8 s.level <;> cases zeq s.dec s.dty s.idx.length <;> simp
theorem zga {b : Bl} {k : Nat} {s : So} {p : Prop} (hn : ¬p) (h : zf3 b k s = true → p) : zf3 b k s = false := by
  cases hq : zf3 b k s with
  | false => rfl
  | true => exact absurd (h hq) hn
theorem zxv {α : Type} {p : α → Bool} {l : List α} {i : Nat} (hi : i < l.length) (h : ∀ (j : Nat) (hj : j < l.length), j < i → p l[j] = false) (hx : p l[i] = false) :
    ∀ (j : Nat) (hj : j < l.length), j < i + 1 → p l[j] = false := by
  intro j hj hji
  rcases Nat.lt_or_ge j i with h' | h'
  · exact h j hj h'
  · have : j = i := by omega
    subst this
    exact hx
def bad0 (k : Int) (a : Ar) : Bool := if a.rc then if 0 < (a.dom.length : Int) then true else decide (k ≤ a.sort) else false
theorem zMl {l : List Ar} {j : Nat} (h : j < l.length) : (l.take (j + 1)).any (·.rc) = ((l.take j).any (·.rc) || l[j].rc) := by
  rw [zdb (List.getElem?_eq_getElem h), List.any_append]
  simp
theorem zyj {k : Int} {s : So} {a : Ar} (h : bad0 k a = false) (hd : a.rc = true → s.dec = false) : zem k s a = false := by
  rw [bad0] at h
  rw [zem]
  cases hr : a.rc with
  | false => rfl
  | true =>
    simp only [hr, if_true] at h ⊢
    by_cases c : 0 < (a.dom.length : Int)
    · rw [if_pos c] at h; cases h
    · rw [if_neg c] at h ⊢
      have c2 : ¬k ≤ a.sort := by simpa using h
      rw [if_neg c2]
      exact hd hr
theorem zIj (b : Bl) : Pure Tryz.prog zf4 [eBl b] [.bool (zln b)] := by
  refine zp7 rfl fun hs => ?_
  have hbl : ((b.sorts.length : Int)) ≤ 9223372036854775807 := by
    have := hs (eBl b) (by simp)
    simp -dsimp [eBl, cBl, eSos, small] at this
    omega
  have no : ∀ {p : Prop}, ¬p → (zey b = 0 → p) → zln b = false := fun hn hp => by
    rw [zln, decide_eq_false_iff_not]
    exact fun h => hn (hp h)
  simp -dsimp [zgi, eBl, cBl, eSos, eCos]
  refine zaa (zkt _ 1 4) ?_
  simp -dsimp
  (first | refine zak ?_ ?_ | refine zaj ?_ ?_) <;> intro g1 <;> (try simp only [nrm] at g1) <;> simp -dsimp [g1]
  · refine no (p := 1 ≤ b.sorts.length ∧ b.sorts.length ≤ 4) ?_ fun h => ⟨((za2 b).1 h).1, ((za2 b).1 h).2.1⟩
    have := (zgz _ _ _).1 g1
    omega
  (first | refine zak ?_ ?_ | refine zaj ?_ ?_) <;> intro g2 <;> (try simp only [nrm] at g2) <;> simp -dsimp [g2, g1]
  · exact no (p := b.cons.length ≤ 8) (by omega) fun h => ((za2 b).1 h).2.2.1
  refine zaa (zkt b.elim 0 6) ?_
  simp -dsimp [g1, g2]
  (first | refine zak ?_ ?_ | refine zaj ?_ ?_) <;> intro g3 <;> (try simp only [nrm] at g3) <;> simp -dsimp [g3, g1, g2]
  · exact no (p := zi8 b.elim = true) (by rw [zB8, g3]; simp) fun h => ((za2 b).1 h).2.2.2.1
  have hS := (zdn _ _ _).1 g1
  have hSl : b.sorts.length ≤ 4 := by omega
  have hCl : b.cons.length ≤ 8 := by omega
  refine zam b.sorts.length (fun i st => st.s 1 = .ptr 1 1 0 ∧ st.h 1 = ⟨1, .box [.d (.sl 6 (b.sorts.map eSo)), .d (.sl 6 (b.cons.map eCo)), .d (.int .i64 b.elim)] false⟩ ∧ st.s 3 = .d (.int .i64 i) ∧
    ∀ (j : Nat) (hj : j < b.sorts.length), j < i → zf3 b j b.sorts[j] = true) ?_ ?_
  · simp -dsimp
  · rintro i ⟨s, hp⟩ hi ⟨f1, f2, f3, f4⟩
    dsimp only at f1 f2 f3
    rcases Nat.lt_or_ge i b.sorts.length with hlt | hge
    · have w1 : IntKind.i64.wrap ((i : Int) + 1) = (i : Int) + 1 := zad (by omega) (by omega)
      simp -dsimp [f1, f2, f3, hlt, eSo, cSo, cT, eArs]
      have noS : zf3 b i b.sorts[i] = false → zln b = false := fun hx =>
        no (p := zf3 b i b.sorts[i] = true) (by rw [hx]; simp) fun h => ((za2 b).1 h).2.2.2.2.1 i hlt
      have hR : ¬12 < (b.sorts[i].idx.length : Int) → rowM b b.sorts[i].idx = allI (fun i a => argM b a i) 0 b.sorts[i].idx := fun h => by rw [rowM, if_neg h]
      generalize hsi : b.sorts[i] = s at noS hR ⊢
      (first | refine zak ?_ ?_ | refine zaj ?_ ?_) <;> intro g4 <;> (try simp only [nrm] at g4) <;> simp -dsimp [g4, f1, f2, f3, hlt]
      · exact noS (zga (p := rowM b s.idx = true) (by rw [rowM, if_pos g4]; simp) fun h => ((zbx b i s).1 h).1)
      refine zaa (zkt s.level 0 6) ?_
      simp -dsimp [g4]
      (first | refine zak ?_ ?_ | refine zaj ?_ ?_) <;> intro g5 <;> (try simp only [nrm] at g5) <;> simp -dsimp [g5, f1, f2, f3, hlt, g4]
      · exact noS (zga (p := zi8 s.level = true) (by rw [zB8, g5]; simp) fun h => ((zbx b i s).1 h).2.1)
      replace hR := hR g4
      have hsl : s.idx.length ≤ 12 := by omega
      generalize (hp 4).ver + 1 = v
      refine zam s.idx.length (fun j st => st.s 1 = .ptr 1 1 0 ∧ st.h 1 = ⟨1, .box [.d (.sl 6 (b.sorts.map eSo)), .d (.sl 6 (b.cons.map eCo)), .d (.int .i64 b.elim)] false⟩ ∧ st.s 3 = .d (.int .i64 i) ∧
        st.s 4 = .ptr 4 v 0 ∧ st.h 4 = ⟨v, .box [.d (.sl 7 (s.idx.map eAr)), .d (.int .i64 s.level), .d (.bool s.dec), .d (.int .i64 s.dty.kind), .d (.int .i64 s.dty.num), .d (.sl 3 (s.dty.kids.map eT))] false⟩ ∧
        st.s 6 = .d (.int .i64 j) ∧ st.s 5 = .d (.bool ((s.idx.take j).any (·.rc))) ∧ (∀ (k : Nat) (hk : k < s.idx.length), k < j → argM b s.idx[k] k = true) ∧ ∀ (k : Nat) (hk : k < s.idx.length), k < j → bad0 i s.idx[k] = false) ?_ ?_
      · simp -dsimp [f1, f2, f3]
      · clear f1 f2 f3 hp
        rintro j ⟨s', hp⟩ hj ⟨e1, e2, e3, e4, e5, e6, e7, e8, e9⟩
        dsimp only at e1 e2 e3 e4 e5 e6 e7
        rcases Nat.lt_or_ge j s.idx.length with hlt' | hge
        · have w2 : IntKind.i64.wrap ((j : Int) + 1) = (j : Int) + 1 := zad (by omega) (by omega)
          simp -dsimp [e1, e2, e3, e4, e5, e6, e7, hlt', eAr, cAr, cT, eTs]
          refine zaa (zIs b s.idx[j] j (by omega) (by omega)) ?_
          simp -dsimp [e1, e2, e3, e4, e5, e6, e7, hlt', eAr, cAr, cT, eTs]
          (first | refine zak ?_ ?_ | refine zaj ?_ ?_) <;> intro c1 <;> (try simp only [nrm] at c1) <;> simp -dsimp [c1, e1, e2, e3, e4, e5, e6, e7, hlt', eAr, cAr, cT, eTs]
          · refine noS (zga (p := rowM b s.idx = true) ?_ fun h => ((zbx b i s).1 h).1)
            rw [hR, zot (p := fun i a => argM b a i) hlt' c1]
            simp
          have hany := zMl hlt'
          have hbad : bad0 i s.idx[j] = true → zln b = false := fun hb => by
            refine noS (zga (p := zem i s s.idx[j] = false) ?_ fun h => ((zbx b i s).1 h).2.2.2 _ (List.getElem_mem _))
            rw [bad0] at hb
            rw [zem]
            cases hr : s.idx[j].rc with
            | false => simp [hr] at hb
            | true =>
              simp only [hr, if_true] at hb ⊢
              by_cases c2 : 0 < (s.idx[j].dom.length : Int)
              · rw [if_pos c2]; simp
              · rw [if_neg c2] at hb
                have c3 : (i : Int) ≤ s.idx[j].sort := by simpa using hb
                rw [if_neg c2, if_pos c3]; simp
          generalize (s.idx.take j).any (·.rc) = R at e7 hany
          cases hr : s.idx[j].rc with
          | false =>
            rw [hr] at hany
            have hb0 : bad0 i s.idx[j] = false := by simp [bad0, hr]
            cases R <;> simp -dsimp [e1, e2, e3, e4, e5, e6, e7, hlt', eAr, cAr, cT, eTs, hr, hany, w2, c1] <;> exact ⟨zis (p := fun i a => argM b a i) hlt' e8 c1, zxv hlt' e9 hb0⟩
          | true =>
            rw [hr] at hany
            simp -dsimp [e1, e2, e3, e4, e5, e6, e7, hlt', eAr, cAr, cT, eTs, hr, hany, w2, c1]
            (first | refine zak ?_ ?_ | refine zaj ?_ ?_) <;> intro c2 <;> (try simp only [nrm] at c2) <;> simp -dsimp [c2, e1, e2, e3, e4, e5, e6, e7, hlt', eAr, cAr, cT, eTs, hr, hany, w2, c1]
            · exact hbad (by simp only [bad0, hr, if_true]; rw [if_pos (by omega)])
            (first | refine zak ?_ ?_ | refine zaj ?_ ?_) <;> intro c3 <;> (try simp only [nrm] at c3) <;> simp -dsimp [c3, e1, e2, e3, e4, e5, e6, e7, hlt', eAr, cAr, cT, eTs, hr, hany, w2, c1, c2]
            · exact hbad (by simp only [bad0, hr, if_true]; rw [if_neg (by omega)]; simpa using c3)
            have hb0 : bad0 i s.idx[j] = false := by
              simp only [bad0, hr, if_true]
              rw [if_neg (by omega)]
              simp
              omega
            cases R <;> simp -dsimp [e1, e2, e3, e4, e5, e6, e7, hlt', eAr, cAr, cT, eTs, hr, hany, w2, c1, c2, c3] <;> exact ⟨zis (p := fun i a => argM b a i) hlt' e8 c1, zxv hlt' e9 hb0⟩
        · have e : j = s.idx.length := by omega
          subst e
          rw [List.take_length] at e7
          have hRow : rowM b s.idx = true := by rw [hR]; exact zo3 (p := fun i a => argM b a i) e8
          have hLev : zi8 s.level = true := g5
          have hbads : ∀ a ∈ s.idx, bad0 i a = false := fun a ha => by
            obtain ⟨k, hk, rfl⟩ := List.mem_iff_getElem.1 ha
            exact e9 k hk hk
          have next : zf3 b i s = true → ∀ (k : Nat) (hk : k < b.sorts.length), k < i + 1 → zf3 b k b.sorts[k] = true := fun h => zis (p := fun k s => zf3 b k s) hlt f4 (by rw [hsi]; exact h)
          simp -dsimp [e1, e2, e3, e4, e5, e6, e7]
          cases hd : s.dec with
          | false =>
            simp -dsimp [e1, e2, e3, e4, e5, e6, e7, hd]
            refine zaa (zz2 s.dty) ?_
            simp -dsimp [e1, e2, e3, e4, e5, e6, e7, hd]
            (first | refine zak ?_ ?_ | refine zaj ?_ ?_) <;> intro c4 <;> (try simp only [nrm] at c4) <;> simp -dsimp [c4, e1, e2, e3, e4, e5, e6, e7, hd, w1]
            · exact noS (zga (p := zeq s.dec s.dty s.idx.length = true) (by rw [zeq, hd]; simp [c4]) fun h => ((zbx b i s).1 h).2.2.1)
            · exact ⟨hlt, next ((zbx b i s).2 ⟨hRow, hLev, by rw [zeq, hd]; exact c4, fun a ha => zyj (hbads a ha) fun _ => hd⟩)⟩
          | true =>
            cases hrec : s.idx.any (·.rc) with
            | true =>
              rw [hrec] at e7
              simp -dsimp [e1, e2, e3, e4, e5, e6, e7, hd]
              obtain ⟨a, ha, har⟩ := List.any_eq_true.1 hrec
              refine noS (zga (p := zem i s a = false) ?_ fun h => ((zbx b i s).1 h).2.2.2 a ha)
              have har : a.rc = true := har
              simp [zem, har, hd]
            | false =>
              rw [hrec] at e7
              simp -dsimp [e1, e2, e3, e4, e5, e6, e7, hd]
              refine zaa (zoy s.dty _ (by omega)) ?_
              simp -dsimp [e1, e2, e3, e4, e5, e6, e7, hd]
              (first | refine zak ?_ ?_ | refine zaj ?_ ?_) <;> intro c4 <;> (try simp only [nrm] at c4) <;> simp -dsimp [c4, e1, e2, e3, e4, e5, e6, e7, hd, w1]
              · exact noS (zga (p := zeq s.dec s.dty s.idx.length = true) (by rw [zeq, hd]; simp [c4]) fun h => ((zbx b i s).1 h).2.2.1)
              · exact ⟨hlt, next ((zbx b i s).2 ⟨hRow, hLev, by rw [zeq, hd]; exact c4, fun a ha => zyj (hbads a ha) fun har => absurd har (by simpa using List.any_eq_false.1 hrec a ha)⟩)⟩
    · have e : i = b.sorts.length := by omega
      subst e
      simp -dsimp [f1, f2, f3]
      clear f3 hi
      refine zam b.cons.length (fun i st => st.s 1 = .ptr 1 1 0 ∧ st.h 1 = ⟨1, .box [.d (.sl 6 (b.sorts.map eSo)), .d (.sl 6 (b.cons.map eCo)), .d (.int .i64 b.elim)] false⟩ ∧ st.s 7 = .d (.int .i64 i) ∧
        ∀ (j : Nat) (hj : j < b.cons.length), j < i → conM b b.cons[j] = true) ?_ ?_
      · simp -dsimp [f1, f2]
      · clear f1 f2 s hp
        rintro i ⟨s, hp⟩ hi ⟨f1, f2, f3, f5⟩
        dsimp only at f1 f2 f3
        rcases Nat.lt_or_ge i b.cons.length with hlt | hge
        · have w1 : IntKind.i64.wrap ((i : Int) + 1) = (i : Int) + 1 := zad (by omega) (by omega)
          simp -dsimp [f1, f2, f3, hlt, eCo, cCo, cT, eArs, eTs]
          refine zaa (zPq b b.cons[i]) ?_
          simp -dsimp [f1, f2, f3, hlt]
          (first | refine zak ?_ ?_ | refine zaj ?_ ?_) <;> intro h6 <;> (try simp only [nrm] at h6) <;> simp -dsimp [h6, f1, f2, f3, hlt, w1]
          · exact no (p := conM b b.cons[i] = true) (by rw [h6]; simp) fun h => ((za2 b).1 h).2.2.2.2.2 _ (List.getElem_mem _)
          · exact zni (p := conM b) hlt f5 h6
        · have e : i = b.cons.length := by omega
          subst e
          have hAll : zln b = true := by
            rw [zln, decide_eq_true_eq, za2]
            refine ⟨by omega, by omega, hCl, g3, fun j hj => f4 j hj hj, fun c hc => ?_⟩
            obtain ⟨k, hk, rfl⟩ := List.mem_iff_getElem.1 hc
            exact f5 k hk hk
          simp -dsimp [f1, f2, f3, hAll]
end
section
attribute [local simp] zae zaf tk tn tks zb6 zb9
theorem zAl (b : Bl) : Pure Tryz.prog zbc [eBl b] [.int .i64 b.sorts.length] := by
  refine zum rfl fun hs => ?_
  simp -dsimp [zi3, eBl, cBl, eSos, eCos]
theorem zMq {l : List So} {i : Nat} (h : l.length ≤ i) : decs (l.take i) = decs l := by rw [List.take_of_length_le h]
theorem zzl (b : Bl) (k : Int) : Pure Tryz.prog zdg [eBl b, .int .i64 k] [.int .i64 (decs (b.sorts.take k.toNat))] := by
  refine zrz rfl fun hs => ?_
  have hbl : ((b.sorts.length : Int)) ≤ 9223372036854775807 := by
    have := hs (eBl b) (by simp)
    simp -dsimp [eBl, cBl, eSos, small] at this
    omega
  simp -dsimp [zhm, eBl, cBl, eSos, eCos]
  have hl := zMq (l := b.sorts) (i := k.toNat)
  refine zam (min k.toNat b.sorts.length) (fun i st => st.s 1 = .d (.int .i64 k) ∧ st.s 2 = .ptr 2 1 0 ∧ st.h 2 = ⟨1, .box [.d (.sl 6 (b.sorts.map eSo)), .d (.sl 6 (b.cons.map eCo)), .d (.int .i64 b.elim)] false⟩ ∧
    st.s 6 = .d (.int .i64 i) ∧ st.s 5 = .d (.int .i64 (decs (b.sorts.take i)))) ?_ ?_
  · simp -dsimp [decs]
  · rintro i ⟨s, hp⟩ hi ⟨g1, g2, g3, g4, g5⟩
    dsimp only at g1 g2 g3 g4 g5
    rcases Nat.lt_or_ge i (min k.toNat b.sorts.length) with hlt | hge
    · have hlt1 : (i : Int) < k := by omega
      have hlt2 : i < b.sorts.length := by omega
      have hlt3 : i < k.toNat := by omega
      have w1 : IntKind.i64.wrap ((i : Int) + 1) = (i : Int) + 1 := zad (by omega) (by omega)
      have hd := zhb (b.sorts.take i)
      rw [List.length_take] at hd
      have w2 : IntKind.i64.wrap ((decs (b.sorts.take i) : Int) + 1) = (decs (b.sorts.take i) : Int) + 1 := zad (by omega) (by omega)
      have hsn := zwq b.sorts i b.sorts[i] (List.getElem?_eq_getElem hlt2)
      simp -dsimp [g1, g2, g3, g4, g5, hlt1, hlt2, eSo, cSo, cT, eArs]
      cases hxd : b.sorts[i].dec <;> simp -dsimp [hlt, hxd, g1, g2, g3, g4, g5, hlt1, hlt2, hlt3, w1, w2, hsn]
    · have e : i = min k.toNat b.sorts.length := by omega
      rcases Nat.lt_or_ge k.toNat b.sorts.length with c | c
      · have e2 : i = k.toNat := by omega
        have n1 : ¬(max k 0 < k) := by omega
        clear e
        subst e2
        simp -dsimp [g1, g2, g3, g4, g5, n1]
      · have e2 : i = b.sorts.length := by omega
        rw [hl c]
        clear e
        subst e2
        rw [List.take_length] at g5
        simp -dsimp [g1, g2, g3, g4, g5]
        (first | refine zak ?_ ?_ | refine zaj ?_ ?_) <;> intro n1 <;> (try simp only [nrm] at n1) <;> simp -dsimp [n1, g1, g2, g3, g4, g5]
theorem zFz (b : Bl) (hf : Fit b) (base k : Int) : Pure Tryz.prog zfk [eBl b, .int .i64 base, .int .i64 k] [.int .i64 (zbq b base k)] := by
  refine zpe rfl fun hs => ?_
  have hfs := hf.s
  simp -dsimp [zfo, eBl, cBl, eSos, eCos]
  refine zaa (zkt base 0 65535) ?_
  simp -dsimp
  (first | refine zak ?_ ?_ | refine zaj ?_ ?_) <;> intro g1 <;> (try simp only [nrm] at g1) <;> simp -dsimp [g1]
  · have h5 := (zgz _ _ _).1 g1
    rw [zbq, zif, if_pos (by omega)]
  refine zaa (zAl b) ?_
  have wS : IntKind.i64.wrap ((b.sorts.length : Int) - 1) = (b.sorts.length : Int) - 1 := zad (by omega) (by omega)
  simp -dsimp [g1, wS]
  refine zaa (zkt k 0 _) ?_
  simp -dsimp [g1]
  have h5 := (zdn _ _ _).1 g1
  rw [zhg hf h5.1 h5.2]
  (first | refine zak ?_ ?_ | refine zaj ?_ ?_) <;> intro g2 <;> (try simp only [nrm] at g2) <;> simp -dsimp [g2, g1]
  · have h6 := (zgz _ _ _).1 g2
    intros
    omega
  have h6 := (zdn _ _ _).1 g2
  rw [if_pos (by omega)]
  exact zad (by omega) (by omega)
theorem zpm (b : Bl) (hf : Fit b) (base k : Int) : Pure Tryz.prog zdx [eBl b, .int .i64 base, .int .i64 k] [.int .i64 (za6 b base k)] := by
  refine zld rfl fun hs => ?_
  have hfs := hf.s
  have hfc := hf.c
  have hd := zhb b.sorts
  simp -dsimp [zdt, eBl, cBl, eSos, eCos]
  refine zaa (zkt base 0 65535) ?_
  simp -dsimp
  (first | refine zak ?_ ?_ | refine zaj ?_ ?_) <;> intro g1 <;> (try simp only [nrm] at g1) <;> simp -dsimp [g1]
  · have h5 := (zgz _ _ _).1 g1
    rw [za6, zif, if_pos (by omega)]
  refine zaa (zAl b) ?_
  have wS : IntKind.i64.wrap ((b.sorts.length : Int) - 1) = (b.sorts.length : Int) - 1 := zad (by omega) (by omega)
  simp -dsimp [g1, wS]
  refine zaa (zkt k 0 _) ?_
  simp -dsimp [g1]
  have h5 := (zdn _ _ _).1 g1
  rw [zjj hf h5.1 h5.2]
  (first | refine zak ?_ ?_ | refine zaj ?_ ?_) <;> intro g2 <;> (try simp only [nrm] at g2) <;> simp -dsimp [g2, g1]
  · have h6 := (zgz _ _ _).1 g2
    intros
    omega
  have h6 := (zdn _ _ _).1 g2
  rw [if_pos (by omega)]
  refine zaa (zAl b) ?_
  simp -dsimp
  refine zaa (zAl b) ?_
  simp -dsimp
  refine zaa (zzl b b.sorts.length) ?_
  simp -dsimp
  rw [zad (n := base + (b.sorts.length : Int)) (by omega) (by omega), zad (n := base + (b.sorts.length : Int) + decs b.sorts) (by omega) (by omega), zad (n := base + (b.sorts.length : Int) + decs b.sorts + b.cons.length) (by omega) (by omega), zad (by omega) (by omega)]
  omega
theorem zvj (b : Bl) (hf : Fit b) (base k : Int) : Pure Tryz.prog zdk [eBl b, .int .i64 base, .int .i64 k] [.int .i64 (zap b base k)] := by
  refine zk9 rfl fun hs => ?_
  have hfs := hf.s
  have hfc := hf.c
  have hd := zhb b.sorts
  simp -dsimp [zdo, eBl, cBl, eSos, eCos]
  refine zaa (zkt base 0 65535) ?_
  simp -dsimp
  (first | refine zak ?_ ?_ | refine zaj ?_ ?_) <;> intro g1 <;> (try simp only [nrm] at g1) <;> simp -dsimp [g1]
  · have h5 := (zgz _ _ _).1 g1
    rw [zap, zif, if_pos (by omega)]
  have wS : IntKind.i64.wrap ((b.cons.length : Int) - 1) = (b.cons.length : Int) - 1 := zad (by omega) (by omega)
  simp -dsimp [g1, wS]
  refine zaa (zkt k 0 _) ?_
  simp -dsimp [g1]
  have h5 := (zdn _ _ _).1 g1
  rw [zfq hf h5.1 h5.2]
  (first | refine zak ?_ ?_ | refine zaj ?_ ?_) <;> intro g2 <;> (try simp only [nrm] at g2) <;> simp -dsimp [g2, g1]
  · have h6 := (zgz _ _ _).1 g2
    intros
    omega
  have h6 := (zdn _ _ _).1 g2
  rw [if_pos (by omega)]
  refine zaa (zAl b) ?_
  simp -dsimp
  refine zaa (zAl b) ?_
  simp -dsimp
  refine zaa (zzl b b.sorts.length) ?_
  simp -dsimp
  rw [zad (n := base + (b.sorts.length : Int)) (by omega) (by omega), zad (n := base + (b.sorts.length : Int) + decs b.sorts) (by omega) (by omega), zad (by omega) (by omega)]
  omega
theorem zvy (b : Bl) (hf : Fit b) (base k : Int) : Pure Tryz.prog zew [eBl b, .int .i64 base, .int .i64 k] [.int .i64 (zdp b base k)] := by
  refine zoh rfl fun hs => ?_
  have hfs := hf.s
  simp -dsimp [zez, eBl, cBl, eSos, eCos]
  refine zaa (zkt base 0 65535) ?_
  simp -dsimp
  (first | refine zak ?_ ?_ | refine zaj ?_ ?_) <;> intro g1 <;> (try simp only [nrm] at g1) <;> simp -dsimp [g1]
  · have h5 := (zgz _ _ _).1 g1
    rw [zdp]
    split
    · rfl
    · split
      · rfl
      · split
        · rw [zif, if_pos (by omega)]
        · rfl
  refine zaa (zAl b) ?_
  have wS : IntKind.i64.wrap ((b.sorts.length : Int) - 1) = (b.sorts.length : Int) - 1 := zad (by omega) (by omega)
  simp -dsimp [g1, wS]
  refine zaa (zkt k 0 _) ?_
  simp -dsimp [g1]
  have h5 := (zdn _ _ _).1 g1
  rw [zss hf h5.1 h5.2]
  (first | refine zak ?_ ?_ | refine zaj ?_ ?_) <;> intro g2 <;> (try simp only [nrm] at g2) <;> simp -dsimp [g2, g1]
  · have h6 := (zgz _ _ _).1 g2
    intro h
    omega
  have h6 := (zdn _ _ _).1 g2
  have hlt : k.toNat < b.sorts.length := by omega
  rw [dif_pos (by omega)]
  simp -dsimp [g1, g2, h6.1, hlt, eSo, cSo, cT, eArs]
  (first | refine zak ?_ ?_ | refine zaj ?_ ?_) <;> intro g4 <;> (try simp only [nrm] at g4) <;> simp -dsimp [g4, g1, g2, h6.1, hlt, eSo, cSo, cT, eArs]
  rw [if_pos g4]
  refine zaa (zAl b) ?_
  simp -dsimp
  refine zaa (zzl b k) ?_
  simp -dsimp
  have hd := zhb (b.sorts.take k.toNat)
  rw [List.length_take] at hd
  rw [zad (n := base + (b.sorts.length : Int)) (by omega) (by omega), zad (by omega) (by omega)]
theorem zKq (b : Bl) (hf : Fit b) (base n : Int) (hn : is64 n) : Pure Tryz.prog zef [eBl b, .int .i64 base, .int .i64 n] [.int .i64 (ofM b base n).1, .int .i64 (ofM b base n).2] := by
  refine zt6 rfl fun hs => ?_
  have hfs := hf.s
  have hfc := hf.c
  simp -dsimp [ziz, eBl, cBl, eSos, eCos]
  refine zam b.sorts.length (fun i st => st.s 3 = .ptr 3 1 0 ∧ st.h 3 = ⟨1, .box [.d (.sl 6 (b.sorts.map eSo)), .d (.sl 6 (b.cons.map eCo)), .d (.int .i64 b.elim)] false⟩ ∧ st.s 1 = .d (.int .i64 base) ∧ st.s 2 = .d (.int .i64 n) ∧
    st.s 8 = .d (.int .i64 i) ∧ ∀ j : Nat, j < i → 0 ≤ n → zbq b base j ≠ n ∧ zdp b base j ≠ n ∧ za6 b base j ≠ n) ?_ ?_
  · simp -dsimp
  · rintro i ⟨s, hp⟩ hi ⟨g1, g2, g3, g4, g5, g6⟩
    dsimp only at g1 g2 g3 g4 g5
    simp -dsimp [g1, g2, g3, g4, g5]
    refine zaa (zAl b) ?_
    rcases Nat.lt_or_ge i b.sorts.length with hlt | hge
    · have w1 : IntKind.i64.wrap ((i : Int) + 1) = (i : Int) + 1 := zad (by omega) (by omega)
      simp -dsimp [g1, g2, g3, g4, g5, hlt]
      refine zaa (zFz b hf base i) ?_
      simp -dsimp [g1, g2, g3, g4, g5, hlt]
      by_cases nn : 0 ≤ n
      · by_cases c1 : zbq b base i = n
        · have ho := zH9 hf nn c1
          simp -dsimp [g1, g2, g3, g4, g5, hlt, w1, c1, nn, ho]
        simp -dsimp [g1, g2, g3, g4, g5, hlt, w1, c1]
        refine zaa (zvy b hf base i) ?_
        simp -dsimp [g1, g2, g3, g4, g5, hlt, w1, c1]
        by_cases c2 : zdp b base i = n
        · have ho := zGl hf nn c2
          simp -dsimp [g1, g2, g3, g4, g5, hlt, w1, c1, c2, nn, ho]
        simp -dsimp [g1, g2, g3, g4, g5, hlt, w1, c1, c2]
        refine zaa (zpm b hf base i) ?_
        simp -dsimp [g1, g2, g3, g4, g5, hlt, w1, c1, c2]
        by_cases c3 : za6 b base i = n
        · have ho := zz7 hf nn c3
          simp -dsimp [g1, g2, g3, g4, g5, hlt, w1, c1, c2, c3, nn, ho]
        simp -dsimp [g1, g2, g3, g4, g5, hlt, w1, c1, c2, c3]
        intro j hj hnn
        rcases Nat.lt_or_ge j i with h | h
        · exact g6 j h hnn
        · have : j = i := by omega
          subst this
          exact ⟨c1, c2, c3⟩
      · generalize decide (zbq b base i = n) = q1
        cases q1 <;> simp -dsimp [g1, g2, g3, g4, g5, hlt, w1, nn] <;> refine zaa (zvy b hf base i) ?_ <;> simp -dsimp [g1, g2, g3, g4, g5, hlt, w1, nn] <;>
          generalize decide (zdp b base i = n) = q2 <;> cases q2 <;> simp -dsimp [g1, g2, g3, g4, g5, hlt, w1, nn] <;> refine zaa (zpm b hf base i) ?_ <;> simp -dsimp [g1, g2, g3, g4, g5, hlt, w1, nn] <;>
          generalize decide (za6 b base i = n) = q3 <;> cases q3 <;> simp -dsimp [g1, g2, g3, g4, g5, hlt, w1, nn] <;> omega
    · have e : i = b.sorts.length := by omega
      subst e
      simp -dsimp [g1, g2, g3, g4, g5]
      clear hi g5
      refine zam b.cons.length (fun i st => st.s 3 = .ptr 3 1 0 ∧ st.h 3 = ⟨1, .box [.d (.sl 6 (b.sorts.map eSo)), .d (.sl 6 (b.cons.map eCo)), .d (.int .i64 b.elim)] false⟩ ∧ st.s 1 = .d (.int .i64 base) ∧ st.s 2 = .d (.int .i64 n) ∧
        st.s 9 = .d (.int .i64 i) ∧ ∀ j : Nat, j < i → 0 ≤ n → zap b base j ≠ n) ?_ ?_
      · simp -dsimp [g1, g2, g3, g4]
      · clear g1 g2 g3 g4 s hp
        rintro i ⟨s, hp⟩ hi ⟨g1, g2, g3, g4, g5, g7⟩
        dsimp only at g1 g2 g3 g4 g5
        rcases Nat.lt_or_ge i b.cons.length with hlt | hge
        · have w1 : IntKind.i64.wrap ((i : Int) + 1) = (i : Int) + 1 := zad (by omega) (by omega)
          simp -dsimp [g1, g2, g3, g4, g5, hlt]
          refine zaa (zvj b hf base i) ?_
          simp -dsimp [g1, g2, g3, g4, g5, hlt, w1]
          by_cases nn : 0 ≤ n
          · by_cases c1 : zap b base i = n
            · have ho := zxj hf nn c1
              simp -dsimp [g1, g2, g3, g4, g5, hlt, w1, c1, nn, ho]
            simp -dsimp [g1, g2, g3, g4, g5, hlt, w1, c1]
            intro j hj hnn
            rcases Nat.lt_or_ge j i with h | h
            · exact g7 j h hnn
            · have : j = i := by omega
              subst this
              exact c1
          · generalize decide (zap b base i = n) = q1
            cases q1 <;> simp -dsimp [g1, g2, g3, g4, g5, hlt, w1, nn] <;> omega
        · have e : i = b.cons.length := by omega
          subst e
          have ho : ofM b base n = (0, 0) := zQf hf hn fun e he k hk nn => by
            simp only [tab, List.mem_cons, List.not_mem_nil, or_false] at he
            rcases he with rfl | rfl | rfl | rfl <;> simp only at hk ⊢
            · exact (g6 k hk nn).1
            · exact (g6 k hk nn).2.1
            · exact g7 k hk nn
            · exact (g6 k hk nn).2.2
          simp -dsimp [g1, g2, g3, g4, g5, ho]
end
section
attribute [local simp] zae zaf tk tn tks zb6 zb9
theorem zRv {n : Int} (h1 : 0 ≤ n) (h2 : n < 18446744073709551616) : IntKind.u64.wrap n = n := by
  simp only [IntKind.wrap]
  exact Int.emod_eq_of_lt h1 h2
end
section
attribute [local simp] zae zaf tk tn tks zb6 zb9
theorem zG4 (b : Bl) : zey b = if zln b then 0 else 12 := by
  rw [zln]
  by_cases h : zey b = 0
  · simp [h]
  · have : zey b = 12 := by
      rw [zey] at h ⊢
      repeat' split
      all_goals first | rfl | (exfalso; apply h; simp_all)
    simp [this]
end
end
section
attribute [local simp] zae zaf tk tn tks zb6 zb9
theorem zM1 (f : Int → Int → T) (c v w : Int) (hv : ∀ n b : Int, 0 ≤ n → n ≤ 65535 → 0 ≤ b → b ≤ 4194304 → n < v + b → wiT (f n b) (w + b) c = true) (t : T) :
    ∀ b : Int, zab t = true → 0 ≤ b → b + zac t ≤ 4194304 → wiT t (v + b) c = true → wiT (mapT f t b) (w + b) c = true := by
  refine T.ind (p := fun t => ∀ b : Int, zab t = true → 0 ≤ b → b + zac t ≤ 4194304 → wiT t (v + b) c = true → wiT (mapT f t b) (w + b) c = true) ?_ t
  intro k n ks ih b hfm h0 hb hw
  rw [wiT] at hw
  rw [mapT]
  by_cases h1 : k = 1
  · have hn := zc9 h1 hfm
    rw [if_pos h1] at hw ⊢
    exact hv n b hn.1 hn.2 h0 (by omega) (by simpa using hw)
  · rw [if_neg h1] at hw ⊢
    rw [wiT, if_neg h1]
    split
    · rename_i h2; rw [if_pos h2] at hw; exact hw
    · rename_i h2
      rw [if_neg h2] at hw
      split
      · rename_i h3; rw [if_pos h3] at hw; exact hw
      · rename_i h3
        rw [if_neg h3] at hw
        rw [zCi] at hw ⊢
        intro j hj
        rw [zja] at hj
        have hxn := zcq (k := k) (n := n) (List.getElem_mem hj)
        have hbl := zdf k j
        rw [zow _ _ _ _ _ _ hj]
        have := hw j hj
        rw [Nat.zero_add] at this ⊢
        have e1 : v + b + zai k j = v + (b + zai k j) := by omega
        have e2 : w + b + zai k j = w + (b + zai k j) := by omega
        rw [e1] at this
        rw [e2]
        exact ih ks[j] (List.getElem_mem _) _ (zbm hfm _ (List.getElem_mem _)) (by omega) (by omega) this
theorem zQ8 (c : Int) (t : T) : ∀ v b : Int, zab t = true → 0 ≤ b → 0 ≤ v → wiT t v c = true → zfl t b < v + zac t := by
  refine T.ind (p := fun t => ∀ v b : Int, zab t = true → 0 ≤ b → 0 ≤ v → wiT t v c = true → zfl t b < v + zac t) ?_ t
  intro k n ks ih v b hfm hb hv0 hw
  rw [wiT] at hw
  rw [zfl]
  by_cases h1 : k = 1
  · have hks := zlw h1 hfm
    subst hks
    rw [if_pos h1] at hw
    rw [zkn, zar]
    have : n < v := by simpa using hw
    split <;> omega
  · rw [if_neg (fun h => h1 h.1)]
    rw [if_neg h1] at hw
    have hnn : zac (.mk k n ks) = (ks.map zac).sum + 1 := by rw [zac]
    by_cases h2 : k = 2 ∨ k = 3
    · have hk0 : zds k = 0 := by rcases h2 with rfl | rfl <;> rfl
      have hks : ks = [] := by
        rw [za0, hk0] at hfm
        split at hfm
        · exact List.length_eq_zero_iff.1 (by omega)
        · cases hfm
      subst hks
      rw [zkn]
      omega
    · rw [if_neg (by omega), if_neg (by omega), zCi] at hw
      have go : ∀ (l : List T) (i : Nat) (a : Int), (∀ (j : Nat) (hj : j < l.length), l[j] ∈ ks ∧ wiT l[j] (v + zai k (i + j : Nat)) c = true) → a < v + zac (.mk k n ks) → zkn k b i a l < v + zac (.mk k n ks) := by
        intro l
        induction l with
        | nil => intro i a _ h; rw [zkn]; exact h
        | cons x xs ihx =>
          intro i a hm ha
          obtain ⟨hx, hwx⟩ := hm 0 (by simp)
          simp only [List.getElem_cons_zero, Nat.add_zero] at hx hwx
          have hxn := zcq (k := k) (n := n) hx
          have hbl := zdf k i
          have h3 := ih x hx (v + zai k i) (b + zai k i) (zbm hfm x hx) (by omega) (by omega) hwx
          rw [zkn]
          refine ihx (i + 1) _ (fun j hj => ?_) ?_
          · have := hm (j + 1) (by simpa using hj)
            rw [show i + (j + 1) = i + 1 + j by omega] at this
            simpa using this
          · rw [zvk]
            omega
      exact go ks 0 (-1) (fun j hj => ⟨List.getElem_mem _, hw j hj⟩) (by omega)
theorem zku {n w c : Int} (h : n < w) : wiT (.mk 1 n []) w c = true := by rw [wiT, if_pos rfl]; simpa using h
end
section
attribute [local simp] zae zaf tk tn tks

theorem zkv (t : T) : okT t → (spA t).length ≤ 1000000 → OwnC Tryz.prog zay [.agg (cT t)] [.agg [.d (.int .i64 (spH t).kind), .d (.int .i64 (spH t).num), .d (.sl 3 ((spH t).kids.map eT))], .one (.row 3 ((spA t).reverse.map eT) false)] := by
  refine T.ind (p := fun t => okT t → (spA t).length ≤ 1000000 → OwnC Tryz.prog zay [.agg (cT t)] [.agg [.d (.int .i64 (spH t).kind), .d (.int .i64 (spH t).num), .d (.sl 3 ((spH t).kids.map eT))], .one (.row 3 ((spA t).reverse.map eT) false)]) ?_ t
  intro k n ks ih ho hb
  refine zne rfl fun hs => ?_
  by_cases hc : k = 6 ∧ ∃ a b, ks = [a, b]
  · obtain ⟨rfl, a, b, rfl⟩ := hc
    rw [(zfj n a b).1, (zfj n a b).2]
    rw [(zfj n a b).1, List.length_cons] at hb
    have h := ih a (by simp) (ho.kids.2 a (by simp)) (by omega)
    have hb' := zy7 b (ho.kids.2 b (by simp))
    have hr : ((spA a).length + 1) * 40 ≤ zal := by simp only [zal]; omega
    simp only [cT] at h hb'
    simp -dsimp [zda, cT, zcc]
    refine zch h (by simp [zax, zbt, RV.cells]) ?_
    simp -dsimp [cT, zcc]
    refine zaa hb' ?_
    simp -dsimp [cT, zcc, hr]
  · rw [(zej hc).1, (zej hc).2]
    have htw := zy7 (.mk k n ks) ho
    simp only [cT, tk, tn, tks] at htw
    simp -dsimp [zda, cT]
    by_cases h6 : k = 6
    · have h2 : ¬ (ks.length : Int) = 2 := fun h => hc ⟨h6, by
        match ks, h with
        | [a, b], _ => exact ⟨a, b, rfl⟩
        | [], h => simp at h
        | [_], h => simp at h
        | _ :: _ :: _ :: _, h => simp at h; omega⟩
      simp -dsimp [h6, h2]
      rw [h6] at htw
      refine zaa htw ?_
      simp -dsimp [cT, h6]
    · simp -dsimp [h6]
      refine zaa htw ?_
      simp -dsimp [cT]
theorem zKt (t : T) (hb : (piD t).length ≤ 1000000) (h1 : okT (piB t)) (h2 : okTs (piD t)) : Pure Tryz.prog zc2 [.agg (cT t)] [eTs (piD t), .agg (cT (piB t))] := by
  refine zpv rfl fun hs => ?_
  simp -dsimp [zgd, cT]
  refine zam (piD t).length (fun i st => st.s 3 = .ptr 3 1 0 ∧ st.h 3 = ⟨1, .box [.d (.int .i64 0), .d (.int .i64 0), .fsl 3 []] false⟩ ∧ st.s 1 = .ptr 1 1 0 ∧ ∃ (cur : T) (L : List T),
    st.h 1 = ⟨1, .box [.d (.int .i64 cur.kind), .d (.int .i64 cur.num), .d (.sl 3 (cur.kids.map eT))] false⟩ ∧ L ++ piD cur = piD t ∧ L.length = i ∧ piB cur = piB t ∧
    st.s 4 = .rsl 4 (1 + i) ∧ st.h 4 = ⟨1 + i, .row 3 (L.map eT) false⟩) ?_ ?_
  · simp -dsimp
    exact ⟨t, ⟨rfl, rfl, rfl⟩, [], by simp⟩
  · rintro i ⟨s, hp⟩ hi ⟨g1, g2, g3, cur, L, g4, g5, g6, g7, g8, g9⟩
    dsimp only at g1 g2 g3 g4 g8 g9
    obtain ⟨k, n, ks⟩ := cur
    simp only [tk, tn, tks] at g4
    have hL : L.length ≤ (piD t).length := by rw [← g5, List.length_append]; omega
    by_cases hc : k = 4 ∧ ∃ a b, ks = [a, b]
    · obtain ⟨rfl, a, b, rfl⟩ := hc
      rw [(zFm n a b).1] at g5
      rw [(zFm n a b).2] at g7
      have hlt : i < (piD t).length := by rw [← g5, List.length_append, List.length_cons]; omega
      have hr : (L.length + 1) * 40 ≤ zal := by simp only [zal]; omega
      simp -dsimp [g1, g2, g3, g4, g8, g9, hr, zcc, cT]
      refine zaa (zy7 a (h2.2 a (by rw [← g5]; simp))) ?_
      simp -dsimp [g1, g2, g3, g4, g8, g9, hr, zcc, cT]
      exact ⟨hlt, b, ⟨rfl, rfl, rfl⟩, L ++ [a], by simp [g5], by simp [g6], g7, by omega, by simp [zcc, cT]⟩
    · have e1 := zI7 (n := n) hc
      rw [e1.1, List.append_nil] at g5
      rw [e1.2] at g7
      subst g5
      rw [← g7] at h1
      have htw := zy7 _ h1
      simp only [cT, tk, tn, tks] at htw
      by_cases h4 : k = 4
      · have h2' : ¬ (ks.length : Int) = 2 := fun h => hc ⟨h4, by
          match ks, h with
          | [a, b], _ => exact ⟨a, b, rfl⟩
          | [], h => simp at h
          | [_], h => simp at h
          | _ :: _ :: _ :: _, h => simp at h; omega⟩
        rw [h4] at htw g4 g7
        simp -dsimp [g1, g2, g3, g4, g8, g9, h4, h2']
        refine zaa htw ?_
        simp -dsimp [g1, g2, g3, g4, g8, g9, cT, ← g7, eTs]
      · simp -dsimp [g1, g2, g3, g4, g8, g9, h4]
        refine zaa htw ?_
        simp -dsimp [g1, g2, g3, g4, g8, g9, cT, ← g7, eTs]
theorem zL2 (n : Nat) (hn : n ≤ 65536) : Pure Tryz.prog zg2 [.int .i64 n] [eTs (zco n)] := by
  refine zrd rfl fun hs => ?_
  have w0 : IntKind.i64.wrap ((n : Int) - 1) = (n : Int) - 1 := zad (by omega) (by omega)
  simp -dsimp [zhe, w0]
  refine zam n (fun i st => st.s 2 = .rsl 2 1 ∧ st.h 2 = ⟨1, .row 3 [] false⟩ ∧ st.s 0 = .d (.int .i64 n) ∧ st.s 4 = .d (.int .i64 ((n : Int) - 1 - i)) ∧ st.s 3 = .rsl 3 (1 + i) ∧ st.h 3 = ⟨1 + i, .row 3 (((zco n).take i).map eT) false⟩) ?_ ?_
  · simp -dsimp
  · rintro i ⟨s, hp⟩ hi ⟨g1, g2, g3, g4, g5, g6⟩
    dsimp only at g1 g2 g3 g4 g5 g6
    have hvl := zg0 n
    rcases Nat.lt_or_ge i n with hlt | hge
    · have w1 : IntKind.i64.wrap ((n : Int) - 1 - i - 1) = (n : Int) - 1 - ((i + 1 : Nat) : Int) := by rw [zad (by omega) (by omega)]; omega
      have q1 : (0 : Int) ≤ (n : Int) - 1 - i := by omega
      have q1' : (i : Int) ≤ (n : Int) - 1 := by omega
      have q2 : (n : Int) ≤ 65536 := by omega
      have hg := zCg n i (by omega)
      have hr : (min i n + 1) * 40 ≤ zal := by simp only [zal]; omega
      have htk : ((zco n).take (i + 1)).map eT = ((zco n).take i).map eT ++ [.agg (cT (.mk 1 ((n : Int) - 1 - i) []))] := by
        rw [zdb (List.getElem?_eq_getElem (by omega : i < (zco n).length)), hg, List.map_append]
        simp [zcc, tV]
      rw [htk]
      simp -dsimp [g1, g2, g3, g4, g5, g6, q1, q1', q2]
      refine zaa (zRj _) ?_
      simp -dsimp [g1, g2, g3, g4, g5, g6, q1, q1', q2, hvl, hr, w1, cT, hlt]
      omega
    · have e : i = n := by omega
      subst e
      have q1 : ¬ (0 : Int) ≤ (i : Int) - 1 - i := by omega
      have q1' : ¬ (i : Int) ≤ (i : Int) - 1 := by omega
      have ht : (zco i).take i = zco i := List.take_of_length_le (by omega)
      rw [ht] at g6
      simp -dsimp [g1, g2, g3, g4, g5, g6, q1, q1', eTs]
end
section
theorem zbb (l : List So) : (AV.d (eSos l)).one = true := rfl
theorem zbe (l : List Co) : (AV.d (eCos l)).one = true := rfl
theorem zba (l : List Ar) : (AV.d (eArs l)).one = true := rfl
theorem zb8 (l : List T) : (AV.d (eTs l)).one = true := rfl
attribute [local simp] zae zaf tk tn tks zbb zbe zba zb8

structure FineAr (a : Ar) : Prop where
  ty : zac a.ty ≤ 9000
  domL : a.dom.length ≤ 60
  dom : (a.dom.map zac).sum ≤ 9000
  idxL : a.idx.length ≤ 60
  idx : (a.idx.map zac).sum ≤ 9000
def zfy (l : List Ar) : Prop := l.length ≤ 20 ∧ ∀ a ∈ l, FineAr a
structure FineSo (s : So) : Prop where
  idx : zfy s.idx
  dty : zac s.dty ≤ 9000
structure FineCo (c : Co) : Prop where
  args : zfy c.args
  idxL : c.idx.length ≤ 60
  idx : (c.idx.map zac).sum ≤ 9000
  dec : zac c.dec ≤ 9000
structure FineBl (b : Bl) : Prop where
  s : b.sorts.length ≤ 10
  c : b.cons.length ≤ 20
  sorts : ∀ s ∈ b.sorts, FineSo s
  cons : ∀ c ∈ b.cons, FineCo c
theorem zDj {xs : List D} {x : D} (h : x ∈ xs) : bulk x ≤ (xs.map bulk).sum := zci (List.mem_map.2 ⟨x, h, rfl⟩)
theorem zwd {t : T} (hb : zac t ≤ 1048576) (h : zes [t] = false) : zac t ≤ 9000 := by
  have := (zux (l := [t]) (by simpa using hb) h).2.2
  simpa using this
theorem zO0 {a : Ar} (hb : bulk (eAr a) ≤ 1048576) (h : pArg a = false) : FineAr a := by
  have e : bulk (eAr a) = 1 + bulk (.agg (cT a.ty)) + (bulk (eTs a.dom) + (1 + bulk (eTs a.idx))) := by
    simp only [eAr, cAr, bulk, List.map_cons, List.map_append, List.sum_cons, List.sum_append, List.map_nil, List.sum_nil, List.cons_append, cT, eTs, List.nil_append]
    omega
  simp only [pArg, Bool.or_eq_false_iff] at h
  have h1 := zvi a.ty
  have h2 := zy6 a.dom
  have h3 := zy6 a.idx
  obtain ⟨d1, _, d2⟩ := zux (l := a.dom) (by omega) h.1.2
  obtain ⟨i1, _, i2⟩ := zux (l := a.idx) (by omega) h.2
  exact ⟨zwd (by omega) h.1.1, d1, d2, i1, i2⟩
theorem zFa {l : List Ar} (hb : bulk (eArs l) ≤ 1048576) (h : zhs l = false) : zfy l := by
  simp only [zhs, Bool.or_eq_false_iff, decide_eq_false_iff_not] at h
  refine ⟨by omega, fun a ha => zO0 ?_ ?_⟩
  · have := zDj (List.mem_map.2 ⟨a, ha, rfl⟩ : eAr a ∈ l.map eAr)
    simp only [eArs, bulk] at hb
    omega
  · have := List.any_eq_false.1 h.2 a ha
    simpa using this
theorem zPw {b : Bl} (hb : bulk (eBl b) ≤ 1048576) (h : zi2 b = false) : FineBl b := by
  have hf := zNa h
  have e : bulk (eBl b) = bulk (eSos b.sorts) + (bulk (eCos b.cons) + 1) := by simp [eBl, cBl, bulk]
  simp only [zi2, Bool.or_eq_false_iff] at h
  refine ⟨hf.s, hf.c, fun s hs => ?_, fun c hc => ?_⟩
  · have h1 := zDj (List.mem_map.2 ⟨s, hs, rfl⟩ : eSo s ∈ b.sorts.map eSo)
    have h2 : bulk (eSos b.sorts) = ((b.sorts.map eSo).map bulk).sum + 1 := by simp [eSos, bulk]
    have h3 : bulk (eSo s) = bulk (eArs s.idx) + (1 + (1 + bulk (.agg (cT s.dty)))) := by
      simp only [eSo, cSo, bulk, List.map_cons, List.map_append, List.sum_cons, List.sum_append, List.map_nil, List.sum_nil, cT]
      omega
    have hp := List.any_eq_false.1 h.1.2 s hs
    simp only [pSo, Bool.not_eq_true, Bool.or_eq_false_iff] at hp
    have h4 := zvi s.dty
    exact ⟨zFa (by omega) hp.1, zwd (by omega) hp.2⟩
  · have h1 := zDj (List.mem_map.2 ⟨c, hc, rfl⟩ : eCo c ∈ b.cons.map eCo)
    have h2 : bulk (eCos b.cons) = ((b.cons.map eCo).map bulk).sum + 1 := by simp [eCos, bulk]
    have h3 : bulk (eCo c) = 1 + (bulk (eArs c.args) + (bulk (eTs c.idx) + bulk (.agg (cT c.dec)))) := by
      simp only [eCo, cCo, bulk, List.map_cons, List.map_append, List.sum_cons, List.sum_append, List.map_nil, List.sum_nil, cT]
      omega
    have hp := List.any_eq_false.1 h.2 c hc
    simp only [pCo, Bool.not_eq_true, Bool.or_eq_false_iff] at hp
    have h4 := zvi c.dec
    have h5 := zy6 c.idx
    obtain ⟨i1, _, i2⟩ := zux (l := c.idx) (by omega) hp.1.2
    exact ⟨zFa (by omega) hp.1.1, i1, i2, zwd (by omega) hp.2⟩

theorem zHs (n : Int) : Pure Tryz.prog zmj [.int .i64 n] [.agg (cT (.mk 3 n []))] := by
  refine zMf rfl fun hs => ?_
  simp -dsimp [zzy, cT]
theorem tu_ok (n : Int) : Pure Tryz.prog zzx [.int .i64 n] [.agg (cT (.mk 2 n []))] := by
  refine zL5 rfl fun hs => ?_
  simp -dsimp [zzb, cT]
def tC (n : Int) : T := .mk 3 n []
def fmT (b : Bl) (base k : Int) : T := tC (if 0 < zbq b base k then zbq b base k else 0)
theorem zGs (b : Bl) (base k : Int) : Pure Tryz.prog znn [eBl b, .int .i64 base, .int .i64 k] [.agg (cT (fmT b base k))] := by
  refine zB0 rfl fun hs => ?_
  have h := zrs b base k
  simp only [eBl, cBl] at h
  simp -dsimp [zn2, eBl, cBl]
  refine zaa h ?_
  simp -dsimp
  refine zaa (zHs _) ?_
  simp -dsimp [cT, fmT, tC]
theorem zCb (a c k m : Int) : n64 (zif a c k m) := by
  rw [zif]
  split
  · exact ⟨by omega, by omega⟩
  · have := zQl (w64 (a + c) + k)
    simp only [w64, n64] at this ⊢
    omega
theorem zKg (b : Bl) (base k : Int) : okT (fmT b base k) := by
  have h := zCb base 0 k b.sorts.length
  refine .mk _ _ _ ⟨by omega, by omega⟩ ?_ (by simp) (by simp)
  show n64 (if 0 < zbq b base k then zbq b base k else 0)
  split
  · exact h
  · exact ⟨by omega, by omega⟩
def zd2 (b : Bl) (base : Int) (a : Ar) : T := if a.rc = true then zcx 4 a.dom (spT (fmT b base a.sort) a.idx) else a.ty
theorem zAu (b : Bl) (base : Int) {a : Ar} (h : okAr a) : okT (zd2 b base a) := by
  rw [zd2]
  split
  · exact zzh (by omega) _ (zi6 _ _ (zKg _ _ _) h.idx.2) _ h.dom.2
  · exact h.ty
theorem zxu (b : Bl) (base : Int) (a : Ar) (h : okAr a) (hf : FineAr a) : Pure Tryz.prog zjl [eBl b, .int .i64 base, .agg (cAr a)] [.agg (cT (zd2 b base a))] := by
  refine zy3 rfl fun hs => ?_
  have d1 := hf.domL
  have i1 := hf.idxL
  have hF := zGs b base a.sort
  have hS := zhq (fmT b base a.sort) a.idx (by omega) (zKg _ _ _) h.idx
  have hP := zEx a.dom (spT (fmT b base a.sort) a.idx) (by omega) (zi6 _ _ (zKg _ _ _) h.idx.2) h.dom
  have hT := zo9 a.ty h.ty
  cases hr : a.rc with
  | false =>
    have e : zd2 b base a = a.ty := by rw [zd2, hr]; rfl
    rw [e]
    simp only [cT] at hT
    simp -dsimp [zjf, eBl, cBl, cAr, cT, hr]
    refine zaa hT ?_
    simp -dsimp
  | true =>
    have e : zd2 b base a = zcx 4 a.dom (spT (fmT b base a.sort) a.idx) := by rw [zd2, hr]; rfl
    rw [e]
    generalize zcx 4 a.dom (spT (fmT b base a.sort) a.idx) = P at hP
    generalize spT (fmT b base a.sort) a.idx = Sp at hS hP
    generalize fmT b base a.sort = F at hF hS
    simp only [eBl, cBl, cT, eTs] at hF hS hP
    simp -dsimp [zjf, eBl, cBl, cAr, cT, eTs, hr]
    refine zaa hF ?_
    simp -dsimp [hr]
    refine zaa hS ?_
    simp -dsimp [hr]
    refine zaa hP ?_
    simp -dsimp [hr]
theorem zD5 (b : Bl) (base : Int) (l : List Ar) (h : zxq l) (hf : zfy l) : Pure Tryz.prog zk4 [eBl b, .int .i64 base, eArs l] [eTs (l.map (zd2 b base))] := by
  refine zxr rfl fun hs => ?_
  have hl := hf.1
  simp -dsimp [zk5, eBl, cBl, eArs]
  refine zam l.length (fun i st => st.s 6 = .rsl 6 1 ∧ st.h 6 = ⟨1, .row 3 [] false⟩ ∧ st.s 1 = .d (.int .i64 base) ∧ st.s 3 = .ptr 3 1 0 ∧ st.h 3 = ⟨1, .box [.d (eSos b.sorts), .d (eCos b.cons), .d (.int .i64 b.elim)] false⟩ ∧
    st.s 10 = .d (.sl 7 (l.map eAr)) ∧ st.s 11 = .d (.int .i64 l.length) ∧ st.s 12 = .d (.int .i64 i) ∧ st.s 7 = .rsl 7 (1 + i) ∧ st.h 7 = ⟨1 + i, .row 3 (((l.map (zd2 b base)).take i).map eT) false⟩) ?_ ?_
  · simp -dsimp
  · rintro i ⟨s, hp⟩ hi ⟨g1, g2, g3, g4, g5, g6, g7, g8, g9, g10⟩
    dsimp only at g1 g2 g3 g4 g5 g6 g7 g8 g9 g10
    rcases Nat.lt_or_ge i l.length with hlt | hge
    · have w1 : IntKind.i64.wrap ((i : Int) + 1) = (i : Int) + 1 := zad (by omega) (by omega)
      have ha := zxu b base l[i] (h.2 _ (List.getElem_mem _)) (hf.2 _ (List.getElem_mem _))
      have hr : (min i l.length + 1) * 40 ≤ zal := by simp only [zal]; omega
      have htk : ((l.map (zd2 b base)).take (i + 1)).map eT = ((l.map (zd2 b base)).take i).map eT ++ [.agg (cT (zd2 b base l[i]))] := by
        rw [zdb (List.getElem?_eq_getElem (by simpa using hlt) : (l.map (zd2 b base))[i]? = some _), List.map_append]
        simp [zcc]
      rw [htk]
      generalize zd2 b base l[i] = A at ha
      simp only [eBl, cBl, cAr, cT, eTs, List.cons_append, List.nil_append] at ha
      simp -dsimp [g1, g2, g3, g4, g5, g6, g7, g8, g9, g10, hlt, eAr, cAr, cT, eTs]
      refine zaa ha ?_
      simp -dsimp [g1, g2, g3, g4, g5, g6, g7, g8, g9, g10, hlt, w1, hr, cT]
      omega
    · have e : i = l.length := by omega
      subst e
      have ht : (l.map (zd2 b base)).take l.length = l.map (zd2 b base) := List.take_of_length_le (by simp)
      rw [ht] at g10
      simp -dsimp [g1, g2, g3, g4, g5, g6, g7, g8, g9, g10, eTs]
end
section
section
attribute [local simp] zae zaf tk tn tks zb6 zb9 zbb zbe zba zb8
structure Pl where
  b : Bl
  base : Int
  args : List Ar
  more : Int
def cPl (p : Pl) : List D := cBl p.b ++ [.int .i64 p.base, eArs p.args, .int .i64 p.more]
def Pl.fwd (p : Pl) (n : Int) : Pl := ⟨p.b, p.base, p.args, p.more + n⟩
theorem zFl (p : Pl) (n : Int) (h0 : 0 ≤ p.more) (h1 : p.more ≤ 1000000000) (h2 : 0 ≤ n) (h3 : n ≤ 1000000) : Pure Tryz.prog zeb [.agg (cPl p), .int .i64 n] [.agg (cPl (p.fwd n))] := by
  refine zug rfl fun hs => ?_
  have w1 : IntKind.i64.wrap (p.more + n) = p.more + n := zad (by omega) (by omega)
  simp -dsimp [ziv, cPl, cBl, Pl.fwd, w1]
def ze6 (p : Pl) (t : T) : Option Nat := if t.kind = 1 ∧ p.more ≤ t.num ∧ t.num - p.more < p.args.length then some (p.args.length - 1 - (t.num - p.more).toNat) else none
def za9 (p : Pl) (t : T) : Bool := match ze6 p t with
  | some j => match p.args[j]? with
    | some a => a.rc
    | none => false
  | none => false
def zec (p : Pl) (t : T) : Int := match ze6 p t with
  | some j => j
  | none => 0
theorem zlr (p : Pl) (t : T) (h0 : 0 ≤ p.more) (h1 : p.more ≤ 1000000000) (hl : p.args.length ≤ 1000000) (hn : n64 t.num) : Pure Tryz.prog zbi [.agg (cPl p), .agg (cT t)] [.int .i64 (zec p t), .bool (za9 p t)] := by
  refine znf rfl fun hs => ?_
  obtain ⟨n0, n1⟩ := hn
  simp -dsimp [zev, cPl, cBl, cT, eArs]
  by_cases c1 : t.kind = 1
  case neg =>
    have hJ : ze6 p t = none := by rw [ze6, if_neg (fun h => c1 h.1)]
    simp -dsimp [c1, zec, za9, hJ]
  by_cases c2 : t.num < p.more
  · have hJ : ze6 p t = none := by rw [ze6, if_neg (fun h => by omega)]
    simp -dsimp [c1, c2, zec, za9, hJ]
  have w1 : IntKind.i64.wrap ((p.args.length : Int) - 1) = (p.args.length : Int) - 1 := zad (by omega) (by omega)
  have w2 : IntKind.i64.wrap (t.num - p.more) = t.num - p.more := zad (by omega) (by omega)
  have w3 : IntKind.i64.wrap ((p.args.length : Int) - 1 - (t.num - p.more)) = (p.args.length : Int) - 1 - (t.num - p.more) := zad (by omega) (by omega)
  by_cases c3 : (p.args.length : Int) - 1 - (t.num - p.more) < 0
  · have hJ : ze6 p t = none := by rw [ze6, if_neg (fun h => by omega)]
    simp -dsimp [c1, c2, c3, w1, w2, w3, zec, za9, hJ]
  · have hJ : ze6 p t = some (p.args.length - 1 - (t.num - p.more).toNat) := by rw [ze6, if_pos ⟨c1, by omega, by omega⟩]
    have hj : (p.args.length : Int) - 1 - (t.num - p.more) = ((p.args.length - 1 - (t.num - p.more).toNat : Nat) : Int) := by omega
    have hlt : p.args.length - 1 - (t.num - p.more).toNat < p.args.length := by omega
    rw [hj] at w3 c3
    generalize p.args.length - 1 - (t.num - p.more).toNat = j at *
    have hge : p.args[j]? = some p.args[j] := List.getElem?_eq_getElem hlt
    generalize hA : p.args[j] = A at *
    simp -dsimp [c1, c2, c3, w1, w2, w3, hj, zec, za9, hJ, hlt, hge, hA, eAr, cAr, cT]
def decG (cl : T → Bool) (p : Pl) (t : T) : Bool := if (spH t).kind = 3 then if (ofM p.b p.base (spH t).num).1 = 4 then match p.b.sorts[(ofM p.b p.base (spH t).num).2.toNat]? with
      | some s => if ((spA t).length : Int) = s.idx.length + 1 then
          (match (spA t).reverse.getLast? with
          | some z => za9 p (spH z) && (((spA t).reverse.dropLast.all cl) && ((spA z).reverse.all cl))
          | none => false) else false
      | none => false else false else false
def zah : Nat → Pl → T → Bool
  | 0, _, _ => true
  | n + 1, p, t => if t.kind = 1 then !za9 p t else if t.kind = 3 then decide ((ofM p.b p.base t.num).1 = 0) else if t.kind = 6 ∧ decG (zah n p) p t = true then true else allI (fun i x => zah n (p.fwd (zai t.kind i)) x) 0 t.kids
theorem zC3 (p : Pl) (l : List T) (cl : T → Bool) (hl : l.length ≤ 1000000) (h : ∀ x ∈ l, Pure Tryz.prog zat [.agg (cPl p), .agg (cT x)] [.bool (cl x)]) : Pure Tryz.prog zdy [.agg (cPl p), eTs l] [.bool (l.all cl)] := by
  refine ztc rfl fun hs => ?_
  have hC := zfd l zf9 [.rp (cPl p)] (fun t => !cl t) (fun x hx => by
    refine zq0 rfl fun hs => ?_
    have hx' := h x hx
    simp only [cPl, cBl, cT, List.cons_append, List.nil_append] at hx'
    simp -dsimp [zf5, cPl, cBl, cT]
    refine zaa hx' ?_
    simp -dsimp)
  simp only [cPl, cBl, eTs, List.cons_append, List.nil_append] at hC
  simp -dsimp [zia, cPl, cBl, eTs]
  refine zaa hC ?_
  simp -dsimp
  rw [List.all_eq_not_any_not, Bool.not_not]
theorem zD7 {b : Bl} {base n : Int} (h : (ofM b base n).1 ≠ 0) : 0 ≤ (ofM b base n).2 ∧ ((ofM b base n).1 = 3 ∧ (ofM b base n).2 < b.sorts.length ∨ (ofM b base n).1 = 4 ∧ (ofM b base n).2 < b.sorts.length ∨ (ofM b base n).1 = 5 ∧ (ofM b base n).2 < b.cons.length ∨ (ofM b base n).1 = 6 ∧ (ofM b base n).2 < b.sorts.length) := by
  rw [ofM] at h ⊢
  split at h
  · exact absurd rfl h
  rename_i hc
  rw [if_neg hc]
  cases hs : seek n (tab b base) with
  | none => rw [hs] at h; exact absurd rfl h
  | some q =>
    obtain ⟨e, he, k, hk, _, rfl⟩ := zro hs
    simp only [tab, List.mem_cons, List.not_mem_nil, or_false] at he
    rcases he with rfl | rfl | rfl | rfl
    all_goals
      simp only [hs, Option.getD_some]
      first
        | (have hk' : k < b.sorts.length := hk; simp; exact hk')
        | (have hk' : k < b.cons.length := hk; simp; exact hk')
theorem zt0 (t : T) : (spA t).length ≤ zac t := by
  refine T.ind (p := fun t => (spA t).length ≤ zac t) ?_ t
  intro k n ks ih
  by_cases hc : k = 6 ∧ ∃ a b, ks = [a, b]
  · obtain ⟨rfl, a, b, rfl⟩ := hc
    rw [(zfj n a b).1, List.length_cons, zym]
    have := ih a (by simp)
    omega
  · rw [(zej hc).1]
    simp
theorem zh3 (t : T) : (∀ x ∈ spA t, zac x < zac t) ∧ (okT t → okT (spH t) ∧ ∀ x ∈ spA t, okT x) := by
  refine T.ind (p := fun t => (∀ x ∈ spA t, zac x < zac t) ∧ (okT t → okT (spH t) ∧ ∀ x ∈ spA t, okT x)) ?_ t
  intro k n ks ih
  by_cases hc : k = 6 ∧ ∃ a b, ks = [a, b]
  · obtain ⟨rfl, a, b, rfl⟩ := hc
    obtain ⟨i1, i2⟩ := ih a (by simp)
    rw [(zfj n a b).1, (zfj n a b).2, zym]
    refine ⟨fun x hx => ?_, fun ho => ?_⟩
    · rcases List.mem_cons.1 hx with rfl | hx
      · omega
      · have := i1 x hx; omega
    · have hk := ho.kids.2
      obtain ⟨j1, j2⟩ := i2 (hk a (by simp))
      refine ⟨j1, fun x hx => ?_⟩
      rcases List.mem_cons.1 hx with rfl | hx
      · exact hk _ (by simp)
      · exact j2 x hx
  · rw [(zej hc).1, (zej hc).2]
    exact ⟨by simp, fun ho => ⟨ho, by simp⟩⟩
theorem okT.num64 {t : T} (h : okT t) : n64 t.num := by
  cases h with
  | mk k n ks hk hn hl h => exact hn
theorem zGh (p : Pl) (h0 : 0 ≤ p.more) (h1 : p.more ≤ 1000000000) (hl : p.args.length ≤ 1000000) (t : T) (ot : okT t) (hn : zac t ≤ 1000000) (hsl' : ∀ s ∈ p.b.sorts, s.idx.length ≤ 1000000) (cl : T → Bool) (h : ∀ x, okT x → zac x < zac t → Pure Tryz.prog zat [.agg (cPl p), .agg (cT x)] [.bool (cl x)]) :
    Pure Tryz.prog ze0 [.agg (cPl p), .agg (cT t)] [.bool (decG cl p t)] := by
  refine zor rfl fun hs => ?_
  have hsl := zt0 t
  have hS := zu7 t (by omega)
  have hO := zMh p.b p.base (spH t).num
  obtain ⟨m1, m2⟩ := zh3 t
  obtain ⟨_, m3⟩ := m2 ot
  have hm : ∀ x ∈ (spA t).reverse, zac x < zac t ∧ okT x := fun x hx => ⟨m1 x (by simpa using hx), m3 x (by simpa using hx)⟩
  have hAL : (spA t).length = (spA t).reverse.length := by simp
  have hD : decG cl p t = if (spH t).kind = 3 then if (ofM p.b p.base (spH t).num).1 = 4 then match p.b.sorts[(ofM p.b p.base (spH t).num).2.toNat]? with
      | some s => if ((spA t).reverse.length : Int) = s.idx.length + 1 then
          (match (spA t).reverse.getLast? with
          | some z => za9 p (spH z) && (((spA t).reverse.dropLast.all cl) && ((spA z).reverse.all cl))
          | none => false) else false
      | none => false else false else false := by rw [decG, hAL]
  rw [hAL] at hsl
  clear hAL m1 m2 m3
  rw [hD]
  clear hD
  simp only [cPl, cBl, eBl, cT, eTs, List.cons_append, List.nil_append] at hS hO h
  generalize (spA t).reverse = A at *
  generalize spH t = H at *
  simp -dsimp [ze8, cPl, cBl, cT]
  refine zaa hS ?_
  by_cases c1 : H.kind = 3
  case neg => simp -dsimp [c1]
  simp -dsimp [c1]
  refine zaa hO ?_
  have hk := zD7 (b := p.b) (base := p.base) (n := H.num)
  generalize hof : ofM p.b p.base H.num = o at *
  by_cases c2 : o.1 = 4
  case neg => simp -dsimp [c1, c2]
  obtain ⟨k0, k1⟩ := hk (by omega)
  have hlt : o.2.toNat < p.b.sorts.length := by omega
  have hget : p.b.sorts[o.2.toNat]? = some p.b.sorts[o.2.toNat] := List.getElem?_eq_getElem hlt
  generalize hS' : p.b.sorts[o.2.toNat] = S at *
  have hsm : S.idx.length ≤ 1000000 := hsl' S (List.mem_of_getElem? hget)
  have w1 : IntKind.i64.wrap ((S.idx.length : Int) + 1) = (S.idx.length : Int) + 1 := zad (by omega) (by omega)
  simp -dsimp [c1, c2, k0, hget, hlt, hS', eSos, eSo, cSo, eArs, cT, w1]
  by_cases c3 : (A.length : Int) = S.idx.length + 1
  case neg => simp -dsimp [c3, c1, c2, hget]
  have hAl : A.length = S.idx.length + 1 := by omega
  have hz : S.idx.length < A.length := by omega
  have hgl : A.getLast? = some A[S.idx.length] := by rw [List.getLast?_eq_getElem?, hAl, Nat.add_sub_cancel, List.getElem?_eq_getElem hz]
  have hdl : A.dropLast = A.take S.idx.length := by rw [List.dropLast_eq_take, hAl, Nat.add_sub_cancel]
  rw [hgl, hdl]
  simp only [c1, c2, hget, c3, if_true]
  obtain ⟨z1, z2⟩ := hm _ (List.getElem_mem hz)
  generalize hZ : A[S.idx.length] = z at *
  obtain ⟨n1, n2⟩ := zh3 z
  obtain ⟨oH, n3⟩ := n2 z2
  have hSz := zu7 z (by have := zt0 z; omega)
  have hG := zlr p (spH z) h0 h1 hl oH.num64
  have a1 := zC3 p (A.take S.idx.length) cl (by rw [List.length_take]; omega) (fun x hx => by have := hm x (List.mem_of_mem_take hx); simpa only [cPl, cBl, cT, List.cons_append, List.nil_append] using h x this.2 this.1)
  have a2 := zC3 p (spA z).reverse cl (by rw [List.length_reverse]; have := zt0 z; omega) (fun x hx => by have := n1 x (by simpa using hx); simpa only [cPl, cBl, cT, List.cons_append, List.nil_append] using h x (n3 x (by simpa using hx)) (by omega))
  have hZa : (spA z).all cl = (spA z).reverse.all cl := by simp
  generalize (spA z).reverse = Z at *
  generalize spH z = Hz at *
  simp only [cPl, cBl, cT, eTs, List.cons_append, List.nil_append, List.map_take] at hSz hG a1 a2
  have w2 : IntKind.i64.wrap (S.idx.length : Int) = S.idx.length := zad (by omega) (by omega)
  have hle : (S.idx.length : Int) ≤ A.length := by omega
  simp -dsimp [c3, w2, hz, hZ, zcc, cT]
  refine zaa hSz ?_
  simp -dsimp
  refine zaa hG ?_
  cases hgB : za9 p Hz with
  | false => simp -dsimp [c1, c2, hget]
  | true =>
    simp -dsimp [hle]
    refine zaa a1 ?_
    cases h3 : (A.take S.idx.length).all cl with
    | false => simp -dsimp [c1, c2, hget]
    | true =>
      simp -dsimp
      refine zaa a2 ?_
      simp -dsimp [c1, c2, hget, c3, hZa]
theorem zhl (t : T) : 1 ≤ zac t := by obtain ⟨k, n, ks⟩ := t; rw [zac]; omega
theorem zws (t : T) {x : T} (h : x ∈ t.kids) : zac x + 1 ≤ zac t := by obtain ⟨k, n, ks⟩ := t; exact zcq h
theorem zHb {t x : T} (ot : okT t) (h : x ∈ t.kids) : okT x := by obtain ⟨k, n, ks⟩ := t; exact ot.kids.2 x h
theorem zE8 {t : T} (ot : okT t) : t.kids.length * 40 ≤ 140737488351232 := by obtain ⟨k, n, ks⟩ := t; exact ot.kids.1
theorem zm0 (n : Nat) (hN : n ≤ 1000000) : ∀ (p : Pl) (t : T), 0 ≤ p.more → p.more + zac t ≤ 1000000000 → p.args.length ≤ 1000000 → (∀ s ∈ p.b.sorts, s.idx.length ≤ 1000000) → okT t → zac t ≤ n →
    Pure Tryz.prog zat [.agg (cPl p), .agg (cT t)] [.bool (zah n p t)] := by
  induction n with
  | zero => intro p t _ _ _ _ _ h; have := zhl t; omega
  | succ n ih =>
    intro p t h0 h1 hl hsl ot hn
    have hrec : ∀ x, okT x → zac x < zac t → Pure Tryz.prog zat [.agg (cPl p), .agg (cT x)] [.bool (zah n p x)] := fun x ox hx => ih (by omega) p x h0 (by omega) hl hsl ox (by omega)
    have hkl := zE8 ot
    have hG := zlr p t h0 (by omega) hl ot.num64
    have hO := zMh p.b p.base t.num
    have hDe := zGh p h0 (by omega) hl t ot (by omega) hsl (zah n p) hrec
    refine zp0 rfl fun hs => ?_
    simp only [cPl, cBl, eBl, cT, List.cons_append, List.nil_append] at hG hO hDe
    simp -dsimp [zf6, cPl, cBl, cT]
    by_cases c1 : t.kind = 1
    · simp -dsimp [c1]
      rw [c1] at hG
      refine zaa hG ?_
      simp -dsimp [zah, c1]
    by_cases c3 : t.kind = 3
    · simp -dsimp [c1, c3]
      refine zaa hO ?_
      simp -dsimp [zah, c1, c3]
    by_cases c6 : t.kind = 6
    · simp -dsimp [c1, c3, c6]
      rw [c6] at hDe
      refine zaa hDe ?_
      cases hd : decG (zah n p) p t with
      | true =>
        have hv : zah (n + 1) p t = true := by rw [zah, if_neg c1, if_neg c3, if_pos ⟨c6, hd⟩]
        simp -dsimp [hv]
      | false =>
        have hv : zah (n + 1) p t = allI (fun i x => zah n (p.fwd (zai t.kind i)) x) 0 t.kids := by rw [zah, if_neg c1, if_neg c3, if_neg (fun h => by rw [hd] at h; cases h.2)]
        simp -dsimp [c1, c3, c6]
        refine zam t.kids.length (fun i st => st.s 2 = .ptr 2 1 0 ∧ st.s 3 = .ptr 3 1 0 ∧ st.s 43 = .d (eTs t.kids) ∧ st.s 44 = .d (.int .i64 t.kids.length) ∧ st.s 45 = .d (.int .i64 i) ∧
          st.h 2 = ⟨1, .box [.d (eSos p.b.sorts), .d (eCos p.b.cons), .d (.int .i64 p.b.elim), .d (.int .i64 p.base), .d (eArs p.args), .d (.int .i64 p.more)] false⟩ ∧
          st.h 3 = ⟨1, .box [.d (.int .i64 t.kind), .d (.int .i64 t.num), .d (.sl 3 (t.kids.map eT))] false⟩ ∧ ∀ (j : Nat) (hj : j < t.kids.length), j < i → zah n (p.fwd (zai t.kind j)) t.kids[j] = true) ?_ ?_
        · simp -dsimp [eTs, c1, c3, c6]
        · rintro i ⟨s, hp⟩ hi ⟨g2, g3, g43, g44, g45, k2, k3, g⟩
          dsimp only at g2 g3 g43 g44 g45 k2 k3
          simp only [eTs] at g43
          rcases Nat.lt_or_ge i t.kids.length with hlt | hge
          · have w1 : IntKind.i64.wrap ((i : Int) + 1) = (i : Int) + 1 := zad (by omega) (by omega)
            have hbl := zdf t.kind i
            have hkn := zws t (List.getElem_mem hlt)
            have hB := zmk t.kind i
            have hP := zFl p (zai t.kind i) h0 (by omega) (by omega) (by omega)
            have hI := ih (by omega) (p.fwd (zai t.kind i)) t.kids[i] (by simp only [Pl.fwd]; omega) (by simp only [Pl.fwd]; omega) hl hsl (zHb ot (List.getElem_mem hlt)) (by omega)
            have hgi := g
            generalize hX : t.kids[i] = X at *
            simp only [cPl, cBl, cT, Pl.fwd, List.cons_append, List.nil_append] at hP hI
            simp -dsimp [g2, g3, g43, g44, g45, k2, k3, hlt, hX, cT]
            refine zaa hB ?_
            simp -dsimp [g2, g3, g43, g44, g45, k2, k3, hlt, hX, cT]
            refine zaa hP ?_
            simp -dsimp [g2, g3, g43, g44, g45, k2, k3, hlt, hX, cT]
            refine zaa hI ?_
            cases hc : zah n (p.fwd (zai t.kind i)) X with
            | true =>
              simp only [Pl.fwd] at hc
              simp -dsimp [g2, g3, g43, g44, g45, k2, k3, hlt, hX, cT, hc, w1, eTs]
              intro j hj hji
              rcases Nat.lt_or_ge j i with h' | h'
              · exact g j hj h'
              · have : j = i := by omega
                subst this
                rw [hX]; exact hc
            | false =>
              have hz : allI (fun i x => zah n (p.fwd (zai t.kind i)) x) 0 t.kids = false := by
                rw [Bool.eq_false_iff]
                intro h
                have := (zan _ _ _).1 h i hlt
                rw [Nat.zero_add, hX, hc] at this
                cases this
              simp only [Pl.fwd] at hc
              rw [hv, hz]
              simp -dsimp [g2, g3, g43, g44, g45, k2, k3, hlt, hX, cT, hc]
          · have e : i = t.kids.length := by omega
            subst e
            have hz : allI (fun i x => zah n (p.fwd (zai t.kind i)) x) 0 t.kids = true := (zan _ _ _).2 fun j hj => by rw [Nat.zero_add]; exact g j hj hj
            rw [hv, hz]
            simp -dsimp [g2, g3, g43, g44, g45, k2, k3]
    · have hv : zah (n + 1) p t = allI (fun i x => zah n (p.fwd (zai t.kind i)) x) 0 t.kids := by rw [zah, if_neg c1, if_neg c3, if_neg (fun h => c6 h.1)]
      simp -dsimp [c1, c3, c6]
      refine zam t.kids.length (fun i st => st.s 2 = .ptr 2 1 0 ∧ st.s 3 = .ptr 3 1 0 ∧ st.s 43 = .d (eTs t.kids) ∧ st.s 44 = .d (.int .i64 t.kids.length) ∧ st.s 45 = .d (.int .i64 i) ∧
        st.h 2 = ⟨1, .box [.d (eSos p.b.sorts), .d (eCos p.b.cons), .d (.int .i64 p.b.elim), .d (.int .i64 p.base), .d (eArs p.args), .d (.int .i64 p.more)] false⟩ ∧
        st.h 3 = ⟨1, .box [.d (.int .i64 t.kind), .d (.int .i64 t.num), .d (.sl 3 (t.kids.map eT))] false⟩ ∧ ∀ (j : Nat) (hj : j < t.kids.length), j < i → zah n (p.fwd (zai t.kind j)) t.kids[j] = true) ?_ ?_
      · simp -dsimp [eTs, c1, c3, c6]
      · rintro i ⟨s, hp⟩ hi ⟨g2, g3, g43, g44, g45, k2, k3, g⟩
        dsimp only at g2 g3 g43 g44 g45 k2 k3
        simp only [eTs] at g43
        rcases Nat.lt_or_ge i t.kids.length with hlt | hge
        · have w1 : IntKind.i64.wrap ((i : Int) + 1) = (i : Int) + 1 := zad (by omega) (by omega)
          have hbl := zdf t.kind i
          have hkn := zws t (List.getElem_mem hlt)
          have hB := zmk t.kind i
          have hP := zFl p (zai t.kind i) h0 (by omega) (by omega) (by omega)
          have hI := ih (by omega) (p.fwd (zai t.kind i)) t.kids[i] (by simp only [Pl.fwd]; omega) (by simp only [Pl.fwd]; omega) hl hsl (zHb ot (List.getElem_mem hlt)) (by omega)
          have hgi := g
          generalize hX : t.kids[i] = X at *
          simp only [cPl, cBl, cT, Pl.fwd, List.cons_append, List.nil_append] at hP hI
          simp -dsimp [g2, g3, g43, g44, g45, k2, k3, hlt, hX, cT]
          refine zaa hB ?_
          simp -dsimp [g2, g3, g43, g44, g45, k2, k3, hlt, hX, cT]
          refine zaa hP ?_
          simp -dsimp [g2, g3, g43, g44, g45, k2, k3, hlt, hX, cT]
          refine zaa hI ?_
          cases hc : zah n (p.fwd (zai t.kind i)) X with
          | true =>
            simp only [Pl.fwd] at hc
            simp -dsimp [g2, g3, g43, g44, g45, k2, k3, hlt, hX, cT, hc, w1, eTs]
            intro j hj hji
            rcases Nat.lt_or_ge j i with h' | h'
            · exact g j hj h'
            · have : j = i := by omega
              subst this
              rw [hX]; exact hc
          | false =>
            have hz : allI (fun i x => zah n (p.fwd (zai t.kind i)) x) 0 t.kids = false := by
              rw [Bool.eq_false_iff]
              intro h
              have := (zan _ _ _).1 h i hlt
              rw [Nat.zero_add, hX, hc] at this
              cases this
            simp only [Pl.fwd] at hc
            rw [hv, hz]
            simp -dsimp [g2, g3, g43, g44, g45, k2, k3, hlt, hX, cT, hc]
        · have e : i = t.kids.length := by omega
          subst e
          have hz : allI (fun i x => zah n (p.fwd (zai t.kind i)) x) 0 t.kids = true := (zan _ _ _).2 fun j hj => by rw [Nat.zero_add]; exact g j hj hj
          rw [hv, hz]
          simp -dsimp [g2, g3, g43, g44, g45, k2, k3]
end
end
section
section
attribute [local simp] zae zaf tk tn tks zb6 zb9 zbb zbe zba zb8
def fitA (cl gd : T → Bool) (p : Pl) (a : Ar) (x : T) : Bool := if a.rc then if a.dom.length = 0 then gd x else za9 p x else cl x
def zz6 (cl gd : T → Bool) (p : Pl) (t : T) (cons : Int) : Bool :=
  if za9 p (spH t) then (match p.args[(zec p (spH t)).toNat]? with
    | some a => decide ((spA t).reverse.length = a.dom.length) && (spA t).reverse.all cl
    | none => false)
  else if (spH t).kind = 3 then if (ofM p.b p.base (spH t).num).1 = 5 then if (ofM p.b p.base (spH t).num).2 < cons then match p.b.cons[(ofM p.b p.base (spH t).num).2.toNat]? with
      | some c => if (spA t).reverse.length = c.args.length then allI (fun i a => match (spA t).reverse[i]? with | some x => fitA cl gd p a x | none => false) 0 c.args else false
      | none => false else false else false
  else false
def zcy : Nat → Pl → T → Int → Bool
  | 0, _, _, _ => true
  | n + 1, p, t, cons => zz6 (zah n p) (fun x => zcy n p x cons) p t cons
theorem zQa (n : Nat) (hN : n ≤ 1000000) : ∀ (p : Pl) (t : T) (cons : Int), 0 ≤ p.more → p.more + zac t ≤ 1000000000 → p.args.length ≤ 1000000 → (∀ s ∈ p.b.sorts, s.idx.length ≤ 1000000) → (∀ c ∈ p.b.cons, c.args.length ≤ 1000000) → okT t → zac t ≤ n →
    Pure Tryz.prog zep [.agg (cPl p), .agg (cT t), .int .i64 cons] [.bool (zcy n p t cons)] := by
  induction n with
  | zero => intro p t _ _ _ _ _ _ _ h; have := zhl t; omega
  | succ n ih =>
    intro p t cons h0 h1 hl hsl hcl ot hn
    have hA := zt0 t
    have hS := zu7 t (by omega)
    obtain ⟨m1, m2⟩ := zh3 t
    obtain ⟨oH, m3⟩ := m2 ot
    have hm : ∀ x ∈ (spA t).reverse, zac x < zac t ∧ okT x := fun x hx => ⟨m1 x (by simpa using hx), m3 x (by simpa using hx)⟩
    have hG := zlr p (spH t) h0 (by omega) hl oH.num64
    have hO := zMh p.b p.base (spH t).num
    have hAl := zC3 p (spA t).reverse (zah n p) (by rw [List.length_reverse]; omega) (fun x hx => zm0 n (by omega) p x h0 (by have := (hm x hx).1; omega) hl hsl (hm x hx).2 (by have := (hm x hx).1; omega))
    refine zr2 rfl fun hs => ?_
    have hV : zcy (n + 1) p t cons = zz6 (zah n p) (fun x => zcy n p x cons) p t cons := rfl
    have hW : zz6 (zah n p) (fun x => zcy n p x cons) p t cons = if za9 p (spH t) then (match p.args[(zec p (spH t)).toNat]? with
        | some a => decide ((spA t).reverse.length = a.dom.length) && (spA t).reverse.all (zah n p)
        | none => false)
      else if (spH t).kind = 3 then if (ofM p.b p.base (spH t).num).1 = 5 then if (ofM p.b p.base (spH t).num).2 < cons then match p.b.cons[(ofM p.b p.base (spH t).num).2.toNat]? with
          | some c => if (spA t).reverse.length = c.args.length then allI (fun i a => match (spA t).reverse[i]? with | some x => fitA (zah n p) (fun x => zcy n p x cons) p a x | none => false) 0 c.args else false
          | none => false else false else false
      else false := by rw [zz6]
    rw [hV]
    rw [← List.length_reverse] at hA
    generalize zz6 (zah n p) (fun x => zcy n p x cons) p t cons = W at *
    generalize (spA t).reverse = A at *
    generalize spH t = H at *
    simp only [cPl, cBl, eBl, cT, eTs, List.cons_append, List.nil_append] at hS hG hO hAl
    simp -dsimp [zhh, cPl, cBl, cT]
    refine zaa hS ?_
    simp -dsimp
    refine zaa hG ?_
    cases hg : za9 p H with
    | true =>
      obtain ⟨j, hj, hja⟩ : ∃ j, ze6 p H = some j ∧ ∃ a, p.args[j]? = some a := by
        rw [za9] at hg
        cases hJ : ze6 p H with
        | none => rw [hJ] at hg; cases hg
        | some j =>
          rw [hJ] at hg
          cases ha : p.args[j]? with
          | none => simp [ha] at hg
          | some a => exact ⟨j, rfl, a, ha⟩
      obtain ⟨a, ha⟩ := hja
      have hN' : zec p H = j := by rw [zec, hj]
      have hjl := (List.getElem?_eq_some_iff.1 ha).1
      rw [hg, if_pos rfl, hN', Int.toNat_natCast, ha] at hW
      simp only at hW
      rw [hN']
      simp -dsimp [eArs, ha, eAr, cAr, cT, eTs]
      by_cases hc : A.length = a.dom.length
      · have hc' : (A.length : Int) = a.dom.length := by omega
        have hw : W = A.all (zah n p) := by rw [hW]; simp [hc]
        simp -dsimp [hc', hc]
        refine zaa hAl ?_
        simp -dsimp [hc', hc, hw]
      · have hc' : ¬ (A.length : Int) = a.dom.length := by omega
        have hw : W = false := by rw [hW]; simp [hc]
        simp -dsimp [hc', hc, hw]
    | false =>
      rw [hg, if_neg (by simp)] at hW
      simp -dsimp
      by_cases c1 : H.kind = 3
      case neg =>
        rw [if_neg c1] at hW
        simp -dsimp [c1, hW]
      rw [if_pos c1] at hW
      simp -dsimp [c1]
      refine zaa hO ?_
      have hk := zD7 (b := p.b) (base := p.base) (n := H.num)
      generalize hof : ofM p.b p.base H.num = o at *
      by_cases c2 : o.1 = 5
      case neg =>
        rw [if_neg c2] at hW
        simp -dsimp [c1, c2, hW]
      rw [if_pos c2] at hW
      obtain ⟨k0, k1⟩ := hk (by omega)
      have hlt : o.2.toNat < p.b.cons.length := by omega
      have hget : p.b.cons[o.2.toNat]? = some p.b.cons[o.2.toNat] := List.getElem?_eq_getElem hlt
      rw [hget] at hW
      generalize hS' : p.b.cons[o.2.toNat] = S at *
      have hsm : S.args.length ≤ 1000000 := hcl S (List.mem_of_getElem? hget)
      by_cases c3 : o.2 < cons
      case neg =>
        rw [if_neg c3] at hW
        have c3' : cons ≤ o.2 := by omega
        simp -dsimp [c1, c2, c3, c3', hW]
      rw [if_pos c3] at hW
      simp only at hW
      have c3' : ¬ cons ≤ o.2 := by omega
      simp -dsimp [c1, c2, c3, c3', k0, hget, hlt, hS', eCos, eCo, cCo, eArs, cT]
      by_cases c4 : A.length = S.args.length
      case neg =>
        rw [if_neg c4] at hW
        have c4' : ¬ (A.length : Int) = S.args.length := by omega
        simp -dsimp [c1, c2, c3, c4, c4', hget, hW]
      rw [if_pos c4] at hW
      have c4' : (A.length : Int) = S.args.length := by omega
      simp -dsimp [c1, c2, c3, c3', c4', k0, hget, hlt, hS', eCos, eCo, cCo, eArs, cT]
      have hfit : ∀ (i : Nat) (hi : i < S.args.length), (match A[i]? with | some x => fitA (zah n p) (fun x => zcy n p x cons) p S.args[i] x | none => false) = fitA (zah n p) (fun x => zcy n p x cons) p S.args[i] (A[i]'(by omega)) := fun i hi => by rw [List.getElem?_eq_getElem (by omega : i < A.length)]
      have hVt : (∀ (i : Nat) (hi : i < S.args.length), fitA (zah n p) (fun x => zcy n p x cons) p S.args[i] (A[i]'(by omega)) = true) → W = true := fun h => by
        rw [hW]
        exact (zan _ _ _).2 fun j hj => by simp only [Nat.zero_add]; rw [hfit j hj]; exact h j hj
      have hVf : ∀ (i : Nat) (hi : i < S.args.length), fitA (zah n p) (fun x => zcy n p x cons) p S.args[i] (A[i]'(by omega)) = false → W = false := fun i hi h => by
        rw [hW, Bool.eq_false_iff]
        intro h2
        have := (zan _ _ _).1 h2 i hi
        simp only [Nat.zero_add] at this
        rw [hfit i hi, h] at this
        cases this
      refine zam S.args.length (fun i st => st.s 2 = .d (.int .i64 cons) ∧ st.s 3 = .ptr 3 1 0 ∧ st.s 8 = .d (eTs A) ∧ st.s 83 = .d (eArs S.args) ∧ st.s 84 = .d (.int .i64 S.args.length) ∧ st.s 85 = .d (.int .i64 i) ∧
        st.h 3 = ⟨1, .box [.d (eSos p.b.sorts), .d (eCos p.b.cons), .d (.int .i64 p.b.elim), .d (.int .i64 p.base), .d (eArs p.args), .d (.int .i64 p.more)] false⟩ ∧
        ∀ (j : Nat) (hj : j < S.args.length), j < i → fitA (zah n p) (fun x => zcy n p x cons) p S.args[j] (A[j]'(by omega)) = true) ?_ ?_
      · simp -dsimp [eTs, eArs, eCos]
      · rintro i ⟨s, hp⟩ hi ⟨g2, g3, g8, g83, g84, g85, k3, g⟩
        dsimp only at g2 g3 g8 g83 g84 g85 k3
        simp only [eTs, eArs] at g8 g83
        rcases Nat.lt_or_ge i S.args.length with hlt2 | hge
        · have w1 : IntKind.i64.wrap ((i : Int) + 1) = (i : Int) + 1 := zad (by omega) (by omega)
          have hiA : i < A.length := by omega
          obtain ⟨x1, x2⟩ := hm _ (List.getElem_mem hiA)
          have hcv := hVf i hlt2
          have hfi : ∀ h : fitA (zah n p) (fun x => zcy n p x cons) p S.args[i] A[i] = true, ∀ (j : Nat) (hj : j < S.args.length), j < i + 1 → fitA (zah n p) (fun x => zcy n p x cons) p S.args[j] (A[j]'(by omega)) = true := fun h j hj hji => by
            rcases Nat.lt_or_ge j i with h' | h'
            · exact g j hj h'
            · have : j = i := by omega
              subst this
              exact h
          have hGx := zlr p A[i] h0 (by omega) hl x2.num64
          have hCx := zm0 n (by omega) p A[i] h0 (by omega) hl hsl x2 (by omega)
          have hDx := ih (by omega) p A[i] cons h0 (by omega) hl hsl hcl x2 (by omega)
          generalize hX : A[i] = X at *
          generalize hAr : S.args[i] = R at *
          simp only [cPl, cBl, cT, List.cons_append, List.nil_append] at hGx hCx hDx
          simp -dsimp [g2, g3, g8, g83, g84, g85, k3, hlt2, hiA, hX, hAr, eAr, cAr, cT]
          refine zaa hGx ?_
          simp -dsimp [g2, g3, g8, g83, g84, g85, k3, hlt2, hiA, hX, hAr, eAr, cAr, cT]
          cases hr : R.rc with
          | false =>
            simp -dsimp [g2, g3, g8, g83, g84, g85, k3, hlt2, hiA, hX, hAr, eAr, cAr, cT]
            refine zaa hCx ?_
            cases hc : zah n p X with
            | false =>
              have hw := hcv (by simp [fitA, hr, hc])
              simp -dsimp [g2, g3, g8, g83, g84, g85, k3, hlt2, hiA, hX, hAr, eAr, cAr, cT, hr, hw]
            | true =>
              have hnx := hfi (by simp [fitA, hr, hc])
              simp -dsimp [g2, g3, g8, g83, g84, g85, k3, hlt2, hiA, hX, hAr, eAr, cAr, cT, hr, w1, eTs, eArs]
              exact hnx
          | true =>
            by_cases hd : R.dom.length = 0
            · have hd' : (R.dom.length : Int) = 0 := by omega
              have hdn : R.dom = [] := List.length_eq_zero_iff.1 hd
              simp -dsimp [g2, g3, g8, g83, g84, g85, k3, hlt2, hiA, hX, hAr, eAr, cAr, cT, hr, hdn, eTs]
              refine zaa hDx ?_
              cases hc : zcy n p X cons with
              | false =>
                have hw := hcv (by simp [fitA, hr, hd, hc])
                simp -dsimp [g2, g3, g8, g83, g84, g85, k3, hlt2, hiA, hX, hAr, eAr, cAr, cT, hr, hdn, eTs, hw]
              | true =>
                have hnx := hfi (by simp [fitA, hr, hd, hc])
                simp -dsimp [g2, g3, g8, g83, g84, g85, k3, hlt2, hiA, hX, hAr, eAr, cAr, cT, hr, hdn, w1, eTs, eArs]
                exact hnx
            · have hd' : ¬ (R.dom.length : Int) = 0 := by omega
              have hd2 : (0 : Int) < R.dom.length := by omega
              have hdn : ¬ R.dom = [] := fun h => hd (by rw [h]; rfl)
              have hd3 : 0 < R.dom.length := by omega
              cases hc : za9 p X with
              | false =>
                have hw := hcv (by simp [fitA, hr, hdn, hc])
                simp -dsimp [g2, g3, g8, g83, g84, g85, k3, hlt2, hiA, hX, hAr, eAr, cAr, cT, hr, hdn, hd', hd2, hd3, eTs, hw]
              | true =>
                have hnx := hfi (by simp [fitA, hr, hdn, hc])
                simp -dsimp [g2, g3, g8, g83, g84, g85, k3, hlt2, hiA, hX, hAr, eAr, cAr, cT, hr, hdn, hd', hd2, hd3, w1, eTs, eArs]
                exact hnx
        · have e : i = S.args.length := by omega
          subst e
          have hz := hVt fun j hj => g j hj hj
          simp -dsimp [g2, g3, g8, g83, g84, g85, k3, hz]
def indF (n : Nat) (p : Pl) (so : So) (l : List T) (cons : Int) : Bool := allI (fun i a => match l[i]? with | some x => if a.rc then zcy n p x cons else zah n p x | none => false) 0 so.idx
theorem zyc (n : Nat) (hN : n ≤ 1000000) (p : Pl) (k : Int) (so : So) (hk0 : 0 ≤ k) (hk : p.b.sorts[k.toNat]? = some so) (l : List T) (cons : Int) (hll : l.length = so.idx.length) (h0 : 0 ≤ p.more) (hm : p.more ≤ 1000000) (hl : p.args.length ≤ 1000000) (hsl : ∀ s ∈ p.b.sorts, s.idx.length ≤ 1000000) (hcl : ∀ c ∈ p.b.cons, c.args.length ≤ 1000000)
    (ol : ∀ x ∈ l, okT x ∧ zac x ≤ n) : Pure Tryz.prog zde [.agg (cPl p), .int .i64 k, eTs l, .int .i64 cons] [.bool (indF n p so l cons)] := by
  refine znr rfl fun hs => ?_
  have hsm := hsl so (List.mem_of_getElem? hk)
  have hklt := (List.getElem?_eq_some_iff.1 hk).1
  simp -dsimp [zet, cPl, cBl, eTs]
  simp -dsimp [eSos, hk0, hk, eSo, cSo, cT, eArs]
  generalize hV : indF n p so l cons = V
  have hfit : ∀ (i : Nat) (hi : i < so.idx.length), (match l[i]? with | some x => if so.idx[i].rc then zcy n p x cons else zah n p x | none => false) = if so.idx[i].rc then zcy n p (l[i]'(by omega)) cons else zah n p (l[i]'(by omega)) := fun i hi => by rw [List.getElem?_eq_getElem (by omega : i < l.length)]
  have hVt : (∀ (i : Nat) (hi : i < so.idx.length), (if so.idx[i].rc then zcy n p (l[i]'(by omega)) cons else zah n p (l[i]'(by omega))) = true) → V = true := fun h => by
    rw [← hV]
    exact (zan _ _ _).2 fun j hj => by simp only [Nat.zero_add]; rw [hfit j hj]; exact h j hj
  have hVf : ∀ (i : Nat) (hi : i < so.idx.length), (if so.idx[i].rc then zcy n p (l[i]'(by omega)) cons else zah n p (l[i]'(by omega))) = false → V = false := fun i hi h => by
    rw [← hV, Bool.eq_false_iff]
    intro h2
    have := (zan _ _ _).1 h2 i hi
    simp only [Nat.zero_add] at this
    rw [hfit i hi, h] at this
    cases this
  refine zam so.idx.length (fun i st => st.s 2 = .d (eTs l) ∧ st.s 3 = .d (.int .i64 cons) ∧ st.s 4 = .ptr 4 1 0 ∧ st.s 17 = .d (eArs so.idx) ∧ st.s 18 = .d (.int .i64 so.idx.length) ∧ st.s 19 = .d (.int .i64 i) ∧
    st.h 4 = ⟨1, .box [.d (eSos p.b.sorts), .d (eCos p.b.cons), .d (.int .i64 p.b.elim), .d (.int .i64 p.base), .d (eArs p.args), .d (.int .i64 p.more)] false⟩ ∧
    ∀ (j : Nat) (hj : j < so.idx.length), j < i → (if so.idx[j].rc then zcy n p (l[j]'(by omega)) cons else zah n p (l[j]'(by omega))) = true) ?_ ?_
  · simp -dsimp [eTs, eArs, eSos]
  · rintro i ⟨s, hp⟩ hi ⟨g1, g2, g3, g17, g18, g19, k4, g⟩
    dsimp only at g1 g2 g3 g17 g18 g19 k4
    simp only [eTs, eArs] at g1 g17
    rcases Nat.lt_or_ge i so.idx.length with hlt | hge
    · have w1 : IntKind.i64.wrap ((i : Int) + 1) = (i : Int) + 1 := zad (by omega) (by omega)
      have hiA : i < l.length := by omega
      obtain ⟨x1, x2⟩ := ol _ (List.getElem_mem hiA)
      have hcv := hVf i hlt
      have hfi : ∀ h : (if so.idx[i].rc then zcy n p l[i] cons else zah n p l[i]) = true, ∀ (j : Nat) (hj : j < so.idx.length), j < i + 1 → (if so.idx[j].rc then zcy n p (l[j]'(by omega)) cons else zah n p (l[j]'(by omega))) = true := fun h j hj hji => by
        rcases Nat.lt_or_ge j i with h' | h'
        · exact g j hj h'
        · have : j = i := by omega
          subst this
          exact h
      have hCx := zm0 n hN p l[i] h0 (by omega) hl hsl x1 x2
      have hDx := zQa n hN p l[i] cons h0 (by omega) hl hsl hcl x1 x2
      generalize hX : l[i] = X at *
      generalize hAr : so.idx[i] = R at *
      simp only [cPl, cBl, cT, List.cons_append, List.nil_append] at hCx hDx
      simp -dsimp [g1, g2, g3, g17, g18, g19, k4, hlt, hiA, hX, hAr, eAr, cAr, cT]
      cases hr : R.rc with
      | false =>
        rw [hr] at hcv hfi
        simp only [Bool.false_eq_true, if_false] at hcv hfi
        simp -dsimp [g1, g2, g3, g17, g18, g19, k4, hlt, hiA, hX, hAr, eAr, cAr, cT, hr]
        refine zaa hCx ?_
        cases hc : zah n p X with
        | false => simp -dsimp [g1, g2, g3, g17, g18, g19, k4, hlt, hiA, hX, hAr, eAr, cAr, cT, hr, hcv hc]
        | true =>
          have hnx := hfi hc
          simp -dsimp [g1, g2, g3, g17, g18, g19, k4, hlt, hiA, hX, hAr, eAr, cAr, cT, hr, w1, eTs, eArs]
          simpa using hnx
      | true =>
        rw [hr] at hcv hfi
        simp only [if_true] at hcv hfi
        simp -dsimp [g1, g2, g3, g17, g18, g19, k4, hlt, hiA, hX, hAr, eAr, cAr, cT, hr]
        refine zaa hDx ?_
        cases hc : zcy n p X cons with
        | false => simp -dsimp [g1, g2, g3, g17, g18, g19, k4, hlt, hiA, hX, hAr, eAr, cAr, cT, hr, hcv hc]
        | true =>
          have hnx := hfi hc
          simp -dsimp [g1, g2, g3, g17, g18, g19, k4, hlt, hiA, hX, hAr, eAr, cAr, cT, hr, w1, eTs, eArs]
          simpa using hnx
    · have e : i = so.idx.length := by omega
      subst e
      have hz := hVt fun j hj => g j hj hj
      simp -dsimp [g1, g2, g3, g17, g18, g19, k4, hz]
end
end
end Ev
end Go.Proofs.YtdhfkbdhdgaccaaGreat
