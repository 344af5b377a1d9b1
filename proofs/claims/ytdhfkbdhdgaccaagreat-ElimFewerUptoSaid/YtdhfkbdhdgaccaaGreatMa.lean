/- Texts of this claim, in one. -/
import Derived.Test.YtdhfkbdhdgaccaaGreatSA
import Derived.Test.YtdhfkbdhdgaccaaGreatXs
import Derived.Test.YtdhfkbdhdgaccaaGreatRA
import Derived.Test.YtdhfkbdhdgaccaaGreatXd
set_option maxRecDepth 100000
set_option linter.unusedSimpArgs false
set_option linter.unusedVariables false
namespace Go.Proofs.YtdhfkbdhdgaccaaGreat
namespace Ev
open Go
section
attribute [local simp] zae zaf tk tn tks zb1 zcb
mutual
def mapT (f : Int → Int → T) : T → Int → T
  | .mk k n ks, b => if k = 1 then f n b else .mk k n (mapL f k b 0 ks)
def mapL (f : Int → Int → T) (k b : Int) : Nat → List T → List T
  | _, [] => []
  | i, x :: xs => mapT f x (b + zai k i) :: mapL f k b (i + 1) xs
end
theorem zjn (f : Int → Int → T) (k b : Int) : ∀ (l : List T) (i : Nat), (mapL f k b i l).length = l.length
  | [], i => by simp [mapL]
  | x :: xs, i => by simp [mapL, zjn f k b xs (i + 1)]
theorem zo7 (f : Int → Int → T) (k b : Int) : ∀ (l : List T) (i j : Nat) (h : j < l.length), (mapL f k b i l)[j]'(by rw [zjn]; exact h) = mapT f l[j] (b + zai k (i + j : Nat))
  | x :: xs, i, 0, h => by simp [mapL]
  | x :: xs, i, j + 1, h => by
    have := zo7 f k b xs (i + 1) j (by simpa using h)
    simp only [mapL, List.getElem_cons_succ]
    rw [this]
    congr 3
    omega
theorem zLc (f : Int → Int → T) (g : FuncId) (caps : List D) (hf : ∀ n b : Int, 0 ≤ n → n ≤ 65535 → 0 ≤ b → b ≤ 1099511627776 → Pure Tryz.prog g (.int .i64 n :: .int .i64 b :: caps) [.agg (cT (f n b))]) (t : T) : ∀ b : Int, zab t = true → 0 ≤ b → b + zac t ≤ 1099511627776 →
    Pure Tryz.prog zhw [.agg (cT t), .int .i64 b, .clo g caps] [.agg (cT (mapT f t b))] := by
  refine T.ind (p := fun t => ∀ b : Int, zab t = true → 0 ≤ b → b + zac t ≤ 1099511627776 → Pure Tryz.prog zhw [.agg (cT t), .int .i64 b, .clo g caps] [.agg (cT (mapT f t b))]) ?_ t
  intro k n ks ih b hfm h0 hb
  obtain ⟨hl, _⟩ := (zIm _ hfm).kids
  have hsk := zbo hfm
  refine zHx rfl fun hs => ?_
  simp -dsimp [zt1, cT]
  (first | refine zal ?_ ?_ | refine zak ?_ ?_) <;> intro h1 <;> (try simp only [nrm] at h1) <;> simp -dsimp [h1]
  · have hn := zdh h1 hfm
    refine zaa (hf n b hn.1 hn.2 h0 (by omega)) ?_
    rw [mapT, if_pos h1]
    simp -dsimp [h1, cT]
  have hM : mapT f (.mk k n ks) b = .mk k n (mapL f k b 0 ks) := by rw [mapT, if_neg h1]
  rw [hM]
  by_cases hz : ks = []
  · subst hz
    simp -dsimp [h1, mapL]
  simp -dsimp [h1, hz]
  have r1 : (ks.length : Int) * 40 ≤ (zaj : Int) := by simp only [zaj]; omega
  have r2 : ks.length ≤ zaj := by simp only [zaj]; omega
  have hll : (mapL f k b 0 ks).length = ks.length := zjn f k b ks 0
  simp -dsimp [h1, hz, r1, r2]
  refine zam ks.length (fun i st => st.s 3 = .ptr 3 1 0 ∧ st.h 3 = ⟨1, .box [.d (.int .i64 k), .d (.int .i64 n), .d (.sl 3 (ks.map eT))] false⟩ ∧ st.s 1 = .d (.int .i64 b) ∧ st.s 2 = .d (.clo g caps) ∧
    st.s 6 = .ptr 6 1 0 ∧ st.h 6 = ⟨1, .box [.d (.int .i64 0), .d (.int .i64 0), .fsl 3 []] false⟩ ∧ st.s 7 = .rsl 27 1 ∧ st.s 29 = .d (.sl 3 (ks.map eT)) ∧ st.s 30 = .d (.int .i64 ks.length) ∧ st.s 31 = .d (.int .i64 i) ∧
    st.h 27 = ⟨1, .row 3 (((mapL f k b 0 ks).map eT).take i ++ List.replicate (ks.length - i) (D.agg [.int .i64 0, .int .i64 0, .sl 3 []])) false⟩) ?_ ?_
  · simp -dsimp
  · rintro i ⟨s, hp⟩ hi ⟨g1, g2, g3, g4, g5, g6, g7, g8, g9, g10, g11⟩
    dsimp only at g1 g2 g3 g4 g5 g6 g7 g8 g9 g10 g11
    rcases Nat.lt_or_ge i ks.length with hlt | hge
    · have w1 : IntKind.i64.wrap ((i : Int) + 1) = (i : Int) + 1 := zad (by omega) (by omega)
      have hbl := zdk k i
      have hnk := zcx (k := k) (n := n) (List.getElem_mem hlt : ks[i] ∈ ks)
      have w2 : IntKind.i64.wrap (b + zai k i) = b + zai k i := zad (by omega) (by omega)
      simp -dsimp [g1, g2, g3, g4, g5, g6, g7, g8, g9, g10, g11, hlt, cT]
      refine zaa (zlw k i) ?_
      simp -dsimp [g1, g2, g3, g4, g5, g6, g7, g8, g9, g10, g11, hlt, w2]
      refine zaa (ih ks[i] (List.getElem_mem _) (b + zai k i) (hsk _ (List.getElem_mem _)) (by omega) (by omega)) ?_
      have q1 : (i : Int) < ((min i ks.length : Nat) : Int) + ((ks.length - i : Nat) : Int) := by omega
      have q2 : i < min i ks.length + (ks.length - i) := by omega
      have hle : ((mapL f k b 0 ks).map eT).length = ks.length := by rw [List.length_map, hll]
      have hfn := zxs (l := (mapL f k b 0 ks).map eT) (z := D.agg [.int .i64 0, .int .i64 0, .sl 3 []]) (i := i) (by rw [hle]; exact hlt)
      have hel : ((mapL f k b 0 ks).map eT)[i]'(by rw [hle]; exact hlt) = .agg (cT (mapT f ks[i] (b + zai k i))) := by
        rw [List.getElem_map, zo7 f k b ks 0 i hlt, zcr, Nat.zero_add]
      rw [hel, hle] at hfn
      simp only [cT] at hfn
      simp -dsimp [g1, g2, g3, g4, g5, g6, g7, g8, g9, g10, g11, hlt, w1, w2, hll, q1, q2, cT, hfn]
    · have e : i = ks.length := by omega
      subst e
      have ht : ((mapL f k b 0 ks).map eT).take ks.length = (mapL f k b 0 ks).map eT := List.take_of_length_le (by rw [List.length_map, hll]; exact Nat.le_refl _)
      rw [ht, Nat.sub_self, List.replicate_zero, List.append_nil] at g11
      simp -dsimp [g1, g2, g3, g4, g5, g6, g7, g8, g9, g10, g11]
def zm7 (y : Int) (t : T) : T := mapT (fun n b => .mk 1 (if b ≤ n then w64 (n + y) else n) []) t 0
theorem zIo (n b y : Int) : Pure Tryz.prog zhd [.int .i64 n, .int .i64 b, .rp [.int .i64 y]] [.agg (cT (.mk 1 (if b ≤ n then w64 (n + y) else n) []))] := by
  refine zvz rfl fun hs => ?_
  simp -dsimp [zkd]
  (first | refine zal ?_ ?_ | refine zak ?_ ?_) <;> intro h1 <;> (try simp only [nrm] at h1) <;> simp -dsimp [h1, w64]
  · refine zaa (v_ok _) ?_
    simp -dsimp [h1, w64, cT]
  · refine zaa (v_ok _) ?_
    simp -dsimp [h1, cT]
theorem zMn (t : T) (y : Int) (hs : zab t = true) (hn : zac t ≤ 1099511627776) : Pure Tryz.prog zmp [.agg (cT t), .int .i64 y] [.agg (cT (zm7 y t))] := by
  refine zz6 rfl fun hs' => ?_
  simp -dsimp [zlz, cT]
  refine zaa (zLc (fun n b => .mk 1 (if b ≤ n then w64 (n + y) else n) []) zhd [.rp [.int .i64 y]] (fun n b _ _ _ _ => zIo n b y) t 0 hs (by omega) (by omega)) ?_
  simp -dsimp [zm7, cT]
mutual
def zfv : T → Int → Int
  | .mk k n ks, b => zko k b 0 (if k = 1 ∧ b ≤ n then n else -1) ks
def zko (k b : Int) : Nat → Int → List T → Int
  | _, a, [] => a
  | i, a, x :: xs => zko k b (i + 1) (mx a (zfv x (b + zai k i))) xs
end
theorem zye (k b : Int) : ∀ (l : List T) (i : Nat) (a : Int) (j : Nat) (h : j < l.length), zko k b i a (l.take (j + 1)) = mx (zko k b i a (l.take j)) (zfv l[j] (b + zai k (i + j : Nat)))
  | x :: xs, i, a, 0, h => by simp [zko]
  | x :: xs, i, a, j + 1, h => by
    simp only [List.take_succ_cons, zko, List.getElem_cons_succ]
    rw [zye k b xs (i + 1) _ j (by simpa using h)]
    congr 4
    omega
theorem zSk (t : T) : ∀ b : Int, 0 ≤ b → b + zac t ≤ 1099511627776 → Pure Tryz.prog ziu [.agg (cT t), .int .i64 b] [.int .i64 (zfv t b)] := by
  refine T.ind (p := fun t => ∀ b : Int, 0 ≤ b → b + zac t ≤ 1099511627776 → Pure Tryz.prog ziu [.agg (cT t), .int .i64 b] [.int .i64 (zfv t b)]) ?_ t
  intro k n ks ih b h0 hb
  refine zCx rfl fun hs => ?_
  have hl := zgy (t := .mk k n ks) (fun d hd => hs d (by simp at hd; simp [hd]))
  simp [T.kids] at hl
  have hF : zfv (.mk k n ks) b = zko k b 0 (if k = 1 ∧ b ≤ n then n else -1) ks := by rw [zfv]
  have c1 : k = 1 → b ≤ n → n = (if k = 1 ∧ b ≤ n then n else -1) := fun h1 h2 => (if_pos ⟨h1, h2⟩).symm
  have c2 : ¬(k = 1 ∧ b ≤ n) → -1 = (if k = 1 ∧ b ≤ n then n else -1) := fun h => (if_neg h).symm
  rw [hF]
  generalize (if k = 1 ∧ b ≤ n then n else -1) = A at c1 c2 ⊢
  simp -dsimp [zn6, cT]
  (first | refine zal ?_ ?_ | refine zak ?_ ?_) <;> intro h1 <;> (try simp only [nrm] at h1) <;> simp -dsimp [h1]
  (first | refine zal ?_ ?_ | refine zak ?_ ?_) <;> intro h2 <;> (try simp only [nrm] at h2) <;> simp -dsimp [h2, h1]
  all_goals
    refine zam ks.length (fun i st => st.s 2 = .ptr 2 1 0 ∧ st.h 2 = ⟨1, .box [.d (.int .i64 k), .d (.int .i64 n), .d (.sl 3 (ks.map eT))] false⟩ ∧ st.s 1 = .d (.int .i64 b) ∧ st.s 20 = .d (.sl 3 (ks.map eT)) ∧ st.s 21 = .d (.int .i64 ks.length) ∧ st.s 22 = .d (.int .i64 i) ∧
      st.s 5 = .d (.int .i64 (zko k b 0 A (ks.take i)))) ?_ ?_
    · simp -dsimp [zko]
      first | exact ⟨h1.symm, c1 h1 h2⟩ | exact ⟨h1.symm, c2 (fun h => h2 h.2)⟩ | exact c2 (fun h => h1 h.1)
    · rintro i ⟨s, hp⟩ hi ⟨g1, g2, g3, g4, g5, g6, g7⟩
      dsimp only at g1 g2 g3 g4 g5 g6 g7
      rcases Nat.lt_or_ge i ks.length with hlt | hge
      · have w1 : IntKind.i64.wrap ((i : Int) + 1) = (i : Int) + 1 := zad (by omega) (by omega)
        have hbl := zdk k i
        have hnk := zcx (k := k) (n := n) (List.getElem_mem hlt : ks[i] ∈ ks)
        have w2 : IntKind.i64.wrap (b + zai k i) = b + zai k i := zad (by omega) (by omega)
        have hsn := zye k b ks 0 A i hlt
        rw [Nat.zero_add] at hsn
        simp -dsimp [g1, g2, g3, g4, g5, g6, g7, hlt, cT]
        refine zaa (zlw k i) ?_
        simp -dsimp [g1, g2, g3, g4, g5, g6, g7, hlt, w2]
        refine zaa (ih ks[i] (List.getElem_mem _) (b + zai k i) (by omega) (by omega)) ?_
        simp -dsimp [g1, g2, g3, g4, g5, g6, g7, hlt, w1, hsn, mx]
      · have e : i = ks.length := by omega
        subst e
        rw [List.take_length] at g7
        simp -dsimp [g1, g2, g3, g4, g5, g6, g7]
structure Ag where
  t : T
  size : Int
  depth : Int
  free : Int
def cAg (a : Ag) : List D := cT a.t ++ [.int .i64 a.size, .int .i64 a.depth, .int .i64 a.free]
def eAg (a : Ag) : D := .agg (cAg a)
@[simp] theorem zSs (a : Ag) : (eAg a).cells = cAg a := rfl
def jobD (l : List Ag) (u : Int) (sc : Bool) (sz dp : Int) : D := .rp [.sl 6 (l.map eAg), .int .i64 u, .bool sc, .int .i64 sz, .int .i64 dp]
def zdd (len : Nat) (u n b : Int) : Int := if n < u + b ∨ (len : Int) ≤ n - (u + b) then -1 else len - 1 - (n - (u + b))
theorem zAm (l : List Ag) (u : Int) (sc : Bool) (sz dp n b : Int) (hu : 0 ≤ u ∧ u ≤ 65535) (hb : 0 ≤ b ∧ b ≤ 1099511627776) (hn : 0 ≤ n ∧ n ≤ 65535) : Pure Tryz.prog zfm [jobD l u sc sz dp, .int .i64 n, .int .i64 b] [.int .i64 (zdd l.length u n b)] := by
  refine ztr rfl fun hs => ?_
  have hl : ((l.length : Int)) ≤ 9223372036854775807 := by
    have := hs (jobD l u sc sz dp) (by simp)
    simp -dsimp [jobD, small] at this
    omega
  have w1 : IntKind.i64.wrap (u + b) = u + b := zad (by omega) (by omega)
  have w2 : IntKind.i64.wrap (n - (u + b)) = n - (u + b) := zad (by omega) (by omega)
  have w3 : IntKind.i64.wrap ((l.length : Int) - 1) = (l.length : Int) - 1 := zad (by omega) (by omega)
  simp -dsimp [zh8, jobD, w1, w2, w3]
  (first | refine zal ?_ ?_ | refine zak ?_ ?_) <;> intro h1 <;> (try simp only [nrm] at h1) <;> simp -dsimp [h1, zdd, w1, w2, w3]
  (first | refine zal ?_ ?_ | refine zak ?_ ?_) <;> intro h2 <;> (try simp only [nrm] at h2) <;> simp -dsimp [h2, zdd, h1, w1, w2, w3]
  have w4 : IntKind.i64.wrap ((l.length : Int) - 1 - (n - (u + b))) = (l.length : Int) - 1 - (n - (u + b)) := zad (by omega) (by omega)
  rw [w4]
structure St3 where
  sc : Bool
  sz : Int
  dp : Int
def mn (a b : Int) : Int := if b < a then b else a
def zhb : Int := 1099511627776
mutual
def zm1 (l : List Ag) (u : Int) : T → Int → Int → St3 → St3
  | .mk k n ks, b, d, st =>
    if k = 1 then
      if 0 ≤ zdd l.length u n b then match l[(zdd l.length u n b).toNat]? with
        | some a => ⟨if st.sc then true else if 0 ≤ a.free then decide (65535 < w64 (w64 (a.free + u) + b)) else false, mn (w64 (st.sz + a.size)) zhb, mx st.dp (w64 (d + a.depth))⟩
        | none => st
      else ⟨st.sc, mn (w64 (st.sz + 1)) zhb, mx st.dp (w64 (d + 1))⟩
    else zox l u k b d 0 ⟨st.sc, mn (w64 (st.sz + 1)) zhb, mx st.dp (w64 (d + 1))⟩ ks
def zox (l : List Ag) (u k b d : Int) : Nat → St3 → List T → St3
  | _, st, [] => st
  | i, st, x :: xs => zox l u k b d (i + 1) (zm1 l u x (b + zai k i) (w64 (d + 1)) st) xs
end
theorem ztt (l : List Ag) (u k b d : Int) : ∀ (xs : List T) (i : Nat) (st : St3) (j : Nat) (h : j < xs.length), zox l u k b d i st (xs.take (j + 1)) = zm1 l u xs[j] (b + zai k (i + j : Nat)) (w64 (d + 1)) (zox l u k b d i st (xs.take j))
  | x :: xs, i, st, 0, h => by simp [zox]
  | x :: xs, i, st, j + 1, h => by
    simp only [List.take_succ_cons, zox, List.getElem_cons_succ]
    rw [ztt l u k b d xs (i + 1) _ j (by simpa using h)]
    congr 3
    omega
def jobC (c0 : AV) (u : Int) (st : St3) : List AV := [c0, .d (.int .i64 u), .d (.bool st.sc), .d (.int .i64 st.sz), .d (.int .i64 st.dp)]
def jobH (k v : Nat) (b : Body) (e : Ent) : Nat → Ent := fun q => if q = k then ⟨v, b⟩ else e
theorem zMh {G : GS} {h : Nat → Ent} {w : World} {v : Value} {d : D} (r : ARel G h w v (.d d)) : small 8 d := r.d_inv.small 8
theorem zAf {P : Program} {g : FuncId} {K : List Nat} {h0 h1 : Nat → Ent} {rs : List D} {pre post : List AV} {cs : List D} (hm : MutC P g (pre ++ .d (.agg cs) :: post) K h0 rs h1) : MutC P g (pre ++ .agg (cs.map .d) :: post) K h0 rs h1 := by
  obtain ⟨a1, a2, a3⟩ := hm
  refine ⟨a1, a2, fun G h w vs b1 b2 b3 b4 b5 => a3 G h w vs b1 b2 b3 (by simpa using b4) fun j a hj => ?_⟩
  rw [List.getElem?_append] at hj
  split at hj
  · rename_i hlt
    exact b5 j a (by rw [List.getElem?_append_left hlt]; exact hj)
  · rename_i hge
    cases hjj : j - pre.length with
    | zero =>
      rw [hjj] at hj
      simp at hj
      subst hj
      have := b5 j (.agg (cs.map .d)) (by rw [List.getElem?_append_right (by omega), hjj]; rfl)
      generalize hq : vs.getD j undef = q at this ⊢
      generalize hz : cs.map AV.d = zs at this
      cases this with
      | agg vs' _ hn hr =>
        subst hz
        refine .d _ _ (.agg vs' cs (by simpa using hn) fun i c hi => ?_)
        exact (hr i (.d c) (by rw [List.getElem?_map, hi]; rfl)).d_inv
    | succ i =>
      rw [hjj] at hj
      exact b5 j a (by rw [List.getElem?_append_right (by omega), hjj]; simpa using hj)
theorem zOw {aa : List AV} {K : List Nat} {h0 h1 : Nat → Ent} {rs : List D} (hl : aa.length = 4) (hov : ∀ k ∈ K, zHt K (h1 k).body)
    (hw : ∀ (h : Nat → Ent), (∀ k ∈ K, h k = h0 k) → (∀ d, AV.d d ∈ aa → small 8 d) → wpX Tryz.prog zel.code (zcb zel.res rs K h1) ⟨zb1 aa, h⟩) : MutC Tryz.prog zcs aa K h0 rs h1 :=
  zOg hm Tryz.func202 zu2 hl hov fun G h w vs hk hlen hr => hw h hk fun d hd => by
    obtain ⟨j, hj⟩ := List.mem_iff_getElem?.1 hd
    exact zMh (hr j _ hj)
theorem zRa (l : List Ag) (u : Int) (hu : 0 ≤ u ∧ u ≤ 65535) (t : T) : ∀ (k v r rv : Nat) (b d : Int) (st : St3), k ≠ r → k ≠ 5 → k ≠ 11 → k ≠ 13 → r ≠ 5 → r ≠ 11 → r ≠ 13 → zab t = true → 0 ≤ b → b + zac t ≤ 1099511627776 →
    MutC Tryz.prog zcs [.ptr k v 0, .d (.agg (cT t)), .d (.int .i64 b), .d (.int .i64 d)] [k, r] (jobH k v (.box (jobC (.rsl r rv) u st) false) ⟨rv, .row 6 (l.map eAg) false⟩) []
      (jobH k v (.box (jobC (.rsl r rv) u (zm1 l u t b d st)) false) ⟨rv, .row 6 (l.map eAg) false⟩) := by
  refine T.ind (p := fun t => ∀ (k v r rv : Nat) (b d : Int) (st : St3), k ≠ r → k ≠ 5 → k ≠ 11 → k ≠ 13 → r ≠ 5 → r ≠ 11 → r ≠ 13 → zab t = true → 0 ≤ b → b + zac t ≤ 1099511627776 →
    MutC Tryz.prog zcs [.ptr k v 0, .d (.agg (cT t)), .d (.int .i64 b), .d (.int .i64 d)] [k, r] (jobH k v (.box (jobC (.rsl r rv) u st) false) ⟨rv, .row 6 (l.map eAg) false⟩) []
      (jobH k v (.box (jobC (.rsl r rv) u (zm1 l u t b d st)) false) ⟨rv, .row 6 (l.map eAg) false⟩)) ?_ t
  intro kd n ks ih k v r rv b d st hkr hk5 hk11 hk13 hr5 hr11 hr13 hfm hb0 hb
  have hrk : r ≠ k := Ne.symm hkr
  have n1 : 5 ≠ k := Ne.symm hk5
  have n2 : 11 ≠ k := Ne.symm hk11
  have n3 : 13 ≠ k := Ne.symm hk13
  have n4 : 5 ≠ r := Ne.symm hr5
  have n5 : 11 ≠ r := Ne.symm hr11
  have n6 : 13 ≠ r := Ne.symm hr13
  refine zOw rfl ?_ fun h hh hs => ?_
  · intro q hq
    simp only [jobH]
    split
    · intro c hc
      simp only [jobC, List.mem_cons, List.not_mem_nil, or_false] at hc
      rcases hc with rfl | rfl | rfl | rfl | rfl
      · exact .rsl _ _ (by simp)
      all_goals exact .d _
    · trivial
  have e1 : h k = ⟨v, .box (jobC (.rsl r rv) u st) false⟩ := by rw [hh k (by simp)]; simp [jobH]
  have e2 : h r = ⟨rv, .row 6 (l.map eAg) false⟩ := by rw [hh r (by simp)]; simp [jobH, hrk]
  simp only [jobC] at e1
  have hsm := hs (.agg (cT (.mk kd n ks))) (by simp)
  simp -dsimp [cT, small] at hsm
  simp -dsimp [zel, cT, jobC, jobH]
  (first | refine zal ?_ ?_ | refine zak ?_ ?_) <;> intro g1 <;> (try simp only [nrm] at g1) <;> simp -dsimp [g1, e1, e2, hkr, hrk, hk5, hk11, hk13, hr5, hr11, hr13, n1, n2, n3, n4, n5, n6]
  · have hn : 0 ≤ n ∧ n ≤ 65535 := by
      rw [zaz, g1] at hfm
      have h0 : zdy 1 = 0 := rfl
      rw [h0] at hfm
      split at hfm
      · simp only [if_true, Bool.and_eq_true] at hfm
        exact (zdw _ _ _).1 hfm.1
      · cases hfm
    refine zvl (zAm l u st.sc st.sz st.dp n b hu ⟨hb0, by omega⟩ hn) (by simp [D.flat]) ?_
    generalize hw : zdd l.length u n b = W
    have hL : zm1 l u (.mk kd n ks) b d st = if 0 ≤ W then match l[W.toNat]? with
        | some a => ⟨if st.sc then true else if 0 ≤ a.free then decide (65535 < w64 (w64 (a.free + u) + b)) else false, mn (w64 (st.sz + a.size)) zhb, mx st.dp (w64 (d + a.depth))⟩
        | none => st
      else ⟨st.sc, mn (w64 (st.sz + 1)) zhb, mx st.dp (w64 (d + 1))⟩ := by rw [zm1, if_pos g1, hw]
    rw [hL]
    simp -dsimp [e1, e2, hkr, hrk, hk5, hk11, hk13, hr5, hr11, hr13, n1, n2, n3, n4, n5, n6, g1]
    (first | refine zal ?_ ?_ | refine zak ?_ ?_) <;> intro g2 <;> (try simp only [nrm] at g2) <;> simp -dsimp [g2, e1, e2, hkr, hrk, hk5, hk11, hk13, hr5, hr11, hr13, n1, n2, n3, n4, n5, n6, g1]
    · have hlt : W.toNat < l.length := by
        rw [zdd] at hw
        split at hw <;> omega
      have hget : l[W.toNat]? = some l[W.toNat] := List.getElem?_eq_getElem hlt
      have hltI : W < (l.length : Int) := by omega
      simp -dsimp [e1, e2, hkr, hrk, hk5, hk11, hk13, hr5, hr11, hr13, n1, n2, n3, n4, n5, n6, g1, g2, hlt, hltI, hget, eAg, cAg, cT]
      cases hsc : st.sc with
      | true =>
        simp -dsimp [e1, e2, hkr, hrk, hk5, hk11, hk13, hr5, hr11, hr13, n1, n2, n3, n4, n5, n6, g1, g2, hlt, hltI, hget, eAg, cAg, cT, hsc]
        (simp -dsimp [jobH, hrk, jobC, mn, mx, zhb, w64, g2, hget, hsc]) <;> (first | exact ⟨rfl, rfl⟩ | exact ⟨rfl, rfl, rfl⟩)
      | false =>
        simp -dsimp [e1, e2, hkr, hrk, hk5, hk11, hk13, hr5, hr11, hr13, n1, n2, n3, n4, n5, n6, g1, g2, hlt, hltI, hget, eAg, cAg, cT, hsc]
        (first | refine zal ?_ ?_ | refine zak ?_ ?_) <;> intro g3 <;> (try simp only [nrm] at g3) <;> simp -dsimp [g3, e1, e2, hkr, hrk, hk5, hk11, hk13, hr5, hr11, hr13, n1, n2, n3, n4, n5, n6, g1, g2, hlt, hltI, hget, eAg, cAg, cT, hsc]
        · (simp -dsimp [jobH, hrk, jobC, mn, mx, zhb, w64, g2, hget, hsc, g3]) <;> (first | exact ⟨rfl, rfl⟩ | exact ⟨rfl, rfl, rfl⟩)
        · (simp -dsimp [jobH, hrk, jobC, mn, mx, zhb, w64, g2, hget, hsc, g3]) <;> (first | exact ⟨rfl, rfl⟩ | exact ⟨rfl, rfl, rfl⟩)
    · (simp -dsimp [jobH, hrk, jobC, mn, mx, zhb, w64, g2]) <;> (first | exact ⟨rfl, rfl⟩ | exact ⟨rfl, rfl, rfl⟩)
  · have hL : zm1 l u (.mk kd n ks) b d st = zox l u kd b d 0 ⟨st.sc, mn (w64 (st.sz + 1)) zhb, mx st.dp (w64 (d + 1))⟩ ks := by rw [zm1, if_neg g1]
    rw [hL]
    have hks : ks.all zab = true := by
      rw [zaz] at hfm
      split at hfm
      · split at hfm
        · rw [Bool.and_eq_true] at hfm; exact hfm.2
        · split at hfm
          · exact hfm
          · cases hfm
      · cases hfm
    generalize hA : (⟨st.sc, mn (w64 (st.sz + 1)) zhb, mx st.dp (w64 (d + 1))⟩ : St3) = A
    refine zam ks.length (fun i st' => st'.s 0 = .ptr k v 0 ∧ st'.s 2 = .d (.int .i64 b) ∧ st'.s 3 = .d (.int .i64 d) ∧ st'.s 5 = .ptr 5 ((h 5).ver + 1) 0 ∧ st'.h 5 = ⟨(h 5).ver + 1, .box [.d (.int .i64 kd), .d (.int .i64 n), .d (.sl 3 (ks.map eT))] false⟩ ∧
      st'.s 100 = .d (.sl 3 (ks.map eT)) ∧ st'.s 101 = .d (.int .i64 ks.length) ∧ st'.s 102 = .d (.int .i64 i) ∧
      st'.h k = ⟨v, .box (jobC (.rsl r rv) u (zox l u kd b d 0 A (ks.take i))) false⟩ ∧ st'.h r = ⟨rv, .row 6 (l.map eAg) false⟩) ?_ ?_
    · simp -dsimp [e1, e2, hkr, hrk, hk5, hk11, hk13, hr5, hr11, hr13, n1, n2, n3, n4, n5, n6, g1, zox, jobC]
      simp -dsimp [← hA, mn, mx, zhb, w64] <;> exact ⟨rfl, rfl⟩
    · rintro i ⟨s, hp⟩ hi ⟨f1, f2, f3, f4, f5, f6, f7, f8, f9, f10⟩
      dsimp only at f1 f2 f3 f4 f5 f6 f7 f8 f9 f10
      generalize (h 5).ver + 1 = v5 at f4 f5
      rcases Nat.lt_or_ge i ks.length with hlt | hge
      · have w1 : IntKind.i64.wrap ((i : Int) + 1) = (i : Int) + 1 := zad (by omega) (by omega)
        have hbl := zdk kd i
        have hnk := zcx (k := kd) (n := n) (List.getElem_mem hlt : ks[i] ∈ ks)
        have w2 : IntKind.i64.wrap (b + zai kd i) = b + zai kd i := zad (by omega) (by omega)
        simp only [jobC] at f9
        simp -dsimp [e1, e2, hkr, hrk, hk5, hk11, hk13, hr5, hr11, hr13, n1, n2, n3, n4, n5, n6, g1, f1, f2, f3, f4, f5, f6, f7, f8, f9, f10, hlt, cT]
        refine zvl (zlw kd i) (by simp [D.flat]) ?_
        simp -dsimp [e1, e2, hkr, hrk, hk5, hk11, hk13, hr5, hr11, hr13, n1, n2, n3, n4, n5, n6, g1, f1, f2, f3, f4, f5, f6, f7, f8, f9, f10, hlt, w2]
        generalize hX : zox l u kd b d 0 A (ks.take i) = X at f9
        have hrec := ih ks[i] (List.getElem_mem _) k v r rv (b + zai kd i) (w64 (d + 1)) X hkr hk5 hk11 hk13 hr5 hr11 hr13 (List.all_eq_true.1 hks _ (List.getElem_mem _)) (by omega) (by omega)
        have hrec2 := zAf (pre := [.ptr k v 0]) (post := [.d (.int .i64 (b + zai kd i)), .d (.int .i64 (w64 (d + 1)))]) hrec
        refine zsc hrec2 ?_ ?_
        · simp [jobH, jobC, hrk, f9, f10, upd, hkr, hk5, hk11, hk13, hr5, hr11, hr13]
        have hsn := ztt l u kd b d ks 0 A i hlt
        rw [Nat.zero_add, hX] at hsn
        simp -dsimp [e1, e2, hkr, hrk, hk5, hk11, hk13, hr5, hr11, hr13, n1, n2, n3, n4, n5, n6, g1, zkn, zlv, jobH, f1, f2, f3, f4, f5, f6, f7, f8, f9, f10, hlt, w1, hsn]
      · have e : i = ks.length := by omega
        subst e
        rw [List.take_length] at f9
        simp -dsimp [e1, e2, hkr, hrk, hk5, hk11, hk13, hr5, hr11, hr13, n1, n2, n3, n4, n5, n6, g1, f1, f2, f3, f4, f5, f6, f7, f8, f9, f10]
        simp [jobH, jobC, hrk]
theorem zS3 (u n b : Int) (h : 0 ≤ u) (hb : 0 ≤ b) : zdd 0 u n b = -1 := by
  rw [zdd, if_pos]
  omega
theorem zMr (u : Int) (hu : 0 ≤ u ∧ u ≤ 65535) (t : T) : ∀ (k v : Nat) (b d : Int) (st : St3), k ≠ 5 → k ≠ 11 → k ≠ 13 → zab t = true → 0 ≤ b → b + zac t ≤ 1099511627776 →
    MutC Tryz.prog zcs [.ptr k v 0, .d (.agg (cT t)), .d (.int .i64 b), .d (.int .i64 d)] [k] (jobH k v (.box (jobC (.fsl 6 []) u st) false) ⟨0, .dead⟩) []
      (jobH k v (.box (jobC (.fsl 6 []) u (zm1 [] u t b d st)) false) ⟨0, .dead⟩) := by
  refine T.ind (p := fun t => ∀ (k v : Nat) (b d : Int) (st : St3), k ≠ 5 → k ≠ 11 → k ≠ 13 → zab t = true → 0 ≤ b → b + zac t ≤ 1099511627776 →
    MutC Tryz.prog zcs [.ptr k v 0, .d (.agg (cT t)), .d (.int .i64 b), .d (.int .i64 d)] [k] (jobH k v (.box (jobC (.fsl 6 []) u st) false) ⟨0, .dead⟩) []
      (jobH k v (.box (jobC (.fsl 6 []) u (zm1 [] u t b d st)) false) ⟨0, .dead⟩)) ?_ t
  intro kd n ks ih k v b d st hk5 hk11 hk13 hfm hb0 hb
  have n1 : 5 ≠ k := Ne.symm hk5
  have n2 : 11 ≠ k := Ne.symm hk11
  have n3 : 13 ≠ k := Ne.symm hk13
  refine zOw rfl ?_ fun h hh hs => ?_
  · intro q hq
    simp only [jobH]
    split
    · intro c hc
      simp only [jobC, List.mem_cons, List.not_mem_nil, or_false] at hc
      rcases hc with rfl | rfl | rfl | rfl | rfl
      · exact .fsl _ _
      all_goals exact .d _
    · trivial
  have e1 : h k = ⟨v, .box (jobC (.fsl 6 []) u st) false⟩ := by rw [hh k (by simp)]; simp [jobH]
  simp only [jobC] at e1
  have hsm := hs (.agg (cT (.mk kd n ks))) (by simp)
  simp -dsimp [cT, small] at hsm
  simp -dsimp [zel, cT, jobC, jobH]
  (first | refine zal ?_ ?_ | refine zak ?_ ?_) <;> intro g1 <;> (try simp only [nrm] at g1) <;> simp -dsimp [g1, e1, hk5, hk11, hk13, n1, n2, n3]
  · have hn : 0 ≤ n ∧ n ≤ 65535 := by
      rw [zaz, g1] at hfm
      have h0 : zdy 1 = 0 := rfl
      rw [h0] at hfm
      split at hfm
      · simp only [if_true, Bool.and_eq_true] at hfm
        exact (zdw _ _ _).1 hfm.1
      · cases hfm
    refine zvl (zAm [] u st.sc st.sz st.dp n b hu ⟨hb0, by omega⟩ hn) (by simp [D.flat]) ?_
    have hw : zdd ([] : List Ag).length u n b = -1 := zS3 u n b hu.1 hb0
    have hL : zm1 [] u (.mk kd n ks) b d st = ⟨st.sc, mn (w64 (st.sz + 1)) zhb, mx st.dp (w64 (d + 1))⟩ := by rw [zm1, if_pos g1, hw, if_neg (by omega)]
    rw [hL, hw]
    simp -dsimp [e1, hk5, hk11, hk13, n1, n2, n3, g1]
    simp -dsimp [jobH, jobC, mn, mx, zhb, w64] <;> (first | exact ⟨rfl, rfl⟩ | exact ⟨rfl, rfl, rfl⟩)
  · have hL : zm1 [] u (.mk kd n ks) b d st = zox [] u kd b d 0 ⟨st.sc, mn (w64 (st.sz + 1)) zhb, mx st.dp (w64 (d + 1))⟩ ks := by rw [zm1, if_neg g1]
    rw [hL]
    have hks : ks.all zab = true := by
      rw [zaz] at hfm
      split at hfm
      · split at hfm
        · rw [Bool.and_eq_true] at hfm; exact hfm.2
        · split at hfm
          · exact hfm
          · cases hfm
      · cases hfm
    generalize hA : (⟨st.sc, mn (w64 (st.sz + 1)) zhb, mx st.dp (w64 (d + 1))⟩ : St3) = A
    refine zam ks.length (fun i st' => st'.s 0 = .ptr k v 0 ∧ st'.s 2 = .d (.int .i64 b) ∧ st'.s 3 = .d (.int .i64 d) ∧ st'.s 5 = .ptr 5 ((h 5).ver + 1) 0 ∧ st'.h 5 = ⟨(h 5).ver + 1, .box [.d (.int .i64 kd), .d (.int .i64 n), .d (.sl 3 (ks.map eT))] false⟩ ∧
      st'.s 100 = .d (.sl 3 (ks.map eT)) ∧ st'.s 101 = .d (.int .i64 ks.length) ∧ st'.s 102 = .d (.int .i64 i) ∧
      st'.h k = ⟨v, .box (jobC (.fsl 6 []) u (zox [] u kd b d 0 A (ks.take i))) false⟩) ?_ ?_
    · simp -dsimp [e1, hk5, hk11, hk13, n1, n2, n3, g1, zox, jobC]
      simp -dsimp [← hA, mn, mx, zhb, w64] <;> exact ⟨rfl, rfl⟩
    · rintro i ⟨s, hp⟩ hi ⟨f1, f2, f3, f4, f5, f6, f7, f8, f9⟩
      dsimp only at f1 f2 f3 f4 f5 f6 f7 f8 f9
      generalize (h 5).ver + 1 = v5 at f4 f5
      rcases Nat.lt_or_ge i ks.length with hlt | hge
      · have w1 : IntKind.i64.wrap ((i : Int) + 1) = (i : Int) + 1 := zad (by omega) (by omega)
        have hbl := zdk kd i
        have hnk := zcx (k := kd) (n := n) (List.getElem_mem hlt : ks[i] ∈ ks)
        have w2 : IntKind.i64.wrap (b + zai kd i) = b + zai kd i := zad (by omega) (by omega)
        simp only [jobC] at f9
        simp -dsimp [e1, hk5, hk11, hk13, n1, n2, n3, g1, f1, f2, f3, f4, f5, f6, f7, f8, f9, hlt, cT]
        refine zvl (zlw kd i) (by simp [D.flat]) ?_
        simp -dsimp [e1, hk5, hk11, hk13, n1, n2, n3, g1, f1, f2, f3, f4, f5, f6, f7, f8, f9, hlt, w2]
        generalize hX : zox [] u kd b d 0 A (ks.take i) = X at f9
        have hrec := ih ks[i] (List.getElem_mem _) k v (b + zai kd i) (w64 (d + 1)) X hk5 hk11 hk13 (List.all_eq_true.1 hks _ (List.getElem_mem _)) (by omega) (by omega)
        have hrec2 := zAf (pre := [.ptr k v 0]) (post := [.d (.int .i64 (b + zai kd i)), .d (.int .i64 (w64 (d + 1)))]) hrec
        refine zsc hrec2 ?_ ?_
        · simp [jobH, jobC, f9, upd, hk5, hk11, hk13]
        have hsn := ztt [] u kd b d ks 0 A i hlt
        rw [Nat.zero_add, hX] at hsn
        simp -dsimp [e1, hk5, hk11, hk13, n1, n2, n3, g1, zkn, zlv, jobH, f1, f2, f3, f4, f5, f6, f7, f8, f9, hlt, w1, hsn]
      · have e : i = ks.length := by omega
        subst e
        rw [List.take_length] at f9
        simp -dsimp [e1, hk5, hk11, hk13, n1, n2, n3, g1, f1, f2, f3, f4, f5, f6, f7, f8, f9]
        simp [jobH, jobC]
def agOf (x : T) : Ag := ⟨x, zf6 x, zdo x, zfv x 0⟩
def zse : List T → Int
  | [] => 0
  | x :: xs => if zaw x = 0 then zse xs else zaw x
theorem zFp : ∀ (l : List T) (i : Nat) (h : i < l.length), (∀ (j : Nat) (hj : j < l.length), j < i → zaw l[j] = 0) → zaw l[i] ≠ 0 → zse l = zaw l[i]
  | x :: xs, 0, h, _, hn => by simp only [List.getElem_cons_zero] at hn ⊢; rw [zse, if_neg hn]
  | x :: xs, i + 1, h, ha, hn => by
    have h0 := ha 0 (by simp) (by omega)
    simp only [List.getElem_cons_zero] at h0
    rw [zse, if_pos h0]
    simp only [List.getElem_cons_succ] at hn ⊢
    exact zFp xs i (by simpa using h) (fun j hj hji => by have := ha (j + 1) (by simpa using hj) (by omega); simpa using this) hn
theorem zCt : ∀ (l : List T), (∀ (j : Nat) (hj : j < l.length), j < l.length → zaw l[j] = 0) → zse l = 0
  | [], _ => rfl
  | x :: xs, ha => by
    have h0 := ha 0 (by simp) (by simp)
    simp only [List.getElem_cons_zero] at h0
    rw [zse, if_pos h0]
    exact zCt xs fun j hj _ => by have := ha (j + 1) (by simpa using hj) (by simpa using hj); simpa using this
def zi4 (t : T) (l : List T) (u : Int) : Int := if zaw t = 0 then if zse l = 0 then if u < 0 ∨ 65535 < u then 1 else 0 else zse l else zaw t
def st0 : St3 := ⟨false, 0, 0⟩
def zgz (t : T) (l : List T) (u : Int) : St3 := zm1 (l.map agOf) u t 0 0 st0
def zuu (t : T) (l : List T) (u : Int) : D := if zi4 t l u = 0 then jobD (l.map agOf) u (zgz t l u).sc (zgz t l u).sz (zgz t l u).dp else .nilp
theorem zQj (t : T) (l : List T) (u : Int) (ht : zac t ≤ 549755813888) (hl : ∀ x ∈ l, zac x ≤ 549755813888) (hn : l.length ≤ 2097152) :
    Pure Tryz.prog zng [.agg (cT t), eTs l, .int .i64 u] [zuu t l u, .int .i64 (zi4 t l u)] := by
  refine zC1 rfl fun hs => ?_
  simp -dsimp [zow, cT, eTs]
  refine zaa (zr1 t) ?_
  simp -dsimp
  (first | refine zal ?_ ?_ | refine zak ?_ ?_) <;> intro h1 <;> (try simp only [nrm] at h1) <;> simp -dsimp [h1]
  · have hE : zi4 t l u = zaw t := by rw [zi4, if_neg h1]
    rw [zuu, hE, if_neg h1]
    simp -dsimp
  have hfm := zf5 h1
  refine zam l.length (fun i st => st.s 2 = .d (.int .i64 u) ∧ st.s 3 = .ptr 3 1 0 ∧ st.h 3 = ⟨1, .box [.d (.int .i64 t.kind), .d (.int .i64 t.num), .d (.sl 3 (t.kids.map eT))] false⟩ ∧
    st.s 9 = .ptr 20 1 0 ∧ st.s 21 = .d (.sl 3 (l.map eT)) ∧ st.s 22 = .d (.int .i64 l.length) ∧ st.s 23 = .d (.int .i64 i) ∧
    (∃ c0, st.h 20 = ⟨1, .box [c0, .d (.int .i64 u), .d (.bool false), .d (.int .i64 0), .d (.int .i64 0)] false⟩ ∧ ((i = 0 ∧ c0 = .fsl 6 []) ∨ ∃ v, c0 = .rsl 46 v ∧ st.h 46 = ⟨v, .row 6 ((l.map (eAg ∘ agOf)).take i) false⟩)) ∧
    ∀ (j : Nat) (hj : j < l.length), j < i → zaw l[j] = 0) ?_ ?_
  · simp -dsimp
  · rintro i ⟨s, hp⟩ hi ⟨g1, g2, g3, g4, g5, g6, g7, ⟨c0, g8, g9⟩, g10⟩
    dsimp only at g1 g2 g3 g4 g5 g6 g7 g8 g9
    rcases Nat.lt_or_ge i l.length with hlt | hge
    · have w1 : IntKind.i64.wrap ((i : Int) + 1) = (i : Int) + 1 := zad (by omega) (by omega)
      simp -dsimp [g1, g2, g3, g4, g5, g6, g7, g8, hlt, cT]
      refine zaa (zr1 l[i]) ?_
      simp -dsimp [g1, g2, g3, g4, g5, g6, g7, g8, hlt, cT]
      (first | refine zal ?_ ?_ | refine zak ?_ ?_) <;> intro h2 <;> (try simp only [nrm] at h2) <;> simp -dsimp [h2, g1, g2, g3, g4, g5, g6, g7, g8, hlt, cT]
      · have hA := zFp l i hlt g10 h2
        have hE : zi4 t l u = zaw l[i] := by rw [zi4, if_pos h1, if_neg (by rw [hA]; exact h2), hA]
        have hR : zuu t l u = .nilp := by rw [zuu, if_neg (by rw [hE]; exact h2)]
        simp -dsimp [hE, hR]
      refine zaa (zF7 l[i]) ?_
      simp -dsimp [g1, g2, g3, g4, g5, g6, g7, g8, hlt, cT]
      refine zaa (zC0 l[i]) ?_
      simp -dsimp [g1, g2, g3, g4, g5, g6, g7, g8, hlt, cT]
      have hln := hl l[i] (List.getElem_mem _)
      refine zaa (zSk l[i] 0 (by omega) (by omega)) ?_
      have hr : (min i l.length + 1) * 64 ≤ zaj := by simp only [zaj]; omega
      have hsn : (l.map (eAg ∘ agOf)).take i ++ [D.agg [.int .i64 l[i].kind, .int .i64 l[i].num, .sl 3 (l[i].kids.map eT), .int .i64 (zf6 l[i]), .int .i64 (zdo l[i]), .int .i64 (zfv l[i] 0)]] = (l.map (eAg ∘ agOf)).take (i + 1) :=
        zo1 (eAg ∘ agOf) (fun x => cAg (agOf x)) (fun _ => rfl) l i hlt
      rcases g9 with ⟨rfl, rfl⟩ | ⟨v, rfl, g9⟩
      · have h64 : 64 ≤ zaj := by decide
        simp only [List.take_zero, List.nil_append, Nat.zero_add] at hsn
        simp at hlt w1
        simp -dsimp [g1, g2, g3, g4, g5, g6, g7, g8, hlt, cT, h64, w1]
        exact ⟨hsn, fun j hj hji => by have : j = 0 := by omega
                                       subst this; exact h2⟩
      · simp -dsimp [g1, g2, g3, g4, g5, g6, g7, g8, g9, hlt, cT, hr, hsn, w1]
        intro j hj hji
        rcases Nat.lt_or_ge j i with h | h
        · exact g10 j hj h
        · have : j = i := by omega
          subst this
          exact h2
    · have e : i = l.length := by omega
      subst e
      have hA := zCt l g10
      simp -dsimp [g1, g2, g3, g4, g5, g6, g7, g8]
      have bad : (u < 0 ∨ 65535 < u) → zuu t l u = .nilp ∧ zi4 t l u = 1 := fun hu => by
        have hE : zi4 t l u = 1 := by rw [zi4, if_pos h1, if_pos hA, if_pos hu]
        exact ⟨by rw [zuu, hE]; rfl, hE⟩
      (first | refine zal ?_ ?_ | refine zak ?_ ?_) <;> intro h3 <;> (try simp only [nrm] at h3) <;> simp -dsimp [h3, g1, g2, g3, g4, g5, g6, g7, g8]
      · simp -dsimp [bad (.inl h3)]
      (first | refine zal ?_ ?_ | refine zak ?_ ?_) <;> intro h4 <;> (try simp only [nrm] at h4) <;> simp -dsimp [h4, g1, g2, g3, g4, g5, g6, g7, g8, h3]
      · simp -dsimp [bad (.inr h4)]
      have hE : zi4 t l u = 0 := by rw [zi4, if_pos h1, if_pos hA, if_neg (by omega)]
      have hR : zuu t l u = jobD (l.map agOf) u (zgz t l u).sc (zgz t l u).sz (zgz t l u).dp := by rw [zuu, if_pos hE]
      rw [hE, hR]
      have hu : 0 ≤ u ∧ u ≤ 65535 := by omega
      have hnt : (0 : Int) + zac t ≤ 1099511627776 := by omega
      rcases g9 with ⟨hz, rfl⟩ | ⟨v, rfl, g9⟩
      · have hl0 : l = [] := List.length_eq_zero_iff.1 hz
        subst hl0
        refine zsc (zAf (pre := [.ptr 20 1 0]) (post := [.d (.int .i64 0), .d (.int .i64 0)]) (zMr u hu t 20 1 0 0 st0 (by omega) (by omega) (by omega) hfm (by omega) hnt)) ?_ ?_
        · simp [jobH, jobC, g8, st0]
        simp -dsimp [zkn, zlv, jobH, jobC, g1, g2, g3, g4, jobD, zgz]
      · rw [List.take_of_length_le (by simp)] at g9
        rw [zp5]
        refine zsc (zAf (pre := [.ptr 20 1 0]) (post := [.d (.int .i64 0), .d (.int .i64 0)]) (zRa (l.map agOf) u hu t 20 1 46 v 0 0 st0 (by omega) (by omega) (by omega) (by omega) (by omega) (by omega) (by omega) hfm (by omega) hnt)) ?_ ?_
        · simp [jobH, jobC, g8, g9, st0]
        simp -dsimp [zkn, zlv, jobH, jobC, g1, g2, g3, g4, jobD, zgz]
def zT : T := .mk 0 0 []
def zd7 (l : List T) (u n b : Int) : T :=
  if 0 ≤ zdd l.length u n b then match l[(zdd l.length u n b).toNat]? with
    | some a => zm7 (w64 (u + b)) a
    | none => zT
  else .mk 1 (if u + b ≤ n then w64 (n - l.length) else n) []
theorem zLz (l : List T) (u : Int) (sc : Bool) (sz dp : Int) (hu : 0 ≤ u ∧ u ≤ 65535) (hl : ∀ x ∈ l, zab x = true ∧ zac x ≤ 549755813888) (n b : Int) (hn : 0 ≤ n) (hn' : n ≤ 65535) (hb : 0 ≤ b) (hb' : b ≤ 1099511627776) :
    Pure Tryz.prog zim [.int .i64 n, .int .i64 b, .rp [jobD (l.map agOf) u sc sz dp], .rp [.int .i64 u], .rp [eTs l]] [.agg (cT (zd7 l u n b))] := by
  refine zx8 rfl fun hs => ?_
  have w1 : IntKind.i64.wrap (u + b) = u + b := zad (by omega) (by omega)
  have w1' : w64 (u + b) = u + b := w1
  simp -dsimp [zk9, eTs]
  have hw := zAm (l.map agOf) u sc sz dp n b hu ⟨hb, hb'⟩ ⟨hn, hn'⟩
  rw [List.length_map] at hw
  refine zaa hw ?_
  generalize hW : zdd l.length u n b = W
  have hI : zd7 l u n b = if 0 ≤ W then match l[W.toNat]? with
    | some a => zm7 (w64 (u + b)) a
    | none => zT
    else .mk 1 (if u + b ≤ n then w64 (n - l.length) else n) [] := by rw [zd7, hW]
  simp -dsimp
  (first | refine zal ?_ ?_ | refine zak ?_ ?_) <;> intro g1 <;> (try simp only [nrm] at g1) <;> simp -dsimp [g1]
  · have hlt : W.toNat < l.length := by
      rw [zdd] at hW
      split at hW <;> omega
    have hget : l[W.toNat]? = some l[W.toNat] := List.getElem?_eq_getElem hlt
    have hI2 : zd7 l u n b = zm7 (w64 (u + b)) l[W.toNat] := by rw [hI, if_pos g1, hget]
    rw [hI2, w1']
    simp -dsimp [jobD, g1, hlt, w1, agOf, cAg, eAg, cT]
    obtain ⟨hf, hnn⟩ := hl l[W.toNat] (List.getElem_mem _)
    refine zaa (zMn l[W.toNat] (u + b) hf (by omega)) ?_
    simp -dsimp [cT]
  · have hI2 : zd7 l u n b = .mk 1 (if u + b ≤ n then w64 (n - l.length) else n) [] := by rw [hI, if_neg g1]
    rw [hI2]
    simp -dsimp [g1, w1]
    (first | refine zal ?_ ?_ | refine zak ?_ ?_) <;> intro g2 <;> (try simp only [nrm] at g2) <;> simp -dsimp [g2, g1, w1]
    · refine zaa (v_ok _) ?_
      simp -dsimp [g2, cT, w64]
    · refine zaa (v_ok _) ?_
      simp -dsimp [g2, cT, w64]
def zg2 (t : T) (l : List T) (u : Int) : Int :=
  if zi4 t l u = 0 then if (zgz t l u).sc then 6 else if 6000 < (zgz t l u).sz then 4 else if 200 < (zgz t l u).dp then 5 else 0 else zi4 t l u
def ze0 (t : T) (l : List T) (u : Int) : T := if zg2 t l u = 0 then mapT (zd7 l u) t 0 else zT
theorem zqv {t : T} {l : List T} {u : Int} (h : zi4 t l u = 0) : zab t = true ∧ (∀ x ∈ l, zab x = true) ∧ 0 ≤ u ∧ u ≤ 65535 := by
  rw [zi4] at h
  by_cases h1 : zaw t = 0
  · rw [if_pos h1] at h
    by_cases h2 : zse l = 0
    · rw [if_pos h2] at h
      refine ⟨zf5 h1, ?_, ?_⟩
      · clear h h1
        induction l with
        | nil => simp
        | cons x xs ih =>
          rw [zse] at h2
          by_cases h3 : zaw x = 0
          · rw [if_pos h3] at h2
            intro y hy
            rcases List.mem_cons.1 hy with rfl | hy
            · exact zf5 h3
            · exact ih h2 y hy
          · rw [if_neg h3] at h2; exact absurd h2 h3
      · by_cases h3 : u < 0 ∨ 65535 < u
        · rw [if_pos h3] at h; cases h
        · omega
    · rw [if_neg h2] at h; exact absurd h h2
  · rw [if_neg h1] at h; exact absurd h h1
theorem zO9 (t : T) (l : List T) (u : Int) (ht : zac t ≤ 549755813888) (hl : ∀ x ∈ l, zac x ≤ 549755813888) (hn : l.length ≤ 2097152) :
    Pure Tryz.prog znr [.agg (cT t), eTs l, .int .i64 u] [.agg (cT (ze0 t l u)), .int .i64 (zg2 t l u)] := by
  refine zB2 rfl fun hs => ?_
  simp -dsimp [znq, cT, eTs]
  refine zaa (zQj t l u ht hl hn) ?_
  by_cases h1 : zi4 t l u = 0
  · have hR : zuu t l u = jobD (l.map agOf) u (zgz t l u).sc (zgz t l u).sz (zgz t l u).dp := by rw [zuu, if_pos h1]
    obtain ⟨f1, f2, f3⟩ := zqv h1
    have hE : zg2 t l u = if (zgz t l u).sc then 6 else if 6000 < (zgz t l u).sz then 4 else if 200 < (zgz t l u).dp then 5 else 0 := by rw [zg2, if_pos h1]
    generalize zgz t l u = st at hR hE
    obtain ⟨sc, sz, dp⟩ := st
    have bad : zg2 t l u ≠ 0 → ze0 t l u = zT := fun h => by rw [ze0, if_neg h]
    rw [hR, h1]
    cases sc with
    | true =>
      have hE1 : zg2 t l u = 6 := by rw [hE]; rfl
      have hT := bad (by omega)
      simp -dsimp [jobD, hE1, hT, zT, cT]
    | false =>
      simp -dsimp [jobD]
      (first | refine zal ?_ ?_ | refine zak ?_ ?_) <;> intro h2 <;> (try simp only [nrm] at h2) <;> simp -dsimp [h2]
      · have hE1 : zg2 t l u = 4 := by rw [hE]; simp [h2]
        have hT := bad (by omega)
        simp -dsimp [hE1, hT, zT, cT]
      (first | refine zal ?_ ?_ | refine zak ?_ ?_) <;> intro h3 <;> (try simp only [nrm] at h3) <;> simp -dsimp [h3, h2]
      · have hE1 : zg2 t l u = 5 := by rw [hE]; simp [h2, h3]
        have hT := bad (by omega)
        simp -dsimp [hE1, hT, zT, cT]
      have hE1 : zg2 t l u = 0 := by rw [hE]; simp [h2, h3]
      have hT : ze0 t l u = mapT (zd7 l u) t 0 := by rw [ze0, if_pos hE1]
      rw [hE1, hT]
      have hmap := zLc (zd7 l u) zim [.rp [jobD (l.map agOf) u false sz dp], .rp [.int .i64 u], .rp [eTs l]] (fun n b a1 a2 a3 a4 => zLz l u false sz dp f3 (fun x hx => ⟨f2 x hx, hl x hx⟩) n b a1 a2 a3 a4) t 0 f1 (by omega) (show (0 : Int) + zac t ≤ 1099511627776 by omega)
      have hj : jobD (l.map agOf) u false sz dp = .rp [.sl 6 (l.map (eAg ∘ agOf)), .int .i64 u, .bool false, .int .i64 sz, .int .i64 dp] := by simp [jobD]
      rw [hj] at hmap
      refine zaa hmap ?_
      simp -dsimp [h2, h3, cT]
  · have hR : zuu t l u = .nilp := by rw [zuu, if_neg h1]
    have hE : zg2 t l u = zi4 t l u := by rw [zg2, if_neg h1]
    have hT : ze0 t l u = zT := by rw [ze0, hE, if_neg h1]
    rw [hR, hE, hT]
    simp -dsimp [h1, zT, cT]
theorem zJm (a b : Int) : mn a b = min a b := by rw [mn]; split <;> omega
theorem zAw (f : Int → Int → T) (k b : Int) (g : T → Nat) : ∀ (l : List T) (i : Nat), (∀ x ∈ l, ∀ c, g (mapT f x c) = g x) → (mapL f k b i l).map g = l.map g
  | [], i, _ => by simp [mapL]
  | x :: xs, i, h => by
    simp only [mapL, List.map_cons]
    rw [h x (by simp) _, zAw f k b g xs (i + 1) fun y hy => h y (by simp [hy])]
theorem zpf (f : Int → Int → T) (hf : ∀ n b, zac (f n b) = 1) (t : T) : zab t = true → ∀ b, zac (mapT f t b) = zac t := by
  refine T.ind (p := fun t => zab t = true → ∀ b, zac (mapT f t b) = zac t) ?_ t
  intro k n ks ih hfm b
  rw [mapT]
  by_cases h1 : k = 1
  · rw [if_pos h1, hf, zku h1 hfm, zaq]
  · rw [if_neg h1, zac, zac, zAw f k b zac ks 0 fun x hx c => ih x hx (zbo hfm x hx) c]
theorem ztu (f : Int → Int → T) (hf : ∀ n b, za5 (f n b) = 1) (t : T) : zab t = true → ∀ b, za5 (mapT f t b) = za5 t := by
  refine T.ind (p := fun t => zab t = true → ∀ b, za5 (mapT f t b) = za5 t) ?_ t
  intro k n ks ih hfm b
  rw [mapT]
  by_cases h1 : k = 1
  · rw [if_pos h1, hf, zku h1 hfm, zen]
  · rw [if_neg h1, za5, za5, zAw f k b za5 ks 0 fun x hx c => ih x hx (zbo hfm x hx) c]
theorem zEd {a : T} (h : zab a = true) (y : Int) : zac (zm7 y a) = zac a := zpf _ (fun _ _ => zaq _ _) a h 0
theorem zwy {a : T} (h : zab a = true) (y : Int) : za5 (zm7 y a) = za5 a := ztu _ (fun _ _ => zen _ _) a h 0
def zNk (a : T) (c : Int) : Bool := decide (0 ≤ zfv a 0) && decide (65535 < zfv a 0 + c)
mutual
def scI (l : List T) (u : Int) : T → Int → Bool
  | .mk k n ks, b => if k = 1 then (match (if 0 ≤ zdd l.length u n b then l[(zdd l.length u n b).toNat]? else none) with | some a => zNk a (u + b) | none => false) else scL l u k b 0 ks
def scL (l : List T) (u k b : Int) : Nat → List T → Bool
  | _, [] => false
  | i, x :: xs => scI l u x (b + zai k i) || scL l u k b (i + 1) xs
end
theorem zJf (t : T) : zab t = true → ∀ b, -1 ≤ zfv t b ∧ zfv t b ≤ 65535 := by
  refine T.ind (p := fun t => zab t = true → ∀ b, -1 ≤ zfv t b ∧ zfv t b ≤ 65535) ?_ t
  intro k n ks ih hfm b
  rw [zfv]
  have h0 : -1 ≤ (if k = 1 ∧ b ≤ n then n else -1) ∧ (if k = 1 ∧ b ≤ n then n else -1) ≤ 65535 := by
    split
    · rename_i h
      have := zdh h.1 hfm
      omega
    · omega
  have hk := zbo hfm
  generalize (if k = 1 ∧ b ≤ n then n else -1) = a at h0
  have go : ∀ (l : List T) (i : Nat) (a : Int), (∀ x ∈ l, zab x = true → ∀ b, -1 ≤ zfv x b ∧ zfv x b ≤ 65535) → (∀ x ∈ l, zab x = true) → -1 ≤ a ∧ a ≤ 65535 → -1 ≤ zko k b i a l ∧ zko k b i a l ≤ 65535 := by
    intro l
    induction l with
    | nil => intro i a _ _ h; simpa [zko] using h
    | cons x xs ihx =>
      intro i a h1 h2 h3
      rw [zko]
      have hx := h1 x (by simp) (h2 x (by simp)) (b + zai k i)
      refine ihx (i + 1) _ (fun y hy => h1 y (by simp [hy])) (fun y hy => h2 y (by simp [hy])) ?_
      rw [zwc]
      omega
  exact go ks 0 a ih hk h0
theorem zG7 (l : List T) (u : Int) (hl : ∀ x ∈ l, zab x = true ∧ zac x ≤ 1048576) (t : T) : ∀ b, za5 (mapT (zd7 l u) t b) ≤ za5 t + 1048576 := by
  refine T.ind (p := fun t => ∀ b, za5 (mapT (zd7 l u) t b) ≤ za5 t + 1048576) ?_ t
  intro k n ks ih b
  rw [mapT]
  by_cases h1 : k = 1
  · rw [if_pos h1, zd7]
    have hz : za5 zT = 1 := zen 0 0
    split
    · split
      · rename_i a ha
        obtain ⟨h2, h3⟩ := hl a (List.mem_of_getElem? ha)
        rw [zwy h2]
        have := zo9 a
        omega
      · rw [hz]; omega
    · rw [zen]; omega
  · rw [if_neg h1, za5, za5]
    have go : ∀ (xs : List T) (i : Nat), (∀ x ∈ xs, x ∈ ks) → dmax ((mapL (zd7 l u) k b i xs).map za5) ≤ dmax (xs.map za5) + 1048576 := by
      intro xs
      induction xs with
      | nil => intro i _; simp [mapL, dmax]
      | cons x xs ihx =>
        intro i hm
        have h2 := ih x (hm x (by simp)) (b + zai k i)
        have h3 := ihx (i + 1) fun y hy => hm y (by simp [hy])
        simp only [mapL, List.map_cons, dmax, List.foldr_cons] at h3 ⊢
        omega
    have := go ks 0 fun x hx => hx
    omega
theorem zQm (l : List T) (u : Int) (hu : 0 ≤ u ∧ u ≤ 65535) (hl : ∀ x ∈ l, zab x = true ∧ zac x ≤ 1048576) (t : T) : ∀ (b d : Int) (st : St3), zab t = true → 0 ≤ b → b + zac t ≤ 2097152 → 0 ≤ d → d + zac t ≤ 2097152 →
    0 ≤ st.sz → st.sz ≤ zhb → 0 ≤ st.dp → st.dp ≤ 1099511627776 →
    zm1 (l.map agOf) u t b d st = ⟨st.sc || scI l u t b, min (st.sz + zac (mapT (zd7 l u) t b)) zhb, max st.dp (d + za5 (mapT (zd7 l u) t b))⟩ := by
  refine T.ind (p := fun t => ∀ (b d : Int) (st : St3), zab t = true → 0 ≤ b → b + zac t ≤ 2097152 → 0 ≤ d → d + zac t ≤ 2097152 →
    0 ≤ st.sz → st.sz ≤ zhb → 0 ≤ st.dp → st.dp ≤ 1099511627776 →
    zm1 (l.map agOf) u t b d st = ⟨st.sc || scI l u t b, min (st.sz + zac (mapT (zd7 l u) t b)) zhb, max st.dp (d + za5 (mapT (zd7 l u) t b))⟩) ?_ t
  intro k n ks ih b d st hfm hb0 hb hd0 hd hs0 hs1 hp0 hp1
  have hM : zhb = 1099511627776 := rfl
  have hn1 : 1 ≤ zac (.mk k n ks) := by rw [zac]; omega
  by_cases h1 : k = 1
  · have hks := zku h1 hfm
    have hn := zdh h1 hfm
    subst h1 hks
    rw [zm1, if_pos rfl, scI, if_pos rfl, mapT, if_pos rfl, zd7, List.length_map]
    by_cases hW : 0 ≤ zdd l.length u n b
    · have hlt : (zdd l.length u n b).toNat < l.length := by
        have h2 := hW
        rw [zdd] at h2 ⊢
        split at h2
        · omega
        · rename_i h3
          rw [if_neg h3]
          omega
      have hx := hl _ (List.getElem_mem hlt)
      generalize hw : (zdd l.length u n b).toNat = m at hlt hx
      have hfr := zJf l[m] hx.1 0
      rw [if_pos hW, if_pos hW, if_pos hW, List.getElem?_map, List.getElem?_eq_getElem hlt]
      simp only [Option.map_some, agOf]
      rw [zAl _ (by omega), zva _ (by omega), zEd hx.1, zwy hx.1]
      have hdl := zo9 l[m]
      rw [zb7 (n := st.sz + _) (by omega) (by omega), zb7 (n := d + _) (by omega) (by omega), zJm, zwc, hM, zb7 (n := zfv l[m] 0 + u) (by omega) (by omega), zb7 (n := zfv l[m] 0 + u + b) (by omega) (by omega)]
      congr 1
      rw [zNk]
      have e : zfv l[m] 0 + u + b = zfv l[m] 0 + (u + b) := by omega
      rw [e]
      cases st.sc
      · by_cases h4 : 0 ≤ zfv l[m] 0 <;> simp [h4]
      · simp
    · rw [if_neg hW, if_neg hW, if_neg hW]
      simp only [zaq, zen]
      rw [zb7 (by omega) (by omega), zb7 (by omega) (by omega), zJm, zwc, hM]
      simp
  · have hkf := zbo hfm
    rw [zm1, if_neg h1, scI, if_neg h1, mapT, if_neg h1, zac, za5]
    have hnn : zac (.mk k n ks) = (ks.map zac).sum + 1 := by rw [zac]
    have go : ∀ (xs : List T) (i : Nat) (st : St3), (∀ x ∈ xs, x ∈ ks) → 0 ≤ st.sz → st.sz ≤ zhb → d + 1 ≤ st.dp → st.dp ≤ 1099511627776 →
        zox (l.map agOf) u k b d i st xs = ⟨st.sc || scL l u k b i xs, min (st.sz + ((mapL (zd7 l u) k b i xs).map zac).sum) zhb, max st.dp (d + 1 + dmax ((mapL (zd7 l u) k b i xs).map za5))⟩ := by
      intro xs
      induction xs with
      | nil =>
        intro i st _ a0 a1 a2 a3
        simp only [zox, scL, mapL, List.map_nil, List.sum_nil, dmax, List.foldr_nil]
        obtain ⟨sc, sz, dp⟩ := st
        simp only [Bool.or_false, St3.mk.injEq, true_and]
        simp only at a0 a1 a2 a3
        omega
      | cons x xs ihx =>
        intro i st hmem a0 a1 a2 a3
        have hxk := hmem x (by simp)
        have hxn := zcx (k := k) (n := n) hxk
        have hbl := zdk k i
        rw [zox, zb7 (n := d + 1) (by omega) (by omega), ih x hxk (b + zai k i) (d + 1) st (hkf x hxk) (by omega) (by omega) (by omega) (by omega) a0 a1 (by omega) a3]
        have hdx := zo9 x
        rw [ihx (i + 1) _ (fun y hy => hmem y (by simp [hy])) (by simp only; omega) (by simp only; omega) (by simp only; omega) ?_]
        · simp only [scL, mapL, List.map_cons, List.sum_cons, dmax, List.foldr_cons, Bool.or_assoc, St3.mk.injEq, true_and]
          omega
        · simp only
          have := zG7 l u hl x (b + zai k i)
          omega
    have hg := go ks 0 ⟨st.sc, mn (w64 (st.sz + 1)) zhb, mx st.dp (w64 (d + 1))⟩ (fun x hx => hx) (by simp only; rw [zb7 (by omega) (by omega), zJm]; omega) (by simp only; rw [zJm]; omega) (by simp only; rw [zb7 (by omega) (by omega), zwc]; omega)
      (by simp only; rw [zb7 (by omega) (by omega), zwc]; omega)
    rw [hg]
    simp only [St3.mk.injEq, true_and]
    rw [zb7 (n := st.sz + 1) (by omega) (by omega), zb7 (n := d + 1) (by omega) (by omega), zJm, zwc]
    omega
theorem zwk {t : T} {l : List T} {u : Int} (h : zi4 t l u = 0) (ht : zac t ≤ 1048576) (hl : ∀ x ∈ l, zac x ≤ 1048576) :
    zgz t l u = ⟨scI l u t 0, min (zac (mapT (zd7 l u) t 0) : Int) zhb, za5 (mapT (zd7 l u) t 0)⟩ := by
  obtain ⟨f1, f2, f3⟩ := zqv h
  rw [zgz, zQm l u f3 (fun x hx => ⟨f2 x hx, hl x hx⟩) t 0 0 st0 f1 (by omega) (by omega) (by omega) (by omega) (by simp [st0]) (by simp [st0, zhb]) (by simp [st0]) (by simp [st0])]
  simp only [st0, Bool.false_or, St3.mk.injEq, true_and]
  omega
theorem zFy {t : T} {l : List T} {u : Int} (ht : zac t ≤ 1048576) (hl : ∀ x ∈ l, zac x ≤ 1048576) :
    zg2 t l u = 0 ↔ zi4 t l u = 0 ∧ scI l u t 0 = false ∧ zac (mapT (zd7 l u) t 0) ≤ 6000 ∧ za5 (mapT (zd7 l u) t 0) ≤ 200 := by
  have hM : zhb = 1099511627776 := rfl
  rw [zg2]
  by_cases h : zi4 t l u = 0
  · rw [if_pos h, zwk h ht hl]
    simp only
    cases scI l u t 0 with
    | true => simp
    | false =>
      simp only [Bool.false_eq_true, if_false, true_and, h]
      by_cases h1 : (6000 : Int) < min (zac (mapT (zd7 l u) t 0) : Int) zhb
      · rw [if_pos h1]
        constructor
        · intro h; cases h
        · omega
      · rw [if_neg h1]
        by_cases h2 : (200 : Int) < za5 (mapT (zd7 l u) t 0)
        · rw [if_pos h2]
          constructor
          · intro h; cases h
          · omega
        · rw [if_neg h2]
          constructor
          · intro _; omega
          · intro _; rfl
  · rw [if_neg h]
    constructor
    · intro h'; exact absurd h' h
    · rintro ⟨h', _⟩; exact absurd h' h
theorem zvx {t : T} {l : List T} {u : Int} (h : zg2 t l u = 0) : ze0 t l u = mapT (zd7 l u) t 0 := by rw [ze0, if_pos h]
theorem zC2 (t : T) (l : List T) (u : Int) : zi4 t l u = 0 ↔ zaw t = 0 ∧ (∀ x ∈ l, zaw x = 0) ∧ 0 ≤ u ∧ u ≤ 65535 := by
  have ha : zse l = 0 ↔ ∀ x ∈ l, zaw x = 0 := by
    induction l with
    | nil => simp [zse]
    | cons x xs ih =>
      rw [zse]
      by_cases h : zaw x = 0
      · simp [h, ih]
      · simp [h]
  rw [zi4, ← ha]
  by_cases h1 : zaw t = 0
  · rw [if_pos h1]
    by_cases h2 : zse l = 0
    · rw [if_pos h2]
      by_cases h3 : u < 0 ∨ 65535 < u
      · rw [if_pos h3]
        constructor
        · intro h; cases h
        · omega
      · rw [if_neg h3]
        constructor
        · intro _; exact ⟨h1, h2, by omega⟩
        · intro _; rfl
    · rw [if_neg h2]
      constructor
      · intro h; exact absurd h h2
      · intro h; exact absurd h.2.1 h2
  · rw [if_neg h1]
    constructor
    · intro h; exact absurd h h1
    · intro h; exact absurd h.1 h1
theorem zO4 (l : List T) (u k b : Int) : ∀ (xs : List T) (i j : Nat) (h : j < xs.length), scL l u k b i xs = false → scI l u xs[j] (b + zai k (i + j : Nat)) = false
  | x :: xs, i, 0, h, hs => by
    rw [scL, Bool.or_eq_false_iff] at hs
    simpa using hs.1
  | x :: xs, i, j + 1, h, hs => by
    rw [scL, Bool.or_eq_false_iff] at hs
    have := zO4 l u k b xs (i + 1) j (by simpa using h) hs.2
    simp only [List.getElem_cons_succ]
    rw [show i + (j + 1) = i + 1 + j by omega]
    exact this
theorem map_map (f g h : Int → Int → T) (e : Int) (hv : ∀ n b : Int, 0 ≤ n → n ≤ 65535 → 0 ≤ b → b ≤ 4194304 → mapT f (g n b) (b + e) = h n b) (t : T) : ∀ b : Int, zab t = true → 0 ≤ b → b + zac t ≤ 4194304 → mapT f (mapT g t b) (b + e) = mapT h t b := by
  refine T.ind (p := fun t => ∀ b : Int, zab t = true → 0 ≤ b → b + zac t ≤ 4194304 → mapT f (mapT g t b) (b + e) = mapT h t b) ?_ t
  intro k n ks ih b hfm h0 hb
  rw [mapT, mapT]
  by_cases h1 : k = 1
  · have hn := zdh h1 hfm
    rw [if_pos h1, if_pos h1, hv n b hn.1 hn.2 h0 (by omega)]
  · rw [if_neg h1, if_neg h1, mapT, if_neg h1]
    congr 1
    have go : ∀ (xs : List T) (i : Nat), (∀ x ∈ xs, x ∈ ks) → mapL f k (b + e) i (mapL g k b i xs) = mapL h k b i xs := by
      intro xs
      induction xs with
      | nil => intro i _; simp [mapL]
      | cons x xs ihx =>
        intro i hm
        have hx := hm x (by simp)
        have hxn := zcx (k := k) (n := n) hx
        have hbl := zdk k i
        have e1 : b + e + zai k i = b + zai k i + e := by omega
        rw [mapL, mapL, mapL, e1, ih x hx _ (zbo hfm x hx) (by omega) (by omega), ihx (i + 1) fun y hy => hm y (by simp [hy])]
    exact go ks 0 fun x hx => hx
def mv (y : Int) (n b : Int) : T := .mk 1 (if b ≤ n then w64 (n + y) else n) []
theorem zFn (y : Int) (t : T) : zm7 y t = mapT (mv y) t 0 := rfl
theorem zTo {y n b : Int} (h : n < b) : mv y n b = .mk 1 n [] := by rw [mv, if_neg (by omega)]
theorem mv_hi {y n b : Int} (h : b ≤ n) (hn : 0 ≤ n) (hn' : n ≤ 10000000) (hy : 0 ≤ y) (hy' : y ≤ 10000000) : mv y n b = .mk 1 (n + y) [] := by rw [mv, if_pos h, zb7 (by omega) (by omega)]
theorem zq7 {f : Int → Int → T} {k n b : Int} {ks : List T} (h1 : k ≠ 1) (hfm : zab (.mk k n ks) = true) (h : ∀ (j : Nat) (hj : j < ks.length), zab (mapT f ks[j] (b + zai k j)) = true) : zab (.mk k n (mapL f k b 0 ks)) = true := by
  have ha : (mapL f k b 0 ks).all zab = true := by
    rw [List.all_eq_true]
    intro x hx
    obtain ⟨j, hj, rfl⟩ := List.mem_iff_getElem.1 hx
    rw [zjn] at hj
    rw [zo7 f k b ks 0 j hj, Nat.zero_add]
    exact h j hj
  rw [zaz] at hfm ⊢
  rw [zjn, ha]
  split at hfm
  · rename_i c1
    rw [if_pos c1]
    split at hfm
    · rename_i c2
      rw [if_pos c2]
      rw [Bool.and_eq_true] at hfm
      rw [hfm.1]; rfl
    · rename_i c2
      rw [if_neg c2]
      split at hfm
      · rename_i c3; rw [if_pos c3]
      · cases hfm
  · cases hfm
theorem zbm {n : Int} (h : 0 ≤ n ∧ n ≤ 65535) : zab (.mk 1 n []) = true := by simp [zaz, zdy, (zdw n 0 65535).2 h]
theorem zAk (k b : Int) : ∀ (xs : List T) (i : Nat) (a : Int), a ≤ zko k b i a xs ∧ ∀ (j : Nat) (hj : j < xs.length), zfv xs[j] (b + zai k (i + j : Nat)) ≤ zko k b i a xs
  | [], i, a => ⟨by rw [zko]; omega, fun j hj => by simp at hj⟩
  | x :: xs, i, a => by
    obtain ⟨h1, h2⟩ := zAk k b xs (i + 1) (mx a (zfv x (b + zai k i)))
    rw [zwc] at h1
    rw [zko]
    refine ⟨by rw [zwc] at *; omega, fun j hj => ?_⟩
    cases j with
    | zero => simp only [List.getElem_cons_zero, Nat.add_zero]; rw [zwc] at *; omega
    | succ j =>
      have := h2 j (by simpa using hj)
      simp only [List.getElem_cons_succ]
      rw [show i + (j + 1) = i + 1 + j by omega]
      exact this
theorem zCp (t : T) : ∀ (b y F : Int), zab t = true → 0 ≤ y → y ≤ 10000000 → zfv t b ≤ F → (F < 0 ∨ F + y ≤ 65535) → 0 ≤ b → zab (mapT (mv y) t b) = true := by
  refine T.ind (p := fun t => ∀ (b y F : Int), zab t = true → 0 ≤ y → y ≤ 10000000 → zfv t b ≤ F → (F < 0 ∨ F + y ≤ 65535) → 0 ≤ b → zab (mapT (mv y) t b) = true) ?_ t
  intro k n ks ih b y F hfm hy0 hy1 hF hFy hb
  rw [zfv] at hF
  rw [mapT]
  by_cases h1 : k = 1
  · have hn := zdh h1 hfm
    rw [if_pos h1]
    by_cases c : b ≤ n
    · rw [mv_hi c hn.1 (by omega) hy0 hy1]
      have := (zAk k b ks 0 (if k = 1 ∧ b ≤ n then n else -1)).1
      rw [if_pos ⟨h1, c⟩] at this hF
      exact zbm (by omega)
    · rw [zTo (by omega)]
      exact zbm hn
  · rw [if_neg h1]
    refine zq7 h1 hfm fun j hj => ?_
    have h2 := (zAk k b ks 0 (if k = 1 ∧ b ≤ n then n else -1)).2 j hj
    rw [Nat.zero_add] at h2
    have hbl := zdk k j
    exact ih ks[j] (List.getElem_mem _) _ y F (zbo hfm _ (List.getElem_mem _)) hy0 hy1 (by omega) hFy (by omega)
theorem zDx (l : List T) (u : Int) (hu : 0 ≤ u ∧ u ≤ 65535) (hl : ∀ x ∈ l, zab x = true) (t : T) : ∀ b : Int, zab t = true → 0 ≤ b → b + zac t ≤ 2097152 → scI l u t b = false → zab (mapT (zd7 l u) t b) = true := by
  refine T.ind (p := fun t => ∀ b : Int, zab t = true → 0 ≤ b → b + zac t ≤ 2097152 → scI l u t b = false → zab (mapT (zd7 l u) t b) = true) ?_ t
  intro k n ks ih b hfm h0 hb hsc
  rw [mapT]
  rw [scI] at hsc
  by_cases h1 : k = 1
  · have hn := zdh h1 hfm
    rw [if_pos h1] at hsc ⊢
    rw [zd7]
    by_cases hW : 0 ≤ zdd l.length u n b
    · have hlt : (zdd l.length u n b).toNat < l.length := by
        have h2 := hW
        rw [zdd] at h2 ⊢
        split at h2
        · omega
        · rename_i h3
          rw [if_neg h3]
          omega
      generalize (zdd l.length u n b).toNat = m at hlt hsc
      rw [if_pos hW, List.getElem?_eq_getElem hlt] at hsc ⊢
      have hx := hl _ (List.getElem_mem hlt)
      have hfr := zJf l[m] hx 0
      simp only [zNk, Bool.and_eq_false_iff, decide_eq_false_iff_not] at hsc
      show zab (zm7 (w64 (u + b)) l[m]) = true
      rw [zb7 (by omega) (by omega), zFn]
      exact zCp l[m] 0 (u + b) (zfv l[m] 0) hx (by omega) (by omega) (Int.le_refl _) (by omega) (by omega)
    · rw [if_neg hW]
      have h2 := hW
      rw [zdd] at h2
      by_cases c : u + b ≤ n
      · rw [if_pos c]
        have : (l.length : Int) ≤ n - (u + b) := by
          split at h2
          · rename_i h3; omega
          · omega
        rw [zb7 (by omega) (by omega)]
        exact zbm (by omega)
      · rw [if_neg c]
        exact zbm hn
  · rw [if_neg h1] at hsc ⊢
    refine zq7 h1 hfm fun j hj => ?_
    have hxn := zcx (k := k) (n := n) (List.getElem_mem hj)
    have hbl := zdk k j
    have h2 := zO4 l u k b ks 0 j hj hsc
    rw [Nat.zero_add] at h2
    exact ih ks[j] (List.getElem_mem _) _ (zbo hfm _ (List.getElem_mem _)) (by omega) (by omega) h2
theorem zym {t : T} {l : List T} {u : Int} (ht : zac t ≤ 1048576) (hl : ∀ x ∈ l, zac x ≤ 1048576) (h : zg2 t l u = 0) : zaw (ze0 t l u) = 0 ∧ zac (ze0 t l u) ≤ 6000 ∧ zab (ze0 t l u) = true := by
  obtain ⟨h1, h2, h3, h4⟩ := (zFy ht hl).1 h
  obtain ⟨f1, f2, f3⟩ := zqv h1
  rw [zvx h]
  have hf := zDx l u f3 f2 t 0 f1 (by omega) (by omega) h2
  exact ⟨(zn5 (by omega)).2 ⟨h3, h4, hf⟩, h3, hf⟩
end
section
section
attribute [local simp] zae zaf tk tn tks zb1 zcb
theorem zE9 (n : Int) : Pure Tryz.prog zjp [.int .i64 n] [.bool (decide (0 ≤ n) && decide (n ≤ 6))] := by
  refine zz4 rfl fun hs => ?_
  simp -dsimp [zl3]
  (first | refine zal ?_ ?_ | refine zak ?_ ?_) <;> intro h <;> (try simp only [nrm] at h) <;> simp -dsimp [h]
def zir (base ahead k many : Int) : Int := if base < 0 ∨ 65535 < base ∨ k < 0 ∨ many ≤ k then -1 else w64 (w64 (base + ahead) + k)
theorem zvi (a b c d : Int) : Pure Tryz.prog zfp [.int .i64 a, .int .i64 b, .int .i64 c, .int .i64 d] [.int .i64 (zir a b c d)] := by
  refine zz0 rfl fun hs => ?_
  simp -dsimp [zmk]
  (first | refine zal ?_ ?_ | refine zak ?_ ?_) <;> intro h1 <;> (try simp only [nrm] at h1) <;> simp -dsimp [h1, zir, w64]
  (first | refine zal ?_ ?_ | refine zak ?_ ?_) <;> intro h2 <;> (try simp only [nrm] at h2) <;> simp -dsimp [h2, h1, zir, w64]
  (first | refine zal ?_ ?_ | refine zak ?_ ?_) <;> intro h3 <;> (try simp only [nrm] at h3) <;> simp -dsimp [h3, h1, h2, zir, w64]
  (first | refine zal ?_ ?_ | refine zak ?_ ?_) <;> intro h4 <;> (try simp only [nrm] at h4) <;> simp -dsimp [h4, h1, h2, h3, zir, w64]
def decs (l : List So) : Nat := (l.filter (·.dec)).length
theorem zwl (l : List So) (i : Nat) (x : So) (h : l[i]? = some x) : decs (l.take (i + 1)) = decs (l.take i) + if x.dec then 1 else 0 := by
  simp only [decs, List.take_add_one, h]
  cases hd : x.dec <;> simp -dsimp [hd]
theorem zfu (l : List So) : decs l ≤ l.length := List.length_filter_le _ _
theorem zzp (b : Bl) (k : Int) (h0 : 0 ≤ k) (hk : k ≤ b.sorts.length) : Pure Tryz.prog zgx [eBl b, .int .i64 k] [.int .i64 (decs (b.sorts.take k.toNat))] := by
  refine zBu rfl fun hs => ?_
  have hb : b.sorts.length ≤ 9223372036854775807 := by
    have := hs (eBl b) (by simp)
    simp -dsimp [eBl, cBl, eSos, small] at this
    exact this.1.1
  obtain ⟨m, rfl⟩ : ∃ m : Nat, k = m := ⟨k.toNat, by omega⟩
  have hm : m ≤ b.sorts.length := by omega
  simp -dsimp [zn3, eBl, cBl, eSos, eCos, h0, hk]
  refine zam m (fun i st => st.s 11 = .d (.sl 6 ((b.sorts.take m).map eSo)) ∧ st.s 12 = .d (.int .i64 m) ∧ st.s 13 = .d (.int .i64 i) ∧ st.s 5 = .d (.int .i64 (decs (b.sorts.take i)))) ?_ ?_
  · simp -dsimp [decs, hm]
  · rintro i ⟨s, hp⟩ hi ⟨h1, h2, h3, h4⟩
    dsimp only at h1 h2 h3 h4
    rcases Nat.lt_or_ge i m with hlt | hge
    · obtain ⟨x, hx⟩ : ∃ x, b.sorts[i]? = some x := ⟨_, List.getElem?_eq_getElem (by omega)⟩
      have hx' : (b.sorts.take m)[i]? = some x := by rw [List.getElem?_take_of_lt hlt, hx]
      simp -dsimp [h1, h2, h3, h4, hlt, hx, hx', eSo, cSo, cT, eArs]
      have hd := zfu (b.sorts.take i)
      rw [List.length_take] at hd
      have w1 : IntKind.i64.wrap ((i : Int) + 1) = (i : Int) + 1 := zad (by omega) (by omega)
      have w2 : IntKind.i64.wrap ((decs (b.sorts.take i) : Int) + 1) = (decs (b.sorts.take i) : Int) + 1 := zad (by omega) (by omega)
      cases hxd : x.dec <;> simp -dsimp [hxd, hlt, h1, h2, h3, h4, w1, w2, zwl _ _ _ hx]
    · have e : i = m := by omega
      subst e
      simp -dsimp [h1, h2, h3, h4]
def zlb (b : Bl) : Int := w64 (w64 (w64 (2 * b.sorts.length) + decs b.sorts) + b.cons.length)
theorem zL3 (b : Bl) : Pure Tryz.prog zl2 [eBl b] [.int .i64 (zlb b)] := by
  refine zA5 rfl fun hs => ?_
  simp -dsimp [zm6, eBl, cBl, eSos, eCos]
  refine zaa (zzp b b.sorts.length (by omega) (by omega)) ?_
  simp -dsimp [zlb, w64]
def zbe (b : Bl) (base k : Int) : Int := zir base 0 k b.sorts.length
theorem zrx (b : Bl) (base k : Int) : Pure Tryz.prog zcj [eBl b, .int .i64 base, .int .i64 k] [.int .i64 (zbe b base k)] := by
  refine zx0 rfl fun hs => ?_
  simp -dsimp [zkz, eBl, cBl, eSos, eCos]
  refine zaa (zvi _ _ _ _) ?_
  simp -dsimp [zbe]
def zdf (b : Bl) (base k : Int) : Int :=
  if k < 0 then -1 else match b.sorts[k.toNat]? with
    | none => -1
    | some s => if s.dec then zir base b.sorts.length (decs (b.sorts.take k.toNat)) b.sorts.length else -1
theorem zG5 (b : Bl) (base k : Int) : Pure Tryz.prog zd3 [eBl b, .int .i64 base, .int .i64 k] [.int .i64 (zdf b base k)] := by
  refine zwf rfl fun hs => ?_
  simp -dsimp [zjz, eBl, cBl, eSos, eCos]
  (first | refine zal ?_ ?_ | refine zak ?_ ?_) <;> intro h1 <;> (try simp only [nrm] at h1) <;> simp -dsimp [h1, zdf]
  (first | refine zal ?_ ?_ | refine zak ?_ ?_) <;> intro h2 <;> (try simp only [nrm] at h2) <;> simp -dsimp [h2, h1, zdf]
  · have : b.sorts[k.toNat]? = none := List.getElem?_eq_none (by omega)
    simp -dsimp [this]
  · obtain ⟨s, hs⟩ : ∃ s, b.sorts[k.toNat]? = some s := ⟨_, List.getElem?_eq_getElem (by omega)⟩
    have h3 : 0 ≤ k := by omega
    simp -dsimp [hs, h1, h2, h3, eSo, cSo, cT, eArs]
    (first | refine zal ?_ ?_ | refine zak ?_ ?_) <;> intro h4 <;> (try simp only [nrm] at h4) <;> simp -dsimp [h4, hs, h1, h2, h3, zdf]
    · 
      refine zaa (zzp b k (by omega) (by omega)) ?_
      simp -dsimp
      refine zaa (zvi _ _ _ _) ?_
      simp -dsimp [zdf, h1, h4, hs]
def zao (b : Bl) (base k : Int) : Int := zir base (w64 (b.sorts.length + decs b.sorts)) k b.cons.length
theorem zp6 (b : Bl) (base k : Int) : Pure Tryz.prog zbs [eBl b, .int .i64 base, .int .i64 k] [.int .i64 (zao b base k)] := by
  refine zq5 rfl fun hs => ?_
  simp -dsimp [zgo, eBl, cBl, eSos, eCos]
  refine zaa (zzp b b.sorts.length (by omega) (by omega)) ?_
  simp -dsimp
  refine zaa (zvi _ _ _ _) ?_
  simp -dsimp [zao, w64]
def za7 (b : Bl) (base k : Int) : Int := zir base (w64 (w64 (b.sorts.length + decs b.sorts) + b.cons.length)) k b.sorts.length
theorem zrw (b : Bl) (base k : Int) : Pure Tryz.prog zb8 [eBl b, .int .i64 base, .int .i64 k] [.int .i64 (za7 b base k)] := by
  refine zsr rfl fun hs => ?_
  simp -dsimp [zhj, eBl, cBl, eSos, eCos]
  refine zaa (zzp b b.sorts.length (by omega) (by omega)) ?_
  simp -dsimp
  refine zaa (zvi _ _ _ _) ?_
  simp -dsimp [za7, w64]
end
section
attribute [local simp] zae zaf tk tn tks zb1 zcb
theorem zrl (t : T) : Pure Tryz.prog zbd [.sl 3 [.agg (cT t)]] [.bool (zfj [t])] := by
  have h := zo5 [t]
  simp only [eTs, List.map_cons, List.map_nil, zcr] at h
  exact h
theorem zAq {α : Type} {p : α → Bool} {l : List α} {i : Nat} (hlt : i < l.length) (h : (l.take i).any p = false) (hx : p l[i] = false) : (l.take (i + 1)).any p = false := by
  rw [zd1 (List.getElem?_eq_getElem hlt), List.any_append, h]
  simp [hx]
theorem zwj {α : Type} {p : α → Bool} {l : List α} {i : Nat} (hlt : i < l.length) (hx : p l[i] = true) : l.any p = true := List.any_eq_true.2 ⟨l[i], List.getElem_mem _, hx⟩
def pArg (a : Ar) : Bool := zfj [a.ty] || zfj a.dom || zfj a.idx
def zg7 (l : List Ar) : Bool := decide ((20 : Int) < (l.length : Int)) || l.any pArg
theorem zug (l : List Ar) : Pure Tryz.prog zc2 [eArs l] [.bool (zg7 l)] := by
  refine zmg rfl fun hs => ?_
  simp -dsimp [zec, eArs]
  (first | refine zal ?_ ?_ | refine zak ?_ ?_) <;> intro h1 <;> (try simp only [nrm] at h1) <;> simp -dsimp [h1, zg7]
  have hl : l.length ≤ 20 := by omega
  refine zam l.length (fun i st => st.s 0 = .d (.sl 7 (l.map eAr)) ∧ st.s 3 = .d (.int .i64 i) ∧ (l.take i).any pArg = false) ?_ ?_
  · simp -dsimp
  · rintro i ⟨s, hp⟩ hi ⟨h2, h3, h5⟩
    dsimp only at h2 h3 h5
    rcases Nat.lt_or_ge i l.length with hlt | hge
    · have w1 : IntKind.i64.wrap ((i : Int) + 1) = (i : Int) + 1 := zad (by omega) (by omega)
      have ht : ∀ b, pArg l[i] = b → zfj [l[i].ty] = true ∨ zfj l[i].dom = true ∨ zfj l[i].idx = true → b = true := by
        rintro b rfl h
        simp only [pArg, Bool.or_eq_true]
        rcases h with h | h | h <;> simp [h]
      have fin : pArg l[i] = true → zg7 l = true := fun h => by simp only [zg7, zwj hlt h, Bool.or_true]
      simp -dsimp [h2, h3, hlt, eAr, cAr, cT, eTs]
      refine zaa (zrl l[i].ty) ?_
      simp -dsimp [h2, h3, hlt]
      (first | refine zal ?_ ?_ | refine zak ?_ ?_) <;> intro h6 <;> (try simp only [nrm] at h6) <;> simp -dsimp [h6, h2, h3, hlt]
      · exact fin (ht _ rfl (.inl h6))
      · simp -dsimp [h2, h3, hlt, h6, eAr, cAr, cT, eTs]
        refine zaa (zo5 l[i].dom) ?_
        simp -dsimp [h2, h3, hlt, h6]
        (first | refine zal ?_ ?_ | refine zak ?_ ?_) <;> intro h7 <;> (try simp only [nrm] at h7) <;> simp -dsimp [h7, h2, h3, hlt, h6]
        · exact fin (ht _ rfl (.inr (.inl h7)))
        · simp -dsimp [h2, h3, hlt, h6, h7, eAr, cAr, cT, eTs]
          refine zaa (zo5 l[i].idx) ?_
          simp -dsimp [h2, h3, hlt, h6, h7]
          (first | refine zal ?_ ?_ | refine zak ?_ ?_) <;> intro h8 <;> (try simp only [nrm] at h8) <;> simp -dsimp [h8, h2, h3, hlt, h6, h7]
          · exact fin (ht _ rfl (.inr (.inr h8)))
          · simp -dsimp [h2, h3, hlt, h6, h7, h8, w1]
            have := zAq hlt h5 (by simp [pArg, h6, h7, h8])
            simpa using this
    · have e : i = l.length := by omega
      subst e
      simp -dsimp [h2, h3, zg7]
      rw [List.take_length] at h5
      exact ⟨by omega, by simpa using h5⟩
def pSo (s : So) : Bool := zg7 s.idx || zfj [s.dty]
def pCo (c : Co) : Bool := zg7 c.args || zfj c.idx || zfj [c.dec]
def zi6 (b : Bl) : Bool := decide ((10 : Int) < (b.sorts.length : Int)) || decide ((20 : Int) < (b.cons.length : Int)) || b.sorts.any pSo || b.cons.any pCo
theorem zHn (b : Bl) : Pure Tryz.prog zgi [eBl b] [.bool (zi6 b)] := by
  refine zqt rfl fun hs => ?_
  simp -dsimp [zgb, eBl, cBl, eSos, eCos]
  (first | refine zal ?_ ?_ | refine zak ?_ ?_) <;> intro h1 <;> (try simp only [nrm] at h1) <;> simp -dsimp [h1, zi6]
  (first | refine zal ?_ ?_ | refine zak ?_ ?_) <;> intro h2 <;> (try simp only [nrm] at h2) <;> simp -dsimp [h2, zi6, h1]
  have hl : b.sorts.length ≤ 10 := by omega
  have hl2 : b.cons.length ≤ 20 := by omega
  refine zam b.sorts.length (fun i st => st.s 1 = .ptr 1 1 0 ∧ st.h 1 = ⟨1, .box [.d (.sl 6 (b.sorts.map eSo)), .d (.sl 6 (b.cons.map eCo)), .d (.int .i64 b.elim)] false⟩ ∧ st.s 3 = .d (.int .i64 i) ∧ (b.sorts.take i).any pSo = false) ?_ ?_
  · simp -dsimp
  · rintro i ⟨s, hp⟩ hi ⟨h3, h4, h5, h6⟩
    dsimp only at h3 h4 h5 h6
    rcases Nat.lt_or_ge i b.sorts.length with hlt | hge
    · have w1 : IntKind.i64.wrap ((i : Int) + 1) = (i : Int) + 1 := zad (by omega) (by omega)
      have fin : pSo b.sorts[i] = true → zi6 b = true := fun h => by simp only [zi6, zwj hlt h, Bool.or_true, Bool.true_or]
      simp -dsimp [h3, h4, h5, hlt, eSo, cSo, cT, eArs]
      refine zaa (zug b.sorts[i].idx) ?_
      simp -dsimp [h3, h4, h5, hlt]
      (first | refine zal ?_ ?_ | refine zak ?_ ?_) <;> intro h7 <;> (try simp only [nrm] at h7) <;> simp -dsimp [h7, h3, h4, h5, hlt]
      · exact fin (by simp [pSo, h7])
      · simp -dsimp [h3, h4, h5, hlt, h7, eSo, cSo, cT, eArs]
        refine zaa (zrl b.sorts[i].dty) ?_
        simp -dsimp [h3, h4, h5, hlt, h7]
        (first | refine zal ?_ ?_ | refine zak ?_ ?_) <;> intro h8 <;> (try simp only [nrm] at h8) <;> simp -dsimp [h8, h3, h4, h5, hlt, h7]
        · exact fin (by simp [pSo, h8])
        · simp -dsimp [h3, h4, h5, hlt, h7, h8, w1]
          simpa using zAq hlt h6 (by simp [pSo, h7, h8])
    · have e : i = b.sorts.length := by omega
      subst e
      rw [List.take_length] at h6
      simp -dsimp [h3, h4, h5]
      refine zam b.cons.length (fun i st => st.s 1 = .ptr 1 1 0 ∧ st.h 1 = ⟨1, .box [.d (.sl 6 (b.sorts.map eSo)), .d (.sl 6 (b.cons.map eCo)), .d (.int .i64 b.elim)] false⟩ ∧ st.s 4 = .d (.int .i64 i) ∧ (b.cons.take i).any pCo = false) ?_ ?_
      · simp -dsimp [h3, h4, h5]
      · rintro i ⟨s, hp⟩ hi ⟨h3, h4, h5, h10⟩
        dsimp only at h3 h4 h5 h10
        rcases Nat.lt_or_ge i b.cons.length with hlt | hge
        · have w1 : IntKind.i64.wrap ((i : Int) + 1) = (i : Int) + 1 := zad (by omega) (by omega)
          have fin : pCo b.cons[i] = true → zi6 b = true := fun h => by simp only [zi6, zwj hlt h, Bool.or_true, Bool.true_or]
          simp -dsimp [h3, h4, h5, hlt, eCo, cCo, cT, eArs, eTs]
          refine zaa (zug b.cons[i].args) ?_
          simp -dsimp [h3, h4, h5, hlt]
          (first | refine zal ?_ ?_ | refine zak ?_ ?_) <;> intro h7 <;> (try simp only [nrm] at h7) <;> simp -dsimp [h7, h3, h4, h5, hlt]
          · exact fin (by simp [pCo, h7])
          · simp -dsimp [h3, h4, h5, hlt, h7, eCo, cCo, cT, eArs, eTs]
            refine zaa (zo5 b.cons[i].idx) ?_
            simp -dsimp [h3, h4, h5, hlt, h7]
            (first | refine zal ?_ ?_ | refine zak ?_ ?_) <;> intro h8 <;> (try simp only [nrm] at h8) <;> simp -dsimp [h8, h3, h4, h5, hlt, h7]
            · exact fin (by simp [pCo, h8])
            · simp -dsimp [h3, h4, h5, hlt, h7, h8, eCo, cCo, cT, eArs, eTs]
              refine zaa (zrl b.cons[i].dec) ?_
              simp -dsimp [h3, h4, h5, hlt, h7, h8]
              (first | refine zal ?_ ?_ | refine zak ?_ ?_) <;> intro h9 <;> (try simp only [nrm] at h9) <;> simp -dsimp [h9, h3, h4, h5, hlt, h7, h8]
              · exact fin (by simp [pCo, h9])
              · simp -dsimp [h3, h4, h5, hlt, h7, h8, h9, w1]
                simpa using zAq hlt h10 (by simp [pCo, h7, h8, h9])
        · have e : i = b.cons.length := by omega
          subst e
          rw [List.take_length] at h10
          simp -dsimp [h3, h4, h5, zi6, h6, h10]
          exact ⟨by omega, by omega⟩
end
section
attribute [local simp] zae zaf tk tn tks zb1 zcb
structure En where
  kind : Int
  many : Nat
  f : Nat
  of : Int → Int
def eEn (e : En) : D := .agg [.int .i64 e.kind, .int .i64 e.many, .clo e.f []]
def tab (b : Bl) (base : Int) : List En :=
  [⟨3, b.sorts.length, zcj, zbe b base⟩, ⟨4, b.sorts.length, zd3, zdf b base⟩, ⟨5, b.cons.length, zbs, zao b base⟩, ⟨6, b.sorts.length, zb8, za7 b base⟩]
def hit (n : Int) (e : En) : Option Nat := (List.range e.many).find? fun k => e.of k == n
def seek (n : Int) (l : List En) : Option (Int × Int) := l.findSome? fun e => (hit n e).map fun (k : Nat) => (e.kind, (k : Int))
def ofM (b : Bl) (base n : Int) : Int × Int :=
  if base < 0 ∨ 65535 < base ∨ n < base ∨ zlb b ≤ w64 (n - base) then (0, 0) else (seek n (tab b base)).getD (0, 0)
theorem zUu (b : Bl) (base : Int) : ∀ e ∈ tab b base, ∀ k : Int, Pure Tryz.prog e.f [eBl b, .int .i64 base, .int .i64 k] [.int .i64 (e.of k)] := by
  intro e he k
  simp only [tab, List.mem_cons, List.not_mem_nil, or_false] at he
  rcases he with rfl | rfl | rfl | rfl
  · exact zrx b base k
  · exact zG5 b base k
  · exact zp6 b base k
  · exact zrw b base k
theorem zNu (b : Bl) (base : Int) (hl : b.sorts.length ≤ 9223372036854775807) (hc : b.cons.length ≤ 9223372036854775807) : ∀ e ∈ tab b base, e.many ≤ 9223372036854775807 := by
  intro e he
  simp only [tab, List.mem_cons, List.not_mem_nil, or_false] at he
  rcases he with rfl | rfl | rfl | rfl <;> assumption
theorem zG0 {p : Nat → Bool} {n i : Nat} (hi : i < n) (hb : ∀ j, j < i → p j = false) (h : p i = true) : (List.range n).find? p = some i := by
  rw [List.find?_eq_some_iff_append]
  refine ⟨h, List.range i, (List.range (n - i - 1)).map (· + (i + 1)), ?_, ?_⟩
  · apply List.ext_getElem
    · simp; omega
    · intro j h1 h2
      simp [List.getElem_append, List.getElem_cons]
      split
      · omega
      · omega
  · intro a ha
    simp at ha
    simp [hb a ha]
theorem zJ5 {n : Int} {l : List En} {i : Nat} (hlt : i < l.length) (h : seek n (l.take i) = none) (hx : hit n l[i] = none) : seek n (l.take (i + 1)) = none := by
  rw [zd1 (List.getElem?_eq_getElem hlt)]
  simp only [seek, List.findSome?_append] at h ⊢
  rw [h]
  simp [hx]
theorem zMm {n : Int} {l : List En} {i k : Nat} (hlt : i < l.length) (h : seek n (l.take i) = none) (hx : hit n l[i] = some k) : seek n l = some (l[i].kind, (k : Int)) := by
  have e : seek n (l.take i ++ l[i] :: l.drop (i + 1)) = some (l[i].kind, (k : Int)) := by
    simp only [seek, List.findSome?_append] at h ⊢
    rw [h, List.findSome?_cons, hx]
    rfl
  rwa [List.getElem_cons_drop, List.take_append_drop] at e
theorem zL8 (b : Bl) (base n : Int) : Pure Tryz.prog zjt [eBl b, .int .i64 base, .int .i64 n] [.int .i64 (ofM b base n).1, .int .i64 (ofM b base n).2] := by
  refine zGv rfl fun hs => ?_
  have hsm := hs (eBl b) (by simp)
  simp [eBl, cBl, eSos, eCos, small] at hsm
  obtain ⟨⟨hl, _⟩, hlc, _⟩ := hsm
  simp -dsimp [zs6, eBl, cBl, eSos, eCos]
  (first | refine zal ?_ ?_ | refine zak ?_ ?_) <;> intro h1 <;> (try simp only [nrm] at h1) <;> simp -dsimp [h1, ofM]
  (first | refine zal ?_ ?_ | refine zak ?_ ?_) <;> intro h2 <;> (try simp only [nrm] at h2) <;> simp -dsimp [h2, ofM, h1]
  (first | refine zal ?_ ?_ | refine zak ?_ ?_) <;> intro h3 <;> (try simp only [nrm] at h3) <;> simp -dsimp [h3, ofM, h1, h2]
  refine zaa (zL3 b) ?_
  simp -dsimp [h1, h2, h3]
  (first | refine zal ?_ ?_ | refine zak ?_ ?_) <;> intro h4 <;> (try simp only [nrm] at h4) <;> simp -dsimp [h4, h1, h2, h3]
  · have : ofM b base n = (0, 0) := by rw [ofM, if_pos (.inr (.inr (.inr h4)))]
    simp [this]
  have hof : ofM b base n = (seek n (tab b base)).getD (0, 0) := by
    rw [ofM, if_neg]
    rintro (h | h | h | h)
    · exact h1 h
    · exact h2 h
    · exact h3 h
    · exact h4 h
  rw [hof]
  refine zam 4 (fun i st => st.s 1 = .d (.int .i64 base) ∧ st.s 2 = .d (.int .i64 n) ∧ st.s 3 = .ptr 3 1 0 ∧ st.h 3 = ⟨1, .box [.d (.sl 6 (b.sorts.map eSo)), .d (.sl 6 (b.cons.map eCo)), .d (.int .i64 b.elim)] false⟩ ∧
    st.s 46 = .fsl 3 ((tab b base).map eEn) ∧ st.s 47 = .d (.int .i64 4) ∧ st.s 48 = .d (.int .i64 i) ∧ seek n ((tab b base).take i) = none) ?_ ?_
  · simp -dsimp [tab, eEn, seek]
  · rintro i ⟨s, hp⟩ hi ⟨g1, g2, g3, g4, g5, g6, g7, g8⟩
    dsimp only at g1 g2 g3 g4 g5 g6 g7 g8
    have htl : (tab b base).length = 4 := rfl
    rcases Nat.lt_or_ge i 4 with hlt | hge
    · have w1 : IntKind.i64.wrap ((i : Int) + 1) = (i : Int) + 1 := zad (by omega) (by omega)
      have hlt' : i < (tab b base).length := by omega
      generalize he : (tab b base)[i] = e at *
      have hm := zNu b base hl hlc e (he ▸ List.getElem_mem _)
      have hok := zUu b base e (he ▸ List.getElem_mem _)
      have hi4 : ((i : Int) < 4) := by omega
      simp -dsimp [g1, g2, g3, g4, g5, g6, g7, hi4, hlt', he, eEn]
      refine zam e.many (fun j st => st.s 1 = .d (.int .i64 base) ∧ st.s 2 = .d (.int .i64 n) ∧ st.s 3 = .ptr 3 1 0 ∧ st.h 3 = ⟨1, .box [.d (.sl 6 (b.sorts.map eSo)), .d (.sl 6 (b.cons.map eCo)), .d (.int .i64 b.elim)] false⟩ ∧
        st.s 46 = .fsl 3 ((tab b base).map eEn) ∧ st.s 47 = .d (.int .i64 4) ∧ st.s 48 = .d (.int .i64 i) ∧ (∃ v, st.s 9 = .ptr 9 v 0 ∧ st.h 9 = ⟨v, .box [.d (.int .i64 e.kind), .d (.int .i64 e.many), .d (.clo e.f [])] false⟩) ∧
        st.s 53 = .d (.int .i64 e.many) ∧ st.s 54 = .d (.int .i64 j) ∧ ∀ k, k < j → (e.of k == n) = false) ?_ ?_
      · simp -dsimp [g1, g2, g3, g4, g5, g6, g7]
      · rintro j ⟨s, hp⟩ hj ⟨g1, g2, g3, g4, g5, g6, g7, ⟨v, g9, g10⟩, g11, g12, g13⟩
        dsimp only at g1 g2 g3 g4 g5 g6 g7 g9 g10 g11 g12
        rcases Nat.lt_or_ge j e.many with hjl | hjg
        · have w2 : IntKind.i64.wrap ((j : Int) + 1) = (j : Int) + 1 := zad (by omega) (by omega)
          simp -dsimp [g1, g2, g3, g4, g5, g6, g7, g9, g10, g11, g12, hjl]
          refine zaa (hok j) ?_
          simp -dsimp [g1, g2, g3, g4, g5, g6, g7, g9, g10, g11, g12, hjl]
          (first | refine zal ?_ ?_ | refine zak ?_ ?_) <;> intro h5 <;> (try simp only [nrm] at h5) <;> simp -dsimp [h5, g1, g2, g3, g4, g5, g6, g7, g9, g10, g11, g12, hjl, w2]
          · have hh : hit n e = some j := zG0 hjl g13 (by simpa using h5)
            have hk := zMm hlt' g8 (by rw [he]; exact hh)
            rw [hk, he]
            simp
          · intro k hk
            rcases Nat.lt_or_ge k j with h | h
            · simpa using g13 k h
            · have : k = j := by omega
              subst this
              exact h5
        · have e2 : j = e.many := by omega
          subst e2
          simp -dsimp [g1, g2, g3, g4, g5, g6, g7, g9, g10, g11, g12, w1, hlt]
          refine zJ5 hlt' g8 ?_
          rw [he]
          simp only [hit, List.find?_eq_none]
          intro k hk
          simpa using g13 k (by simpa using hk)
    · have e : i = 4 := by omega
      subst e
      simp -dsimp [g1, g2, g3, g4, g5, g6, g7]
      have : (tab b base).take 4 = tab b base := List.take_of_length_le (by omega)
      rw [this] at g8
      simp [g8]
end
section
attribute [local simp] zae zaf tk tn tks zb1 zcb
theorem zzg (l : List Ar) (g : FuncId) (caps : List D) (p : Ar → Bool) (hp : ∀ x ∈ l, Pure Tryz.prog g (.agg (cAr x) :: caps) [.bool (p x)]) :
    Pure Tryz.prog zev [.sl 7 (l.map eAr), .clo g caps] [.int .i64 (idxF l p)] := by
  refine znc rfl fun hs => ?_
  have hl := hs (.sl 7 (l.map eAr)) (by simp)
  simp [small] at hl
  replace hl := hl.1
  simp -dsimp [zeq]
  refine zam l.length (fun i st => st.s 0 = .d (.sl 7 (l.map eAr)) ∧ st.s 1 = .d (.clo g caps) ∧ st.s 7 = .d (.int .i64 l.length) ∧ st.s 8 = .d (.int .i64 i) ∧ ∀ x ∈ l.take i, p x = false) ?_ ?_
  · simp -dsimp
  · rintro i ⟨s, hp'⟩ hi ⟨h1, h2, h3, h4, h5⟩
    dsimp only at h1 h2 h3 h4 h5
    rcases Nat.lt_or_ge i l.length with hlt | hge
    · have w1 : IntKind.i64.wrap ((i : Int) + 1) = (i : Int) + 1 := zad (by omega) (by omega)
      have hc : (cAr l[i]).length = 7 := rfl
      simp -dsimp [h1, h2, h3, h4, hlt, hc]
      have ht : (cAr l[i]).take 7 = cAr l[i] := List.take_of_length_le (by omega)
      refine zaa (by rw [ht]; exact hp l[i] (List.getElem_mem _)) ?_
      simp -dsimp [h1, h2, h3, h4, hlt]
      (first | refine zal ?_ ?_ | refine zak ?_ ?_) <;> intro h6 <;> (try simp only [nrm] at h6) <;> simp -dsimp [h6, h1, h2, h3, h4, hlt, w1]
      · have : l.findIdx? p = some i := by
          rw [List.findIdx?_eq_some_iff_getElem]
          refine ⟨hlt, h6, fun j hj => ?_⟩
          have := h5 l[j] (by rw [List.mem_take_iff_getElem]; exact ⟨j, by omega, rfl⟩)
          simpa using this
        simp only [idxF, this]
      · intro x hx
        rw [zd1 (List.getElem?_eq_getElem hlt), List.mem_append] at hx
        rcases hx with hx | hx
        · simpa using h5 x hx
        · simp at hx; subst hx; exact h6
    · have e : i = l.length := by omega
      subst e
      rw [List.take_length] at h5
      have : l.findIdx? p = none := by
        rw [List.findIdx?_eq_none_iff]; exact h5
      simp -dsimp [h1, h2, h3, h4, idxF, this]
theorem zun (l : List Ar) (g : FuncId) (caps : List D) (p : Ar → Bool) (hp : ∀ x ∈ l, Pure Tryz.prog g (.agg (cAr x) :: caps) [.bool (p x)]) :
    Pure Tryz.prog zdr [.sl 7 (l.map eAr), .clo g caps] [.bool (l.any p)] := by
  refine zk6 rfl fun hs => ?_
  simp -dsimp [zds]
  refine zaa (zzg l g caps p hp) ?_
  simp -dsimp [zEk]
theorem zA4 (l : List Co) (g : FuncId) (caps : List D) (p : Co → Bool) (hp : ∀ x ∈ l, Pure Tryz.prog g (.agg (cCo x) :: caps) [.bool (p x)]) :
    Pure Tryz.prog zet [.sl 6 (l.map eCo), .clo g caps] [.int .i64 (idxF l p)] := by
  refine zna rfl fun hs => ?_
  have hl := hs (.sl 6 (l.map eCo)) (by simp)
  simp [small] at hl
  replace hl := hl.1
  simp -dsimp [zer]
  refine zam l.length (fun i st => st.s 0 = .d (.sl 6 (l.map eCo)) ∧ st.s 1 = .d (.clo g caps) ∧ st.s 7 = .d (.int .i64 l.length) ∧ st.s 8 = .d (.int .i64 i) ∧ ∀ x ∈ l.take i, p x = false) ?_ ?_
  · simp -dsimp
  · rintro i ⟨s, hp'⟩ hi ⟨h1, h2, h3, h4, h5⟩
    dsimp only at h1 h2 h3 h4 h5
    rcases Nat.lt_or_ge i l.length with hlt | hge
    · have w1 : IntKind.i64.wrap ((i : Int) + 1) = (i : Int) + 1 := zad (by omega) (by omega)
      have hc : (cCo l[i]).length = 6 := rfl
      simp -dsimp [h1, h2, h3, h4, hlt, hc]
      have ht : (cCo l[i]).take 6 = cCo l[i] := List.take_of_length_le (by omega)
      refine zaa (by rw [ht]; exact hp l[i] (List.getElem_mem _)) ?_
      simp -dsimp [h1, h2, h3, h4, hlt]
      (first | refine zal ?_ ?_ | refine zak ?_ ?_) <;> intro h6 <;> (try simp only [nrm] at h6) <;> simp -dsimp [h6, h1, h2, h3, h4, hlt, w1]
      · have : l.findIdx? p = some i := by
          rw [List.findIdx?_eq_some_iff_getElem]
          refine ⟨hlt, h6, fun j hj => ?_⟩
          have := h5 l[j] (by rw [List.mem_take_iff_getElem]; exact ⟨j, by omega, rfl⟩)
          simpa using this
        simp only [idxF, this]
      · intro x hx
        rw [zd1 (List.getElem?_eq_getElem hlt), List.mem_append] at hx
        rcases hx with hx | hx
        · simpa using h5 x hx
        · simp at hx; subst hx; exact h6
    · have e : i = l.length := by omega
      subst e
      rw [List.take_length] at h5
      have : l.findIdx? p = none := by
        rw [List.findIdx?_eq_none_iff]; exact h5
      simp -dsimp [h1, h2, h3, h4, idxF, this]
theorem zux (l : List Co) (g : FuncId) (caps : List D) (p : Co → Bool) (hp : ∀ x ∈ l, Pure Tryz.prog g (.agg (cCo x) :: caps) [.bool (p x)]) :
    Pure Tryz.prog zdp [.sl 6 (l.map eCo), .clo g caps] [.bool (l.any p)] := by
  refine zk5 rfl fun hs => ?_
  simp -dsimp [zdu]
  refine zaa (zA4 l g caps p hp) ?_
  simp -dsimp [zEk]
end
section
attribute [local simp] zae zaf w64 tk tn tks zb1 zcb
def zwq (t : T) : Bool := if t.kind = 0 then if t.num = 0 then decide ((t.kids.length : Int) = 0) else false else false
theorem zJy (t : T) : Pure Tryz.prog zmw [.agg (cT t)] [.bool (zwq t)] := by
  refine zDw rfl fun hs => ?_
  simp -dsimp [zqe, cT]
  (first | refine zal ?_ ?_ | refine zak ?_ ?_) <;> intro h1 <;> (try simp only [nrm] at h1) <;> simp -dsimp [h1, zwq]
  (first | refine zal ?_ ?_ | refine zak ?_ ?_) <;> intro h2 <;> (try simp only [nrm] at h2) <;> simp -dsimp [h2, zwq, h1]
def inM (t : T) (v : Int) : Bool := zlr t v 65536
theorem zMe (t : T) (v : Int) : Pure Tryz.prog zjr [.agg (cT t), .int .i64 v] [.bool (inM t v)] := by
  refine zGr rfl fun hs => ?_
  simp -dsimp [zto, cT]
  refine zaa (zMg t v 65536) ?_
  simp -dsimp [inM]
theorem zRi (t : T) (v : Int) : Pure Tryz.prog zjq [.agg (cT t), .rp [.int .i64 v]] [.bool (!inM t v)] := by
  refine zAs rfl fun hs => ?_
  simp -dsimp [zmj, cT]
  refine zaa (zMe t v) ?_
  simp -dsimp
def allM (l : List T) (v : Int) : Bool := !l.any fun t => !inM t v
theorem zOa (l : List T) (v : Int) : Pure Tryz.prog zmd [eTs l, .int .i64 v] [.bool (allM l v)] := by
  refine zEq rfl fun hs => ?_
  simp -dsimp [zrs, eTs]
  refine zaa (zfq l zjq [.rp [.int .i64 v]] (fun t => !inM t v) (fun x _ => zRi x v)) ?_
  simp -dsimp [allM]
def ze5 (is : Bool) (t : T) (v : Int) : Bool := if is then inM t v else zwq t
theorem zFd (is : Bool) (t : T) (v : Int) : Pure Tryz.prog zjh [.bool is, .agg (cT t), .int .i64 v] [.bool (ze5 is t v)] := by
  refine zAb rfl fun hs => ?_
  cases is with
  | false =>
    simp -dsimp [zjj, cT]
    refine zaa (zJy t) ?_
    simp -dsimp [ze5]
  | true =>
    simp -dsimp [zjj, cT]
    refine zaa (zMe t v) ?_
    simp -dsimp [ze5]
def allI {α : Type} (p : Nat → α → Bool) : Nat → List α → Bool
  | _, [] => true
  | i, x :: xs => p i x && allI p (i + 1) xs
theorem zan {α : Type} (p : Nat → α → Bool) : ∀ (l : List α) (i : Nat), allI p i l = true ↔ ∀ (j : Nat) (hj : j < l.length), p (i + j) l[j] = true
  | [], i => by simp [allI]
  | x :: xs, i => by
    rw [allI, Bool.and_eq_true, zan p xs (i + 1)]
    constructor
    · rintro ⟨h1, h2⟩ j hj
      cases j with
      | zero => simpa using h1
      | succ j =>
        have := h2 j (by simpa using hj)
        have e : i + 1 + j = i + (j + 1) := by omega
        rw [e] at this
        simpa using this
    · intro h
      refine ⟨h 0 (by simp), fun j hj => ?_⟩
      have := h (j + 1) (by simpa using hj)
      have e : i + 1 + j = i + (j + 1) := by omega
      rw [e]
      simpa using this
theorem zpi {α : Type} {p : Nat → α → Bool} {l : List α} {j : Nat} (hj : j < l.length) (h : p j l[j] = false) : allI p 0 l = false := by
  cases hw : allI p 0 l with
  | false => rfl
  | true =>
    have := (zan p l 0).1 hw j hj
    rw [Nat.zero_add, h] at this
    cases this
theorem zio {α : Type} {p : Nat → α → Bool} {l : List α} {i : Nat} (hi : i < l.length) (h : ∀ (j : Nat) (hj : j < l.length), j < i → p j l[j] = true) (hx : p i l[i] = true) :
    ∀ (j : Nat) (hj : j < l.length), j < i + 1 → p j l[j] = true := by
  intro j hj hji
  rcases Nat.lt_or_ge j i with h' | h'
  · exact h j hj h'
  · have : j = i := by omega
    subst this
    exact hx
theorem zo4 {α : Type} {p : Nat → α → Bool} {l : List α} (h : ∀ (j : Nat) (hj : j < l.length), j < l.length → p j l[j] = true) : allI p 0 l = true :=
  (zan p l 0).2 fun j hj => by rw [Nat.zero_add]; exact h j hj hj
def domM (i : Int) (l : List T) : Bool := allI (fun j t => inM t (w64 (i + j))) 0 l
def argM (b : Bl) (a : Ar) (i : Int) : Bool :=
  if a.rc then
    if zwq a.ty then
      if 12 < (a.dom.length : Int) then false else if a.sort < 0 then false else match b.sorts[a.sort.toNat]? with
      | none => false
      | some s => if (a.idx.length : Int) = (s.idx.length : Int) then domM i a.dom && allM a.idx (w64 (i + a.dom.length)) else false
    else false
  else if inM a.ty i then if w64 (a.dom.length + a.idx.length) = 0 then decide (a.sort = 0) else false else false
theorem zT7 (b : Bl) (a : Ar) (i : Int) : Pure Tryz.prog zqx [eBl b, .agg (cAr a), .int .i64 i] [.bool (argM b a i)] := by
  refine zDy rfl fun hs => ?_
  simp -dsimp [zq1, eBl, cBl, eSos, eCos, cAr, cT, eTs]
  cases hr : a.rc with
  | false =>
    simp -dsimp [hr]
    refine zaa (zMe a.ty i) ?_
    simp -dsimp
    (first | refine zal ?_ ?_ | refine zak ?_ ?_) <;> intro h1 <;> (try simp only [nrm] at h1) <;> simp -dsimp [h1, argM, hr]
    · (first | refine zal ?_ ?_ | refine zak ?_ ?_) <;> intro h2 <;> (try simp only [nrm] at h2) <;> simp -dsimp [h2, argM, hr, h1]
  | true =>
    simp -dsimp [hr]
    refine zaa (zJy a.ty) ?_
    simp -dsimp
    (first | refine zal ?_ ?_ | refine zak ?_ ?_) <;> intro h1 <;> (try simp only [nrm] at h1) <;> simp -dsimp [h1, argM, hr]
    (first | refine zal ?_ ?_ | refine zak ?_ ?_) <;> intro h2 <;> (try simp only [nrm] at h2) <;> simp -dsimp [h2, argM, hr, h1]
    (first | refine zal ?_ ?_ | refine zak ?_ ?_) <;> intro h3 <;> (try simp only [nrm] at h3) <;> simp -dsimp [h3, argM, hr, h1, h2]
    (first | refine zal ?_ ?_ | refine zak ?_ ?_) <;> intro h4 <;> (try simp only [nrm] at h4) <;> simp -dsimp [h4, argM, hr, h1, h2, h3]
    · have : b.sorts[a.sort.toNat]? = none := List.getElem?_eq_none (by omega)
      simp [this]
    have hlt : a.sort.toNat < b.sorts.length := by omega
    have h0 : 0 ≤ a.sort := by omega
    have hA : argM b a i = if (a.idx.length : Int) = (b.sorts[a.sort.toNat].idx.length : Int) then domM i a.dom && allM a.idx (w64 (i + a.dom.length)) else false := by
      simp [argM, hr, h1, h2, h3, hlt]
    simp -dsimp [hr, h1, h2, h3, h4, hlt, h0, eSo, cSo, eArs, cT]
    (first | refine zal ?_ ?_ | refine zak ?_ ?_) <;> intro h5 <;> (try simp only [nrm] at h5) <;> simp -dsimp [h5, hr, h1, h2, h3, h4, hlt, h0, eSo, cSo, eArs, cT]
    · rw [hA, if_neg h5]
    rw [hA, if_pos h5]
    have hd : a.dom.length ≤ 12 := by omega
    refine zam a.dom.length (fun j st => st.s 2 = .d (.int .i64 i) ∧ st.s 4 = .ptr 4 1 0 ∧ st.h 4 = ⟨1, .box [.d (.bool true), .d (.int .i64 a.ty.kind), .d (.int .i64 a.ty.num), .d (.sl 3 (a.ty.kids.map eT)), .d (.sl 3 (a.dom.map eT)), .d (.int .i64 a.sort), .d (.sl 3 (a.idx.map eT))] false⟩ ∧
      st.s 69 = .d (.sl 3 (a.dom.map eT)) ∧ st.s 70 = .d (.int .i64 a.dom.length) ∧ st.s 71 = .d (.int .i64 j) ∧ ∀ (k : Nat) (hk : k < a.dom.length), k < j → inM a.dom[k] (w64 (i + k)) = true) ?_ ?_
    · simp -dsimp [hr]
    · rintro j ⟨s, hp⟩ hj ⟨g1, g2, g3, g4, g5, g6, g7⟩
      dsimp only at g1 g2 g3 g4 g5 g6
      rcases Nat.lt_or_ge j a.dom.length with hlt | hge
      · have w1 : IntKind.i64.wrap ((j : Int) + 1) = (j : Int) + 1 := zad (by omega) (by omega)
        simp -dsimp [g1, g2, g3, g4, g5, g6, hlt, cT]
        refine zaa (zMe a.dom[j] _) ?_
        simp -dsimp [g1, g2, g3, g4, g5, g6, hlt]
        (first | refine zal ?_ ?_ | refine zak ?_ ?_) <;> intro h6 <;> (try simp only [nrm] at h6) <;> simp -dsimp [h6, g1, g2, g3, g4, g5, g6, hlt, w1]
        · have : domM i a.dom = false := zpi hlt h6
          simp [this]
        · exact zio (p := fun j t => inM t (w64 (i + j))) hlt g7 h6
      · have e : j = a.dom.length := by omega
        subst e
        have : domM i a.dom = true := zo4 g7
        simp -dsimp [g1, g2, g3, g4, g5, g6]
        refine zaa (zOa a.idx _) ?_
        simp -dsimp [this]
def rowM (b : Bl) (l : List Ar) : Bool := if 12 < (l.length : Int) then false else allI (fun i a => argM b a i) 0 l
theorem zOd (b : Bl) (l : List Ar) : Pure Tryz.prog zme [eBl b, eArs l] [.bool (rowM b l)] := by
  refine zD8 rfl fun hs => ?_
  simp -dsimp [zqo, eBl, cBl, eSos, eCos, eArs]
  (first | refine zal ?_ ?_ | refine zak ?_ ?_) <;> intro h1 <;> (try simp only [nrm] at h1) <;> simp -dsimp [h1, rowM]
  have hl : l.length ≤ 12 := by omega
  have hR : rowM b l = allI (fun i a => argM b a i) 0 l := by rw [rowM, if_neg h1]
  rw [hR]
  refine zam l.length (fun i st => st.s 2 = .ptr 2 1 0 ∧ st.h 2 = ⟨1, .box [.d (.sl 6 (b.sorts.map eSo)), .d (.sl 6 (b.cons.map eCo)), .d (.int .i64 b.elim)] false⟩ ∧ st.s 10 = .d (.sl 7 (l.map eAr)) ∧ st.s 11 = .d (.int .i64 l.length) ∧ st.s 12 = .d (.int .i64 i) ∧
    ∀ (j : Nat) (hj : j < l.length), j < i → argM b l[j] j = true) ?_ ?_
  · simp -dsimp
  · rintro i ⟨s, hp⟩ hi ⟨g1, g2, g3, g4, g5, g6⟩
    dsimp only at g1 g2 g3 g4 g5
    rcases Nat.lt_or_ge i l.length with hlt | hge
    · have w1 : IntKind.i64.wrap ((i : Int) + 1) = (i : Int) + 1 := zad (by omega) (by omega)
      simp -dsimp [g1, g2, g3, g4, g5, hlt, eAr, cAr, cT, eTs]
      refine zaa (zT7 b l[i] i) ?_
      simp -dsimp [g1, g2, g3, g4, g5, hlt]
      (first | refine zal ?_ ?_ | refine zak ?_ ?_) <;> intro h6 <;> (try simp only [nrm] at h6) <;> simp -dsimp [h6, g1, g2, g3, g4, g5, hlt, w1]
      · exact zpi (p := fun i a => argM b a i) hlt h6
      · exact zio (p := fun i a => argM b a i) hlt g6 h6
    · have e : i = l.length := by omega
      subst e
      simp -dsimp [g1, g2, g3, g4, g5, zo4 (p := fun i a => argM b a i) g6]
def zew (k : Int) (s : So) (a : Ar) : Bool := if a.rc then if 0 < (a.dom.length : Int) then true else if k ≤ a.sort then true else s.dec else false
theorem zLu (k : Int) (s : So) (a : Ar) : Pure Tryz.prog zij [.agg (cAr a), .rp [.int .i64 k], .rp (cSo s)] [.bool (zew k s a)] := by
  refine zyb rfl fun hs => ?_
  cases hr : a.rc with
  | false =>
    simp -dsimp [zii, cAr, cSo, cT, eTs, eArs, hr, zew]
  | true =>
    simp -dsimp [zii, cAr, cSo, cT, eTs, eArs, hr]
    (first | refine zal ?_ ?_ | refine zak ?_ ?_) <;> intro h1 <;> (try simp only [nrm] at h1) <;> simp -dsimp [h1, zew, hr]
    (first | refine zal ?_ ?_ | refine zak ?_ ?_) <;> intro h2 <;> (try simp only [nrm] at h2) <;> simp -dsimp [h2, zew, hr, h1]
def zjb (n : Int) : Bool := decide (0 ≤ n) && decide (n ≤ 6)
def zgl (b : Bl) (k : Nat) (s : So) : Bool :=
  if rowM b s.idx then if zjb s.level then if ze5 s.dec s.dty s.idx.length then !s.idx.any (zew k s) else false else false else false
theorem zO8 (b : Bl) (k : Nat) (hk : k < b.sorts.length) : Pure Tryz.prog zog [eBl b, .int .i64 k] [.bool (zgl b k b.sorts[k])] := by
  refine zBl rfl fun hs => ?_
  simp -dsimp [znh, eBl, cBl, eSos, eCos, hk, eSo, cSo, cT, eArs]
  refine zaa (zOd b b.sorts[k].idx) ?_
  simp -dsimp
  (first | refine zal ?_ ?_ | refine zak ?_ ?_) <;> intro h1 <;> (try simp only [nrm] at h1) <;> simp -dsimp [h1, zgl]
  refine zaa (rs := [.bool (zjb b.sorts[k].level)]) (zE9 b.sorts[k].level) ?_
  simp -dsimp [h1]
  (first | refine zal ?_ ?_ | refine zak ?_ ?_) <;> intro h2 <;> (try simp only [nrm] at h2) <;> simp -dsimp [h2, zgl, h1]
  refine zaa (zFd b.sorts[k].dec b.sorts[k].dty b.sorts[k].idx.length) ?_
  simp -dsimp [h1, h2]
  (first | refine zal ?_ ?_ | refine zak ?_ ?_) <;> intro h3 <;> (try simp only [nrm] at h3) <;> simp -dsimp [h3, zgl, h1, h2]
  refine zaa (zun b.sorts[k].idx zij [.rp [.int .i64 k], .rp (cSo b.sorts[k])] (zew k b.sorts[k]) (fun x _ => zLu k _ x)) ?_
  simp -dsimp [zgl, h1, h2, h3]
def conM (b : Bl) (c : Co) : Bool :=
  if c.sort < 0 then false else if rowM b c.args then match b.sorts[c.sort.toNat]? with
  | none => false
  | some s => if (c.idx.length : Int) = (s.idx.length : Int) then if allM c.idx c.args.length then ze5 s.dec c.dec c.args.length else false else false
  else false
theorem zTb (b : Bl) (c : Co) : Pure Tryz.prog zrr [eBl b, eCo c] [.bool (conM b c)] := by
  refine zEh rfl fun hs => ?_
  simp -dsimp [zqi, eBl, cBl, eSos, eCos, eCo, cCo, cT, eArs, eTs]
  (first | refine zal ?_ ?_ | refine zak ?_ ?_) <;> intro h1 <;> (try simp only [nrm] at h1) <;> simp -dsimp [h1, conM]
  (first | refine zal ?_ ?_ | refine zak ?_ ?_) <;> intro h2 <;> (try simp only [nrm] at h2) <;> simp -dsimp [h2, conM, h1]
  · have : b.sorts[c.sort.toNat]? = none := List.getElem?_eq_none (by omega)
    simp [this]
  refine zaa (zOd b c.args) ?_
  have hlt : c.sort.toNat < b.sorts.length := by omega
  have h0 : 0 ≤ c.sort := by omega
  simp -dsimp [h1, h2]
  (first | refine zal ?_ ?_ | refine zak ?_ ?_) <;> intro h3 <;> (try simp only [nrm] at h3) <;> simp -dsimp [h3, conM, h1, h2]
  have hA : conM b c = if (c.idx.length : Int) = (b.sorts[c.sort.toNat].idx.length : Int) then if allM c.idx c.args.length then ze5 b.sorts[c.sort.toNat].dec c.dec c.args.length else false else false := by
    simp [conM, h1, h3, hlt]
  simp -dsimp [h1, h2, h3, hlt, h0, eSo, cSo, eArs, cT, eTs]
  (first | refine zal ?_ ?_ | refine zak ?_ ?_) <;> intro h4 <;> (try simp only [nrm] at h4) <;> simp -dsimp [h4, h1, h2, h3, hlt, h0, eSo, cSo, eArs, cT]
  · refine zaa (zOa c.idx _) ?_
    simp -dsimp [h4]
    (first | refine zal ?_ ?_ | refine zak ?_ ?_) <;> intro h5 <;> (try simp only [nrm] at h5) <;> simp -dsimp [h5, h4]
    · refine zaa (zFd _ c.dec _) ?_
      simp -dsimp [h4, h5, hA]
    · rw [hA, if_pos h4, h5]; rfl
  · rw [hA, if_neg h4]
theorem zKx (b : Bl) (c : Co) : Pure Tryz.prog zhp [eCo c, .rp (cBl b)] [.bool (!conM b c)] := by
  refine zxi rfl fun hs => ?_
  simp -dsimp [zkk, cBl, eSos, eCos, eCo, cCo, cT, eArs, eTs]
  refine zaa (zTb b c) ?_
  simp -dsimp
def ze9 (b : Bl) : Int :=
  if (b.sorts.length : Int) < 1 then 12 else if 4 < (b.sorts.length : Int) then 12 else if 8 < (b.cons.length : Int) then 12 else if zjb b.elim then
    if allI (fun k s => zgl b k s) 0 b.sorts then if b.cons.any fun c => !conM b c then 12 else 0 else 12
  else 12
theorem zJd (b : Bl) : Pure Tryz.prog zlx [eBl b] [.int .i64 (ze9 b)] := by
  refine zzh rfl fun hs => ?_
  simp -dsimp [zl1, eBl, cBl, eSos, eCos]
  (first | refine zal ?_ ?_ | refine zak ?_ ?_) <;> intro h1 <;> (try simp only [nrm] at h1) <;> simp -dsimp [h1, ze9]
  (first | refine zal ?_ ?_ | refine zak ?_ ?_) <;> intro h2 <;> (try simp only [nrm] at h2) <;> simp -dsimp [h2, ze9, h1]
  (first | refine zal ?_ ?_ | refine zak ?_ ?_) <;> intro h3 <;> (try simp only [nrm] at h3) <;> simp -dsimp [h3, ze9, h1, h2]
  refine zaa (rs := [.bool (zjb b.elim)]) (zE9 b.elim) ?_
  simp -dsimp [h1, h2, h3]
  (first | refine zal ?_ ?_ | refine zak ?_ ?_) <;> intro h4 <;> (try simp only [nrm] at h4) <;> simp -dsimp [h4, ze9, h1, h2, h3]
  have hl : b.sorts.length ≤ 4 := by omega
  have hC : ze9 b = if allI (fun k s => zgl b k s) 0 b.sorts then if b.cons.any fun c => !conM b c then 12 else 0 else 12 := by
    rw [ze9, if_neg h1, if_neg h2, if_neg h3, if_pos h4]
  rw [hC]
  refine zam b.sorts.length (fun i st => st.s 1 = .ptr 1 1 0 ∧ st.h 1 = ⟨1, .box [.d (.sl 6 (b.sorts.map eSo)), .d (.sl 6 (b.cons.map eCo)), .d (.int .i64 b.elim)] false⟩ ∧ st.s 28 = .d (.int .i64 b.sorts.length) ∧ st.s 29 = .d (.int .i64 i) ∧
    ∀ (j : Nat) (hj : j < b.sorts.length), j < i → zgl b j b.sorts[j] = true) ?_ ?_
  · simp -dsimp
  · rintro i ⟨s, hp⟩ hi ⟨g1, g2, g3, g4, g5⟩
    dsimp only at g1 g2 g3 g4
    rcases Nat.lt_or_ge i b.sorts.length with hlt | hge
    · have w1 : IntKind.i64.wrap ((i : Int) + 1) = (i : Int) + 1 := zad (by omega) (by omega)
      simp -dsimp [g1, g2, g3, g4, hlt]
      refine zaa (zO8 b i hlt) ?_
      simp -dsimp [g1, g2, g3, g4, hlt]
      (first | refine zal ?_ ?_ | refine zak ?_ ?_) <;> intro h6 <;> (try simp only [nrm] at h6) <;> simp -dsimp [h6, g1, g2, g3, g4, hlt, w1]
      · intro h
        rw [zpi (p := fun k s => zgl b k s) hlt h6] at h
        cases h
      · exact zio (p := fun k s => zgl b k s) hlt g5 h6
    · have e : i = b.sorts.length := by omega
      subst e
      have hA : allI (fun k s => zgl b k s) 0 b.sorts = true := zo4 (p := fun k s => zgl b k s) g5
      simp -dsimp [g1, g2, g3, g4, hA]
      refine zaa (zux b.cons zhp [.rp (cBl b)] (fun c => !conM b c) (fun x _ => zKx b x)) ?_
      simp -dsimp [g1, g2, g3, g4]
      (first | refine zal ?_ ?_ | refine zak ?_ ?_) <;> intro h7 <;> (try simp only [nrm] at h7) <;> simp -dsimp [h7, g1, g2, g3, g4, hA]
end
section
attribute [local simp] zae zaf w64 tk tn tks zb1 zcb
def recA (n : Int) (l : List T) : Ar := ⟨true, zT, [], n, l⟩
theorem zSv (n : Int) (l : List T) (hl : l.length * 40 ≤ zaj) : Pure Tryz.prog zid [.int .i64 n, eTs l] [.agg (cAr (recA n l))] := by
  refine zty rfl fun hs => ?_
  simp -dsimp [hl, zie, eTs, cAr, recA, zT, cT, T.kind, T.num, T.kids]
def zIa (b : Bl) : List D := [.int .i64 3, .int .i64 0, .int .i64 0, .sl 3 [], .int .i64 0, .int .i64 0, .sl 3 []] ++ cBl b
theorem zRq (b : Bl) : Pure Tryz.prog zhr [eBl b] [.agg (zIa b)] := by
  refine zsp rfl fun hs => ?_
  simp -dsimp [zhq, eBl, cBl, eSos, eCos, zIa]
def natB : Bl := ⟨[⟨[], 0, false, zT⟩], [⟨0, [], [], zT⟩, ⟨0, [recA 0 []], [], zT⟩], 0⟩
theorem zUk : Pure Tryz.prog zic [] [.agg (zIa natB)] := by
  refine ztw rfl fun hs => ?_
  simp -dsimp [zia]
  refine zaa (zSv 0 [] (by decide)) ?_
  simp -dsimp [cAr, recA, zT, cT, T.kind, T.num, T.kids, eTs]
  refine zaa (zRq natB) ?_
  simp -dsimp [zIa, cBl, eSos, eCos]
end
section
attribute [local simp] zae zaf tk tn tks zb1 zcb
def is64 (n : Int) : Prop := -9223372036854775808 ≤ n ∧ n < 9223372036854775808
structure Fit (b : Bl) : Prop where
  s : b.sorts.length ≤ 10
  c : b.cons.length ≤ 20
theorem zOm {b : Bl} (h : zi6 b = false) : Fit b := by
  simp only [zi6, Bool.or_eq_false_iff, decide_eq_false_iff_not] at h
  exact ⟨by omega, by omega⟩
theorem zl0 {b : Bl} (hf : Fit b) : zlb b = 2 * b.sorts.length + decs b.sorts + b.cons.length := by
  have h1 := hf.s
  have h2 := hf.c
  have h3 := zfu b.sorts
  rw [zlb, zb7, zb7, zb7] <;> (try rw [zb7, zb7]) <;> (try rw [zb7]) <;> omega
theorem zu9 {base ahead k many : Int} (h0 : 0 ≤ base) (h1 : base ≤ 65535) (h2 : 0 ≤ ahead) (h3 : ahead ≤ 1000) (h4 : many ≤ 1000) :
    zir base ahead k many = if 0 ≤ k ∧ k < many then base + ahead + k else -1 := by
  by_cases h : 0 ≤ k ∧ k < many
  · rw [zir, if_neg (by omega), if_pos h, zb7, zb7] <;> (try rw [zb7]) <;> omega
  · rw [zir, if_pos (by omega), if_neg h]
theorem zit {b : Bl} (hf : Fit b) {base : Int} (h0 : 0 ≤ base) (h1 : base ≤ 65535) (k : Int) : zbe b base k = if 0 ≤ k ∧ k < b.sorts.length then base + k else -1 := by
  have hs := hf.s
  rw [zbe, zu9 h0 h1 (by omega) (by omega) (by omega)]
  split <;> omega
theorem zcl {b : Bl} (hf : Fit b) {base : Int} (h0 : 0 ≤ base) (h1 : base ≤ 65535) (k : Int) : zao b base k = if 0 ≤ k ∧ k < b.cons.length then base + (b.sorts.length + decs b.sorts) + k else -1 := by
  have hs := hf.s
  have hc := hf.c
  have h3 := zfu b.sorts
  rw [zao, zb7 (by omega) (by omega), zu9 h0 h1 (by omega) (by omega) (by omega)]
theorem zjk {b : Bl} (hf : Fit b) {base : Int} (h0 : 0 ≤ base) (h1 : base ≤ 65535) (k : Int) : za7 b base k = if 0 ≤ k ∧ k < b.sorts.length then base + (b.sorts.length + decs b.sorts + b.cons.length) + k else -1 := by
  have hs := hf.s
  have hc := hf.c
  have h3 := zfu b.sorts
  rw [za7, zb7 (n := (b.sorts.length : Int) + decs b.sorts) (by omega) (by omega), zb7 (by omega) (by omega), zu9 h0 h1 (by omega) (by omega) (by omega)]
theorem zpg {b : Bl} (hf : Fit b) {base : Int} (h0 : 0 ≤ base) (h1 : base ≤ 65535) (k : Int) :
    zdf b base k = if h : 0 ≤ k ∧ k < b.sorts.length then if (b.sorts[k.toNat]'(by omega)).dec then base + b.sorts.length + decs (b.sorts.take k.toNat) else -1 else -1 := by
  have hs := hf.s
  by_cases h : 0 ≤ k ∧ k < b.sorts.length
  · have hlt : k.toNat < b.sorts.length := by omega
    have h3 := zfu (b.sorts.take k.toNat)
    rw [List.length_take] at h3
    rw [dif_pos h, zdf, if_neg (by omega), List.getElem?_eq_getElem hlt]
    dsimp only
    split
    · rw [zu9 h0 h1 (by omega) (by omega) (by omega), if_pos (by omega)]
    · rfl
  · rw [dif_neg h, zdf]
    by_cases hk : k < 0
    · rw [if_pos hk]
    · rw [if_neg hk, List.getElem?_eq_none (by omega)]
theorem zJx : ∀ (l : List So) (j : Nat), j < decs l → ∃ (k : Nat) (hk : k < l.length), l[k].dec = true ∧ decs (l.take k) = j
  | [], j, h => by simp [decs] at h
  | s :: l, j, h => by
    cases hd : s.dec with
    | false =>
      obtain ⟨k, hk, h1, h2⟩ := zJx l j (by simpa [decs, hd] using h)
      exact ⟨k + 1, by simpa using hk, by simpa using h1, by simpa [decs, hd] using h2⟩
    | true =>
      cases j with
      | zero => exact ⟨0, by simp, by simpa using hd, by simp [decs]⟩
      | succ j =>
        obtain ⟨k, hk, h1, h2⟩ := zJx l j (by simp [decs, hd] at h; simpa [decs] using h)
        exact ⟨k + 1, by simpa using hk, by simpa using h1, by simp [decs, hd] at h2 ⊢; exact h2⟩
theorem zMu {n : Int} {e : En} {k : Nat} (h : hit n e = some k) : k < e.many ∧ e.of k = n := by
  have h1 := List.find?_some h
  have h2 := List.mem_of_find?_eq_some h
  exact ⟨by simpa using h2, by simpa using h1⟩
theorem zn9 {n : Int} {l : List En} {p : Int × Int} (h : seek n l = some p) : ∃ e ∈ l, ∃ k : Nat, k < e.many ∧ e.of k = n ∧ p = (e.kind, (k : Int)) := by
  obtain ⟨e, he, h1⟩ := List.exists_of_findSome?_eq_some h
  cases hh : hit n e with
  | none => rw [hh] at h1; cases h1
  | some k =>
    rw [hh] at h1
    obtain ⟨h2, h3⟩ := zMu hh
    exact ⟨e, he, k, h2, h3, (Option.some.inj h1).symm⟩
theorem zm0 {n : Int} {l : List En} {e : En} (he : e ∈ l) {k : Nat} (hk : k < e.many) (hn : e.of k = n) : ∃ p, seek n l = some p := by
  cases h : seek n l with
  | some p => exact ⟨p, rfl⟩
  | none =>
    have h1 := List.findSome?_eq_none_iff.1 h e he
    cases hh : hit n e with
    | some k => rw [hh] at h1; cases h1
    | none =>
      have h2 := List.find?_eq_none.1 hh k (by simpa using hk)
      simp [hn] at h2
theorem zPk {b : Bl} (hf : Fit b) {base : Int} (h0 : 0 ≤ base) (h1 : base ≤ 65535) {n : Int} (hn : base ≤ n) (hc : n < base + zlb b) :
    ∃ e ∈ tab b base, ∃ k : Nat, k < e.many ∧ e.of k = n ∧ ofM b base n = (e.kind, (k : Int)) := by
  have hs := hf.s
  have hcc := hf.c
  have h3 := zfu b.sorts
  have hci := zl0 hf
  have hb : base ≤ 65535 := by omega
  have hso : ∃ p, seek n (tab b base) = some p := by
    by_cases c1 : n < base + b.sorts.length
    · exact zm0 (e := ⟨3, b.sorts.length, zcj, zbe b base⟩) (k := (n - base).toNat) (by simp [tab]) (by simp; omega) (by simp only; rw [zit hf h0 hb, if_pos (by omega)]; omega)
    by_cases c2 : n < base + b.sorts.length + decs b.sorts
    · obtain ⟨k, hk, d1, d2⟩ := zJx b.sorts (n - base - b.sorts.length).toNat (by omega)
      refine zm0 (e := ⟨4, b.sorts.length, zd3, zdf b base⟩) (k := k) (by simp [tab]) hk ?_
      simp only
      rw [zpg hf h0 hb, dif_pos (by omega), if_pos (by simpa using d1), Int.toNat_natCast, d2]
      omega
    by_cases c3 : n < base + b.sorts.length + decs b.sorts + b.cons.length
    · exact zm0 (e := ⟨5, b.cons.length, zbs, zao b base⟩) (k := (n - base - b.sorts.length - decs b.sorts).toNat) (by simp [tab]) (by simp; omega) (by simp only; rw [zcl hf h0 hb, if_pos (by omega)]; omega)
    · exact zm0 (e := ⟨6, b.sorts.length, zb8, za7 b base⟩) (k := (n - base - b.sorts.length - decs b.sorts - b.cons.length).toNat) (by simp [tab]) (by simp; omega) (by simp only; rw [zjk hf h0 hb, if_pos (by omega)]; omega)
  obtain ⟨p, hp⟩ := hso
  obtain ⟨e, he, k, g1, g2, g3⟩ := zn9 hp
  refine ⟨e, he, k, g1, g2, ?_⟩
  rw [ofM, if_neg, hp, g3]
  · rfl
  · rw [zb7 (by omega) (by omega)]; omega
theorem zGc {b : Bl} (hf : Fit b) {base : Int} (h0 : 0 ≤ base) {n : Int} (hn64 : is64 n) (hn : n < base ∨ base + zlb b ≤ n) : ofM b base n = (0, 0) := by
  obtain ⟨m1, m2⟩ := hn64
  rw [ofM, if_pos]
  rcases hn with hn | hn
  · omega
  · have := zl0 hf
    rw [zb7 (by omega) (by omega)]
    omega
end
section
attribute [local simp] zae zaf tk tn tks zb1 zcb
theorem zwg (l : List So) {a c : Nat} (h : a ≤ c) : decs (l.take a) ≤ decs (l.take c) := by
  have h1 : (l.take a).Sublist (l.take c) := List.take_sublist_take_left h
  exact (h1.filter _).length_le
theorem zzi (l : List So) {k : Nat} (hk : k < l.length) (hd : l[k].dec = true) : decs (l.take (k + 1)) = decs (l.take k) + 1 := by
  rw [zwl l k l[k] (List.getElem?_eq_getElem hk), hd]
  rfl
theorem zSj (l : List So) {k m : Nat} (hk : k < l.length) (hm : m < l.length) (hd : l[k].dec = true) (hd' : l[m].dec = true) (h : decs (l.take k) = decs (l.take m)) : k = m := by
  rcases Nat.lt_trichotomy k m with c | c | c
  · have := zwg l (show k + 1 ≤ m from c)
    rw [zzi l hk hd] at this
    omega
  · exact c
  · have := zwg l (show m + 1 ≤ k from c)
    rw [zzi l hm hd'] at this
    omega
theorem zI1 (l : List So) {k : Nat} (hk : k < l.length) (hd : l[k].dec = true) : decs (l.take k) + 1 ≤ decs l := by
  have := zwg l (show k + 1 ≤ l.length from hk)
  rw [zzi l hk hd, List.take_length] at this
  exact this
theorem zep {b : Bl} (hf : Fit b) {base : Int} (h0 : 0 ≤ base) (h1 : base ≤ 65535) {k n : Int} (hn : 0 ≤ n) (h : zdf b base k = n) :
    ∃ (j : Nat) (hj : j < b.sorts.length), k = j ∧ b.sorts[j].dec = true ∧ n = base + b.sorts.length + decs (b.sorts.take j) := by
  rw [zpg hf h0 h1] at h
  by_cases c : 0 ≤ k ∧ k < b.sorts.length
  · rw [dif_pos c] at h
    have hlt : k.toNat < b.sorts.length := by omega
    cases hd : b.sorts[k.toNat].dec with
    | true => rw [hd] at h; exact ⟨k.toNat, hlt, by omega, hd, by simpa using h.symm⟩
    | false => rw [hd] at h; simp at h; omega
  · rw [dif_neg c] at h; omega
theorem zf1 {b : Bl} (hf : Fit b) {base : Int} (h0 : 0 ≤ base) (h1 : base ≤ 65535) {k n : Int} (hn : 0 ≤ n) (h : zbe b base k = n) : 0 ≤ k ∧ k < b.sorts.length ∧ n = base + k := by
  rw [zit hf h0 h1] at h
  split at h <;> omega
theorem zb2 {b : Bl} (hf : Fit b) {base : Int} (h0 : 0 ≤ base) (h1 : base ≤ 65535) {k n : Int} (hn : 0 ≤ n) (h : zao b base k = n) : 0 ≤ k ∧ k < b.cons.length ∧ n = base + (b.sorts.length + decs b.sorts) + k := by
  rw [zcl hf h0 h1] at h
  split at h <;> omega
theorem zck {b : Bl} (hf : Fit b) {base : Int} (h0 : 0 ≤ base) (h1 : base ≤ 65535) {k n : Int} (hn : 0 ≤ n) (h : za7 b base k = n) : 0 ≤ k ∧ k < b.sorts.length ∧ n = base + (b.sorts.length + decs b.sorts + b.cons.length) + k := by
  rw [zjk hf h0 h1] at h
  split at h <;> omega
theorem off {b : Bl} {base : Int} (h : ¬(0 ≤ base ∧ base ≤ 65535)) (k : Int) : zbe b base k = -1 ∧ zdf b base k = -1 ∧ zao b base k = -1 ∧ za7 b base k = -1 := by
  refine ⟨?_, ?_, ?_, ?_⟩
  · rw [zbe, zir, if_pos (by omega)]
  · rw [zdf]
    split
    · rfl
    · split
      · rfl
      · split
        · rw [zir, if_pos (by omega)]
        · rfl
  · rw [zao, zir, if_pos (by omega)]
  · rw [za7, zir, if_pos (by omega)]
theorem zLx {b : Bl} (hf : Fit b) {base n : Int} (hn : 0 ≤ n) {e : En} (he : e ∈ tab b base) {k : Nat} (h : e.of k = n) : ofM b base n = (e.kind, (k : Int)) := by
  by_cases hb : 0 ≤ base ∧ base ≤ 65535
  · obtain ⟨h0, h1⟩ := hb
    have hs := hf.s
    have hc := hf.c
    have hd := zfu b.sorts
    have hr : base ≤ n ∧ n < base + zlb b := by
      rw [zl0 hf]
      simp only [tab, List.mem_cons, List.not_mem_nil, or_false] at he
      rcases he with rfl | rfl | rfl | rfl <;> simp only at h
      · have := zf1 hf h0 h1 hn h; omega
      · obtain ⟨j, hj, _, hd1, hd2⟩ := zep hf h0 h1 hn h
        have := zI1 b.sorts hj hd1
        omega
      · have := zb2 hf h0 h1 hn h; omega
      · have := zck hf h0 h1 hn h; omega
    obtain ⟨e', he', k', _, g2, g3⟩ := zPk hf h0 h1 hr.1 hr.2
    rw [g3]
    simp only [tab, List.mem_cons, List.not_mem_nil, or_false] at he he'
    have D : ∀ {j : Nat} (hj : j < b.sorts.length), b.sorts[j].dec = true → decs (b.sorts.take j) + 1 ≤ decs b.sorts := fun hj hd1 => zI1 b.sorts hj hd1
    rcases he with rfl | rfl | rfl | rfl <;> rcases he' with rfl | rfl | rfl | rfl <;> simp only at h g2
    · have a1 := zf1 hf h0 h1 hn h; have a2 := zf1 hf h0 h1 hn g2
      have : k' = k := by omega
      subst this; rfl
    · have a1 := zf1 hf h0 h1 hn h; obtain ⟨j, hj, _, hd1, hd2⟩ := zep hf h0 h1 hn g2; omega
    · have a1 := zf1 hf h0 h1 hn h; have a2 := zb2 hf h0 h1 hn g2; omega
    · have a1 := zf1 hf h0 h1 hn h; have a2 := zck hf h0 h1 hn g2; omega
    · obtain ⟨j, hj, _, hd1, hd2⟩ := zep hf h0 h1 hn h; have a1 := zf1 hf h0 h1 hn g2; omega
    · obtain ⟨j, hj, ej, hd1, hd2⟩ := zep hf h0 h1 hn h; obtain ⟨i, hi, ei, he1, he2⟩ := zep hf h0 h1 hn g2
      have : i = j := zSj b.sorts hi hj he1 hd1 (by omega)
      have : k' = k := by omega
      subst this; rfl
    · obtain ⟨j, hj, _, hd1, hd2⟩ := zep hf h0 h1 hn h; have a1 := zb2 hf h0 h1 hn g2; have := D hj hd1; omega
    · obtain ⟨j, hj, _, hd1, hd2⟩ := zep hf h0 h1 hn h; have a1 := zck hf h0 h1 hn g2; have := D hj hd1; omega
    · have a1 := zb2 hf h0 h1 hn h; have a2 := zf1 hf h0 h1 hn g2; omega
    · have a1 := zb2 hf h0 h1 hn h; obtain ⟨j, hj, _, hd1, hd2⟩ := zep hf h0 h1 hn g2; have := D hj hd1; omega
    · have a1 := zb2 hf h0 h1 hn h; have a2 := zb2 hf h0 h1 hn g2
      have : k' = k := by omega
      subst this; rfl
    · have a1 := zb2 hf h0 h1 hn h; have a2 := zck hf h0 h1 hn g2; omega
    · have a1 := zck hf h0 h1 hn h; have a2 := zf1 hf h0 h1 hn g2; omega
    · have a1 := zck hf h0 h1 hn h; obtain ⟨j, hj, _, hd1, hd2⟩ := zep hf h0 h1 hn g2; have := D hj hd1; omega
    · have a1 := zck hf h0 h1 hn h; have a2 := zb2 hf h0 h1 hn g2; omega
    · have a1 := zck hf h0 h1 hn h; have a2 := zck hf h0 h1 hn g2
      have : k' = k := by omega
      subst this; rfl
  · obtain ⟨o1, o2, o3, o4⟩ := off (b := b) hb (k : Int)
    simp only [tab, List.mem_cons, List.not_mem_nil, or_false] at he
    rcases he with rfl | rfl | rfl | rfl <;> simp only at h <;> omega
theorem zJz {b : Bl} (hf : Fit b) {base n : Int} (hn : 0 ≤ n) {k : Nat} (h : zbe b base k = n) : ofM b base n = (3, (k : Int)) := zLx hf hn (e := ⟨3, b.sorts.length, zcj, zbe b base⟩) (by simp [tab]) h
theorem zy7 {b : Bl} (hf : Fit b) {base n : Int} (hn : 0 ≤ n) {k : Nat} (h : zdf b base k = n) : ofM b base n = (4, (k : Int)) := zLx hf hn (e := ⟨4, b.sorts.length, zd3, zdf b base⟩) (by simp [tab]) h
theorem zp2 {b : Bl} (hf : Fit b) {base n : Int} (hn : 0 ≤ n) {k : Nat} (h : zao b base k = n) : ofM b base n = (5, (k : Int)) := zLx hf hn (e := ⟨5, b.cons.length, zbs, zao b base⟩) (by simp [tab]) h
theorem zz1 {b : Bl} (hf : Fit b) {base n : Int} (hn : 0 ≤ n) {k : Nat} (h : za7 b base k = n) : ofM b base n = (6, (k : Int)) := zLx hf hn (e := ⟨6, b.sorts.length, zb8, za7 b base⟩) (by simp [tab]) h
theorem zPa {b : Bl} (hf : Fit b) {base n : Int} (hn : is64 n) (h : ∀ e ∈ tab b base, ∀ k : Nat, k < e.many → 0 ≤ n → e.of k ≠ n) : ofM b base n = (0, 0) := by
  by_cases hb : 0 ≤ base ∧ base ≤ 65535
  · by_cases hr : base ≤ n ∧ n < base + zlb b
    · obtain ⟨e, he, k, g1, g2, _⟩ := zPk hf hb.1 hb.2 hr.1 hr.2
      exact absurd g2 (h e he k g1 (by omega))
    · exact zGc hf hb.1 hn (by omega)
  · rw [ofM, if_pos (by omega)]
end
section
attribute [local simp] zae zaf tk tn tks zb1 zcb
end
end
section
section
attribute [local simp] zae zaf tk tn tks zb1 zcb
theorem zUd : Tryz.prog.cellsOf 59 = 7 := by kernel_rfl
theorem zO5 : Tryz.prog.cellsOf 38 = 1 := by kernel_rfl
theorem zOu : Tryz.prog.cellsOf 40 = 6 := by kernel_rfl
theorem zT6 : Tryz.prog.cellsOf 61 = 6 := by kernel_rfl
theorem zQ4 : Tryz.prog.cellsOf 22 = 1 := by kernel_rfl
theorem zTf : Tryz.prog.cellsOf 23 = 1 := by kernel_rfl
theorem zP8 : Tryz.prog.cellsOf 25 = 3 := by kernel_rfl
theorem y_arg : Tryz.prog.bytesOf 59 = 104 := by kernel_rfl
theorem zSz : Tryz.prog.bytesOf 40 = 80 := by kernel_rfl
theorem y_con : Tryz.prog.bytesOf 61 = 96 := by kernel_rfl
theorem zSw : zbh Tryz.prog 59 = true := by simp only [zbh, Tryz.underlying59]
theorem zP2 : zbh Tryz.prog 40 = true := by simp only [zbh, Tryz.underlying40]
theorem zUv : zbh Tryz.prog 61 = true := by simp only [zbh, Tryz.underlying61]
theorem zNn : zbh Tryz.prog 25 = true := by simp only [zbh, Tryz.underlying25]
structure okAr (a : Ar) : Prop where
  ty : okT a.ty
  dom : okTs a.dom
  sort : n64 a.sort
  idx : okTs a.idx
def zuw (l : List Ar) : Prop := l.length * 104 ≤ 140737488351232 ∧ ∀ x ∈ l, okAr x
structure okSo (s : So) : Prop where
  idx : zuw s.idx
  level : n64 s.level
  dty : okT s.dty
structure okCo (c : Co) : Prop where
  sort : n64 c.sort
  args : zuw c.args
  idx : okTs c.idx
  dec : okT c.dec
structure okBl (b : Bl) : Prop where
  sortsL : b.sorts.length * 80 ≤ 140737488351232
  sorts : ∀ x ∈ b.sorts, okSo x
  consL : b.cons.length * 96 ≤ 140737488351232
  cons : ∀ x ∈ b.cons, okCo x
  elim : n64 b.elim
theorem len6 {xs : List D} (h : xs.length = 6) : ∃ a b c d e f, xs = [a, b, c, d, e, f] := by
  match xs, h with
  | [a, b, c, d, e, f], _ => exact ⟨a, b, c, d, e, f, rfl⟩
theorem len7 {xs : List D} (h : xs.length = 7) : ∃ a b c d e f g, xs = [a, b, c, d, e, f, g] := by
  match xs, h with
  | [a, b, c, d, e, f, g], _ => exact ⟨a, b, c, d, e, f, g, rfl⟩
theorem zSc {n : Nat} {cs : List D} (h : typ Tryz.prog n 59 cs) : ∃ a : Ar, cs = cAr a ∧ okAr a := by
  cases n with
  | zero => exact h.elim
  | succ n =>
    simp only [typ, Tryz.underlying59, zUd, zLn, zOp, zzb, zEl, List.forall_mem_cons] at h
    obtain ⟨hl, h1, h2, h3, h4, h5, _⟩ := h
    obtain ⟨a, b, c, d, e, f, g, rfl⟩ := len7 hl
    obtain ⟨r, hr⟩ := zGi h1
    obtain ⟨t, ht, q1⟩ := zvd _ h2
    obtain ⟨ds, hd, q2⟩ := zw5 h3
    obtain ⟨i, hi, q3⟩ := zrq h4
    obtain ⟨js, hj, q4⟩ := zw5 h5
    simp at hr ht hd hi hj
    refine ⟨⟨r, t, ds, i, js⟩, ?_, ⟨q1, q2, q3, q4⟩⟩
    simp [cAr, ← ht, hr, hd, hi, hj]
theorem zFi {n : Nat} {cs : List D} (h : typ Tryz.prog n 38 cs) : ∃ l : List Ar, cs = [eArs l] ∧ zuw l := by
  obtain ⟨m, xs, rfl, hc, hb, hx⟩ := zn1 Tryz.underlying38 zUd y_arg zSw h
  obtain ⟨ks, rfl, hks⟩ : ∃ l : List Ar, xs = l.map eAr ∧ ∀ a ∈ l, okAr a := zyd fun x hxx => by
    obtain ⟨h4, h5⟩ := hx x hxx
    obtain ⟨t, ht, hq⟩ := zSc h4
    exact ⟨t, hq, by rw [h5, ht]; rfl⟩
  exact ⟨ks, hc, by simpa using hb, hks⟩
theorem zNo {n : Nat} {cs : List D} (h : typ Tryz.prog n 40 cs) : ∃ a : So, cs = cSo a ∧ okSo a := by
  cases n with
  | zero => exact h.elim
  | succ n =>
    simp only [typ, Tryz.underlying40, zOu, zLn, zOp, zzb, zO5, List.forall_mem_cons] at h
    obtain ⟨hl, h1, h2, h3, h4, _⟩ := h
    obtain ⟨a, b, c, d, e, f, rfl⟩ := len6 hl
    obtain ⟨l, hq, q1⟩ := zFi h1
    obtain ⟨i, hi, q2⟩ := zrq h2
    obtain ⟨r, hr⟩ := zGi h3
    obtain ⟨t, ht, q3⟩ := zvd _ h4
    simp at hr ht hi hq
    refine ⟨⟨l, i, r, t⟩, ?_, ⟨q1, q2, q3⟩⟩
    simp [cSo, ← ht, hr, hi, hq]
theorem zPi {n : Nat} {cs : List D} (h : typ Tryz.prog n 61 cs) : ∃ a : Co, cs = cCo a ∧ okCo a := by
  cases n with
  | zero => exact h.elim
  | succ n =>
    simp only [typ, Tryz.underlying61, zT6, zLn, zO5, zzb, zEl, List.forall_mem_cons] at h
    obtain ⟨hl, h1, h2, h3, h4, _⟩ := h
    obtain ⟨a, b, c, d, e, f, rfl⟩ := len6 hl
    obtain ⟨i, hi, q1⟩ := zrq h1
    obtain ⟨l, hq, q2⟩ := zFi h2
    obtain ⟨js, hj, q3⟩ := zw5 h3
    obtain ⟨t, ht, q4⟩ := zvd _ h4
    simp at ht hi hq hj
    refine ⟨⟨i, l, js, t⟩, ?_, ⟨q1, q2, q3, q4⟩⟩
    simp [cCo, ← ht, hi, hq, hj]
theorem zIc {n : Nat} {cs : List D} (h : typ Tryz.prog n 25 cs) : ∃ b : Bl, cs = cBl b ∧ okBl b := by
  cases n with
  | zero => exact h.elim
  | succ n =>
    simp only [typ, Tryz.underlying25, zP8, zLn, zQ4, zTf, List.forall_mem_cons] at h
    obtain ⟨hl, h1, h2, h3, _⟩ := h
    obtain ⟨a, b, c, rfl⟩ := len3 hl
    obtain ⟨m, xs, rfl, hc, hb, hx⟩ := zn1 Tryz.underlying22 zOu zSz zP2 h1
    obtain ⟨m', ys, _, hd, hb', hy⟩ := zn1 Tryz.underlying23 zT6 y_con zUv h2
    obtain ⟨i, hi, q1⟩ := zrq h3
    obtain ⟨ss, rfl, q2⟩ : ∃ l : List So, xs = l.map eSo ∧ ∀ a ∈ l, okSo a := zyd fun x hxx => by
      obtain ⟨h4, h5⟩ := hx x hxx
      obtain ⟨t, ht, hq⟩ := zNo h4
      exact ⟨t, hq, by rw [h5, ht]; rfl⟩
    obtain ⟨ks, rfl, q3⟩ : ∃ l : List Co, ys = l.map eCo ∧ ∀ a ∈ l, okCo a := zyd fun x hxx => by
      obtain ⟨h4, h5⟩ := hy x hxx
      obtain ⟨t, ht, hq⟩ := zPi h4
      exact ⟨t, hq, by rw [h5, ht]; rfl⟩
    simp at hc hd hi
    refine ⟨⟨ss, ks, i⟩, ?_, ⟨by simpa using hb, q2, by simpa using hb', q3, q1⟩⟩
    simp [cBl, hc, hd, hi, eSos, eCos]
theorem zJl {x : D} (h : TypD Tryz.prog 25 x) : ∃ b : Bl, x = eBl b ∧ okBl b := by
  obtain ⟨⟨n, h1⟩, h2⟩ := h
  obtain ⟨b, hb, hq⟩ := zIc h1
  exact ⟨b, by rw [zOl (h2.trans zNn), hb]; rfl, hq⟩
end
section
attribute [local simp] zae zaf tk tn tks zb1 zcb
theorem zDa (l : List Ar) (h : zuw l) : OwnC Tryz.prog zcm [eArs l] [.one (.row 7 (l.map eAr) false)] := by
  refine zoi rfl fun hs => ?_
  have hl := h.1
  simp -dsimp [zfe, eArs]
  refine zam l.length (fun i st => st.s 0 = .d (.sl 7 (l.map eAr)) ∧ st.s 4 = .d (.int .i64 i) ∧ ∃ v, st.s 3 = .rsl 3 v ∧ st.h 3 = ⟨v, .row 7 ((l.map eAr).take i) false⟩) ?_ ?_
  · simp -dsimp
  · rintro i ⟨s, hp⟩ hi ⟨g1, g2, v, g3, g4⟩
    dsimp only at g1 g2 g3 g4
    rcases Nat.lt_or_ge i l.length with hlt | hge
    · have w1 : IntKind.i64.wrap ((i : Int) + 1) = (i : Int) + 1 := zad (by omega) (by omega)
      have ho := h.2 l[i] (List.getElem_mem _)
      simp -dsimp [g1, g2, g3, g4, hlt, cT, eAr, cAr, eTs]
      refine zaa (zoy l[i].ty ho.ty) ?_
      simp -dsimp [g1, g2, g3, g4, hlt, cT, eAr, cAr, eTs]
      refine zaa (zAx l[i].dom ho.dom) ?_
      simp -dsimp [g1, g2, g3, g4, hlt, cT, eAr, cAr, eTs]
      refine zaa (zAx l[i].idx ho.idx) ?_
      have hr : (min i l.length + 1) * 104 ≤ zaj := by simp only [zaj]; omega
      have hn := zo1 eAr cAr (fun _ => rfl) l i hlt
      simp only [cAr, cT, List.cons_append, List.nil_append, eTs] at hn
      simp -dsimp [g1, g2, g3, g4, hlt, cT, hr, hn, w1, eTs]
    · have e : i = l.length := by omega
      subst e
      simp -dsimp [g1, g2, g3, g4]
      exact List.take_of_length_le (by simp)
theorem zxn (l : List Ar) (h : zuw l) : Pure Tryz.prog zcm [eArs l] [eArs l] := (zDa l h).pure
theorem zGp (c : Co) (h : okCo c) : Pure Tryz.prog zfw [.agg (cCo c)] [.agg (cCo c)] := by
  refine zpx rfl fun hs => ?_
  simp -dsimp [zfy, cCo, cT, eArs, eTs]
  refine zaa (zxn c.args h.args) ?_
  simp -dsimp [eArs, eTs]
  refine zaa (zAx c.idx h.idx) ?_
  simp -dsimp [eArs, eTs]
  refine zaa (zoy c.dec h.dec) ?_
  simp -dsimp [eArs, eTs, cT]
def rcS (l : List So) : RC := if l = [] then .d (.sl 6 []) else .row 6 (l.map eSo) false
def rcK (l : List Co) : RC := if l = [] then .d (.sl 6 []) else .row 6 (l.map eCo) false
theorem zAy (b : Bl) (h : okBl b) : OwnC Tryz.prog zdc [eBl b] [.agg [rcS b.sorts, rcK b.cons, .d (.int .i64 b.elim)]] := by
  refine znd rfl fun hs => ?_
  have hl := h.sortsL
  have hl2 := h.consL
  simp -dsimp [zeu, eBl, cBl, eSos, eCos]
  refine zam b.sorts.length (fun i st => st.s 1 = .ptr 1 1 0 ∧ st.h 1 = ⟨1, .box [.d (.sl 6 (b.sorts.map eSo)), .d (.sl 6 (b.cons.map eCo)), .d (.int .i64 b.elim)] false⟩ ∧
    st.s 2 = .ptr 2 1 0 ∧ st.h 2 = ⟨1, .box [.fsl 6 [], .fsl 6 [], .d (.int .i64 0)] false⟩ ∧ st.s 4 = .d (.int .i64 i) ∧
    st.s 3 = .ptr 3 1 0 ∧ ∃ c, st.h 3 = ⟨1, .box [c, .fsl 6 [], .d (.int .i64 b.elim)] false⟩ ∧ ((i = 0 ∧ c = .fsl 6 []) ∨ (0 < i ∧ ∃ v, c = .rsl 34 v ∧ st.h 34 = ⟨v, .row 6 ((b.sorts.map eSo).take i) false⟩))) ?_ ?_
  · simp -dsimp
  · rintro i ⟨s, hp⟩ hi ⟨g1, g2, g3, g4, g5, g6, c, g7, g8⟩
    dsimp only at g1 g2 g3 g4 g5 g6 g7 g8
    rcases Nat.lt_or_ge i b.sorts.length with hlt | hge
    · have w1 : IntKind.i64.wrap ((i : Int) + 1) = (i : Int) + 1 := zad (by omega) (by omega)
      have ho := h.sorts b.sorts[i] (List.getElem_mem _)
      simp -dsimp [g1, g2, g3, g4, g5, g6, g7, hlt, cT, eSo, cSo, eArs]
      refine zaa (zxn b.sorts[i].idx ho.idx) ?_
      simp -dsimp [g1, g2, g3, g4, g5, g6, g7, hlt, cT, eSo, cSo, eArs]
      refine zaa (zoy b.sorts[i].dty ho.dty) ?_
      have hr : (min i b.sorts.length + 1) * 80 ≤ zaj := by simp only [zaj]; omega
      have hn := zo1 eSo cSo (fun _ => rfl) b.sorts i hlt
      simp only [cSo, cT, List.cons_append, List.nil_append, eArs] at hn
      rcases g8 with ⟨rfl, rfl⟩ | ⟨hi0, v, rfl, g8⟩
      · have h80 : min 1 b.sorts.length * 80 ≤ zaj := by simp only [zaj]; omega
        have hne : ¬ b.sorts = [] := List.ne_nil_of_length_pos hlt
        simp only [List.take_zero, List.nil_append, Nat.zero_add] at hn
        simp at hlt hn w1
        simp -dsimp [g1, g2, g3, g4, g5, g6, g7, hlt, cT, eSo, cSo, eArs, w1, h80, hn, hne]
      · simp -dsimp [g1, g2, g3, g4, g5, g6, g7, g8, hlt, cT, eSo, cSo, eArs, w1, hr, hn]
    · have e : i = b.sorts.length := by omega
      subst e
      rw [List.take_of_length_le (by simp)] at g8
      simp -dsimp [g1, g2, g3, g4, g5, g6, g7]
      clear hi g5
      refine zam b.cons.length (fun i st => st.s 1 = .ptr 1 1 0 ∧ st.h 1 = ⟨1, .box [.d (.sl 6 (b.sorts.map eSo)), .d (.sl 6 (b.cons.map eCo)), .d (.int .i64 b.elim)] false⟩ ∧
        st.s 2 = .ptr 2 1 0 ∧ st.h 2 = ⟨1, .box [.fsl 6 [], .fsl 6 [], .d (.int .i64 0)] false⟩ ∧ st.s 6 = .d (.int .i64 i) ∧
        st.s 3 = .ptr 3 1 0 ∧ ∃ d, st.h 3 = ⟨1, .box [c, d, .d (.int .i64 b.elim)] false⟩ ∧ ((b.sorts = [] ∧ c = .fsl 6 []) ∨ (0 < b.sorts.length ∧ ∃ v, c = .rsl 34 v ∧ st.h 34 = ⟨v, .row 6 (b.sorts.map eSo) false⟩)) ∧
          ((i = 0 ∧ d = .fsl 6 []) ∨ (0 < i ∧ ∃ v, d = .rsl 52 v ∧ st.h 52 = ⟨v, .row 6 ((b.cons.map eCo).take i) false⟩))) ?_ ?_
      · simp -dsimp [g1, g2, g3, g4, g6, g7]
        simpa using g8
      · clear g1 g2 g3 g4 g6 g7 g8 s hp
        rintro i ⟨s, hp⟩ hi ⟨g1, g2, g3, g4, g5, g6, d, g7, g8, g9⟩
        dsimp only at g1 g2 g3 g4 g5 g6 g7 g8 g9
        rcases Nat.lt_or_ge i b.cons.length with hlt | hge
        · have w1 : IntKind.i64.wrap ((i : Int) + 1) = (i : Int) + 1 := zad (by omega) (by omega)
          have ho := h.cons b.cons[i] (List.getElem_mem _)
          simp -dsimp [g1, g2, g3, g4, g5, g6, g7, hlt, cT, eCo, cCo, eArs, eTs]
          refine zaa (zGp b.cons[i] ho) ?_
          have hr : (min i b.cons.length + 1) * 96 ≤ zaj := by simp only [zaj]; omega
          have hn := zo1 eCo cCo (fun _ => rfl) b.cons i hlt
          simp only [cCo, cT, List.cons_append, List.nil_append, eArs, eTs] at hn
          rcases g9 with ⟨rfl, rfl⟩ | ⟨hi0, v, rfl, g9⟩
          · have h96 : min 1 b.cons.length * 96 ≤ zaj := by simp only [zaj]; omega
            have hne : ¬ b.cons = [] := List.ne_nil_of_length_pos hlt
            simp only [List.take_zero, List.nil_append, Nat.zero_add] at hn
            simp at hlt hn w1
            simp -dsimp [g1, g2, g3, g4, g5, g6, g7, hlt, cT, eCo, cCo, eArs, eTs, w1, h96, hn, hne]
            exact g8
          · simp -dsimp [g1, g2, g3, g4, g5, g6, g7, g9, hlt, cT, eCo, cCo, eArs, eTs, w1, hr, hn]
            exact g8
        · have e : i = b.cons.length := by omega
          subst e
          rw [List.take_of_length_le (by simp)] at g9
          have hc : b.cons.length = 0 → b.cons = [] := List.length_eq_zero_iff.1
          have hS0 : rcS [] = .d (.sl 6 []) := rfl
          have hK0 : rcK [] = .d (.sl 6 []) := rfl
          rcases g8 with ⟨hz, rfl⟩ | ⟨hp1, v, rfl, g8⟩ <;> rcases g9 with ⟨hy, rfl⟩ | ⟨hp2, u, rfl, g9⟩
          · simp -dsimp [g1, g2, g3, g4, g5, g6, g7, hz, hc hy, hS0, hK0]
          · have hK : rcK b.cons = .row 6 (b.cons.map eCo) false := by rw [rcK, if_neg (List.ne_nil_of_length_pos hp2)]
            simp -dsimp [g1, g2, g3, g4, g5, g6, g7, hz, g9, hS0, hK]
          · have hS : rcS b.sorts = .row 6 (b.sorts.map eSo) false := by rw [rcS, if_neg (List.ne_nil_of_length_pos hp1)]
            simp -dsimp [g1, g2, g3, g4, g5, g6, g7, g8, hc hy, hS, hK0]
          · have hK : rcK b.cons = .row 6 (b.cons.map eCo) false := by rw [rcK, if_neg (List.ne_nil_of_length_pos hp2)]
            have hS : rcS b.sorts = .row 6 (b.sorts.map eSo) false := by rw [rcS, if_neg (List.ne_nil_of_length_pos hp1)]
            simp -dsimp [g1, g2, g3, g4, g5, g6, g7, g8, g9, hS, hK]
theorem zMp (l : List So) : (rcS l).data = eSos l := by
  rw [rcS]; split
  · rename_i h; subst h; rfl
  · rfl
theorem zMy (l : List Co) : (rcK l).data = eCos l := by
  rw [rcK]; split
  · rename_i h; subst h; rfl
  · rfl
theorem zBr (b : Bl) (h : okBl b) : Pure Tryz.prog zdc [eBl b] [eBl b] := by
  have := (zAy b h).pure
  simp only [List.map_cons, List.map_nil, RV.data, zMp, zMy] at this
  exact this
end
section
attribute [local simp] zae zaf tk tn tks zb1 zcb
end
section
attribute [local simp] zae zaf tk tn tks zb1 zcb
theorem zG9 (t : T) : ∀ v c : Int, Pure Tryz.prog zct [.agg (cT t), .int .i64 v, .int .i64 c] [.bool (zcq t v c)] := by
  refine T.ind (p := fun t => ∀ v c : Int, Pure Tryz.prog zct [.agg (cT t), .int .i64 v, .int .i64 c] [.bool (zcq t v c)]) ?_ t
  intro k n ks ih v c
  refine zpv rfl fun hs => ?_
  have hl := zgy (t := .mk k n ks) (fun d hd => hs d (by simp at hd; simp [hd]))
  simp [T.kids] at hl
  simp -dsimp [zft, cT, T.kind, T.num, T.kids]
  (first | refine zal ?_ ?_ | refine zak ?_ ?_) <;> intro h1 <;> (try simp only [nrm] at h1) <;> simp -dsimp [h1, zcq]
  (first | refine zal ?_ ?_ | refine zak ?_ ?_) <;> intro h2 <;> (try simp only [nrm] at h2) <;> simp -dsimp [h2, zcq, h1]
  (first | refine zal ?_ ?_ | refine zak ?_ ?_) <;> intro h3 <;> (try simp only [nrm] at h3) <;> simp -dsimp [h3, zcq, h1, h2]
  have hw : zcq (.mk k n ks) v c = zhm k v c 0 ks := by rw [zcq, if_neg h1, if_neg h2, if_neg h3]
  rw [hw]
  refine zam ks.length (fun i st => st.s 3 = .ptr 3 1 0 ∧ st.h 3 = ⟨1, .box [.d (.int .i64 k), .d (.int .i64 n), .d (.sl 3 (ks.map eT))] false⟩ ∧ st.s 1 = .d (.int .i64 v) ∧ st.s 2 = .d (.int .i64 c) ∧
    st.s 7 = .d (.int .i64 i) ∧ ∀ (j : Nat) (hj : j < ks.length), j < i → zcq ks[j] (w64 (v + zai k j)) c = true) ?_ ?_
  · simp -dsimp
  · rintro i ⟨s, hp⟩ hi ⟨g1, g2, g3, g4, g5, g8⟩
    dsimp only at g1 g2 g3 g4 g5
    rcases Nat.lt_or_ge i ks.length with hlt | hge
    · have w1 : IntKind.i64.wrap ((i : Int) + 1) = (i : Int) + 1 := zad (by omega) (by omega)
      simp -dsimp [g1, g2, g3, g4, g5, hlt, cT]
      refine zaa (zBf k i) ?_
      simp -dsimp [g1, g2, g3, g4, g5, hlt]
      refine zaa (ih ks[i] (List.getElem_mem _) (w64 (v + zai k i)) c) ?_
      simp -dsimp [g1, g2, g3, g4, g5, hlt]
      (first | refine zal ?_ ?_ | refine zak ?_ ?_) <;> intro h4 <;> (try simp only [nrm] at h4) <;> simp -dsimp [h4, g1, g2, g3, g4, g5, hlt, w1]
      · cases hw : zhm k v c 0 ks with
        | false => rfl
        | true =>
          have := (zkl k v c ks 0).1 hw i hlt
          rw [Nat.zero_add, h4] at this
          cases this
      · intro j hj hji
        rcases Nat.lt_or_ge j i with h | h
        · exact g8 j hj h
        · have : j = i := by omega
          subst this
          exact h4
    · have e : i = ks.length := by omega
      subst e
      have : zhm k v c 0 ks = true := (zkl k v c ks 0).2 fun j hj => by simpa using g8 j hj hj
      simp -dsimp [g1, g2, g3, g4, g5, this]
def znu (t : T) (v c : Int) : Bool := if v < 0 then false else if c < 0 then false else if zaw t = 0 then zcq t (if 1048576 < v then 1048576 else v) c else false
theorem zI9 {t : T} {v c : Int} (h : v ≤ 65536) : znu t v c = zlr t v c := by
  rw [znu, zlr, if_neg (show ¬1048576 < v by omega), if_neg (show ¬65536 < v by omega)]
theorem zLf (t : T) (v c : Int) : Pure Tryz.prog zge [.agg (cT t), .int .i64 v, .int .i64 c] [.bool (znu t v c)] := by
  refine zro rfl fun hs => ?_
  simp -dsimp [zgd, cT]
  (first | refine zal ?_ ?_ | refine zak ?_ ?_) <;> intro h1 <;> (try simp only [nrm] at h1) <;> simp -dsimp [h1, znu]
  · (first | refine zal ?_ ?_ | refine zak ?_ ?_) <;> intro h2 <;> (try simp only [nrm] at h2) <;> simp -dsimp [h2, znu, h1]
    · refine zaa (zH0 t) ?_
      simp -dsimp [h1, h2]
      (first | refine zal ?_ ?_ | refine zak ?_ ?_) <;> intro h3 <;> (try simp only [nrm] at h3) <;> simp -dsimp [h3, znu, h1, h2]
      · refine zaa (zG9 t _ _) ?_
        have hS : znu t v c = zcq t (if 1048576 < v then 1048576 else v) c := by rw [znu, if_neg (by omega), if_neg (by omega), if_pos h3]
        rw [hS]
        simp -dsimp [h3]
end
section
attribute [local simp] zae zaf tk tn tks zb1 zcb
theorem zkt (n lo hi : Int) : Pure Tryz.prog zau [.int .i64 n, .int .i64 lo, .int .i64 hi] [.bool (inB n lo hi)] := by
  refine zu0 rfl fun hs => ?_
  simp -dsimp [zix, inB]
  (first | refine zal ?_ ?_ | refine zak ?_ ?_) <;> intro h1 <;> (try simp only [nrm] at h1) <;> simp -dsimp [h1]
theorem zAo (t : T) : Pure Tryz.prog zdn [.agg (cT t)] [.bool (zwq t)] := by
  refine zry rfl fun hs => ?_
  simp -dsimp [zhk, cT]
  (first | refine zal ?_ ?_ | refine zak ?_ ?_) <;> intro h1 <;> (try simp only [nrm] at h1) <;> simp -dsimp [h1, zwq]
  (first | refine zal ?_ ?_ | refine zak ?_ ?_) <;> intro h2 <;> (try simp only [nrm] at h2) <;> simp -dsimp [h2, zwq, h1]
theorem zpl (t : T) (v : Int) (hv : v ≤ 65536) : Pure Tryz.prog zbp [.agg (cT t), .int .i64 v] [.bool (inM t v)] := by
  refine zsy rfl fun hs => ?_
  simp -dsimp [zg9, cT]
  refine zaa (zLf t v 65536) ?_
  simp -dsimp [inM, zI9 hv]
theorem zKb (b : Bl) (a : Ar) (i : Int) (h0 : 0 ≤ i) (h1 : i ≤ 1000) : Pure Tryz.prog zfo [eBl b, .agg (cAr a), .int .i64 i] [.bool (argM b a i)] := by
  refine zt4 rfl fun hs => ?_
  have hi : ((a.idx.length : Int)) ≤ 9223372036854775807 := by
    have := hs (.agg (cAr a)) (by simp)
    simp -dsimp [cAr, cT, eTs, small] at this
    omega
  simp -dsimp [zhy, eBl, cBl, eSos, eCos, cAr, cT, eTs]
  cases hr : a.rc with
  | false =>
    simp -dsimp [hr]
    refine zaa (zpl a.ty i (by omega)) ?_
    simp -dsimp
    (first | refine zal ?_ ?_ | refine zak ?_ ?_) <;> intro g1 <;> (try simp only [nrm] at g1) <;> simp -dsimp [g1, argM, hr]
    (first | refine zal ?_ ?_ | refine zak ?_ ?_) <;> intro g2 <;> (try simp only [nrm] at g2) <;> simp -dsimp [g2, argM, hr, g1, w64]
  | true =>
    simp -dsimp [hr]
    refine zaa (zAo a.ty) ?_
    simp -dsimp
    (first | refine zal ?_ ?_ | refine zak ?_ ?_) <;> intro g1 <;> (try simp only [nrm] at g1) <;> simp -dsimp [g1, argM, hr]
    (first | refine zal ?_ ?_ | refine zak ?_ ?_) <;> intro g2 <;> (try simp only [nrm] at g2) <;> simp -dsimp [g2, argM, hr, g1]
    refine zaa (zkt a.sort 0 _) ?_
    have hbl : ((b.sorts.length : Int)) ≤ 9223372036854775807 := by
      have := hs (eBl b) (by simp)
      simp -dsimp [eBl, cBl, eSos, small] at this
      omega
    have wS : IntKind.i64.wrap ((b.sorts.length : Int) - 1) = (b.sorts.length : Int) - 1 := zad (by omega) (by omega)
    simp -dsimp [hr, g1, g2, wS]
    (first | refine zal ?_ ?_ | refine zak ?_ ?_) <;> intro g3 <;> (try simp only [nrm] at g3) <;> simp -dsimp [g3, hr, g1, g2, wS]
    · have h5 := (zha _ _ _).1 g3
      by_cases h6 : a.sort < 0
      · simp -dsimp [argM, hr, g1, g2, h6]
      · have h7 : b.sorts[a.sort.toNat]? = none := List.getElem?_eq_none (by omega)
        simp -dsimp [argM, hr, g1, g2, h6, h7]
    have h5 := (zdw _ _ _).1 g3
    have hlt : a.sort.toNat < b.sorts.length := by omega
    have hs0 : 0 ≤ a.sort := h5.1
    have hA : argM b a i = if (a.idx.length : Int) = (b.sorts[a.sort.toNat].idx.length : Int) then domM i a.dom && allM a.idx (w64 (i + a.dom.length)) else false := by
      have : ¬a.sort < 0 := by omega
      simp [argM, hr, g1, g2, hlt, this]
    simp -dsimp [hr, g1, g2, g3, hlt, hs0, eSo, cSo, eArs, cT]
    (first | refine zal ?_ ?_ | refine zak ?_ ?_) <;> intro g4 <;> (try simp only [nrm] at g4) <;> simp -dsimp [g4, hr, g1, g2, g3, hlt, hs0, eSo, cSo, eArs, cT]
    · rw [hA, if_neg g4]
    rw [hA, if_pos g4]
    have hd : a.dom.length ≤ 12 := by omega
    refine zam a.dom.length (fun j st => st.s 2 = .d (.int .i64 i) ∧ st.s 4 = .ptr 4 1 0 ∧ st.h 4 = ⟨1, .box [.d (.bool true), .d (.int .i64 a.ty.kind), .d (.int .i64 a.ty.num), .d (.sl 3 (a.ty.kids.map eT)), .d (.sl 3 (a.dom.map eT)), .d (.int .i64 a.sort), .d (.sl 3 (a.idx.map eT))] false⟩ ∧
      st.s 7 = .d (.int .i64 j) ∧ ∀ (k : Nat) (hk : k < a.dom.length), k < j → inM a.dom[k] (w64 (i + k)) = true) ?_ ?_
    · simp -dsimp [hr]
    · rintro j ⟨s, hp⟩ hj ⟨f1, f2, f3, f4, f7⟩
      dsimp only at f1 f2 f3 f4
      rcases Nat.lt_or_ge j a.dom.length with hlt | hge
      · have w1 : IntKind.i64.wrap ((j : Int) + 1) = (j : Int) + 1 := zad (by omega) (by omega)
        have w2 : IntKind.i64.wrap (i + (j : Int)) = i + (j : Int) := zad (by omega) (by omega)
        have w3 : w64 (i + (j : Int)) = i + (j : Int) := w2
        simp -dsimp [f1, f2, f3, f4, hlt, cT, w2]
        refine zaa (zpl a.dom[j] _ (by omega)) ?_
        simp -dsimp [f1, f2, f3, f4, hlt]
        (first | refine zal ?_ ?_ | refine zak ?_ ?_) <;> intro h6 <;> (try simp only [nrm] at h6) <;> simp -dsimp [h6, f1, f2, f3, f4, hlt, w1]
        · have : domM i a.dom = false := zpi (p := fun j t => inM t (w64 (i + j))) hlt (by rw [w3]; exact h6)
          simp [this]
        · exact zio (p := fun j t => inM t (w64 (i + j))) hlt f7 (by rw [w3]; exact h6)
      · have e : j = a.dom.length := by omega
        subst e
        have hD : domM i a.dom = true := zo4 f7
        have w2 : IntKind.i64.wrap (i + (a.dom.length : Int)) = i + (a.dom.length : Int) := zad (by omega) (by omega)
        have w3 : w64 (i + (a.dom.length : Int)) = i + (a.dom.length : Int) := w2
        rw [hD, Bool.true_and]
        simp -dsimp [f1, f2, f3, f4]
        clear f4 f7 hj
        refine zam a.idx.length (fun j st => st.s 2 = .d (.int .i64 i) ∧ st.s 4 = .ptr 4 1 0 ∧ st.h 4 = ⟨1, .box [.d (.bool true), .d (.int .i64 a.ty.kind), .d (.int .i64 a.ty.num), .d (.sl 3 (a.ty.kids.map eT)), .d (.sl 3 (a.dom.map eT)), .d (.int .i64 a.sort), .d (.sl 3 (a.idx.map eT))] false⟩ ∧
          st.s 8 = .d (.int .i64 j) ∧ ∀ (k : Nat) (hk : k < a.idx.length), k < j → inM a.idx[k] (i + a.dom.length) = true) ?_ ?_
        · simp -dsimp [f1, f2, f3]
        · clear f1 f2 f3 s hp
          rintro j ⟨s, hp⟩ hj ⟨f1, f2, f3, f4, f7⟩
          dsimp only at f1 f2 f3 f4
          rcases Nat.lt_or_ge j a.idx.length with hlt | hge
          · have w1 : IntKind.i64.wrap ((j : Int) + 1) = (j : Int) + 1 := zad (by omega) (by omega)
            simp -dsimp [f1, f2, f3, f4, hlt, cT, w2]
            refine zaa (zpl a.idx[j] _ (by omega)) ?_
            simp -dsimp [f1, f2, f3, f4, hlt]
            (first | refine zal ?_ ?_ | refine zak ?_ ?_) <;> intro h6 <;> (try simp only [nrm] at h6) <;> simp -dsimp [h6, f1, f2, f3, f4, hlt, w1]
            · rw [allM, w3]
              have : (a.idx.any fun t => !inM t (i + a.dom.length)) = true := zwj hlt (by simp [h6])
              rw [this]; rfl
            · exact zoo (p := fun t => inM t (i + a.dom.length)) hlt f7 h6
          · have e : j = a.idx.length := by omega
            subst e
            have hI : allM a.idx (w64 (i + a.dom.length)) = true := by
              rw [allM, w3]
              have := zvq (p := fun t => inM t (i + a.dom.length)) f7
              rw [List.all_eq_not_any_not] at this
              exact this
            simp -dsimp [f1, f2, f3, f4, hI]
theorem zQi (b : Bl) (c : Co) : Pure Tryz.prog zh4 [eBl b, .agg (cCo c)] [.bool (conM b c)] := by
  refine zs9 rfl fun hs => ?_
  have hi : ((c.idx.length : Int)) ≤ 9223372036854775807 := by
    have := hs (.agg (cCo c)) (by simp)
    simp -dsimp [cCo, cT, eTs, eArs, small] at this
    omega
  have hbl : ((b.sorts.length : Int)) ≤ 9223372036854775807 := by
    have := hs (eBl b) (by simp)
    simp -dsimp [eBl, cBl, eSos, small] at this
    omega
  have wS : IntKind.i64.wrap ((b.sorts.length : Int) - 1) = (b.sorts.length : Int) - 1 := zad (by omega) (by omega)
  simp -dsimp [zh5, eBl, cBl, eSos, eCos, cCo, cT, eTs, eArs, wS]
  refine zaa (zkt c.sort 0 _) ?_
  simp -dsimp
  (first | refine zal ?_ ?_ | refine zak ?_ ?_) <;> intro g1 <;> (try simp only [nrm] at g1) <;> simp -dsimp [g1]
  · have h5 := (zha _ _ _).1 g1
    by_cases h6 : c.sort < 0
    · simp -dsimp [conM, h6]
    · have h7 : b.sorts[c.sort.toNat]? = none := List.getElem?_eq_none (by omega)
      simp -dsimp [conM, h6, h7]
  have h5 := (zdw _ _ _).1 g1
  have hlt : c.sort.toNat < b.sorts.length := by omega
  have hs0 : 0 ≤ c.sort := h5.1
  have hA : conM b c = if rowM b c.args then if (c.idx.length : Int) = (b.sorts[c.sort.toNat].idx.length : Int) then if allM c.idx c.args.length then ze5 b.sorts[c.sort.toNat].dec c.dec c.args.length else false else false else false := by
    have : ¬c.sort < 0 := by omega
    simp [conM, hlt, this]
  (first | refine zal ?_ ?_ | refine zak ?_ ?_) <;> intro g2 <;> (try simp only [nrm] at g2) <;> simp -dsimp [g2, g1]
  · rw [hA, rowM, if_pos g2]; rfl
  simp -dsimp [g1, g2, hlt, hs0, eSo, cSo, eArs, cT]
  (first | refine zal ?_ ?_ | refine zak ?_ ?_) <;> intro g3 <;> (try simp only [nrm] at g3) <;> simp -dsimp [g3, g1, g2]
  · rw [hA, if_neg g3]
    split <;> rfl
  have hal : c.args.length ≤ 12 := by omega
  rw [if_pos g3] at hA
  have hR : rowM b c.args = allI (fun i a => argM b a i) 0 c.args := by rw [rowM, if_neg g2]
  rw [hA]
  refine zam c.args.length (fun i st => st.s 2 = .ptr 2 1 0 ∧ st.h 2 = ⟨1, .box [.d (.sl 6 (b.sorts.map eSo)), .d (.sl 6 (b.cons.map eCo)), .d (.int .i64 b.elim)] false⟩ ∧
    st.s 3 = .ptr 3 1 0 ∧ st.h 3 = ⟨1, .box [.d (.int .i64 c.sort), .d (.sl 7 (c.args.map eAr)), .d (.sl 3 (c.idx.map eT)), .d (.int .i64 c.dec.kind), .d (.int .i64 c.dec.num), .d (.sl 3 (c.dec.kids.map eT))] false⟩ ∧
    st.s 5 = .d (.int .i64 i) ∧ ∀ (j : Nat) (hj : j < c.args.length), j < i → argM b c.args[j] j = true) ?_ ?_
  · simp -dsimp
  · rintro i ⟨s, hp⟩ hi ⟨f1, f2, f3, f4, f5, f7⟩
    dsimp only at f1 f2 f3 f4 f5
    rcases Nat.lt_or_ge i c.args.length with hlt' | hge
    · have w1 : IntKind.i64.wrap ((i : Int) + 1) = (i : Int) + 1 := zad (by omega) (by omega)
      simp -dsimp [f1, f2, f3, f4, f5, hlt', eAr, cAr, cT, eTs]
      refine zaa (zKb b c.args[i] i (by omega) (by omega)) ?_
      simp -dsimp [f1, f2, f3, f4, f5, hlt']
      (first | refine zal ?_ ?_ | refine zak ?_ ?_) <;> intro h6 <;> (try simp only [nrm] at h6) <;> simp -dsimp [h6, f1, f2, f3, f4, f5, hlt', w1]
      · intro h
        rw [hR, zpi (p := fun i a => argM b a i) hlt' h6] at h
        cases h
      · exact zio (p := fun i a => argM b a i) hlt' f7 h6
    · have e : i = c.args.length := by omega
      subst e
      have hD : rowM b c.args = true := by rw [hR]; exact zo4 (p := fun i a => argM b a i) f7
      rw [if_pos hD]
      simp -dsimp [f1, f2, f3, f4, f5]
      clear f5 f7 hi
      refine zam c.idx.length (fun i st => st.s 2 = .ptr 2 1 0 ∧ st.h 2 = ⟨1, .box [.d (.sl 6 (b.sorts.map eSo)), .d (.sl 6 (b.cons.map eCo)), .d (.int .i64 b.elim)] false⟩ ∧
        st.s 3 = .ptr 3 1 0 ∧ st.h 3 = ⟨1, .box [.d (.int .i64 c.sort), .d (.sl 7 (c.args.map eAr)), .d (.sl 3 (c.idx.map eT)), .d (.int .i64 c.dec.kind), .d (.int .i64 c.dec.num), .d (.sl 3 (c.dec.kids.map eT))] false⟩ ∧
        st.s 6 = .d (.int .i64 i) ∧ ∀ (j : Nat) (hj : j < c.idx.length), j < i → inM c.idx[j] c.args.length = true) ?_ ?_
      · simp -dsimp [f1, f2, f3, f4]
      · clear f1 f2 f3 f4 s hp
        rintro i ⟨s, hp⟩ hi ⟨f1, f2, f3, f4, f5, f7⟩
        dsimp only at f1 f2 f3 f4 f5
        rcases Nat.lt_or_ge i c.idx.length with hlt' | hge
        · have w1 : IntKind.i64.wrap ((i : Int) + 1) = (i : Int) + 1 := zad (by omega) (by omega)
          simp -dsimp [f1, f2, f3, f4, f5, hlt', cT]
          refine zaa (zpl c.idx[i] _ (by omega)) ?_
          simp -dsimp [f1, f2, f3, f4, f5, hlt']
          (first | refine zal ?_ ?_ | refine zak ?_ ?_) <;> intro h6 <;> (try simp only [nrm] at h6) <;> simp -dsimp [h6, f1, f2, f3, f4, f5, hlt', w1]
          · intro h
            have : (c.idx.any fun t => !inM t c.args.length) = true := zwj hlt' (by simp [h6])
            rw [allM, this] at h
            cases h
          · exact zoo (p := fun t => inM t c.args.length) hlt' f7 h6
        · have e : i = c.idx.length := by omega
          subst e
          have hI : allM c.idx c.args.length = true := by
            rw [allM]
            have := zvq (p := fun t => inM t c.args.length) f7
            rw [List.all_eq_not_any_not] at this
            exact this
          rw [if_pos hI]
          simp -dsimp [f1, f2, f3, f4, f5, hlt, hs0, eSo, cSo, eArs, cT]
          (first | refine zal ?_ ?_ | refine zak ?_ ?_) <;> intro g6 <;> (try simp only [nrm] at g6) <;> simp -dsimp [g6, f1, f2, f3, f4, f5, ze5]
          · refine zaa (zpl c.dec _ (by omega)) ?_
            simp -dsimp [f1, f2, f3, f4, f5, ze5, g6]
          · refine zaa (zAo c.dec) ?_
            simp -dsimp [f1, f2, f3, f4, f5, ze5, g6]
theorem za2 (b : Bl) : ze9 b = 0 ↔ 1 ≤ b.sorts.length ∧ b.sorts.length ≤ 4 ∧ b.cons.length ≤ 8 ∧ zjb b.elim = true ∧ (∀ (j : Nat) (hj : j < b.sorts.length), zgl b j b.sorts[j] = true) ∧ ∀ c ∈ b.cons, conM b c = true := by
  have ha : allI (fun k s => zgl b k s) 0 b.sorts = true ↔ ∀ (j : Nat) (hj : j < b.sorts.length), zgl b j b.sorts[j] = true := by
    rw [zan]
    simp
  rw [ze9]
  by_cases h1 : (b.sorts.length : Int) < 1
  · rw [if_pos h1]
    constructor
    · intro h; simp at h
    · rintro ⟨h, _⟩; omega
  rw [if_neg h1]
  by_cases h2 : 4 < (b.sorts.length : Int)
  · rw [if_pos h2]
    constructor
    · intro h; simp at h
    · rintro ⟨_, h, _⟩; omega
  rw [if_neg h2]
  by_cases h3 : 8 < (b.cons.length : Int)
  · rw [if_pos h3]
    constructor
    · intro h; simp at h
    · rintro ⟨_, _, h, _⟩; omega
  rw [if_neg h3, ← ha]
  cases hl : zjb b.elim with
  | false => simp
  | true =>
    cases hs : allI (fun k s => zgl b k s) 0 b.sorts with
    | false => simp
    | true =>
      have hc : (b.cons.any fun c => !conM b c) = false ↔ ∀ c ∈ b.cons, conM b c = true := by
        rw [List.any_eq_false]
        simp
      cases hq : b.cons.any fun c => !conM b c with
      | false =>
        simp only [hq] at hc ⊢
        simp only [if_true]
        exact ⟨fun _ => ⟨by omega, by omega, by omega, trivial, trivial, hc.1 trivial⟩, fun _ => rfl⟩
      | true =>
        simp only [hq] at hc ⊢
        simp only [if_true]
        constructor
        · intro h; simp at h
        · rintro ⟨_, _, _, _, _, h⟩
          exact absurd (hc.2 h) (by simp)
def zll (b : Bl) : Bool := decide (ze9 b = 0)
theorem zBc (n : Int) : zjb n = inB n 0 6 := rfl
theorem zbt (b : Bl) (k : Nat) (s : So) : zgl b k s = true ↔ rowM b s.idx = true ∧ zjb s.level = true ∧ ze5 s.dec s.dty s.idx.length = true ∧ ∀ a ∈ s.idx, zew k s a = false := by
  rw [zgl]
  cases rowM b s.idx <;> cases zjb s.level <;> cases ze5 s.dec s.dty s.idx.length <;> simp
theorem zgq {b : Bl} {k : Nat} {s : So} {p : Prop} (hn : ¬p) (h : zgl b k s = true → p) : zgl b k s = false := by
  cases hq : zgl b k s with
  | false => rfl
  | true => exact absurd (h hq) hn
theorem zy3 {α : Type} {p : α → Bool} {l : List α} {i : Nat} (hi : i < l.length) (h : ∀ (j : Nat) (hj : j < l.length), j < i → p l[j] = false) (hx : p l[i] = false) :
    ∀ (j : Nat) (hj : j < l.length), j < i + 1 → p l[j] = false := by
  intro j hj hji
  rcases Nat.lt_or_ge j i with h' | h'
  · exact h j hj h'
  · have : j = i := by omega
    subst this
    exact hx
def bad0 (k : Int) (a : Ar) : Bool := if a.rc then if 0 < (a.dom.length : Int) then true else decide (k ≤ a.sort) else false
theorem zN1 {l : List Ar} {j : Nat} (h : j < l.length) : (l.take (j + 1)).any (·.rc) = ((l.take j).any (·.rc) || l[j].rc) := by
  rw [zd1 (List.getElem?_eq_getElem h), List.any_append]
  simp
theorem zyx {k : Int} {s : So} {a : Ar} (h : bad0 k a = false) (hd : a.rc = true → s.dec = false) : zew k s a = false := by
  rw [bad0] at h
  rw [zew]
  cases hr : a.rc with
  | false => rfl
  | true =>
    simp only [hr, if_true] at h ⊢
    by_cases c : 0 < (a.dom.length : Int)
    · rw [if_pos c] at h; cases h
    · rw [if_neg c] at h ⊢
      have c2 : ¬k ≤ a.sort := by simpa using h
      rw [if_neg c2]
      exact hd hr
theorem zJa (b : Bl) : Pure Tryz.prog zgc [eBl b] [.bool (zll b)] := by
  refine zq9 rfl fun hs => ?_
  have hbl : ((b.sorts.length : Int)) ≤ 9223372036854775807 := by
    have := hs (eBl b) (by simp)
    simp -dsimp [eBl, cBl, eSos, small] at this
    omega
  have no : ∀ {p : Prop}, ¬p → (ze9 b = 0 → p) → zll b = false := fun hn hp => by
    rw [zll, decide_eq_false_iff_not]
    exact fun h => hn (hp h)
  simp -dsimp [zf9, eBl, cBl, eSos, eCos]
  refine zaa (zkt _ 1 4) ?_
  simp -dsimp
  (first | refine zal ?_ ?_ | refine zak ?_ ?_) <;> intro g1 <;> (try simp only [nrm] at g1) <;> simp -dsimp [g1]
  · refine no (p := 1 ≤ b.sorts.length ∧ b.sorts.length ≤ 4) ?_ fun h => ⟨((za2 b).1 h).1, ((za2 b).1 h).2.1⟩
    have := (zha _ _ _).1 g1
    omega
  (first | refine zal ?_ ?_ | refine zak ?_ ?_) <;> intro g2 <;> (try simp only [nrm] at g2) <;> simp -dsimp [g2, g1]
  · exact no (p := b.cons.length ≤ 8) (by omega) fun h => ((za2 b).1 h).2.2.1
  refine zaa (zkt b.elim 0 6) ?_
  simp -dsimp [g1, g2]
  (first | refine zal ?_ ?_ | refine zak ?_ ?_) <;> intro g3 <;> (try simp only [nrm] at g3) <;> simp -dsimp [g3, g1, g2]
  · exact no (p := zjb b.elim = true) (by rw [zBc, g3]; simp) fun h => ((za2 b).1 h).2.2.2.1
  have hS := (zdw _ _ _).1 g1
  have hSl : b.sorts.length ≤ 4 := by omega
  have hCl : b.cons.length ≤ 8 := by omega
  refine zam b.sorts.length (fun i st => st.s 1 = .ptr 1 1 0 ∧ st.h 1 = ⟨1, .box [.d (.sl 6 (b.sorts.map eSo)), .d (.sl 6 (b.cons.map eCo)), .d (.int .i64 b.elim)] false⟩ ∧ st.s 3 = .d (.int .i64 i) ∧
    ∀ (j : Nat) (hj : j < b.sorts.length), j < i → zgl b j b.sorts[j] = true) ?_ ?_
  · simp -dsimp
  · rintro i ⟨s, hp⟩ hi ⟨f1, f2, f3, f4⟩
    dsimp only at f1 f2 f3
    rcases Nat.lt_or_ge i b.sorts.length with hlt | hge
    · have w1 : IntKind.i64.wrap ((i : Int) + 1) = (i : Int) + 1 := zad (by omega) (by omega)
      simp -dsimp [f1, f2, f3, hlt, eSo, cSo, cT, eArs]
      have noS : zgl b i b.sorts[i] = false → zll b = false := fun hx =>
        no (p := zgl b i b.sorts[i] = true) (by rw [hx]; simp) fun h => ((za2 b).1 h).2.2.2.2.1 i hlt
      have hR : ¬12 < (b.sorts[i].idx.length : Int) → rowM b b.sorts[i].idx = allI (fun i a => argM b a i) 0 b.sorts[i].idx := fun h => by rw [rowM, if_neg h]
      generalize hsi : b.sorts[i] = s at noS hR ⊢
      (first | refine zal ?_ ?_ | refine zak ?_ ?_) <;> intro g4 <;> (try simp only [nrm] at g4) <;> simp -dsimp [g4, f1, f2, f3, hlt]
      · exact noS (zgq (p := rowM b s.idx = true) (by rw [rowM, if_pos g4]; simp) fun h => ((zbt b i s).1 h).1)
      refine zaa (zkt s.level 0 6) ?_
      simp -dsimp [g4]
      (first | refine zal ?_ ?_ | refine zak ?_ ?_) <;> intro g5 <;> (try simp only [nrm] at g5) <;> simp -dsimp [g5, f1, f2, f3, hlt, g4]
      · exact noS (zgq (p := zjb s.level = true) (by rw [zBc, g5]; simp) fun h => ((zbt b i s).1 h).2.1)
      replace hR := hR g4
      have hsl : s.idx.length ≤ 12 := by omega
      generalize (hp 4).ver + 1 = v
      refine zam s.idx.length (fun j st => st.s 1 = .ptr 1 1 0 ∧ st.h 1 = ⟨1, .box [.d (.sl 6 (b.sorts.map eSo)), .d (.sl 6 (b.cons.map eCo)), .d (.int .i64 b.elim)] false⟩ ∧ st.s 3 = .d (.int .i64 i) ∧
        st.s 4 = .ptr 4 v 0 ∧ st.h 4 = ⟨v, .box [.d (.sl 7 (s.idx.map eAr)), .d (.int .i64 s.level), .d (.bool s.dec), .d (.int .i64 s.dty.kind), .d (.int .i64 s.dty.num), .d (.sl 3 (s.dty.kids.map eT))] false⟩ ∧
        st.s 6 = .d (.int .i64 j) ∧ st.s 5 = .d (.bool ((s.idx.take j).any (·.rc))) ∧ (∀ (k : Nat) (hk : k < s.idx.length), k < j → argM b s.idx[k] k = true) ∧ ∀ (k : Nat) (hk : k < s.idx.length), k < j → bad0 i s.idx[k] = false) ?_ ?_
      · simp -dsimp [f1, f2, f3]
      · clear f1 f2 f3 hp
        rintro j ⟨s', hp⟩ hj ⟨e1, e2, e3, e4, e5, e6, e7, e8, e9⟩
        dsimp only at e1 e2 e3 e4 e5 e6 e7
        rcases Nat.lt_or_ge j s.idx.length with hlt' | hge
        · have w2 : IntKind.i64.wrap ((j : Int) + 1) = (j : Int) + 1 := zad (by omega) (by omega)
          simp -dsimp [e1, e2, e3, e4, e5, e6, e7, hlt', eAr, cAr, cT, eTs]
          refine zaa (zKb b s.idx[j] j (by omega) (by omega)) ?_
          simp -dsimp [e1, e2, e3, e4, e5, e6, e7, hlt', eAr, cAr, cT, eTs]
          (first | refine zal ?_ ?_ | refine zak ?_ ?_) <;> intro c1 <;> (try simp only [nrm] at c1) <;> simp -dsimp [c1, e1, e2, e3, e4, e5, e6, e7, hlt', eAr, cAr, cT, eTs]
          · refine noS (zgq (p := rowM b s.idx = true) ?_ fun h => ((zbt b i s).1 h).1)
            rw [hR, zpi (p := fun i a => argM b a i) hlt' c1]
            simp
          have hany := zN1 hlt'
          have hbad : bad0 i s.idx[j] = true → zll b = false := fun hb => by
            refine noS (zgq (p := zew i s s.idx[j] = false) ?_ fun h => ((zbt b i s).1 h).2.2.2 _ (List.getElem_mem _))
            rw [bad0] at hb
            rw [zew]
            cases hr : s.idx[j].rc with
            | false => simp [hr] at hb
            | true =>
              simp only [hr, if_true] at hb ⊢
              by_cases c2 : 0 < (s.idx[j].dom.length : Int)
              · rw [if_pos c2]; simp
              · rw [if_neg c2] at hb
                have c3 : (i : Int) ≤ s.idx[j].sort := by simpa using hb
                rw [if_neg c2, if_pos c3]; simp
          generalize (s.idx.take j).any (·.rc) = R at e7 hany
          cases hr : s.idx[j].rc with
          | false =>
            rw [hr] at hany
            have hb0 : bad0 i s.idx[j] = false := by simp [bad0, hr]
            cases R <;> simp -dsimp [e1, e2, e3, e4, e5, e6, e7, hlt', eAr, cAr, cT, eTs, hr, hany, w2, c1] <;> exact ⟨zio (p := fun i a => argM b a i) hlt' e8 c1, zy3 hlt' e9 hb0⟩
          | true =>
            rw [hr] at hany
            simp -dsimp [e1, e2, e3, e4, e5, e6, e7, hlt', eAr, cAr, cT, eTs, hr, hany, w2, c1]
            (first | refine zal ?_ ?_ | refine zak ?_ ?_) <;> intro c2 <;> (try simp only [nrm] at c2) <;> simp -dsimp [c2, e1, e2, e3, e4, e5, e6, e7, hlt', eAr, cAr, cT, eTs, hr, hany, w2, c1]
            · exact hbad (by simp only [bad0, hr, if_true]; rw [if_pos (by omega)])
            (first | refine zal ?_ ?_ | refine zak ?_ ?_) <;> intro c3 <;> (try simp only [nrm] at c3) <;> simp -dsimp [c3, e1, e2, e3, e4, e5, e6, e7, hlt', eAr, cAr, cT, eTs, hr, hany, w2, c1, c2]
            · exact hbad (by simp only [bad0, hr, if_true]; rw [if_neg (by omega)]; simpa using c3)
            have hb0 : bad0 i s.idx[j] = false := by
              simp only [bad0, hr, if_true]
              rw [if_neg (by omega)]
              simp
              omega
            cases R <;> simp -dsimp [e1, e2, e3, e4, e5, e6, e7, hlt', eAr, cAr, cT, eTs, hr, hany, w2, c1, c2, c3] <;> exact ⟨zio (p := fun i a => argM b a i) hlt' e8 c1, zy3 hlt' e9 hb0⟩
        · have e : j = s.idx.length := by omega
          subst e
          rw [List.take_length] at e7
          have hRow : rowM b s.idx = true := by rw [hR]; exact zo4 (p := fun i a => argM b a i) e8
          have hLev : zjb s.level = true := g5
          have hbads : ∀ a ∈ s.idx, bad0 i a = false := fun a ha => by
            obtain ⟨k, hk, rfl⟩ := List.mem_iff_getElem.1 ha
            exact e9 k hk hk
          have next : zgl b i s = true → ∀ (k : Nat) (hk : k < b.sorts.length), k < i + 1 → zgl b k b.sorts[k] = true := fun h => zio (p := fun k s => zgl b k s) hlt f4 (by rw [hsi]; exact h)
          simp -dsimp [e1, e2, e3, e4, e5, e6, e7]
          cases hd : s.dec with
          | false =>
            simp -dsimp [e1, e2, e3, e4, e5, e6, e7, hd]
            refine zaa (zAo s.dty) ?_
            simp -dsimp [e1, e2, e3, e4, e5, e6, e7, hd]
            (first | refine zal ?_ ?_ | refine zak ?_ ?_) <;> intro c4 <;> (try simp only [nrm] at c4) <;> simp -dsimp [c4, e1, e2, e3, e4, e5, e6, e7, hd, w1]
            · exact noS (zgq (p := ze5 s.dec s.dty s.idx.length = true) (by rw [ze5, hd]; simp [c4]) fun h => ((zbt b i s).1 h).2.2.1)
            · exact ⟨hlt, next ((zbt b i s).2 ⟨hRow, hLev, by rw [ze5, hd]; exact c4, fun a ha => zyx (hbads a ha) fun _ => hd⟩)⟩
          | true =>
            cases hrec : s.idx.any (·.rc) with
            | true =>
              rw [hrec] at e7
              simp -dsimp [e1, e2, e3, e4, e5, e6, e7, hd]
              obtain ⟨a, ha, har⟩ := List.any_eq_true.1 hrec
              refine noS (zgq (p := zew i s a = false) ?_ fun h => ((zbt b i s).1 h).2.2.2 a ha)
              have har : a.rc = true := har
              simp [zew, har, hd]
            | false =>
              rw [hrec] at e7
              simp -dsimp [e1, e2, e3, e4, e5, e6, e7, hd]
              refine zaa (zpl s.dty _ (by omega)) ?_
              simp -dsimp [e1, e2, e3, e4, e5, e6, e7, hd]
              (first | refine zal ?_ ?_ | refine zak ?_ ?_) <;> intro c4 <;> (try simp only [nrm] at c4) <;> simp -dsimp [c4, e1, e2, e3, e4, e5, e6, e7, hd, w1]
              · exact noS (zgq (p := ze5 s.dec s.dty s.idx.length = true) (by rw [ze5, hd]; simp [c4]) fun h => ((zbt b i s).1 h).2.2.1)
              · exact ⟨hlt, next ((zbt b i s).2 ⟨hRow, hLev, by rw [ze5, hd]; exact c4, fun a ha => zyx (hbads a ha) fun har => absurd har (by simpa using List.any_eq_false.1 hrec a ha)⟩)⟩
    · have e : i = b.sorts.length := by omega
      subst e
      simp -dsimp [f1, f2, f3]
      clear f3 hi
      refine zam b.cons.length (fun i st => st.s 1 = .ptr 1 1 0 ∧ st.h 1 = ⟨1, .box [.d (.sl 6 (b.sorts.map eSo)), .d (.sl 6 (b.cons.map eCo)), .d (.int .i64 b.elim)] false⟩ ∧ st.s 7 = .d (.int .i64 i) ∧
        ∀ (j : Nat) (hj : j < b.cons.length), j < i → conM b b.cons[j] = true) ?_ ?_
      · simp -dsimp [f1, f2]
      · clear f1 f2 s hp
        rintro i ⟨s, hp⟩ hi ⟨f1, f2, f3, f5⟩
        dsimp only at f1 f2 f3
        rcases Nat.lt_or_ge i b.cons.length with hlt | hge
        · have w1 : IntKind.i64.wrap ((i : Int) + 1) = (i : Int) + 1 := zad (by omega) (by omega)
          simp -dsimp [f1, f2, f3, hlt, eCo, cCo, cT, eArs, eTs]
          refine zaa (zQi b b.cons[i]) ?_
          simp -dsimp [f1, f2, f3, hlt]
          (first | refine zal ?_ ?_ | refine zak ?_ ?_) <;> intro h6 <;> (try simp only [nrm] at h6) <;> simp -dsimp [h6, f1, f2, f3, hlt, w1]
          · exact no (p := conM b b.cons[i] = true) (by rw [h6]; simp) fun h => ((za2 b).1 h).2.2.2.2.2 _ (List.getElem_mem _)
          · exact zoo (p := conM b) hlt f5 h6
        · have e : i = b.cons.length := by omega
          subst e
          have hAll : zll b = true := by
            rw [zll, decide_eq_true_eq, za2]
            refine ⟨by omega, by omega, hCl, g3, fun j hj => f4 j hj hj, fun c hc => ?_⟩
            obtain ⟨k, hk, rfl⟩ := List.mem_iff_getElem.1 hc
            exact f5 k hk hk
          simp -dsimp [f1, f2, f3, hAll]
end
section
attribute [local simp] zae zaf tk tn tks zb1 zcb
theorem zAv (b : Bl) : Pure Tryz.prog zbf [eBl b] [.int .i64 b.sorts.length] := by
  refine zum rfl fun hs => ?_
  simp -dsimp [zi9, eBl, cBl, eSos, eCos]
theorem zLs {l : List So} {i : Nat} (h : l.length ≤ i) : decs (l.take i) = decs l := by rw [List.take_of_length_le h]
theorem zA6 (b : Bl) (k : Int) : Pure Tryz.prog zdj [eBl b, .int .i64 k] [.int .i64 (decs (b.sorts.take k.toNat))] := by
  refine zrz rfl fun hs => ?_
  have hbl : ((b.sorts.length : Int)) ≤ 9223372036854775807 := by
    have := hs (eBl b) (by simp)
    simp -dsimp [eBl, cBl, eSos, small] at this
    omega
  simp -dsimp [zhs, eBl, cBl, eSos, eCos]
  have hl := zLs (l := b.sorts) (i := k.toNat)
  refine zam (min k.toNat b.sorts.length) (fun i st => st.s 1 = .d (.int .i64 k) ∧ st.s 2 = .ptr 2 1 0 ∧ st.h 2 = ⟨1, .box [.d (.sl 6 (b.sorts.map eSo)), .d (.sl 6 (b.cons.map eCo)), .d (.int .i64 b.elim)] false⟩ ∧
    st.s 6 = .d (.int .i64 i) ∧ st.s 5 = .d (.int .i64 (decs (b.sorts.take i)))) ?_ ?_
  · simp -dsimp [decs]
  · rintro i ⟨s, hp⟩ hi ⟨g1, g2, g3, g4, g5⟩
    dsimp only at g1 g2 g3 g4 g5
    rcases Nat.lt_or_ge i (min k.toNat b.sorts.length) with hlt | hge
    · have hlt1 : (i : Int) < k := by omega
      have hlt2 : i < b.sorts.length := by omega
      have hlt3 : i < k.toNat := by omega
      have w1 : IntKind.i64.wrap ((i : Int) + 1) = (i : Int) + 1 := zad (by omega) (by omega)
      have hd := zfu (b.sorts.take i)
      rw [List.length_take] at hd
      have w2 : IntKind.i64.wrap ((decs (b.sorts.take i) : Int) + 1) = (decs (b.sorts.take i) : Int) + 1 := zad (by omega) (by omega)
      have hsn := zwl b.sorts i b.sorts[i] (List.getElem?_eq_getElem hlt2)
      simp -dsimp [g1, g2, g3, g4, g5, hlt1, hlt2, eSo, cSo, cT, eArs]
      cases hxd : b.sorts[i].dec <;> simp -dsimp [hlt, hxd, g1, g2, g3, g4, g5, hlt1, hlt2, hlt3, w1, w2, hsn]
    · have e : i = min k.toNat b.sorts.length := by omega
      rcases Nat.lt_or_ge k.toNat b.sorts.length with c | c
      · have e2 : i = k.toNat := by omega
        have n1 : ¬(max k 0 < k) := by omega
        clear e
        subst e2
        simp -dsimp [g1, g2, g3, g4, g5, n1]
      · have e2 : i = b.sorts.length := by omega
        rw [hl c]
        clear e
        subst e2
        rw [List.take_length] at g5
        simp -dsimp [g1, g2, g3, g4, g5]
        (first | refine zal ?_ ?_ | refine zak ?_ ?_) <;> intro n1 <;> (try simp only [nrm] at n1) <;> simp -dsimp [n1, g1, g2, g3, g4, g5]
theorem zGs (b : Bl) (hf : Fit b) (base k : Int) : Pure Tryz.prog zfs [eBl b, .int .i64 base, .int .i64 k] [.int .i64 (zbe b base k)] := by
  refine zpz rfl fun hs => ?_
  have hfs := hf.s
  simp -dsimp [zfz, eBl, cBl, eSos, eCos]
  refine zaa (zkt base 0 65535) ?_
  simp -dsimp
  (first | refine zal ?_ ?_ | refine zak ?_ ?_) <;> intro g1 <;> (try simp only [nrm] at g1) <;> simp -dsimp [g1]
  · have h5 := (zha _ _ _).1 g1
    rw [zbe, zir, if_pos (by omega)]
  refine zaa (zAv b) ?_
  have wS : IntKind.i64.wrap ((b.sorts.length : Int) - 1) = (b.sorts.length : Int) - 1 := zad (by omega) (by omega)
  simp -dsimp [g1, wS]
  refine zaa (zkt k 0 _) ?_
  simp -dsimp [g1]
  have h5 := (zdw _ _ _).1 g1
  rw [zit hf h5.1 h5.2]
  (first | refine zal ?_ ?_ | refine zak ?_ ?_) <;> intro g2 <;> (try simp only [nrm] at g2) <;> simp -dsimp [g2, g1]
  · have h6 := (zha _ _ _).1 g2
    intros
    omega
  have h6 := (zdw _ _ _).1 g2
  rw [if_pos (by omega)]
  exact zad (by omega) (by omega)
theorem zp4 (b : Bl) (hf : Fit b) (base k : Int) : Pure Tryz.prog zd5 [eBl b, .int .i64 base, .int .i64 k] [.int .i64 (za7 b base k)] := by
  refine zlg rfl fun hs => ?_
  have hfs := hf.s
  have hfc := hf.c
  have hd := zfu b.sorts
  simp -dsimp [zd2, eBl, cBl, eSos, eCos]
  refine zaa (zkt base 0 65535) ?_
  simp -dsimp
  (first | refine zal ?_ ?_ | refine zak ?_ ?_) <;> intro g1 <;> (try simp only [nrm] at g1) <;> simp -dsimp [g1]
  · have h5 := (zha _ _ _).1 g1
    rw [za7, zir, if_pos (by omega)]
  refine zaa (zAv b) ?_
  have wS : IntKind.i64.wrap ((b.sorts.length : Int) - 1) = (b.sorts.length : Int) - 1 := zad (by omega) (by omega)
  simp -dsimp [g1, wS]
  refine zaa (zkt k 0 _) ?_
  simp -dsimp [g1]
  have h5 := (zdw _ _ _).1 g1
  rw [zjk hf h5.1 h5.2]
  (first | refine zal ?_ ?_ | refine zak ?_ ?_) <;> intro g2 <;> (try simp only [nrm] at g2) <;> simp -dsimp [g2, g1]
  · have h6 := (zha _ _ _).1 g2
    intros
    omega
  have h6 := (zdw _ _ _).1 g2
  rw [if_pos (by omega)]
  refine zaa (zAv b) ?_
  simp -dsimp
  refine zaa (zAv b) ?_
  simp -dsimp
  refine zaa (zA6 b b.sorts.length) ?_
  simp -dsimp
  rw [zad (n := base + (b.sorts.length : Int)) (by omega) (by omega), zad (n := base + (b.sorts.length : Int) + decs b.sorts) (by omega) (by omega), zad (n := base + (b.sorts.length : Int) + decs b.sorts + b.cons.length) (by omega) (by omega), zad (by omega) (by omega)]
  omega
theorem zwo (b : Bl) (hf : Fit b) (base k : Int) : Pure Tryz.prog zdt [eBl b, .int .i64 base, .int .i64 k] [.int .i64 (zao b base k)] := by
  refine zk8 rfl fun hs => ?_
  have hfs := hf.s
  have hfc := hf.c
  have hd := zfu b.sorts
  simp -dsimp [zdq, eBl, cBl, eSos, eCos]
  refine zaa (zkt base 0 65535) ?_
  simp -dsimp
  (first | refine zal ?_ ?_ | refine zak ?_ ?_) <;> intro g1 <;> (try simp only [nrm] at g1) <;> simp -dsimp [g1]
  · have h5 := (zha _ _ _).1 g1
    rw [zao, zir, if_pos (by omega)]
  have wS : IntKind.i64.wrap ((b.cons.length : Int) - 1) = (b.cons.length : Int) - 1 := zad (by omega) (by omega)
  simp -dsimp [g1, wS]
  refine zaa (zkt k 0 _) ?_
  simp -dsimp [g1]
  have h5 := (zdw _ _ _).1 g1
  rw [zcl hf h5.1 h5.2]
  (first | refine zal ?_ ?_ | refine zak ?_ ?_) <;> intro g2 <;> (try simp only [nrm] at g2) <;> simp -dsimp [g2, g1]
  · have h6 := (zha _ _ _).1 g2
    intros
    omega
  have h6 := (zdw _ _ _).1 g2
  rw [if_pos (by omega)]
  refine zaa (zAv b) ?_
  simp -dsimp
  refine zaa (zAv b) ?_
  simp -dsimp
  refine zaa (zA6 b b.sorts.length) ?_
  simp -dsimp
  rw [zad (n := base + (b.sorts.length : Int)) (by omega) (by omega), zad (n := base + (b.sorts.length : Int) + decs b.sorts) (by omega) (by omega), zad (by omega) (by omega)]
  omega
theorem zw3 (b : Bl) (hf : Fit b) (base k : Int) : Pure Tryz.prog ze3 [eBl b, .int .i64 base, .int .i64 k] [.int .i64 (zdf b base k)] := by
  refine zou rfl fun hs => ?_
  have hfs := hf.s
  simp -dsimp [ze6, eBl, cBl, eSos, eCos]
  refine zaa (zkt base 0 65535) ?_
  simp -dsimp
  (first | refine zal ?_ ?_ | refine zak ?_ ?_) <;> intro g1 <;> (try simp only [nrm] at g1) <;> simp -dsimp [g1]
  · have h5 := (zha _ _ _).1 g1
    rw [zdf]
    split
    · rfl
    · split
      · rfl
      · split
        · rw [zir, if_pos (by omega)]
        · rfl
  refine zaa (zAv b) ?_
  have wS : IntKind.i64.wrap ((b.sorts.length : Int) - 1) = (b.sorts.length : Int) - 1 := zad (by omega) (by omega)
  simp -dsimp [g1, wS]
  refine zaa (zkt k 0 _) ?_
  simp -dsimp [g1]
  have h5 := (zdw _ _ _).1 g1
  rw [zpg hf h5.1 h5.2]
  (first | refine zal ?_ ?_ | refine zak ?_ ?_) <;> intro g2 <;> (try simp only [nrm] at g2) <;> simp -dsimp [g2, g1]
  · have h6 := (zha _ _ _).1 g2
    intro h
    omega
  have h6 := (zdw _ _ _).1 g2
  have hlt : k.toNat < b.sorts.length := by omega
  rw [dif_pos (by omega)]
  simp -dsimp [g1, g2, h6.1, hlt, eSo, cSo, cT, eArs]
  (first | refine zal ?_ ?_ | refine zak ?_ ?_) <;> intro g4 <;> (try simp only [nrm] at g4) <;> simp -dsimp [g4, g1, g2, h6.1, hlt, eSo, cSo, cT, eArs]
  rw [if_pos g4]
  refine zaa (zAv b) ?_
  simp -dsimp
  refine zaa (zA6 b k) ?_
  simp -dsimp
  have hd := zfu (b.sorts.take k.toNat)
  rw [List.length_take] at hd
  rw [zad (n := base + (b.sorts.length : Int)) (by omega) (by omega), zad (by omega) (by omega)]
theorem zI3 (b : Bl) (hf : Fit b) (base n : Int) (hn : is64 n) : Pure Tryz.prog zej [eBl b, .int .i64 base, .int .i64 n] [.int .i64 (ofM b base n).1, .int .i64 (ofM b base n).2] := by
  refine zur rfl fun hs => ?_
  have hfs := hf.s
  have hfc := hf.c
  simp -dsimp [ziy, eBl, cBl, eSos, eCos]
  refine zam b.sorts.length (fun i st => st.s 3 = .ptr 3 1 0 ∧ st.h 3 = ⟨1, .box [.d (.sl 6 (b.sorts.map eSo)), .d (.sl 6 (b.cons.map eCo)), .d (.int .i64 b.elim)] false⟩ ∧ st.s 1 = .d (.int .i64 base) ∧ st.s 2 = .d (.int .i64 n) ∧
    st.s 8 = .d (.int .i64 i) ∧ ∀ j : Nat, j < i → 0 ≤ n → zbe b base j ≠ n ∧ zdf b base j ≠ n ∧ za7 b base j ≠ n) ?_ ?_
  · simp -dsimp
  · rintro i ⟨s, hp⟩ hi ⟨g1, g2, g3, g4, g5, g6⟩
    dsimp only at g1 g2 g3 g4 g5
    simp -dsimp [g1, g2, g3, g4, g5]
    refine zaa (zAv b) ?_
    rcases Nat.lt_or_ge i b.sorts.length with hlt | hge
    · have w1 : IntKind.i64.wrap ((i : Int) + 1) = (i : Int) + 1 := zad (by omega) (by omega)
      simp -dsimp [g1, g2, g3, g4, g5, hlt]
      refine zaa (zGs b hf base i) ?_
      simp -dsimp [g1, g2, g3, g4, g5, hlt]
      by_cases nn : 0 ≤ n
      · by_cases c1 : zbe b base i = n
        · have ho := zJz hf nn c1
          simp -dsimp [g1, g2, g3, g4, g5, hlt, w1, c1, nn, ho]
        simp -dsimp [g1, g2, g3, g4, g5, hlt, w1, c1]
        refine zaa (zw3 b hf base i) ?_
        simp -dsimp [g1, g2, g3, g4, g5, hlt, w1, c1]
        by_cases c2 : zdf b base i = n
        · have ho := zy7 hf nn c2
          simp -dsimp [g1, g2, g3, g4, g5, hlt, w1, c1, c2, nn, ho]
        simp -dsimp [g1, g2, g3, g4, g5, hlt, w1, c1, c2]
        refine zaa (zp4 b hf base i) ?_
        simp -dsimp [g1, g2, g3, g4, g5, hlt, w1, c1, c2]
        by_cases c3 : za7 b base i = n
        · have ho := zz1 hf nn c3
          simp -dsimp [g1, g2, g3, g4, g5, hlt, w1, c1, c2, c3, nn, ho]
        simp -dsimp [g1, g2, g3, g4, g5, hlt, w1, c1, c2, c3]
        intro j hj hnn
        rcases Nat.lt_or_ge j i with h | h
        · exact g6 j h hnn
        · have : j = i := by omega
          subst this
          exact ⟨c1, c2, c3⟩
      · generalize decide (zbe b base i = n) = q1
        cases q1 <;> simp -dsimp [g1, g2, g3, g4, g5, hlt, w1, nn] <;> refine zaa (zw3 b hf base i) ?_ <;> simp -dsimp [g1, g2, g3, g4, g5, hlt, w1, nn] <;>
          generalize decide (zdf b base i = n) = q2 <;> cases q2 <;> simp -dsimp [g1, g2, g3, g4, g5, hlt, w1, nn] <;> refine zaa (zp4 b hf base i) ?_ <;> simp -dsimp [g1, g2, g3, g4, g5, hlt, w1, nn] <;>
          generalize decide (za7 b base i = n) = q3 <;> cases q3 <;> simp -dsimp [g1, g2, g3, g4, g5, hlt, w1, nn] <;> omega
    · have e : i = b.sorts.length := by omega
      subst e
      simp -dsimp [g1, g2, g3, g4, g5]
      clear hi g5
      refine zam b.cons.length (fun i st => st.s 3 = .ptr 3 1 0 ∧ st.h 3 = ⟨1, .box [.d (.sl 6 (b.sorts.map eSo)), .d (.sl 6 (b.cons.map eCo)), .d (.int .i64 b.elim)] false⟩ ∧ st.s 1 = .d (.int .i64 base) ∧ st.s 2 = .d (.int .i64 n) ∧
        st.s 9 = .d (.int .i64 i) ∧ ∀ j : Nat, j < i → 0 ≤ n → zao b base j ≠ n) ?_ ?_
      · simp -dsimp [g1, g2, g3, g4]
      · clear g1 g2 g3 g4 s hp
        rintro i ⟨s, hp⟩ hi ⟨g1, g2, g3, g4, g5, g7⟩
        dsimp only at g1 g2 g3 g4 g5
        rcases Nat.lt_or_ge i b.cons.length with hlt | hge
        · have w1 : IntKind.i64.wrap ((i : Int) + 1) = (i : Int) + 1 := zad (by omega) (by omega)
          simp -dsimp [g1, g2, g3, g4, g5, hlt]
          refine zaa (zwo b hf base i) ?_
          simp -dsimp [g1, g2, g3, g4, g5, hlt, w1]
          by_cases nn : 0 ≤ n
          · by_cases c1 : zao b base i = n
            · have ho := zp2 hf nn c1
              simp -dsimp [g1, g2, g3, g4, g5, hlt, w1, c1, nn, ho]
            simp -dsimp [g1, g2, g3, g4, g5, hlt, w1, c1]
            intro j hj hnn
            rcases Nat.lt_or_ge j i with h | h
            · exact g7 j h hnn
            · have : j = i := by omega
              subst this
              exact c1
          · generalize decide (zao b base i = n) = q1
            cases q1 <;> simp -dsimp [g1, g2, g3, g4, g5, hlt, w1, nn] <;> omega
        · have e : i = b.cons.length := by omega
          subst e
          have ho : ofM b base n = (0, 0) := zPa hf hn fun e he k hk nn => by
            simp only [tab, List.mem_cons, List.not_mem_nil, or_false] at he
            rcases he with rfl | rfl | rfl | rfl <;> simp only at hk ⊢
            · exact (g6 k hk nn).1
            · exact (g6 k hk nn).2.1
            · exact g7 k hk nn
            · exact (g6 k hk nn).2.2
          simp -dsimp [g1, g2, g3, g4, g5, ho]
end
section
attribute [local simp] zae zaf tk tn tks zb1 zcb
theorem zTi {n : Int} (h1 : 0 ≤ n) (h2 : n < 18446744073709551616) : IntKind.u64.wrap n = n := by
  simp only [IntKind.wrap]
  exact Int.emod_eq_of_lt h1 h2
def fewB (b : Bl) (m : Nat) : Bl := ⟨b.sorts, b.cons.take m, b.elim⟩
end
section
attribute [local simp] zae zaf tk tn tks zb1 zcb
theorem zG6 (b : Bl) : ze9 b = if zll b then 0 else 12 := by
  rw [zll]
  by_cases h : ze9 b = 0
  · simp [h]
  · have : ze9 b = 12 := by
      rw [ze9] at h ⊢
      repeat' split
      all_goals first | rfl | (exfalso; apply h; simp_all)
    simp [this]
end
end
section
attribute [local simp] zae zaf tk tn tks zb1 zcb
theorem zO2 (f : Int → Int → T) (c v w : Int) (hv : ∀ n b : Int, 0 ≤ n → n ≤ 65535 → 0 ≤ b → b ≤ 4194304 → n < v + b → wiT (f n b) (w + b) c = true) (t : T) :
    ∀ b : Int, zab t = true → 0 ≤ b → b + zac t ≤ 4194304 → wiT t (v + b) c = true → wiT (mapT f t b) (w + b) c = true := by
  refine T.ind (p := fun t => ∀ b : Int, zab t = true → 0 ≤ b → b + zac t ≤ 4194304 → wiT t (v + b) c = true → wiT (mapT f t b) (w + b) c = true) ?_ t
  intro k n ks ih b hfm h0 hb hw
  rw [wiT] at hw
  rw [mapT]
  by_cases h1 : k = 1
  · have hn := zdh h1 hfm
    rw [if_pos h1] at hw ⊢
    exact hv n b hn.1 hn.2 h0 (by omega) (by simpa using hw)
  · rw [if_neg h1] at hw ⊢
    rw [wiT, if_neg h1]
    split
    · rename_i h2; rw [if_pos h2] at hw; exact hw
    · rename_i h2
      rw [if_neg h2] at hw
      split
      · rename_i h3; rw [if_pos h3] at hw; exact hw
      · rename_i h3
        rw [if_neg h3] at hw
        rw [zBi] at hw ⊢
        intro j hj
        rw [zjn] at hj
        have hxn := zcx (k := k) (n := n) (List.getElem_mem hj)
        have hbl := zdk k j
        rw [zo7 _ _ _ _ _ _ hj]
        have := hw j hj
        rw [Nat.zero_add] at this ⊢
        have e1 : v + b + zai k j = v + (b + zai k j) := by omega
        have e2 : w + b + zai k j = w + (b + zai k j) := by omega
        rw [e1] at this
        rw [e2]
        exact ih ks[j] (List.getElem_mem _) _ (zbo hfm _ (List.getElem_mem _)) (by omega) (by omega) this
theorem zRn (c : Int) (t : T) : ∀ v b : Int, zab t = true → 0 ≤ b → 0 ≤ v → wiT t v c = true → zfv t b < v + zac t := by
  refine T.ind (p := fun t => ∀ v b : Int, zab t = true → 0 ≤ b → 0 ≤ v → wiT t v c = true → zfv t b < v + zac t) ?_ t
  intro k n ks ih v b hfm hb hv0 hw
  rw [wiT] at hw
  rw [zfv]
  by_cases h1 : k = 1
  · have hks := zku h1 hfm
    subst hks
    rw [if_pos h1] at hw
    rw [zko, zaq]
    have : n < v := by simpa using hw
    split <;> omega
  · rw [if_neg (fun h => h1 h.1)]
    rw [if_neg h1] at hw
    have hnn : zac (.mk k n ks) = (ks.map zac).sum + 1 := by rw [zac]
    by_cases h2 : k = 2 ∨ k = 3
    · have hk0 : zdy k = 0 := by rcases h2 with rfl | rfl <;> rfl
      have hks : ks = [] := by
        rw [zaz, hk0] at hfm
        split at hfm
        · exact List.length_eq_zero_iff.1 (by omega)
        · cases hfm
      subst hks
      rw [zko]
      omega
    · rw [if_neg (by omega), if_neg (by omega), zBi] at hw
      have go : ∀ (l : List T) (i : Nat) (a : Int), (∀ (j : Nat) (hj : j < l.length), l[j] ∈ ks ∧ wiT l[j] (v + zai k (i + j : Nat)) c = true) → a < v + zac (.mk k n ks) → zko k b i a l < v + zac (.mk k n ks) := by
        intro l
        induction l with
        | nil => intro i a _ h; rw [zko]; exact h
        | cons x xs ihx =>
          intro i a hm ha
          obtain ⟨hx, hwx⟩ := hm 0 (by simp)
          simp only [List.getElem_cons_zero, Nat.add_zero] at hx hwx
          have hxn := zcx (k := k) (n := n) hx
          have hbl := zdk k i
          have h3 := ih x hx (v + zai k i) (b + zai k i) (zbo hfm x hx) (by omega) (by omega) hwx
          rw [zko]
          refine ihx (i + 1) _ (fun j hj => ?_) ?_
          · have := hm (j + 1) (by simpa using hj)
            rw [show i + (j + 1) = i + 1 + j by omega] at this
            simpa using this
          · rw [zwc]
            omega
      exact go ks 0 (-1) (fun j hj => ⟨List.getElem_mem _, hw j hj⟩) (by omega)
theorem zks {n w c : Int} (h : n < w) : wiT (.mk 1 n []) w c = true := by rw [wiT, if_pos rfl]; simpa using h
end
section
attribute [local simp] zae zaf tk tn tks
theorem zoz (t : T) : okT t → (spA t).length ≤ 1000000 → OwnC Tryz.prog zbk [.agg (cT t)] [.agg [.d (.int .i64 (spH t).kind), .d (.int .i64 (spH t).num), .d (.sl 3 ((spH t).kids.map eT))], .one (.row 3 ((spA t).reverse.map eT) false)] := by
  refine T.ind (p := fun t => okT t → (spA t).length ≤ 1000000 → OwnC Tryz.prog zbk [.agg (cT t)] [.agg [.d (.int .i64 (spH t).kind), .d (.int .i64 (spH t).num), .d (.sl 3 ((spH t).kids.map eT))], .one (.row 3 ((spA t).reverse.map eT) false)]) ?_ t
  intro k n ks ih ho hb
  refine zov rfl fun hs => ?_
  by_cases hc : k = 6 ∧ ∃ a b, ks = [a, b]
  · obtain ⟨rfl, a, b, rfl⟩ := hc
    rw [(zey n a b).1, (zey n a b).2]
    rw [(zey n a b).1, List.length_cons] at hb
    have h := ih a (by simp) (ho.kids.2 a (by simp)) (by omega)
    have hb' := zoy b (ho.kids.2 b (by simp))
    have hr : ((spA a).length + 1) * 40 ≤ zaj := by simp only [zaj]; omega
    simp only [cT] at h hb'
    simp -dsimp [zdi, cT, zcr]
    refine zcy h (by simp [zax, zby, RV.cells]) ?_
    simp -dsimp [cT, zcr]
    refine zaa hb' ?_
    simp -dsimp [cT, zcr, hr]
  · rw [(zdv hc).1, (zdv hc).2]
    have htw := zoy (.mk k n ks) ho
    simp only [cT, tk, tn, tks] at htw
    simp -dsimp [zdi, cT]
    by_cases h6 : k = 6
    · have h2 : ¬ (ks.length : Int) = 2 := fun h => hc ⟨h6, by
        match ks, h with
        | [a, b], _ => exact ⟨a, b, rfl⟩
        | [], h => simp at h
        | [_], h => simp at h
        | _ :: _ :: _ :: _, h => simp at h; omega⟩
      simp -dsimp [h6, h2]
      rw [h6] at htw
      refine zaa htw ?_
      simp -dsimp [cT, h6]
    · simp -dsimp [h6]
      refine zaa htw ?_
      simp -dsimp [cT]
theorem zI7 (t : T) (hb : (piD t).length ≤ 1000000) (h1 : okT (piB t)) (h2 : okTs (piD t)) : Pure Tryz.prog zch [.agg (cT t)] [eTs (piD t), .agg (cT (piB t))] := by
  refine zq2 rfl fun hs => ?_
  simp -dsimp [zgu, cT]
  refine zam (piD t).length (fun i st => st.s 3 = .ptr 3 1 0 ∧ st.h 3 = ⟨1, .box [.d (.int .i64 0), .d (.int .i64 0), .fsl 3 []] false⟩ ∧ st.s 1 = .ptr 1 1 0 ∧ ∃ (cur : T) (L : List T),
    st.h 1 = ⟨1, .box [.d (.int .i64 cur.kind), .d (.int .i64 cur.num), .d (.sl 3 (cur.kids.map eT))] false⟩ ∧ L ++ piD cur = piD t ∧ L.length = i ∧ piB cur = piB t ∧
    st.s 4 = .rsl 4 (1 + i) ∧ st.h 4 = ⟨1 + i, .row 3 (L.map eT) false⟩) ?_ ?_
  · simp -dsimp
    exact ⟨t, ⟨rfl, rfl, rfl⟩, [], by simp⟩
  · rintro i ⟨s, hp⟩ hi ⟨g1, g2, g3, cur, L, g4, g5, g6, g7, g8, g9⟩
    dsimp only at g1 g2 g3 g4 g8 g9
    obtain ⟨k, n, ks⟩ := cur
    simp only [tk, tn, tks] at g4
    have hL : L.length ≤ (piD t).length := by rw [← g5, List.length_append]; omega
    by_cases hc : k = 4 ∧ ∃ a b, ks = [a, b]
    · obtain ⟨rfl, a, b, rfl⟩ := hc
      rw [(zF2 n a b).1] at g5
      rw [(zF2 n a b).2] at g7
      have hlt : i < (piD t).length := by rw [← g5, List.length_append, List.length_cons]; omega
      have hr : (L.length + 1) * 40 ≤ zaj := by simp only [zaj]; omega
      simp -dsimp [g1, g2, g3, g4, g8, g9, hr, zcr, cT]
      refine zaa (zoy a (h2.2 a (by rw [← g5]; simp))) ?_
      simp -dsimp [g1, g2, g3, g4, g8, g9, hr, zcr, cT]
      exact ⟨hlt, b, ⟨rfl, rfl, rfl⟩, L ++ [a], by simp [g5], by simp [g6], g7, by omega, by simp [zcr, cT]⟩
    · have e1 := zK1 (n := n) hc
      rw [e1.1, List.append_nil] at g5
      rw [e1.2] at g7
      subst g5
      rw [← g7] at h1
      have htw := zoy _ h1
      simp only [cT, tk, tn, tks] at htw
      by_cases h4 : k = 4
      · have h2' : ¬ (ks.length : Int) = 2 := fun h => hc ⟨h4, by
          match ks, h with
          | [a, b], _ => exact ⟨a, b, rfl⟩
          | [], h => simp at h
          | [_], h => simp at h
          | _ :: _ :: _ :: _, h => simp at h; omega⟩
        rw [h4] at htw g4 g7
        simp -dsimp [g1, g2, g3, g4, g8, g9, h4, h2']
        refine zaa htw ?_
        simp -dsimp [g1, g2, g3, g4, g8, g9, cT, ← g7, eTs]
      · simp -dsimp [g1, g2, g3, g4, g8, g9, h4]
        refine zaa htw ?_
        simp -dsimp [g1, g2, g3, g4, g8, g9, cT, ← g7, eTs]
end
section
theorem za9 (l : List So) : (AV.d (eSos l)).one = true := rfl
theorem zba (l : List Co) : (AV.d (eCos l)).one = true := rfl
theorem zbb (l : List Ar) : (AV.d (eArs l)).one = true := rfl
theorem zbz (l : List T) : (AV.d (eTs l)).one = true := rfl
attribute [local simp] zae zaf tk tn tks za9 zba zbb zbz
structure FineAr (a : Ar) : Prop where
  ty : zac a.ty ≤ 9000
  domL : a.dom.length ≤ 60
  dom : (a.dom.map zac).sum ≤ 9000
  idxL : a.idx.length ≤ 60
  idx : (a.idx.map zac).sum ≤ 9000
def zgg (l : List Ar) : Prop := l.length ≤ 20 ∧ ∀ a ∈ l, FineAr a
structure FineSo (s : So) : Prop where
  idx : zgg s.idx
  dty : zac s.dty ≤ 9000
structure FineCo (c : Co) : Prop where
  args : zgg c.args
  idxL : c.idx.length ≤ 60
  idx : (c.idx.map zac).sum ≤ 9000
  dec : zac c.dec ≤ 9000
structure FineBl (b : Bl) : Prop where
  s : b.sorts.length ≤ 10
  c : b.cons.length ≤ 20
  sorts : ∀ s ∈ b.sorts, FineSo s
  cons : ∀ c ∈ b.cons, FineCo c
theorem zE6 {xs : List D} {x : D} (h : x ∈ xs) : bulk x ≤ (xs.map bulk).sum := zcg (List.mem_map.2 ⟨x, h, rfl⟩)
theorem zxc {t : T} (hb : zac t ≤ 1048576) (h : zfj [t] = false) : zac t ≤ 9000 := by
  have := (zvm (l := [t]) (by simpa using hb) h).2.2
  simpa using this
theorem zSe {a : Ar} (hb : bulk (eAr a) ≤ 1048576) (h : pArg a = false) : FineAr a := by
  have e : bulk (eAr a) = 1 + bulk (.agg (cT a.ty)) + (bulk (eTs a.dom) + (1 + bulk (eTs a.idx))) := by
    simp only [eAr, cAr, bulk, List.map_cons, List.map_append, List.sum_cons, List.sum_append, List.map_nil, List.sum_nil, List.cons_append, cT, eTs, List.nil_append]
    omega
  simp only [pArg, Bool.or_eq_false_iff] at h
  have h1 := zvu a.ty
  have h2 := zAh a.dom
  have h3 := zAh a.idx
  obtain ⟨d1, _, d2⟩ := zvm (l := a.dom) (by omega) h.1.2
  obtain ⟨i1, _, i2⟩ := zvm (l := a.idx) (by omega) h.2
  exact ⟨zxc (by omega) h.1.1, d1, d2, i1, i2⟩
theorem zE8 {l : List Ar} (hb : bulk (eArs l) ≤ 1048576) (h : zg7 l = false) : zgg l := by
  simp only [zg7, Bool.or_eq_false_iff, decide_eq_false_iff_not] at h
  refine ⟨by omega, fun a ha => zSe ?_ ?_⟩
  · have := zE6 (List.mem_map.2 ⟨a, ha, rfl⟩ : eAr a ∈ l.map eAr)
    simp only [eArs, bulk] at hb
    omega
  · have := List.any_eq_false.1 h.2 a ha
    simpa using this
theorem zR9 {b : Bl} (hb : bulk (eBl b) ≤ 1048576) (h : zi6 b = false) : FineBl b := by
  have hf := zOm h
  have e : bulk (eBl b) = bulk (eSos b.sorts) + (bulk (eCos b.cons) + 1) := by simp [eBl, cBl, bulk]
  simp only [zi6, Bool.or_eq_false_iff] at h
  refine ⟨hf.s, hf.c, fun s hs => ?_, fun c hc => ?_⟩
  · have h1 := zE6 (List.mem_map.2 ⟨s, hs, rfl⟩ : eSo s ∈ b.sorts.map eSo)
    have h2 : bulk (eSos b.sorts) = ((b.sorts.map eSo).map bulk).sum + 1 := by simp [eSos, bulk]
    have h3 : bulk (eSo s) = bulk (eArs s.idx) + (1 + (1 + bulk (.agg (cT s.dty)))) := by
      simp only [eSo, cSo, bulk, List.map_cons, List.map_append, List.sum_cons, List.sum_append, List.map_nil, List.sum_nil, cT]
      omega
    have hp := List.any_eq_false.1 h.1.2 s hs
    simp only [pSo, Bool.not_eq_true, Bool.or_eq_false_iff] at hp
    have h4 := zvu s.dty
    exact ⟨zE8 (by omega) hp.1, zxc (by omega) hp.2⟩
  · have h1 := zE6 (List.mem_map.2 ⟨c, hc, rfl⟩ : eCo c ∈ b.cons.map eCo)
    have h2 : bulk (eCos b.cons) = ((b.cons.map eCo).map bulk).sum + 1 := by simp [eCos, bulk]
    have h3 : bulk (eCo c) = 1 + (bulk (eArs c.args) + (bulk (eTs c.idx) + bulk (.agg (cT c.dec)))) := by
      simp only [eCo, cCo, bulk, List.map_cons, List.map_append, List.sum_cons, List.sum_append, List.map_nil, List.sum_nil, cT]
      omega
    have hp := List.any_eq_false.1 h.2 c hc
    simp only [pCo, Bool.not_eq_true, Bool.or_eq_false_iff] at hp
    have h4 := zvu c.dec
    have h5 := zAh c.idx
    obtain ⟨i1, _, i2⟩ := zvm (l := c.idx) (by omega) hp.1.2
    exact ⟨zE8 (by omega) hp.1.1, i1, i2, zxc (by omega) hp.2⟩
theorem zHz (n : Int) : Pure Tryz.prog zl6 [.int .i64 n] [.agg (cT (.mk 3 n []))] := by
  refine zM8 rfl fun hs => ?_
  simp -dsimp [zzz, cT]
theorem tu_ok (n : Int) : Pure Tryz.prog zA9 [.int .i64 n] [.agg (cT (.mk 2 n []))] := by
  refine zMt rfl fun hs => ?_
  simp -dsimp [zA0, cT]
def tC (n : Int) : T := .mk 3 n []
def fmT (b : Bl) (base k : Int) : T := tC (if 0 < zbe b base k then zbe b base k else 0)
theorem zG3 (b : Bl) (base k : Int) : Pure Tryz.prog zoh [eBl b, .int .i64 base, .int .i64 k] [.agg (cT (fmT b base k))] := by
  refine zBx rfl fun hs => ?_
  have h := zrx b base k
  simp only [eBl, cBl] at h
  simp -dsimp [zol, eBl, cBl]
  refine zaa h ?_
  simp -dsimp
  refine zaa (zHz _) ?_
  simp -dsimp [cT, fmT, tC]
theorem zCv (a c k m : Int) : n64 (zir a c k m) := by
  rw [zir]
  split
  · exact ⟨by omega, by omega⟩
  · have := zRl (w64 (a + c) + k)
    simp only [w64, n64] at this ⊢
    omega
theorem zH9 (b : Bl) (base k : Int) : okT (fmT b base k) := by
  have h := zCv base 0 k b.sorts.length
  refine .mk _ _ _ ⟨by omega, by omega⟩ ?_ (by simp) (by simp)
  show n64 (if 0 < zbe b base k then zbe b base k else 0)
  split
  · exact h
  · exact ⟨by omega, by omega⟩
def zcn (b : Bl) (base : Int) (a : Ar) : T := if a.rc = true then zbu 4 a.dom (spT (fmT b base a.sort) a.idx) else a.ty
theorem zCq (b : Bl) (base : Int) {a : Ar} (h : okAr a) : okT (zcn b base a) := by
  rw [zcn]
  split
  · exact zzm (by omega) _ (zkj _ _ (zH9 _ _ _) h.idx.2) _ h.dom.2
  · exact h.ty
theorem zyq (b : Bl) (base : Int) (a : Ar) (h : okAr a) (hf : FineAr a) : Pure Tryz.prog zjf [eBl b, .int .i64 base, .agg (cAr a)] [.agg (cT (zcn b base a))] := by
  refine zAn rfl fun hs => ?_
  have d1 := hf.domL
  have i1 := hf.idxL
  have hF := zG3 b base a.sort
  have hS := zhh (fmT b base a.sort) a.idx (by omega) (zH9 _ _ _) h.idx
  have hP := zFr a.dom (spT (fmT b base a.sort) a.idx) (by omega) (zkj _ _ (zH9 _ _ _) h.idx.2) h.dom
  have hT := zo8 a.ty h.ty
  cases hr : a.rc with
  | false =>
    have e : zcn b base a = a.ty := by rw [zcn, hr]; rfl
    rw [e]
    simp only [cT] at hT
    simp -dsimp [zjg, eBl, cBl, cAr, cT, hr]
    refine zaa hT ?_
    simp -dsimp
  | true =>
    have e : zcn b base a = zbu 4 a.dom (spT (fmT b base a.sort) a.idx) := by rw [zcn, hr]; rfl
    rw [e]
    generalize zbu 4 a.dom (spT (fmT b base a.sort) a.idx) = P at hP
    generalize spT (fmT b base a.sort) a.idx = Sp at hS hP
    generalize fmT b base a.sort = F at hF hS
    simp only [eBl, cBl, cT, eTs] at hF hS hP
    simp -dsimp [zjg, eBl, cBl, cAr, cT, eTs, hr]
    refine zaa hF ?_
    simp -dsimp [hr]
    refine zaa hS ?_
    simp -dsimp [hr]
    refine zaa hP ?_
    simp -dsimp [hr]
theorem zE0 (b : Bl) (base : Int) (l : List Ar) (h : zuw l) (hf : zgg l) : Pure Tryz.prog zk4 [eBl b, .int .i64 base, eArs l] [eTs (l.map (zcn b base))] := by
  refine zx4 rfl fun hs => ?_
  have hl := hf.1
  simp -dsimp [zla, eBl, cBl, eArs]
  refine zam l.length (fun i st => st.s 6 = .rsl 6 1 ∧ st.h 6 = ⟨1, .row 3 [] false⟩ ∧ st.s 1 = .d (.int .i64 base) ∧ st.s 3 = .ptr 3 1 0 ∧ st.h 3 = ⟨1, .box [.d (eSos b.sorts), .d (eCos b.cons), .d (.int .i64 b.elim)] false⟩ ∧
    st.s 10 = .d (.sl 7 (l.map eAr)) ∧ st.s 11 = .d (.int .i64 l.length) ∧ st.s 12 = .d (.int .i64 i) ∧ st.s 7 = .rsl 7 (1 + i) ∧ st.h 7 = ⟨1 + i, .row 3 (((l.map (zcn b base)).take i).map eT) false⟩) ?_ ?_
  · simp -dsimp
  · rintro i ⟨s, hp⟩ hi ⟨g1, g2, g3, g4, g5, g6, g7, g8, g9, g10⟩
    dsimp only at g1 g2 g3 g4 g5 g6 g7 g8 g9 g10
    rcases Nat.lt_or_ge i l.length with hlt | hge
    · have w1 : IntKind.i64.wrap ((i : Int) + 1) = (i : Int) + 1 := zad (by omega) (by omega)
      have ha := zyq b base l[i] (h.2 _ (List.getElem_mem _)) (hf.2 _ (List.getElem_mem _))
      have hr : (min i l.length + 1) * 40 ≤ zaj := by simp only [zaj]; omega
      have htk : ((l.map (zcn b base)).take (i + 1)).map eT = ((l.map (zcn b base)).take i).map eT ++ [.agg (cT (zcn b base l[i]))] := by
        rw [zd1 (List.getElem?_eq_getElem (by simpa using hlt) : (l.map (zcn b base))[i]? = some _), List.map_append]
        simp [zcr]
      rw [htk]
      generalize zcn b base l[i] = A at ha
      simp only [eBl, cBl, cAr, cT, eTs, List.cons_append, List.nil_append] at ha
      simp -dsimp [g1, g2, g3, g4, g5, g6, g7, g8, g9, g10, hlt, eAr, cAr, cT, eTs]
      refine zaa ha ?_
      simp -dsimp [g1, g2, g3, g4, g5, g6, g7, g8, g9, g10, hlt, w1, hr, cT]
      omega
    · have e : i = l.length := by omega
      subst e
      have ht : (l.map (zcn b base)).take l.length = l.map (zcn b base) := List.take_of_length_le (by simp)
      rw [ht] at g10
      simp -dsimp [g1, g2, g3, g4, g5, g6, g7, g8, g9, g10, eTs]
end
section
section
attribute [local simp] zae zaf tk tn tks zb1 zcb za9 zba zbb zbz
structure Pl where
  b : Bl
  base : Int
  args : List Ar
  more : Int
def cPl (p : Pl) : List D := cBl p.b ++ [.int .i64 p.base, eArs p.args, .int .i64 p.more]
def Pl.fwd (p : Pl) (n : Int) : Pl := ⟨p.b, p.base, p.args, p.more + n⟩
theorem zFh (p : Pl) (n : Int) (h0 : 0 ≤ p.more) (h1 : p.more ≤ 1000000000) (h2 : 0 ≤ n) (h3 : n ≤ 1000000) : Pure Tryz.prog zek [.agg (cPl p), .int .i64 n] [.agg (cPl (p.fwd n))] := by
  refine zu7 rfl fun hs => ?_
  have w1 : IntKind.i64.wrap (p.more + n) = p.more + n := zad (by omega) (by omega)
  simp -dsimp [zi3, cPl, cBl, Pl.fwd, w1]
def zc3 (p : Pl) (t : T) : Option Nat := if t.kind = 1 ∧ p.more ≤ t.num ∧ t.num - p.more < p.args.length then some (p.args.length - 1 - (t.num - p.more).toNat) else none
def za0 (p : Pl) (t : T) : Bool := match zc3 p t with
  | some j => match p.args[j]? with
    | some a => a.rc
    | none => false
  | none => false
def zcu (p : Pl) (t : T) : Int := match zc3 p t with
  | some j => j
  | none => 0
theorem zlk (p : Pl) (t : T) (h0 : 0 ≤ p.more) (h1 : p.more ≤ 1000000000) (hl : p.args.length ≤ 1000000) (hn : n64 t.num) : Pure Tryz.prog zbj [.agg (cPl p), .agg (cT t)] [.int .i64 (zcu p t), .bool (za0 p t)] := by
  refine znv rfl fun hs => ?_
  obtain ⟨n0, n1⟩ := hn
  simp -dsimp [zfb, cPl, cBl, cT, eArs]
  by_cases c1 : t.kind = 1
  case neg =>
    have hJ : zc3 p t = none := by rw [zc3, if_neg (fun h => c1 h.1)]
    simp -dsimp [c1, zcu, za0, hJ]
  by_cases c2 : t.num < p.more
  · have hJ : zc3 p t = none := by rw [zc3, if_neg (fun h => by omega)]
    simp -dsimp [c1, c2, zcu, za0, hJ]
  have w1 : IntKind.i64.wrap ((p.args.length : Int) - 1) = (p.args.length : Int) - 1 := zad (by omega) (by omega)
  have w2 : IntKind.i64.wrap (t.num - p.more) = t.num - p.more := zad (by omega) (by omega)
  have w3 : IntKind.i64.wrap ((p.args.length : Int) - 1 - (t.num - p.more)) = (p.args.length : Int) - 1 - (t.num - p.more) := zad (by omega) (by omega)
  by_cases c3 : (p.args.length : Int) - 1 - (t.num - p.more) < 0
  · have hJ : zc3 p t = none := by rw [zc3, if_neg (fun h => by omega)]
    simp -dsimp [c1, c2, c3, w1, w2, w3, zcu, za0, hJ]
  · have hJ : zc3 p t = some (p.args.length - 1 - (t.num - p.more).toNat) := by rw [zc3, if_pos ⟨c1, by omega, by omega⟩]
    have hj : (p.args.length : Int) - 1 - (t.num - p.more) = ((p.args.length - 1 - (t.num - p.more).toNat : Nat) : Int) := by omega
    have hlt : p.args.length - 1 - (t.num - p.more).toNat < p.args.length := by omega
    rw [hj] at w3 c3
    generalize p.args.length - 1 - (t.num - p.more).toNat = j at *
    have hge : p.args[j]? = some p.args[j] := List.getElem?_eq_getElem hlt
    generalize hA : p.args[j] = A at *
    simp -dsimp [c1, c2, c3, w1, w2, w3, hj, zcu, za0, hJ, hlt, hge, hA, eAr, cAr, cT]
def decG (cl : T → Bool) (p : Pl) (t : T) : Bool := if (spH t).kind = 3 then if (ofM p.b p.base (spH t).num).1 = 4 then match p.b.sorts[(ofM p.b p.base (spH t).num).2.toNat]? with
      | some s => if ((spA t).length : Int) = s.idx.length + 1 then
          (match (spA t).reverse.getLast? with
          | some z => za0 p (spH z) && (((spA t).reverse.dropLast.all cl) && ((spA z).reverse.all cl))
          | none => false) else false
      | none => false else false else false
def zah : Nat → Pl → T → Bool
  | 0, _, _ => true
  | n + 1, p, t => if t.kind = 1 then !za0 p t else if t.kind = 3 then decide ((ofM p.b p.base t.num).1 = 0) else if t.kind = 6 ∧ decG (zah n p) p t = true then true else allI (fun i x => zah n (p.fwd (zai t.kind i)) x) 0 t.kids
theorem zD1 (p : Pl) (l : List T) (cl : T → Bool) (hl : l.length ≤ 1000000) (h : ∀ x ∈ l, Pure Tryz.prog zat [.agg (cPl p), .agg (cT x)] [.bool (cl x)]) : Pure Tryz.prog zdz [.agg (cPl p), eTs l] [.bool (l.all cl)] := by
  refine zta rfl fun hs => ?_
  have hC := zfq l zgk [.rp (cPl p)] (fun t => !cl t) (fun x hx => by
    refine zqa rfl fun hs => ?_
    have hx' := h x hx
    simp only [cPl, cBl, cT, List.cons_append, List.nil_append] at hx'
    simp -dsimp [zgf, cPl, cBl, cT]
    refine zaa hx' ?_
    simp -dsimp)
  simp only [cPl, cBl, eTs, List.cons_append, List.nil_append] at hC
  simp -dsimp [zih, cPl, cBl, eTs]
  refine zaa hC ?_
  simp -dsimp
  rw [List.all_eq_not_any_not, Bool.not_not]
theorem zDn {b : Bl} {base n : Int} (h : (ofM b base n).1 ≠ 0) : 0 ≤ (ofM b base n).2 ∧ ((ofM b base n).1 = 3 ∧ (ofM b base n).2 < b.sorts.length ∨ (ofM b base n).1 = 4 ∧ (ofM b base n).2 < b.sorts.length ∨ (ofM b base n).1 = 5 ∧ (ofM b base n).2 < b.cons.length ∨ (ofM b base n).1 = 6 ∧ (ofM b base n).2 < b.sorts.length) := by
  rw [ofM] at h ⊢
  split at h
  · exact absurd rfl h
  rename_i hc
  rw [if_neg hc]
  cases hs : seek n (tab b base) with
  | none => rw [hs] at h; exact absurd rfl h
  | some q =>
    obtain ⟨e, he, k, hk, _, rfl⟩ := zn9 hs
    simp only [tab, List.mem_cons, List.not_mem_nil, or_false] at he
    rcases he with rfl | rfl | rfl | rfl
    all_goals
      simp only [hs, Option.getD_some]
      first
        | (have hk' : k < b.sorts.length := hk; simp; exact hk')
        | (have hk' : k < b.cons.length := hk; simp; exact hk')
theorem zuh (t : T) : (spA t).length ≤ zac t := by
  refine T.ind (p := fun t => (spA t).length ≤ zac t) ?_ t
  intro k n ks ih
  by_cases hc : k = 6 ∧ ∃ a b, ks = [a, b]
  · obtain ⟨rfl, a, b, rfl⟩ := hc
    rw [(zey n a b).1, List.length_cons, zyw]
    have := ih a (by simp)
    omega
  · rw [(zdv hc).1]
    simp
theorem zh0 (t : T) : (∀ x ∈ spA t, zac x < zac t) ∧ (okT t → okT (spH t) ∧ ∀ x ∈ spA t, okT x) := by
  refine T.ind (p := fun t => (∀ x ∈ spA t, zac x < zac t) ∧ (okT t → okT (spH t) ∧ ∀ x ∈ spA t, okT x)) ?_ t
  intro k n ks ih
  by_cases hc : k = 6 ∧ ∃ a b, ks = [a, b]
  · obtain ⟨rfl, a, b, rfl⟩ := hc
    obtain ⟨i1, i2⟩ := ih a (by simp)
    rw [(zey n a b).1, (zey n a b).2, zyw]
    refine ⟨fun x hx => ?_, fun ho => ?_⟩
    · rcases List.mem_cons.1 hx with rfl | hx
      · omega
      · have := i1 x hx; omega
    · have hk := ho.kids.2
      obtain ⟨j1, j2⟩ := i2 (hk a (by simp))
      refine ⟨j1, fun x hx => ?_⟩
      rcases List.mem_cons.1 hx with rfl | hx
      · exact hk _ (by simp)
      · exact j2 x hx
  · rw [(zdv hc).1, (zdv hc).2]
    exact ⟨by simp, fun ho => ⟨ho, by simp⟩⟩
theorem okT.num64 {t : T} (h : okT t) : n64 t.num := by
  cases h with
  | mk k n ks hk hn hl h => exact hn
theorem zG4 (p : Pl) (h0 : 0 ≤ p.more) (h1 : p.more ≤ 1000000000) (hl : p.args.length ≤ 1000000) (t : T) (ot : okT t) (hn : zac t ≤ 1000000) (hsl' : ∀ s ∈ p.b.sorts, s.idx.length ≤ 1000000) (cl : T → Bool) (h : ∀ x, okT x → zac x < zac t → Pure Tryz.prog zat [.agg (cPl p), .agg (cT x)] [.bool (cl x)]) :
    Pure Tryz.prog zfd [.agg (cPl p), .agg (cT t)] [.bool (decG cl p t)] := by
  refine zod rfl fun hs => ?_
  have hsl := zuh t
  have hS := zvo t (by omega)
  have hO := zL8 p.b p.base (spH t).num
  obtain ⟨m1, m2⟩ := zh0 t
  obtain ⟨_, m3⟩ := m2 ot
  have hm : ∀ x ∈ (spA t).reverse, zac x < zac t ∧ okT x := fun x hx => ⟨m1 x (by simpa using hx), m3 x (by simpa using hx)⟩
  have hAL : (spA t).length = (spA t).reverse.length := by simp
  have hD : decG cl p t = if (spH t).kind = 3 then if (ofM p.b p.base (spH t).num).1 = 4 then match p.b.sorts[(ofM p.b p.base (spH t).num).2.toNat]? with
      | some s => if ((spA t).reverse.length : Int) = s.idx.length + 1 then
          (match (spA t).reverse.getLast? with
          | some z => za0 p (spH z) && (((spA t).reverse.dropLast.all cl) && ((spA z).reverse.all cl))
          | none => false) else false
      | none => false else false else false := by rw [decG, hAL]
  rw [hAL] at hsl
  clear hAL m1 m2 m3
  rw [hD]
  clear hD
  simp only [cPl, cBl, eBl, cT, eTs, List.cons_append, List.nil_append] at hS hO h
  generalize (spA t).reverse = A at *
  generalize spH t = H at *
  simp -dsimp [ze2, cPl, cBl, cT]
  refine zaa hS ?_
  by_cases c1 : H.kind = 3
  case neg => simp -dsimp [c1]
  simp -dsimp [c1]
  refine zaa hO ?_
  have hk := zDn (b := p.b) (base := p.base) (n := H.num)
  generalize hof : ofM p.b p.base H.num = o at *
  by_cases c2 : o.1 = 4
  case neg => simp -dsimp [c1, c2]
  obtain ⟨k0, k1⟩ := hk (by omega)
  have hlt : o.2.toNat < p.b.sorts.length := by omega
  have hget : p.b.sorts[o.2.toNat]? = some p.b.sorts[o.2.toNat] := List.getElem?_eq_getElem hlt
  generalize hS' : p.b.sorts[o.2.toNat] = S at *
  have hsm : S.idx.length ≤ 1000000 := hsl' S (List.mem_of_getElem? hget)
  have w1 : IntKind.i64.wrap ((S.idx.length : Int) + 1) = (S.idx.length : Int) + 1 := zad (by omega) (by omega)
  simp -dsimp [c1, c2, k0, hget, hlt, hS', eSos, eSo, cSo, eArs, cT, w1]
  by_cases c3 : (A.length : Int) = S.idx.length + 1
  case neg => simp -dsimp [c3, c1, c2, hget]
  have hAl : A.length = S.idx.length + 1 := by omega
  have hz : S.idx.length < A.length := by omega
  have hgl : A.getLast? = some A[S.idx.length] := by rw [List.getLast?_eq_getElem?, hAl, Nat.add_sub_cancel, List.getElem?_eq_getElem hz]
  have hdl : A.dropLast = A.take S.idx.length := by rw [List.dropLast_eq_take, hAl, Nat.add_sub_cancel]
  rw [hgl, hdl]
  simp only [c1, c2, hget, c3, if_true]
  obtain ⟨z1, z2⟩ := hm _ (List.getElem_mem hz)
  generalize hZ : A[S.idx.length] = z at *
  obtain ⟨n1, n2⟩ := zh0 z
  obtain ⟨oH, n3⟩ := n2 z2
  have hSz := zvo z (by have := zuh z; omega)
  have hG := zlk p (spH z) h0 h1 hl oH.num64
  have a1 := zD1 p (A.take S.idx.length) cl (by rw [List.length_take]; omega) (fun x hx => by have := hm x (List.mem_of_mem_take hx); simpa only [cPl, cBl, cT, List.cons_append, List.nil_append] using h x this.2 this.1)
  have a2 := zD1 p (spA z).reverse cl (by rw [List.length_reverse]; have := zuh z; omega) (fun x hx => by have := n1 x (by simpa using hx); simpa only [cPl, cBl, cT, List.cons_append, List.nil_append] using h x (n3 x (by simpa using hx)) (by omega))
  have hZa : (spA z).all cl = (spA z).reverse.all cl := by simp
  generalize (spA z).reverse = Z at *
  generalize spH z = Hz at *
  simp only [cPl, cBl, cT, eTs, List.cons_append, List.nil_append, List.map_take] at hSz hG a1 a2
  have w2 : IntKind.i64.wrap (S.idx.length : Int) = S.idx.length := zad (by omega) (by omega)
  have hle : (S.idx.length : Int) ≤ A.length := by omega
  simp -dsimp [c3, w2, hz, hZ, zcr, cT]
  refine zaa hSz ?_
  simp -dsimp
  refine zaa hG ?_
  cases hgB : za0 p Hz with
  | false => simp -dsimp [c1, c2, hget]
  | true =>
    simp -dsimp [hle]
    refine zaa a1 ?_
    cases h3 : (A.take S.idx.length).all cl with
    | false => simp -dsimp [c1, c2, hget]
    | true =>
      simp -dsimp
      refine zaa a2 ?_
      simp -dsimp [c1, c2, hget, c3, hZa]
theorem zf0 (t : T) : 1 ≤ zac t := by obtain ⟨k, n, ks⟩ := t; rw [zac]; omega
theorem zws (t : T) {x : T} (h : x ∈ t.kids) : zac x + 1 ≤ zac t := by obtain ⟨k, n, ks⟩ := t; exact zcx h
theorem zJ1 {t x : T} (ot : okT t) (h : x ∈ t.kids) : okT x := by obtain ⟨k, n, ks⟩ := t; exact ot.kids.2 x h
theorem zGm {t : T} (ot : okT t) : t.kids.length * 40 ≤ 140737488351232 := by obtain ⟨k, n, ks⟩ := t; exact ot.kids.1
theorem zms (n : Nat) (hN : n ≤ 1000000) : ∀ (p : Pl) (t : T), 0 ≤ p.more → p.more + zac t ≤ 1000000000 → p.args.length ≤ 1000000 → (∀ s ∈ p.b.sorts, s.idx.length ≤ 1000000) → okT t → zac t ≤ n →
    Pure Tryz.prog zat [.agg (cPl p), .agg (cT t)] [.bool (zah n p t)] := by
  induction n with
  | zero => intro p t _ _ _ _ _ h; have := zf0 t; omega
  | succ n ih =>
    intro p t h0 h1 hl hsl ot hn
    have hrec : ∀ x, okT x → zac x < zac t → Pure Tryz.prog zat [.agg (cPl p), .agg (cT x)] [.bool (zah n p x)] := fun x ox hx => ih (by omega) p x h0 (by omega) hl hsl ox (by omega)
    have hkl := zGm ot
    have hG := zlk p t h0 (by omega) hl ot.num64
    have hO := zL8 p.b p.base t.num
    have hDe := zG4 p h0 (by omega) hl t ot (by omega) hsl (zah n p) hrec
    refine zqc rfl fun hs => ?_
    simp only [cPl, cBl, eBl, cT, List.cons_append, List.nil_append] at hG hO hDe
    simp -dsimp [zgj, cPl, cBl, cT]
    by_cases c1 : t.kind = 1
    · simp -dsimp [c1]
      rw [c1] at hG
      refine zaa hG ?_
      simp -dsimp [zah, c1]
    by_cases c3 : t.kind = 3
    · simp -dsimp [c1, c3]
      refine zaa hO ?_
      simp -dsimp [zah, c1, c3]
    by_cases c6 : t.kind = 6
    · simp -dsimp [c1, c3, c6]
      rw [c6] at hDe
      refine zaa hDe ?_
      cases hd : decG (zah n p) p t with
      | true =>
        have hv : zah (n + 1) p t = true := by rw [zah, if_neg c1, if_neg c3, if_pos ⟨c6, hd⟩]
        simp -dsimp [hv]
      | false =>
        have hv : zah (n + 1) p t = allI (fun i x => zah n (p.fwd (zai t.kind i)) x) 0 t.kids := by rw [zah, if_neg c1, if_neg c3, if_neg (fun h => by rw [hd] at h; cases h.2)]
        simp -dsimp [c1, c3, c6]
        refine zam t.kids.length (fun i st => st.s 2 = .ptr 2 1 0 ∧ st.s 3 = .ptr 3 1 0 ∧ st.s 43 = .d (eTs t.kids) ∧ st.s 44 = .d (.int .i64 t.kids.length) ∧ st.s 45 = .d (.int .i64 i) ∧
          st.h 2 = ⟨1, .box [.d (eSos p.b.sorts), .d (eCos p.b.cons), .d (.int .i64 p.b.elim), .d (.int .i64 p.base), .d (eArs p.args), .d (.int .i64 p.more)] false⟩ ∧
          st.h 3 = ⟨1, .box [.d (.int .i64 t.kind), .d (.int .i64 t.num), .d (.sl 3 (t.kids.map eT))] false⟩ ∧ ∀ (j : Nat) (hj : j < t.kids.length), j < i → zah n (p.fwd (zai t.kind j)) t.kids[j] = true) ?_ ?_
        · simp -dsimp [eTs, c1, c3, c6]
        · rintro i ⟨s, hp⟩ hi ⟨g2, g3, g43, g44, g45, k2, k3, g⟩
          dsimp only at g2 g3 g43 g44 g45 k2 k3
          simp only [eTs] at g43
          rcases Nat.lt_or_ge i t.kids.length with hlt | hge
          · have w1 : IntKind.i64.wrap ((i : Int) + 1) = (i : Int) + 1 := zad (by omega) (by omega)
            have hbl := zdk t.kind i
            have hkn := zws t (List.getElem_mem hlt)
            have hB := zlw t.kind i
            have hP := zFh p (zai t.kind i) h0 (by omega) (by omega) (by omega)
            have hI := ih (by omega) (p.fwd (zai t.kind i)) t.kids[i] (by simp only [Pl.fwd]; omega) (by simp only [Pl.fwd]; omega) hl hsl (zJ1 ot (List.getElem_mem hlt)) (by omega)
            have hgi := g
            generalize hX : t.kids[i] = X at *
            simp only [cPl, cBl, cT, Pl.fwd, List.cons_append, List.nil_append] at hP hI
            simp -dsimp [g2, g3, g43, g44, g45, k2, k3, hlt, hX, cT]
            refine zaa hB ?_
            simp -dsimp [g2, g3, g43, g44, g45, k2, k3, hlt, hX, cT]
            refine zaa hP ?_
            simp -dsimp [g2, g3, g43, g44, g45, k2, k3, hlt, hX, cT]
            refine zaa hI ?_
            cases hc : zah n (p.fwd (zai t.kind i)) X with
            | true =>
              simp only [Pl.fwd] at hc
              simp -dsimp [g2, g3, g43, g44, g45, k2, k3, hlt, hX, cT, hc, w1, eTs]
              intro j hj hji
              rcases Nat.lt_or_ge j i with h' | h'
              · exact g j hj h'
              · have : j = i := by omega
                subst this
                rw [hX]; exact hc
            | false =>
              have hz : allI (fun i x => zah n (p.fwd (zai t.kind i)) x) 0 t.kids = false := by
                rw [Bool.eq_false_iff]
                intro h
                have := (zan _ _ _).1 h i hlt
                rw [Nat.zero_add, hX, hc] at this
                cases this
              simp only [Pl.fwd] at hc
              rw [hv, hz]
              simp -dsimp [g2, g3, g43, g44, g45, k2, k3, hlt, hX, cT, hc]
          · have e : i = t.kids.length := by omega
            subst e
            have hz : allI (fun i x => zah n (p.fwd (zai t.kind i)) x) 0 t.kids = true := (zan _ _ _).2 fun j hj => by rw [Nat.zero_add]; exact g j hj hj
            rw [hv, hz]
            simp -dsimp [g2, g3, g43, g44, g45, k2, k3]
    · have hv : zah (n + 1) p t = allI (fun i x => zah n (p.fwd (zai t.kind i)) x) 0 t.kids := by rw [zah, if_neg c1, if_neg c3, if_neg (fun h => c6 h.1)]
      simp -dsimp [c1, c3, c6]
      refine zam t.kids.length (fun i st => st.s 2 = .ptr 2 1 0 ∧ st.s 3 = .ptr 3 1 0 ∧ st.s 43 = .d (eTs t.kids) ∧ st.s 44 = .d (.int .i64 t.kids.length) ∧ st.s 45 = .d (.int .i64 i) ∧
        st.h 2 = ⟨1, .box [.d (eSos p.b.sorts), .d (eCos p.b.cons), .d (.int .i64 p.b.elim), .d (.int .i64 p.base), .d (eArs p.args), .d (.int .i64 p.more)] false⟩ ∧
        st.h 3 = ⟨1, .box [.d (.int .i64 t.kind), .d (.int .i64 t.num), .d (.sl 3 (t.kids.map eT))] false⟩ ∧ ∀ (j : Nat) (hj : j < t.kids.length), j < i → zah n (p.fwd (zai t.kind j)) t.kids[j] = true) ?_ ?_
      · simp -dsimp [eTs, c1, c3, c6]
      · rintro i ⟨s, hp⟩ hi ⟨g2, g3, g43, g44, g45, k2, k3, g⟩
        dsimp only at g2 g3 g43 g44 g45 k2 k3
        simp only [eTs] at g43
        rcases Nat.lt_or_ge i t.kids.length with hlt | hge
        · have w1 : IntKind.i64.wrap ((i : Int) + 1) = (i : Int) + 1 := zad (by omega) (by omega)
          have hbl := zdk t.kind i
          have hkn := zws t (List.getElem_mem hlt)
          have hB := zlw t.kind i
          have hP := zFh p (zai t.kind i) h0 (by omega) (by omega) (by omega)
          have hI := ih (by omega) (p.fwd (zai t.kind i)) t.kids[i] (by simp only [Pl.fwd]; omega) (by simp only [Pl.fwd]; omega) hl hsl (zJ1 ot (List.getElem_mem hlt)) (by omega)
          have hgi := g
          generalize hX : t.kids[i] = X at *
          simp only [cPl, cBl, cT, Pl.fwd, List.cons_append, List.nil_append] at hP hI
          simp -dsimp [g2, g3, g43, g44, g45, k2, k3, hlt, hX, cT]
          refine zaa hB ?_
          simp -dsimp [g2, g3, g43, g44, g45, k2, k3, hlt, hX, cT]
          refine zaa hP ?_
          simp -dsimp [g2, g3, g43, g44, g45, k2, k3, hlt, hX, cT]
          refine zaa hI ?_
          cases hc : zah n (p.fwd (zai t.kind i)) X with
          | true =>
            simp only [Pl.fwd] at hc
            simp -dsimp [g2, g3, g43, g44, g45, k2, k3, hlt, hX, cT, hc, w1, eTs]
            intro j hj hji
            rcases Nat.lt_or_ge j i with h' | h'
            · exact g j hj h'
            · have : j = i := by omega
              subst this
              rw [hX]; exact hc
          | false =>
            have hz : allI (fun i x => zah n (p.fwd (zai t.kind i)) x) 0 t.kids = false := by
              rw [Bool.eq_false_iff]
              intro h
              have := (zan _ _ _).1 h i hlt
              rw [Nat.zero_add, hX, hc] at this
              cases this
            simp only [Pl.fwd] at hc
            rw [hv, hz]
            simp -dsimp [g2, g3, g43, g44, g45, k2, k3, hlt, hX, cT, hc]
        · have e : i = t.kids.length := by omega
          subst e
          have hz : allI (fun i x => zah n (p.fwd (zai t.kind i)) x) 0 t.kids = true := (zan _ _ _).2 fun j hj => by rw [Nat.zero_add]; exact g j hj hj
          rw [hv, hz]
          simp -dsimp [g2, g3, g43, g44, g45, k2, k3]
end
end
end Ev
end Go.Proofs.YtdhfkbdhdgaccaaGreat
