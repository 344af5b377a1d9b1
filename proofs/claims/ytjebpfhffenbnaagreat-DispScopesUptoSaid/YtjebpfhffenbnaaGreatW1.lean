/- The document's posit: places, guarded variables. -/
import Derived.Test.YtjebpfhffenbnaaGreatO6
import Derived.Test.YtjebpfhffenbnaaGreatH5
namespace Go.Proofs.YtjebpfhffenbnaaGreat
namespace Ev
open Go
set_option maxRecDepth 100000
set_option linter.unusedSimpArgs false
set_option linter.unusedVariables false
section
attribute [local simp] allD_map_d sks_map_d tk tn tks initA EndsM one_sos one_cos one_ars one_ts
def vA : Nat → List Ar → List Int
  | _, [] => []
  | i, a :: l => (if a.rc then (i : Int) else -1) :: vA (i + 1) l
theorem vA_len : ∀ (l : List Ar) (i : Nat), (vA i l).length = l.length
  | [], _ => rfl
  | a :: l, i => by rw [vA, List.length_cons, vA_len l, List.length_cons]
theorem vA_at : ∀ (l : List Ar) (i j : Nat) (h : j < l.length), (vA i l)[j]? = some (if l[j].rc then ((i + j : Nat) : Int) else -1)
  | a :: l, i, 0, h => by simp [vA]
  | a :: l, i, j + 1, h => by
    simp only [vA, List.getElem?_cons_succ, List.getElem_cons_succ]
    rw [vA_at l (i + 1) j (by simpa using h), show i + 1 + j = i + (j + 1) by omega]
theorem vA_snoc : ∀ (l : List Ar) (i j : Nat) (h : j < l.length), vA i (l.take (j + 1)) = vA i (l.take j) ++ [if l[j].rc then ((i + j : Nat) : Int) else -1]
  | a :: l, i, 0, h => by simp [vA]
  | a :: l, i, j + 1, h => by
    simp only [List.take_succ_cons, vA, List.getElem_cons_succ, List.cons_append]
    rw [vA_snoc l (i + 1) j (by simpa using h), show i + 1 + j = i + (j + 1) by omega]
def vrs (p : Pl) : List Int := vA 0 p.args ++ List.replicate p.more.toNat (-1)
def rp (p : Pl) : List D := cBl p.b ++ [.int .i64 p.base, .sl 1 ((vrs p).map (.int .i64)), eArs p.args]
theorem vrs_len (p : Pl) : (vrs p).length = p.args.length + p.more.toNat := by rw [vrs, List.length_append, vA_len, List.length_replicate]
def grd (p : Pl) (n : Int) : Int := if guardB p (.mk 1 n []) then guardN p (.mk 1 n []) else -1
theorem grd_out {p : Pl} {n : Int} (h0 : 0 ≤ p.more) (h : ((vrs p).length : Int) ≤ n) : grd p n = -1 := by
  rw [vrs_len] at h
  have hJ : guardJ p (.mk 1 n []) = none := by rw [guardJ, if_neg]; simp only [tk, tn]; omega
  rw [grd, guardB, hJ]
  rfl
theorem grd_in {p : Pl} {n : Int} (h0 : 0 ≤ p.more) (hn : 0 ≤ n) (h : n < ((vrs p).length : Int)) : (vrs p)[((vrs p).length - 1 - n.toNat)]? = some (grd p n) := by
  have hl := vrs_len p
  rw [vrs_len] at h
  by_cases c : n < p.more
  · have hJ : guardJ p (.mk 1 n []) = none := by rw [guardJ, if_neg]; simp only [tk, tn]; omega
    have e : grd p n = -1 := by rw [grd, guardB, hJ]; rfl
    have hx : (vrs p).length - 1 - n.toNat - (vA 0 p.args).length < p.more.toNat := by rw [vA_len, hl]; omega
    have hy : (vA 0 p.args).length ≤ (vrs p).length - 1 - n.toNat := by rw [vA_len, hl]; omega
    rw [e]
    generalize (vrs p).length - 1 - n.toNat = j at *
    rw [vrs, List.getElem?_append_right hy, List.getElem?_replicate, if_pos hx]
  · have hJ : guardJ p (.mk 1 n []) = some (p.args.length - 1 - (n - p.more).toNat) := by
      rw [guardJ, if_pos ⟨rfl, by show p.more ≤ n; omega, by show n - p.more < (p.args.length : Int); omega⟩]
      rfl
    have hidx : (vrs p).length - 1 - n.toNat = p.args.length - 1 - (n - p.more).toNat := by rw [hl]; omega
    have hlt : p.args.length - 1 - (n - p.more).toNat < p.args.length := by omega
    rw [hidx, vrs, List.getElem?_append_left (by rw [vA_len]; omega), vA_at _ _ _ hlt]
    rw [grd, guardB, guardN, hJ]
    simp only [List.getElem?_eq_getElem hlt, Nat.zero_add]
theorem grd_neg (p : Pl) (n : Int) : (grd p n < 0 ↔ guardB p (.mk 1 n []) = false) ∧ (guardB p (.mk 1 n []) = true → grd p n = guardN p (.mk 1 n [])) := by
  rw [grd]
  cases hb : guardB p (.mk 1 n []) with
  | true =>
    obtain ⟨_, j, hj, _⟩ : _ ∧ ∃ j : Nat, guardN p (.mk 1 n []) = j ∧ j < p.args.length := by
      rw [guardB] at hb
      cases hJ : guardJ p (.mk 1 n []) with
      | none => rw [hJ] at hb; cases hb
      | some j =>
        have e : guardN p (.mk 1 n []) = j := by rw [guardN, hJ]
        rw [guardJ] at hJ
        split at hJ
        · rename_i hh
          cases hJ
          exact ⟨hh.1, _, e, by omega⟩
        · cases hJ
    rw [if_pos rfl, hj]
    refine ⟨⟨fun h => by omega, fun h => by cases h⟩, fun _ => rfl⟩
  | false => rw [if_neg (by simp)]; exact ⟨⟨fun _ => rfl, fun _ => by omega⟩, fun h => by cases h⟩
theorem guarded7_ok (p : Pl) (n : Int) (hn : 0 ≤ n) (h0 : 0 ≤ p.more) (h1 : p.more ≤ 1000000000) (hl : p.args.length ≤ 1000000) : Pure Tryz.prog n_porismref07_place_guarded [.agg (rp p), .int .i64 n] [.int .i64 (grd p n)] := by
  refine p_porismref07_place_guarded rfl fun hs => ?_
  have hvl := vrs_len p
  have ho := grd_out (p := p) (n := n) h0
  have hi := grd_in (p := p) (n := n) h0 hn
  have e : rp p = cBl p.b ++ [.int .i64 p.base, .sl 1 ((vrs p).map (.int .i64)), eArs p.args] := rfl
  rw [e]
  generalize vrs p = L at *
  by_cases c : (L.length : Int) ≤ n
  · have := ho c
    simp -dsimp [x_porismref07_place_guarded, cBl, c, this]
  · have hI := hi (by omega)
    have hlt : L.length - 1 - n.toNat < L.length := by omega
    have hI' := (List.getElem?_eq_some_iff.1 hI).2
    have w1 : IntKind.i64.wrap ((L.length : Int) - 1) = (L.length : Int) - 1 := wrap_id (by omega) (by omega)
    have w2 : IntKind.i64.wrap ((L.length : Int) - 1 - n) = ((L.length - 1 - n.toNat : Nat) : Int) := by rw [wrap_id (by omega) (by omega)]; omega
    generalize L.length - 1 - n.toNat = j at *
    simp -dsimp [x_porismref07_place_guarded, cBl, c, w1, w2, hlt, hI, hI']
theorem twinInts_own (l : List Int) (hl : l.length ≤ 2000000000) : OwnC Tryz.prog n_porismkeep_TwinInts [.sl 1 (l.map (.int .i64))] [.one (.row 1 (l.map (.int .i64)) false)] := by
  refine o_porismkeep_TwinInts rfl fun hs => ?_
  simp -dsimp [x_porismkeep_TwinInts, (by simp only [maxRoom]; omega : l.length * 8 ≤ maxRoom)]
theorem more7_ok (p : Pl) (n : Nat) (hn : n ≤ 1000000) (h0 : 0 ≤ p.more) (h1 : p.more ≤ 1000000000) (hl : p.args.length ≤ 1000000) : Pure Tryz.prog n_porismref07_place_more [.agg (rp p), .int .i64 n] [.agg (rp (p.fwd n))] := by
  refine p_porismref07_place_more rfl fun hs => ?_
  have hvl := vrs_len p
  have e : rp p = cBl p.b ++ [.int .i64 p.base, .sl 1 ((vrs p).map (.int .i64)), eArs p.args] := rfl
  have e2 : rp (p.fwd n) = cBl p.b ++ [.int .i64 p.base, .sl 1 ((vrs p ++ List.replicate n (-1)).map (.int .i64)), eArs p.args] := by
    rw [rp]
    simp only [Pl.fwd, vrs, List.append_assoc]
    rw [show (p.more + (n : Int)).toNat = p.more.toNat + n by omega, ← List.replicate_append_replicate]
  rw [e, e2]
  have hT := twinInts_own (vrs p) (by omega)
  generalize vrs p = L at *
  simp -dsimp [x_porismref07_place_more, cBl]
  refine callO_of hT (by simp [rowsV, rowsC, RV.cells]) ?_
  simp -dsimp
  refine wp_upto n (fun i st => st.s 1 = .d (.int .i64 n) ∧ st.s 6 = .d (.int .i64 i) ∧ (st.s 4 = .ptr 4 1 0 ∧ st.h 4 = ⟨1, .box [.fsl 6 [], .fsl 6 [], .d (.int .i64 0), .d (.int .i64 0), .fsl 1 [], .fsl 7 []] false⟩) ∧
    ∃ v, st.s 5 = .ptr 5 1 0 ∧ st.h 5 = ⟨1, .box [.d (eSos p.b.sorts), .d (eCos p.b.cons), .d (.int .i64 p.b.elim), .d (.int .i64 p.base), .rsl 10 v, .d (eArs p.args)] false⟩ ∧ st.h 10 = ⟨v, .row 1 ((L ++ List.replicate i (-1)).map (.int .i64)) false⟩) ?_ ?_
  · simp -dsimp
  · rintro i ⟨s, hp⟩ hi ⟨g1, g6, ⟨g4, k4⟩, v, g5, k5, k10⟩
    dsimp only at g1 g6 g4 k4 g5 k5 k10
    rcases Nat.lt_or_ge i n with hlt | hge
    · have w1 : IntKind.i64.wrap ((i : Int) + 1) = (i : Int) + 1 := wrap_id (by omega) (by omega)
      have hn' : (L ++ List.replicate (i + 1) (-1)).map (D.int .i64) = (L ++ List.replicate i (-1)).map (D.int .i64) ++ [.int .i64 (-1)] := by
        rw [List.replicate_succ', ← List.append_assoc, List.map_append]; rfl
      have hll : (L ++ List.replicate i (-1 : Int)).length = L.length + i := by rw [List.length_append, List.length_replicate]
      rw [hn']
      generalize L ++ List.replicate i (-1 : Int) = M at *
      simp -dsimp [g1, g6, g4, k4, g5, k5, k10, hlt, w1, (by simp only [maxRoom]; omega : (M.length + 1) * 8 ≤ maxRoom)]
    · have ei : i = n := by omega
      subst ei
      simp -dsimp [g1, g6, g4, k4, g5, k5, k10]
theorem at7_ok (b : Bl) (base : Int) (l : List Ar) (hl : l.length ≤ 1000000) : Pure Tryz.prog n_porismref07_at [eBl b, .int .i64 base, eArs l] [.agg (rp ⟨b, base, l, 0⟩)] := by
  refine p_porismref07_at rfl fun hs => ?_
  have e : rp ⟨b, base, l, 0⟩ = cBl b ++ [.int .i64 base, .sl 1 ((vA 0 l).map (.int .i64)), eArs l] := by
    rw [rp]; simp only [vrs]
    rw [show (0 : Int).toNat = 0 from rfl, List.replicate_zero, List.append_nil]
  rw [e]
  simp -dsimp [x_porismref07_at, eBl, cBl, eArs]
  refine wp_upto l.length (fun i st => st.s 2 = .d (eArs l) ∧ st.s 8 = .d (.int .i64 i) ∧ (st.s 6 = .ptr 6 1 0 ∧ st.h 6 = ⟨1, .box [.fsl 6 [], .fsl 6 [], .d (.int .i64 0), .d (.int .i64 0), .fsl 1 [], .fsl 7 []] false⟩) ∧
    ∃ c, st.s 7 = .ptr 7 1 0 ∧ st.h 7 = ⟨1, .box [.d (eSos b.sorts), .d (eCos b.cons), .d (.int .i64 b.elim), .d (.int .i64 base), c, .d (eArs l)] false⟩ ∧
    ((i = 0 ∧ c = .fsl 1 []) ∨ (0 < i ∧ ∃ k v, (k = 28 ∨ k = 33) ∧ c = .rsl k v ∧ st.h k = ⟨v, .row 1 ((vA 0 (l.take i)).map (.int .i64)) false⟩))) ?_ ?_
  · simp -dsimp [eArs]
  · rintro i ⟨s, hp⟩ hi ⟨g2, g8, ⟨g6, k6⟩, c, g7, k7, kc⟩
    dsimp only at g2 g8 g6 k6 g7 k7 kc
    simp only [eArs] at g2 k7
    rcases Nat.lt_or_ge i l.length with hlt | hge
    · have w1 : IntKind.i64.wrap ((i : Int) + 1) = (i : Int) + 1 := wrap_id (by omega) (by omega)
      have hsn := vA_snoc l 0 i hlt
      have hvl := vA_len (l.take i) 0
      rw [List.length_take] at hvl
      rw [Nat.zero_add] at hsn
      rw [hsn]
      generalize hR : l[i] = R at *
      have hV0 : i = 0 → vA 0 (l.take i) = [] := fun h => by subst h; rfl
      generalize vA 0 (l.take i) = V at *
      have w1' : IntKind.i64.wrap 1 = 1 := by rfl
      rcases kc with ⟨rfl, rfl⟩ | ⟨hi0, k, v, hk, rfl, kc⟩
      · have := hV0 rfl
        subst this
        cases hrc : R.rc with
        | true => simp -dsimp [g2, g8, g6, k6, g7, k7, hlt, hR, hrc, eAr, cAr, cT, w1', (by decide : 8 ≤ maxRoom), eArs]
        | false => simp -dsimp [g2, g8, g6, k6, g7, k7, hlt, hR, hrc, eAr, cAr, cT, w1', (by decide : 8 ≤ maxRoom), eArs]
      · rcases hk with rfl | rfl <;> cases hrc : R.rc
        all_goals
          simp -dsimp [g2, g8, g6, k6, g7, k7, kc, hlt, hR, hrc, eAr, cAr, cT, w1, (by simp only [maxRoom]; omega : (V.length + 1) * 8 ≤ maxRoom), eArs]
    · have ei : i = l.length := by omega
      subst ei
      rw [List.take_length] at kc
      rcases kc with ⟨hz, rfl⟩ | ⟨hi0, k, v, hk, rfl, kc⟩
      · have hl0 : l = [] := List.length_eq_zero_iff.1 hz
        subst hl0
        simp -dsimp [g2, g8, g6, k6, g7, k7, vA]
      · rcases hk with rfl | rfl
        all_goals
          simp -dsimp [g2, g8, g6, k6, g7, k7, kc]
end
end Ev
end Go.Proofs.YtjebpfhffenbnaaGreat
