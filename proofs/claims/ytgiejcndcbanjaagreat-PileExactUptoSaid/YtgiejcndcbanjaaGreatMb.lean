/- Texts of this claim, in one. -/
import Derived.Test.YtgiejcndcbanjaaGreatMa
set_option maxRecDepth 100000
set_option linter.unusedSimpArgs false
set_option linter.unusedVariables false
namespace Go.Proofs.YtgiejcndcbanjaaGreat
namespace Ev
open Go
section
attribute [local simp] allD_map_d sks_map_d tk tn tks initA EndsM
def argF (b : List Int) (r : Rd) : Ar × Rd :=
  (fun q1 : Bool × Rd => (fun q2 : T × Rd => (fun q3 : List T × Rd => (fun q4 : Int × Rd => (fun q5 : List T × Rd => ((⟨q1.1, q2.1, q3.1, q4.1, q5.1⟩ : Ar), q5.2)) (rwF b q4.2)) (numF b q3.2)) (rwF b q2.2)) (termF b q1.2)) (flagF b r)
def argsF (b : List Int) (r : Rd) : List Ar × Rd := repF (argF b) (numF b r).1.toNat (numF b r).2
set_option maxHeartbeats 4000000 in
theorem argsG_ok (v : Nat) (b : List Int) (r : Rd) (hB : byteL b) (hb : b.length ≤ 1000000000) : MutC Tryz.prog n_pile_reader_args [.ptr 12 v 0] [12] (pH v b r.p r.bad) [eArs (argsF b r).1] (pH v b (argsF b r).2.p (argsF b r).2.bad) := by
  have hN := numG_ok v b r hB hb
  have hrng := numF_rng hB r
  rw [argsF]
  generalize numF b r = q at *
  obtain ⟨n, R0⟩ := q
  simp only at hN hrng
  obtain ⟨m, rfl⟩ : ∃ m : Nat, n = (m : Int) := ⟨n.toNat, by omega⟩
  have hm : m < 256 := by omega
  simp only [Int.toNat_natCast]
  have hfin : ∀ i, i ≤ m → (repF (argF b) i R0).2.bad = true → repF (argF b) m R0 = repF (argF b) i R0 := fun i hi hb => repF_bad _ R0 hb hi
  refine mutP Tryz.func90 c_pile_reader_args rfl fun h hh => ?_
  simp -dsimp [x_pile_reader_args, hh]
  refine callM_of hN (by simp -dsimp [pH, hh]) ?_
  simp -dsimp [mergeK_cons, mergeK_nil, pH]
  refine wp_upto m (fun i st => st.s 0 = .ptr 12 v 0 ∧ st.s 4 = .d (.int .i64 ((m : Int) - i)) ∧ ∃ q v', q = repF (argF b) i R0 ∧ st.s 3 = .rsl 3 v' ∧ st.h 3 = ⟨v', .row 7 (q.1.map eAr) false⟩ ∧ st.h 12 = ⟨v, .box [.d (.sl 1 (b.map (.int .u8))), .d (.int .i64 q.2.p), .d (.bool q.2.bad)] false⟩) ?_ ?_
  · simp -dsimp [repF]
  · rintro i ⟨s, hp⟩ hi ⟨e1, e2, q, v', eq, e3, e4, e5⟩
    dsimp only at e1 e2 e3 e4 e5
    have hlen : q.1.length ≤ i := by rw [eq]; exact repF_len _ _ _
    rcases Nat.lt_or_ge i m with hlt | hge
    · cases hbd : q.2.bad
      · have w1 : IntKind.i64.wrap ((m : Int) - i - 1) = (m : Int) - (i + 1 : Nat) := (wrap_id (by omega) (by omega)).trans (by omega)
        have g3 : (0 : Int) < (m : Int) - i := by omega
        have hnx : repF (argF b) (i + 1) R0 = (q.1 ++ [(argF b q.2).1], (argF b q.2).2) := by rw [repF, ← eq, if_neg (by simp [hbd])]
        rw [hnx, argF]
        have h1 := flagG_ok v b q.2 hB hb
        generalize flagF b q.2 = q1 at *
        obtain ⟨rc, r1⟩ := q1
        have h2 := termG_ok v b r1 hB hb
        simp only at h1 ⊢
        generalize termF b r1 = q2 at *
        obtain ⟨ty, r2⟩ := q2
        have h3 := rowG_ok v b r2 hB hb
        simp only at h2 ⊢
        generalize rwF b r2 = q3 at *
        obtain ⟨dom, r3⟩ := q3
        have h4 := numG_ok v b r3 hB hb
        simp only at h3 ⊢
        generalize numF b r3 = q4 at *
        obtain ⟨sn, r4⟩ := q4
        have h5 := rowG_ok v b r4 hB hb
        simp only at h4 ⊢
        generalize rwF b r4 = q5 at *
        obtain ⟨idx, r5⟩ := q5
        simp only at h5 ⊢
        obtain ⟨ks, p, bd⟩ := q
        simp only at hbd hlen e4 e5 h1 ⊢
        subst hbd
        simp only [eTs, cT] at h2 h3 h5
        have hr : (ks.length + 1) * 104 ≤ maxRoom := by simp only [maxRoom]; omega
        simp -dsimp [e1, e2, e3, e4, e5, g3, hlt]
        refine callM_of h1 (by simp -dsimp [pH, e5]) ?_
        simp -dsimp [mergeK_cons, mergeK_nil, pH, e1, e2, e3, e4, e5]
        refine callM_of h2 (by simp -dsimp [pH]) ?_
        simp -dsimp [mergeK_cons, mergeK_nil, pH, e1, e2, e3, e4, e5]
        refine callM_of h3 (by simp -dsimp [pH]) ?_
        simp -dsimp [mergeK_cons, mergeK_nil, pH, e1, e2, e3, e4, e5]
        refine callM_of h4 (by simp -dsimp [pH]) ?_
        simp -dsimp [mergeK_cons, mergeK_nil, pH, e1, e2, e3, e4, e5]
        refine callM_of h5 (by simp -dsimp [pH]) ?_
        simp -dsimp [mergeK_cons, mergeK_nil, pH, e1, e2, e3, e4, e5, hr, hlt, w1, cT, eTs, eAr, cAr]
      · rw [hfin i hi (by rw [← eq]; exact hbd), ← eq]
        have g3 : (0 : Int) < (m : Int) - i := by omega
        simp -dsimp [e1, e2, e3, e4, e5, hbd, hlt, g3, eArs, pH]
    · have e : i = m := by omega
      subst e
      rw [← eq]
      simp -dsimp [e1, e2, e3, e4, e5, eArs, pH]
def soF (b : List Int) (r : Rd) : So × Rd :=
  (fun q1 : List Ar × Rd => (fun q2 : Int × Rd => (fun q3 : Bool × Rd => (fun q4 : T × Rd => ((⟨q1.1, q2.1, q3.1, q4.1⟩ : So), q4.2)) (termF b q3.2)) (flagF b q2.2)) (numF b q1.2)) (argsF b r)
def coF (b : List Int) (r : Rd) : Co × Rd :=
  (fun q1 : Int × Rd => (fun q2 : List Ar × Rd => (fun q3 : List T × Rd => (fun q4 : T × Rd => ((⟨q1.1, q2.1, q3.1, q4.1⟩ : Co), q4.2)) (termF b q3.2)) (rwF b q2.2)) (argsF b q1.2)) (numF b r)
def sosF (b : List Int) (r : Rd) : List So × Rd := repF (soF b) (numF b r).1.toNat (numF b r).2
def cosF (b : List Int) (r : Rd) : List Co × Rd := repF (coF b) (numF b r).1.toNat (numF b r).2
def blockF (b : List Int) (r : Rd) : Bl × Rd :=
  (fun q1 : List So × Rd => (fun q2 : List Co × Rd => (fun q3 : Int × Rd => ((⟨q1.1, q2.1, q3.1⟩ : Bl), q3.2)) (numF b q2.2)) (cosF b q1.2)) (sosF b r)
def cellR {α : Type} (k q : Nat) (e : α → D) (l : List α) (c : AV) (h : Nat → Ent) : Prop := (l = [] ∧ c = .fsl 6 []) ∨ (l ≠ [] ∧ c = .rsl k q ∧ h k = ⟨q, .row 6 (l.map e) false⟩)
set_option maxHeartbeats 16000000 in
theorem blockG_ok (v : Nat) (b : List Int) (r : Rd) (hB : byteL b) (hb : b.length ≤ 1000000000) : MutC Tryz.prog n_pile_reader_block [.ptr 12 v 0] [12] (pH v b r.p r.bad) [eBl (blockF b r).1] (pH v b (blockF b r).2.p (blockF b r).2.bad) := by
  have hN := numG_ok v b r hB hb
  have hrng := numF_rng hB r
  rw [blockF, sosF]
  generalize numF b r = q at *
  obtain ⟨n, R0⟩ := q
  simp only at hN hrng
  obtain ⟨m, rfl⟩ : ∃ m : Nat, n = (m : Int) := ⟨n.toNat, by omega⟩
  have hm : m < 256 := by omega
  simp only [Int.toNat_natCast]
  have hfin : ∀ i, i ≤ m → (repF (soF b) i R0).2.bad = true → repF (soF b) m R0 = repF (soF b) i R0 := fun i hi hb => repF_bad _ R0 hb hi
  have h80 : 80 ≤ maxRoom := by simp only [maxRoom]; omega
  have h96 : 96 ≤ maxRoom := by simp only [maxRoom]; omega
  refine mutP Tryz.func64 c_pile_reader_block rfl fun h hh => ?_
  simp -dsimp [x_pile_reader_block, hh]
  generalize (h 2).ver + 1 = u2
  generalize (h 3).ver + 1 = u3
  refine callM_of hN (by simp -dsimp [pH, hh]) ?_
  simp -dsimp [mergeK_cons, mergeK_nil, pH]
  refine wp_upto m (fun i st => st.s 0 = .ptr 12 v 0 ∧ st.s 2 = .ptr 2 u2 0 ∧ st.h 2 = ⟨u2, .box [.fsl 6 [], .fsl 6 [], .d (.int .i64 0)] false⟩ ∧ st.s 3 = .ptr 3 u3 0 ∧ st.s 4 = .d (.int .i64 ((m : Int) - i)) ∧ ∃ q c v', q = repF (soF b) i R0 ∧ st.h 3 = ⟨u3, .box [c, .fsl 6 [], .d (.int .i64 0)] false⟩ ∧ cellR 37 v' eSo q.1 c st.h ∧ st.h 12 = ⟨v, .box [.d (.sl 1 (b.map (.int .u8))), .d (.int .i64 q.2.p), .d (.bool q.2.bad)] false⟩) ?_ ?_
  · simp -dsimp [repF, cellR]
  · rintro i ⟨s, hp⟩ hi ⟨e1, e2, e6, e7, e8, q, c, v', eq, e3, e4, e5⟩
    dsimp only at e1 e2 e3 e4 e5 e6 e7 e8
    have hlen : q.1.length ≤ i := by rw [eq]; exact repF_len _ _ _
    by_cases hstop : i < m ∧ q.2.bad = false
    · obtain ⟨hlt, hbd⟩ := hstop
      have w1 : IntKind.i64.wrap ((m : Int) - i - 1) = (m : Int) - (i + 1 : Nat) := (wrap_id (by omega) (by omega)).trans (by omega)
      have g3 : (0 : Int) < (m : Int) - i := by omega
      have hnx : repF (soF b) (i + 1) R0 = (q.1 ++ [(soF b q.2).1], (soF b q.2).2) := by rw [repF, ← eq, if_neg (by simp [hbd])]
      rw [hnx, soF]
      clear hfin eq
      have h1 := argsG_ok v b q.2 hB hb
      generalize argsF b q.2 = q1 at *
      obtain ⟨as_, r1⟩ := q1
      have h2 := numG_ok v b r1 hB hb
      simp only at h1 ⊢
      generalize numF b r1 = q2 at *
      obtain ⟨lv, r2⟩ := q2
      have h3 := flagG_ok v b r2 hB hb
      simp only at h2 ⊢
      generalize flagF b r2 = q3 at *
      obtain ⟨dc, r3⟩ := q3
      have h4 := termG_ok v b r3 hB hb
      simp only at h3 ⊢
      generalize termF b r3 = q4 at *
      obtain ⟨dt, r4⟩ := q4
      simp only at h4 ⊢
      obtain ⟨ks, p, bd⟩ := q
      simp only at hbd hlen e3 e4 e5 h1 ⊢
      subst hbd
      simp only [eArs, cT] at h1 h4
      have hr : (ks.length + 1) * 80 ≤ maxRoom := by simp only [maxRoom]; omega
      rcases e4 with ⟨rfl, rfl⟩ | ⟨hne, rfl, e4⟩
      · simp -dsimp [e1, e2, e3, e5, e6, e7, e8, g3, hlt]
        refine callM_of h1 (by simp -dsimp [pH, e5]) ?_
        simp -dsimp [mergeK_cons, mergeK_nil, pH, e1, e2, e3, e5, e6, e7, e8]
        refine callM_of h2 (by simp -dsimp [pH]) ?_
        simp -dsimp [mergeK_cons, mergeK_nil, pH, e1, e2, e3, e5, e6, e7, e8]
        refine callM_of h3 (by simp -dsimp [pH]) ?_
        simp -dsimp [mergeK_cons, mergeK_nil, pH, e1, e2, e3, e5, e6, e7, e8]
        refine callM_of h4 (by simp -dsimp [pH]) ?_
        simp -dsimp [mergeK_cons, mergeK_nil, pH, e1, e2, e3, e5, e6, e7, e8, h80, hlt, w1, cT, eArs, eSo, cSo, cellR]
      · simp -dsimp [e1, e2, e3, e4, e5, e6, e7, e8, g3, hlt]
        refine callM_of h1 (by simp -dsimp [pH, e5]) ?_
        simp -dsimp [mergeK_cons, mergeK_nil, pH, e1, e2, e3, e4, e5, e6, e7, e8]
        refine callM_of h2 (by simp -dsimp [pH]) ?_
        simp -dsimp [mergeK_cons, mergeK_nil, pH, e1, e2, e3, e4, e5, e6, e7, e8]
        refine callM_of h3 (by simp -dsimp [pH]) ?_
        simp -dsimp [mergeK_cons, mergeK_nil, pH, e1, e2, e3, e4, e5, e6, e7, e8]
        refine callM_of h4 (by simp -dsimp [pH]) ?_
        simp -dsimp [mergeK_cons, mergeK_nil, pH, e1, e2, e3, e4, e5, e6, e7, e8, hr, hlt, w1, cT, eArs, eSo, cSo, cellR]
    · have hq : repF (soF b) m R0 = q := by
        rcases Nat.lt_or_ge i m with hlt | hge
        · have hbd : q.2.bad = true := by cases hbd : q.2.bad; exact absurd ⟨hlt, hbd⟩ hstop; rfl
          rw [hfin i hi (by rw [← eq]; exact hbd), ← eq]
        · have e : i = m := by omega
          rw [eq, e]
      have hend : ((0 : Int) < (m : Int) - i ∧ i < m ∧ q.2.bad = true) ∨ (m : Int) - i = 0 := by
        rcases Nat.lt_or_ge i m with hlt | hge
        · exact .inl ⟨by omega, hlt, by cases hbd : q.2.bad; exact absurd ⟨hlt, hbd⟩ hstop; rfl⟩
        · exact .inr (by omega)
      rw [hq]
      clear hfin eq hq
      have h2 := numG_ok v b q.2 hB hb
      have hrng2 := numF_rng hB q.2
      simp only [cosF]
      generalize numF b q.2 = q2 at *
      obtain ⟨n2, R2⟩ := q2
      simp only at h2 hrng2 ⊢
      obtain ⟨m2, rfl⟩ : ∃ m2 : Nat, n2 = (m2 : Int) := ⟨n2.toNat, by omega⟩
      have hm2 : m2 < 256 := by omega
      simp only [Int.toNat_natCast]
      have hfin2 : ∀ i, i ≤ m2 → (repF (coF b) i R2).2.bad = true → repF (coF b) m2 R2 = repF (coF b) i R2 := fun i hi hb => repF_bad _ R2 hb hi
      rcases hend with ⟨g3, hlt, hbd⟩ | g3 <;> first | simp -dsimp [e1, e2, e3, e5, e6, e7, e8, g3, hlt, hbd] | simp -dsimp [e1, e2, e3, e5, e6, e7, e8, g3]
      all_goals
        refine callM_of h2 (by first | simp -dsimp [pH, e5, hbd] | simp -dsimp [pH, e5]) ?_
        simp -dsimp [mergeK_cons, mergeK_nil, pH, e1, e2, e3, e5, e6, e7, e8]
        refine wp_upto m2 (fun i st => st.s 0 = .ptr 12 v 0 ∧ st.s 2 = .ptr 2 u2 0 ∧ st.h 2 = ⟨u2, .box [.fsl 6 [], .fsl 6 [], .d (.int .i64 0)] false⟩ ∧ st.s 3 = .ptr 3 u3 0 ∧ st.s 6 = .d (.int .i64 ((m2 : Int) - i)) ∧ ∃ z c2 v2, z = repF (coF b) i R2 ∧ st.h 3 = ⟨u3, .box [c, c2, .d (.int .i64 0)] false⟩ ∧ cellR 37 v' eSo q.1 c st.h ∧ cellR 68 v2 eCo z.1 c2 st.h ∧ st.h 12 = ⟨v, .box [.d (.sl 1 (b.map (.int .u8))), .d (.int .i64 z.2.p), .d (.bool z.2.bad)] false⟩) ?_ ?_
        · simp -dsimp [repF, cellR, e1, e2, e6, e7]
          exact ⟨e3, e4⟩
        · clear e1 e2 e3 e4 e5 e6 e7 e8
          rintro j ⟨s, hp⟩ hj ⟨e1, e2, e6, e7, e8, z, c2, v2, eq2, e3, e4, e9, e5⟩
          dsimp only at e1 e2 e3 e4 e5 e6 e7 e8 e9
          have hlen2 : z.1.length ≤ j := by rw [eq2]; exact repF_len _ _ _
          by_cases hstop2 : j < m2 ∧ z.2.bad = false
          · obtain ⟨hlt, hbd⟩ := hstop2
            have w1 : IntKind.i64.wrap ((m2 : Int) - j - 1) = (m2 : Int) - (j + 1 : Nat) := (wrap_id (by omega) (by omega)).trans (by omega)
            have g3 : (0 : Int) < (m2 : Int) - j := by omega
            have hnx : repF (coF b) (j + 1) R2 = (z.1 ++ [(coF b z.2).1], (coF b z.2).2) := by rw [repF, ← eq2, if_neg (by simp [hbd])]
            rw [hnx, coF]
            clear hfin2 eq2
            have k1 := numG_ok v b z.2 hB hb
            generalize numF b z.2 = q1 at *
            obtain ⟨sn, r1⟩ := q1
            have k2 := argsG_ok v b r1 hB hb
            simp only at k1 ⊢
            generalize argsF b r1 = q2 at *
            obtain ⟨as_, r2⟩ := q2
            have k3 := rowG_ok v b r2 hB hb
            simp only at k2 ⊢
            generalize rwF b r2 = q3 at *
            obtain ⟨ix, r3⟩ := q3
            have k4 := termG_ok v b r3 hB hb
            simp only at k3 ⊢
            generalize termF b r3 = q4 at *
            obtain ⟨dt, r4⟩ := q4
            simp only at k4 ⊢
            obtain ⟨ks, p, bd⟩ := z
            simp only at hbd hlen2 e3 e5 e9 k1 ⊢
            subst hbd
            simp only [eArs, eTs, cT] at k2 k3 k4
            have hr : (ks.length + 1) * 96 ≤ maxRoom := by simp only [maxRoom]; omega
            simp only [cellR] at e4
            rcases e9 with ⟨rfl, rfl⟩ | ⟨hne, rfl, e9⟩
            · simp -dsimp [e1, e2, e3, e5, e6, e7, e8, g3, hlt]
              refine callM_of k1 (by simp -dsimp [pH, e5]) ?_
              simp -dsimp [mergeK_cons, mergeK_nil, pH, e1, e2, e3, e5, e6, e7, e8]
              refine callM_of k2 (by simp -dsimp [pH]) ?_
              simp -dsimp [mergeK_cons, mergeK_nil, pH, e1, e2, e3, e5, e6, e7, e8]
              refine callM_of k3 (by simp -dsimp [pH]) ?_
              simp -dsimp [mergeK_cons, mergeK_nil, pH, e1, e2, e3, e5, e6, e7, e8]
              refine callM_of k4 (by simp -dsimp [pH]) ?_
              simp -dsimp [mergeK_cons, mergeK_nil, pH, e1, e2, e3, e5, e6, e7, e8, h96, hlt, w1, cT, eArs, eTs, eCo, cCo, cellR]
              exact e4
            · simp -dsimp [e1, e2, e3, e5, e6, e7, e8, e9, g3, hlt]
              refine callM_of k1 (by simp -dsimp [pH, e5]) ?_
              simp -dsimp [mergeK_cons, mergeK_nil, pH, e1, e2, e3, e5, e6, e7, e8, e9]
              refine callM_of k2 (by simp -dsimp [pH]) ?_
              simp -dsimp [mergeK_cons, mergeK_nil, pH, e1, e2, e3, e5, e6, e7, e8, e9]
              refine callM_of k3 (by simp -dsimp [pH]) ?_
              simp -dsimp [mergeK_cons, mergeK_nil, pH, e1, e2, e3, e5, e6, e7, e8, e9]
              refine callM_of k4 (by simp -dsimp [pH]) ?_
              simp -dsimp [mergeK_cons, mergeK_nil, pH, e1, e2, e3, e5, e6, e7, e8, e9, hr, hlt, w1, cT, eArs, eTs, eCo, cCo, cellR]
              exact e4
          · have hq2 : repF (coF b) m2 R2 = z := by
              rcases Nat.lt_or_ge j m2 with hlt | hge
              · have hbd : z.2.bad = true := by cases hbd : z.2.bad; exact absurd ⟨hlt, hbd⟩ hstop2; rfl
                rw [hfin2 j hj (by rw [← eq2]; exact hbd), ← eq2]
              · have e : j = m2 := by omega
                rw [eq2, e]
            have hend2 : ((0 : Int) < (m2 : Int) - j ∧ j < m2 ∧ z.2.bad = true) ∨ (m2 : Int) - j = 0 := by
              rcases Nat.lt_or_ge j m2 with hlt | hge
              · exact .inl ⟨by omega, hlt, by cases hbd : z.2.bad; exact absurd ⟨hlt, hbd⟩ hstop2; rfl⟩
              · exact .inr (by omega)
            rw [hq2]
            clear hfin2 eq2 hq2
            have h3 := numG_ok v b z.2 hB hb
            generalize numF b z.2 = q3 at *
            obtain ⟨el, R3⟩ := q3
            simp only at h3 ⊢
            rcases hend2 with ⟨g3, hlt, hbd⟩ | g3 <;> first | simp -dsimp [e1, e2, e3, e5, e6, e7, e8, g3, hlt, hbd] | simp -dsimp [e1, e2, e3, e5, e6, e7, e8, g3]
            all_goals
              refine callM_of h3 (by first | simp -dsimp [pH, e5, hbd] | simp -dsimp [pH, e5]) ?_
              rcases e4 with ⟨a1, rfl⟩ | ⟨_, rfl, e4⟩ <;> rcases e9 with ⟨a2, rfl⟩ | ⟨_, rfl, e9⟩
              · simp -dsimp [mergeK_cons, mergeK_nil, pH, e1, e2, e3, e5, e6, e7, e8, a1, a2, eBl, cBl, eSos, eCos]
              · simp -dsimp [mergeK_cons, mergeK_nil, pH, e1, e2, e3, e5, e6, e7, e8, a1, e9, eBl, cBl, eSos, eCos]
              · simp -dsimp [mergeK_cons, mergeK_nil, pH, e1, e2, e3, e5, e6, e7, e8, e4, a2, eBl, cBl, eSos, eCos]
              · simp -dsimp [mergeK_cons, mergeK_nil, pH, e1, e2, e3, e5, e6, e7, e8, e4, e9, eBl, cBl, eSos, eCos]
end
section
attribute [local simp] allD_map_d sks_map_d tk tn tks initA EndsM
def declB (b : List Int) (q : Int × Rd) : De × Rd :=
  if q.1 = 1 then (⟨1, (termF b q.2).1, T0, B0⟩, (termF b q.2).2)
  else if q.1 = 2 then (⟨2, (termF b q.2).1, (termF b (termF b q.2).2).1, B0⟩, (termF b (termF b q.2).2).2)
  else if q.1 = 3 then (⟨3, T0, T0, (blockF b q.2).1⟩, (blockF b q.2).2)
  else (⟨q.1, T0, T0, B0⟩, q.2)
def declF (b : List Int) (r : Rd) : De × Rd := ((declB b (numF b r)).1, ⟨(declB b (numF b r)).2.p, (declB b (numF b r)).2.bad || !rightM (declB b (numF b r)).1⟩)
set_option maxHeartbeats 4000000 in
theorem declG_ok (v : Nat) (b : List Int) (r : Rd) (hB : byteL b) (hb : b.length ≤ 1000000000) : MutC Tryz.prog n_pile_reader_decl [.ptr 12 v 0] [12] (pH v b r.p r.bad) [eDe (declF b r).1] (pH v b (declF b r).2.p (declF b r).2.bad) := by
  have hN := numG_ok v b r hB hb
  rw [declF]
  generalize numF b r = q at *
  obtain ⟨k, r1⟩ := q
  simp only at hN
  refine mutP Tryz.func33 c_pile_reader_decl rfl fun h hh => ?_
  by_cases k1 : k = 1
  · subst k1
    simp only [declB, if_true]
    have h2 := termG_ok v b r1 hB hb
    generalize termF b r1 = q2 at *
    obtain ⟨t, r2⟩ := q2
    simp only at h2 ⊢
    have hR := right_ok ⟨1, t, T0, B0⟩
    simp only [eDe, cDe, T0, B0, cT, cBl, eSos, eCos, List.cons_append, List.nil_append, T.kind, T.num, T.kids, List.map_nil] at hR h2 ⊢
    simp -dsimp [x_pile_reader_decl, hh]
    refine callM_of hN (by simp -dsimp [pH, hh]) ?_
    simp -dsimp [mergeK_cons, mergeK_nil, pH, hh]
    refine callM_of h2 (by simp -dsimp [pH, hh]) ?_
    cases hb2 : r2.bad
    · simp -dsimp [mergeK_cons, mergeK_nil, pH, hh, hb2]
      refine call_of hR ?_
      simp -dsimp [pH]
    · simp -dsimp [mergeK_cons, mergeK_nil, pH, hh, hb2]
  by_cases k2 : k = 2
  · subst k2
    simp only [declB]
    rw [if_neg (by decide)]
    simp only [if_true]
    have h2 := termG_ok v b r1 hB hb
    generalize termF b r1 = q2 at *
    obtain ⟨t, r2⟩ := q2
    have h3 := termG_ok v b r2 hB hb
    simp only at h2 ⊢
    generalize termF b r2 = q3 at *
    obtain ⟨u, r3⟩ := q3
    simp only at h3 ⊢
    have hR := right_ok ⟨2, t, u, B0⟩
    simp only [eDe, cDe, T0, B0, cT, cBl, eSos, eCos, List.cons_append, List.nil_append, T.kind, T.num, T.kids, List.map_nil] at hR h2 h3 ⊢
    simp -dsimp [x_pile_reader_decl, hh]
    refine callM_of hN (by simp -dsimp [pH, hh]) ?_
    simp -dsimp [mergeK_cons, mergeK_nil, pH, hh]
    refine callM_of h2 (by simp -dsimp [pH, hh]) ?_
    simp -dsimp [mergeK_cons, mergeK_nil, pH, hh]
    refine callM_of h3 (by simp -dsimp [pH, hh]) ?_
    cases hb2 : r3.bad
    · simp -dsimp [mergeK_cons, mergeK_nil, pH, hh, hb2]
      refine call_of hR ?_
      simp -dsimp [pH]
    · simp -dsimp [mergeK_cons, mergeK_nil, pH, hh, hb2]
  by_cases k3 : k = 3
  · subst k3
    simp only [declB]
    rw [if_neg (by decide), if_neg (by decide)]
    simp only [if_true]
    have h2 := blockG_ok v b r1 hB hb
    generalize blockF b r1 = q2 at *
    obtain ⟨bl, r2⟩ := q2
    simp only at h2 ⊢
    have hR := right_ok ⟨3, T0, T0, bl⟩
    simp only [eDe, cDe, eBl, T0, B0, cT, cBl, eSos, eCos, List.cons_append, List.nil_append, T.kind, T.num, T.kids, List.map_nil] at hR h2 ⊢
    simp -dsimp [x_pile_reader_decl, hh]
    refine callM_of hN (by simp -dsimp [pH, hh]) ?_
    simp -dsimp [mergeK_cons, mergeK_nil, pH, hh]
    refine callM_of h2 (by simp -dsimp [pH, hh]) ?_
    cases hb2 : r2.bad
    · simp -dsimp [mergeK_cons, mergeK_nil, pH, hh, hb2]
      refine call_of hR ?_
      simp -dsimp [pH]
    · simp -dsimp [mergeK_cons, mergeK_nil, pH, hh, hb2]
  · simp only [declB]
    rw [if_neg k1, if_neg k2, if_neg k3]
    have hR := right_ok ⟨k, T0, T0, B0⟩
    simp only [eDe, cDe, T0, B0, cT, cBl, eSos, eCos, List.cons_append, List.nil_append, T.kind, T.num, T.kids, List.map_nil] at hR ⊢
    simp -dsimp [x_pile_reader_decl, hh]
    refine callM_of hN (by simp -dsimp [pH, hh]) ?_
    cases hb2 : r1.bad
    · simp -dsimp [mergeK_cons, mergeK_nil, pH, hh, hb2, k1, k2, k3]
      refine call_of hR ?_
      simp -dsimp [pH]
    · simp -dsimp [mergeK_cons, mergeK_nil, pH, hh, hb2, k1, k2, k3]
def getR (b : List Int) : List De × Rd := repF (declF b) (numF b ⟨0, false⟩).1.toNat ⟨(numF b ⟨0, false⟩).2.p, (numF b ⟨0, false⟩).2.bad || decide (60 < (numF b ⟨0, false⟩).1)⟩
def getOk (b : List Int) : Bool := !(getR b).2.bad && decide ((getR b).2.p = b.length)
set_option maxHeartbeats 4000000 in
theorem getF_ok (b : List Int) (hB : byteL b) : Pure Tryz.prog n_pile_Get [eB b] [if 65536 < (b.length : Int) then eDes [] else if getOk b then eDes (getR b).1 else eDes [], .int .i64 (if 65536 < (b.length : Int) then 3 else if getOk b then 0 else 3)] := by
  refine p_pile_Get rfl fun hs => ?_
  by_cases g : (65536 : Int) < b.length
  · simp -dsimp [x_pile_Get, eB, g, eDes]
  have hb : b.length ≤ 1000000000 := by omega
  have h1 := numG_ok 1 b ⟨0, false⟩ hB hb
  have hrng := numF_rng hB ⟨0, false⟩
  rw [getOk, getR]
  generalize numF b ⟨0, false⟩ = q at *
  obtain ⟨n, p0, b0⟩ := q
  simp only at h1 hrng ⊢
  obtain ⟨m, rfl⟩ : ∃ m : Nat, n = (m : Int) := ⟨n.toNat, by omega⟩
  have hm : m < 256 := by omega
  simp only [Int.toNat_natCast]
  obtain ⟨R0, hR0⟩ : ∃ R0 : Rd, R0 = ⟨p0, b0 || decide (60 < (m : Int))⟩ := ⟨_, rfl⟩
  rw [← hR0]
  have hR0p : R0.p = p0 ∧ R0.bad = (b0 || decide (60 < (m : Int))) := by rw [hR0]; exact ⟨rfl, rfl⟩
  have hfin : ∀ i, i ≤ m → (repF (declF b) i R0).2.bad = true → repF (declF b) m R0 = repF (declF b) i R0 := fun i hi hb => repF_bad _ R0 hb hi
  clear hR0
  simp -dsimp [x_pile_Get, eB, g]
  refine callM_of h1 (by simp -dsimp [pH]) ?_
  have hbd0 : (b0 = true ∧ R0.bad = true) ∨ (b0 = false ∧ R0.bad = decide (60 < (m : Int))) := by
    cases b0
    · exact .inr ⟨rfl, by rw [hR0p.2]; simp⟩
    · exact .inl ⟨rfl, by rw [hR0p.2]; simp⟩
  have hR0q := hR0p.1
  clear hR0p
  subst hR0q
  rcases hbd0 with ⟨rfl, hbR⟩ | ⟨rfl, hbR⟩ <;> simp -dsimp [mergeK_cons, mergeK_nil, pH]
  all_goals
    refine wp_upto m (fun i st => st.s 0 = .d (.sl 1 (b.map (.int .u8))) ∧ st.s 4 = .ptr 12 1 0 ∧ st.s 5 = .d (.int .i64 ((m : Int) - i)) ∧ ∃ q v', q = repF (declF b) i R0 ∧ st.s 6 = .rsl 6 v' ∧ st.h 6 = ⟨v', .row 10 (q.1.map eDe) false⟩ ∧ st.h 12 = ⟨1, .box [.d (.sl 1 (b.map (.int .u8))), .d (.int .i64 q.2.p), .d (.bool q.2.bad)] false⟩) ?_ ?_
    · simp -dsimp [repF, hbR]
    · rintro i ⟨s, hp⟩ hi ⟨e0, e1, e2, q, v', eq, e3, e4, e5⟩
      dsimp only at e0 e1 e2 e3 e4 e5
      have hlen : q.1.length ≤ i := by rw [eq]; exact repF_len _ _ _
      by_cases hstop : i < m ∧ q.2.bad = false
      · obtain ⟨hlt, hbd⟩ := hstop
        have w1 : IntKind.i64.wrap ((m : Int) - i - 1) = (m : Int) - (i + 1 : Nat) := (wrap_id (by omega) (by omega)).trans (by omega)
        have g3 : (0 : Int) < (m : Int) - i := by omega
        have hnx : repF (declF b) (i + 1) R0 = (q.1 ++ [(declF b q.2).1], (declF b q.2).2) := by rw [repF, ← eq, if_neg (by simp [hbd])]
        rw [hnx]
        clear hfin eq
        have hD := declG_ok 1 b q.2 hB hb
        generalize declF b q.2 = z at *
        obtain ⟨d, z⟩ := z
        obtain ⟨ks, p, bd⟩ := q
        simp only at hbd hlen hD e4 e5 ⊢
        subst hbd
        have hr : (ks.length + 1) * 144 ≤ maxRoom := by simp only [maxRoom]; omega
        have hce : (eDe d).cells.length = 10 ∧ ∀ x ∈ (eDe d).cells, (AV.d x).one = true := by
          refine ⟨rfl, fun x hx => ?_⟩
          simp [eDe, cDe, cT, cBl, eSos, eCos, D.cells] at hx
          rcases hx with rfl | rfl | rfl | rfl | rfl | rfl | rfl | rfl | rfl | rfl <;> rfl
        simp -dsimp [e0, e1, e2, e3, e4, e5, g3, hlt]
        refine callM_of hD (by simp -dsimp [pH, e5]) ?_
        simp -dsimp [mergeK_cons, mergeK_nil, pH, e0, e1, e2, e3, e4, e5, hr, hlt, w1]
        rw [if_pos hce]
        simp -dsimp [e0, e1, e2, e3, e4, e5, hr, hlt, w1]
      · have hq : repF (declF b) m R0 = q := by
          rcases Nat.lt_or_ge i m with hlt | hge
          · have hbd : q.2.bad = true := by cases hbd : q.2.bad; exact absurd ⟨hlt, hbd⟩ hstop; rfl
            rw [hfin i hi (by rw [← eq]; exact hbd), ← eq]
          · have e : i = m := by omega
            rw [eq, e]
        have hend : ((0 : Int) < (m : Int) - i ∧ i < m ∧ q.2.bad = true) ∨ (m : Int) - i = 0 := by
          rcases Nat.lt_or_ge i m with hlt | hge
          · exact .inl ⟨by omega, hlt, by cases hbd : q.2.bad; exact absurd ⟨hlt, hbd⟩ hstop; rfl⟩
          · exact .inr (by omega)
        rw [hq]
        clear hfin eq hq hstop
        obtain ⟨ks, p, bd⟩ := q
        simp only at e4 e5 hend ⊢
        rcases hend with ⟨g3, hlt, rfl⟩ | g3
        · simp -dsimp [e0, e1, e2, e3, e4, e5, g3, hlt, eDes]
        · cases bd
          · by_cases hpl : (p : Int) = b.length
            · have hpl' : p = b.length := by omega
              simp -dsimp [e0, e1, e2, e3, e4, e5, g3, eDes, hpl, hpl']
            · have hpl' : ¬ p = b.length := by omega
              simp -dsimp [e0, e1, e2, e3, e4, e5, g3, eDes, hpl, hpl']
          · simp -dsimp [e0, e1, e2, e3, e4, e5, g3, eDes]
end
section
attribute [local simp] allD_map_d sks_map_d tk tn tks initA EndsM
theorem wr_callP {g : FuncId} {ds : List D} {ws : List (List Int)} (hW : Wr g ds ws) (vb v : Nat) (b : List Int) (P : List (List Int)) {aa : List AV} {dd : Option (List D)} {s : Nat → AV} {h : Nat → Ent} {d : Option Nat} {K : S → Prop} (has : aa = .ptr 26 vb 0 :: ds.map .d) (hl : b.length + P.flatten.length + ws.flatten.length ≤ 50000000)
    (h1 : h 26 = ⟨vb, .box [.rsl 3001 (v + P.length)] false⟩) (h2 : h 3001 = ⟨v + P.length, .row 1 ((b ++ P.flatten).map (.int .u8)) false⟩)
    (hk : ∀ P', P' = P ++ ws → P'.flatten.length = P.flatten.length + ws.flatten.length → K ⟨putS s d (resA []), upd (upd h 3001 ⟨v + P'.length, .row 1 ((b ++ P'.flatten).map (.int .u8)) false⟩) 26 ⟨vb, .box [.rsl 3001 (v + P'.length)] false⟩⟩) : runC Tryz.prog (some (g, [])) aa dd [26, 3001] s h d K (by exact ()) (by exact ()) (by exact ()) :=
  wr_call hW vb (v + P.length) (v + (P ++ ws).length) (b ++ P.flatten) (b ++ (P ++ ws).flatten) has (by rw [List.flatten_append, List.length_append, List.length_append]; omega) (by rw [List.length_append]; omega) (by rw [List.flatten_append, List.append_assoc]) h1 h2 (hk _ rfl (by rw [List.flatten_append, List.length_append]))
theorem wr_callPA {g : FuncId} {cs : List D} {ws : List (List Int)} (hW : Wr g [.agg cs] ws) (vb v : Nat) (b : List Int) (P : List (List Int)) {aa : List AV} {dd : Option (List D)} {s : Nat → AV} {h : Nat → Ent} {d : Option Nat} {K : S → Prop} (has : aa = [.ptr 26 vb 0, .agg (cs.map .d)]) (hl : b.length + P.flatten.length + ws.flatten.length ≤ 50000000)
    (h1 : h 26 = ⟨vb, .box [.rsl 3001 (v + P.length)] false⟩) (h2 : h 3001 = ⟨v + P.length, .row 1 ((b ++ P.flatten).map (.int .u8)) false⟩)
    (hk : ∀ P', P' = P ++ ws → P'.flatten.length = P.flatten.length + ws.flatten.length → K ⟨putS s d (resA []), upd (upd h 3001 ⟨v + P'.length, .row 1 ((b ++ P'.flatten).map (.int .u8)) false⟩) 26 ⟨vb, .box [.rsl 3001 (v + P'.length)] false⟩⟩) : runC Tryz.prog (some (g, [])) aa dd [26, 3001] s h d K (by exact ()) (by exact ()) (by exact ()) :=
  wr_callA hW vb (v + P.length) (v + (P ++ ws).length) (b ++ P.flatten) (b ++ (P ++ ws).flatten) has (by rw [List.flatten_append, List.length_append, List.length_append]; omega) (by rw [List.length_append]; omega) (by rw [List.flatten_append, List.append_assoc]) h1 h2 (hk _ rfl (by rw [List.flatten_append, List.length_append]))
def fl (is : Bool) : Int := if is then 1 else 0
def argW (a : Ar) : List (List Int) := [[fl a.rc]] ++ [pkO a.ty] ++ rowW a.dom ++ [[u8 a.sort]] ++ rowW a.idx
structure okAW (a : Ar) : Prop where
  ty : okW a.ty
  dom : ∀ t ∈ a.dom, okW t
  idx : ∀ t ∈ a.idx, okW t
def argsW (l : List Ar) : List (List Int) := [u8 l.length] :: (l.map argW).flatten
set_option maxHeartbeats 4000000 in
theorem args_wr (l : List Ar) (ho : ∀ a ∈ l, okAW a) : Wr n_pile_writer_args [eArs l] (argsW l) := by
  refine wr_of Tryz.func56 c_pile_writer_args rfl fun vb v b h hl h1 h2 hs => ?_
  have hln := hs (eArs l) (by simp)
  simp [eArs, small] at hln
  replace hln := hln.1
  simp only [argsW, List.flatten_cons, List.length_append, List.length_cons, List.length_nil] at hl
  have hle := before_le argW l
  simp -dsimp [x_pile_writer_args, h1, h2, eArs]
  refine wr_call (num_wr l.length) vb v (v + 1) b (b ++ [u8 l.length]) rfl (by simp; omega) rfl rfl h1 h2 ?_
  simp -dsimp
  obtain ⟨b', hb'⟩ : ∃ b', b' = b ++ [u8 l.length] := ⟨_, rfl⟩
  have hbl : b'.length = b.length + 1 := by rw [hb']; simp
  refine wp_upto l.length (fun i st => st.s 0 = .ptr 26 vb 0 ∧ st.s 10 = .d (.sl 7 (l.map eAr)) ∧ st.s 11 = .d (.int .i64 l.length) ∧ st.s 12 = .d (.int .i64 i) ∧
    ∃ P, P = before argW l i ∧ st.h 26 = ⟨vb, .box [.rsl 3001 (v + 1 + P.length)] false⟩ ∧ st.h 3001 = ⟨v + 1 + P.length, .row 1 ((b' ++ P.flatten).map (.int .u8)) false⟩) ?_ ?_
  · simp -dsimp [before_zero, hb']
  · rintro i ⟨s, hp⟩ hi ⟨e1, e2, e3, e4, P, eP, e5, e6⟩
    dsimp only at e1 e2 e3 e4 e5 e6
    rcases Nat.lt_or_ge i l.length with hlt | hge
    · have w1 : IntKind.i64.wrap ((i : Int) + 1) = (i : Int) + 1 := wrap_id (by omega) (by omega)
      have hok := ho l[i] (List.getElem_mem _)
      have hnx := before_next argW l hlt
      have hle1 := hle (i + 1)
      rw [← eP] at hnx
      generalize before argW l (i + 1) = PN at *
      obtain ⟨a, ha⟩ : ∃ a, l[i] = a := ⟨_, rfl⟩
      rw [ha] at hok hnx
      have hlen : PN.flatten.length = P.flatten.length + (1 + (pkO a.ty).length + (rowW a.dom).flatten.length + 1 + (rowW a.idx).flatten.length) := by
        rw [hnx, argW]; simp only [List.flatten_append, List.length_append, List.flatten_cons, List.flatten_nil, List.length_cons, List.length_nil]; omega
      have hf := flag_wr a.rc
      have hr1 := row_wr a.dom hok.dom
      have hr2 := row_wr a.idx hok.idx
      simp only [eTs] at hr1 hr2
      simp -dsimp [e1, e2, e3, e4, e5, e6, hlt, ha, eAr, cAr, cT, eTs]
      refine wr_callP hf vb (v + 1) b' P rfl (by simp only [List.flatten_cons, List.flatten_nil, List.length_append, List.length_cons, List.length_nil]; omega) (by simp -dsimp [e5]) (by simp -dsimp [e6]) fun P1 q1 k1 => ?_
      simp only [List.flatten_cons, List.flatten_nil, List.length_append, List.length_cons, List.length_nil] at k1
      simp -dsimp [e1, e2, e3, e4]
      refine wr_callPA (term_wr a.ty hok.ty.1 hok.ty.2) vb (v + 1) b' P1 rfl (by simp only [List.flatten_cons, List.flatten_nil, List.length_append, List.length_cons, List.length_nil]; omega) (by simp -dsimp) (by simp -dsimp) fun P2 q2 k2 => ?_
      simp only [List.flatten_cons, List.flatten_nil, List.length_append, List.length_cons, List.length_nil] at k2
      simp -dsimp [e1, e2, e3, e4]
      refine wr_callP hr1 vb (v + 1) b' P2 rfl (by omega) (by simp -dsimp) (by simp -dsimp) fun P3 q3 k3 => ?_
      simp -dsimp [e1, e2, e3, e4]
      refine wr_callP (num_wr a.sort) vb (v + 1) b' P3 rfl (by simp only [List.flatten_cons, List.flatten_nil, List.length_append, List.length_cons, List.length_nil]; omega) (by simp -dsimp) (by simp -dsimp) fun P4 q4 k4 => ?_
      simp only [List.flatten_cons, List.flatten_nil, List.length_append, List.length_cons, List.length_nil] at k4
      simp -dsimp [e1, e2, e3, e4]
      refine wr_callP hr2 vb (v + 1) b' P4 rfl (by omega) (by simp -dsimp) (by simp -dsimp) fun P5 q5 k5 => ?_
      have hPN : P5 = PN := by rw [q5, q4, q3, q2, q1, hnx, argW]; simp only [List.append_assoc]; rfl
      subst hPN
      simp -dsimp [e1, e2, e3, e4, hlt, w1]
    · have e : i = l.length := by omega
      subst e
      rw [before_all] at eP
      subst eP
      simp -dsimp [e1, e2, e3, e4, e5, e6, wH, argsW, hb', Nat.add_assoc, Nat.add_comm 1]
def soW (x : So) : List (List Int) := argsW x.idx ++ [[u8 x.level]] ++ [[fl x.dec]] ++ [pkO x.dty]
def coW (c : Co) : List (List Int) := [[u8 c.sort]] ++ argsW c.args ++ rowW c.idx ++ [pkO c.dec]
def blkW (b : Bl) : List (List Int) := [[u8 b.sorts.length]] ++ (b.sorts.map soW).flatten ++ [[u8 b.cons.length]] ++ (b.cons.map coW).flatten ++ [[u8 b.elim]]
structure okBW (b : Bl) : Prop where
  so : ∀ x ∈ b.sorts, (∀ a ∈ x.idx, okAW a) ∧ okW x.dty
  co : ∀ c ∈ b.cons, (∀ a ∈ c.args, okAW a) ∧ (∀ t ∈ c.idx, okW t) ∧ okW c.dec
set_option maxHeartbeats 8000000 in
theorem block_wr (B : Bl) (ho : okBW B) : Wr n_pile_writer_block [eBl B] (blkW B) := by
  refine wr_of Tryz.func29 c_pile_writer_block rfl fun vb v b h hl h1 h2 hs => ?_
  have hln := hs (eBl B) (by simp)
  simp -dsimp [eBl, cBl, eSos, eCos, small] at hln
  have hln1 := hln.1.1
  have hln2 := hln.2.1
  simp only [blkW, List.flatten_append, List.length_append, List.flatten_cons, List.flatten_nil, List.length_cons, List.length_nil] at hl
  have hle1 := before_le soW B.sorts
  have hle2 := before_le coW B.cons
  simp -dsimp [x_pile_writer_block, h1, h2, eBl, cBl, eSos, eCos]
  generalize (h 3).ver + 1 = v3
  refine wr_callP (num_wr B.sorts.length) vb v b [] rfl (by simp only [List.flatten_cons, List.flatten_nil, List.length_append, List.length_cons, List.length_nil]; omega) (by simp -dsimp [h1]) (by simp -dsimp [h2]) fun P0 q0 k0 => ?_
  simp only [List.flatten_cons, List.flatten_nil, List.length_append, List.length_cons, List.length_nil] at k0
  simp -dsimp
  refine wp_upto B.sorts.length (fun i st => st.s 0 = .ptr 26 vb 0 ∧ st.s 3 = .ptr 3 v3 0 ∧ st.h 3 = ⟨v3, .box [.d (.sl 6 (B.sorts.map eSo)), .d (.sl 6 (B.cons.map eCo)), .d (.int .i64 B.elim)] false⟩ ∧ st.s 14 = .d (.sl 6 (B.sorts.map eSo)) ∧ st.s 15 = .d (.int .i64 B.sorts.length) ∧ st.s 16 = .d (.int .i64 i) ∧
    ∃ P, P = P0 ++ before soW B.sorts i ∧ st.h 26 = ⟨vb, .box [.rsl 3001 (v + P.length)] false⟩ ∧ st.h 3001 = ⟨v + P.length, .row 1 ((b ++ P.flatten).map (.int .u8)) false⟩) ?_ ?_
  · simp -dsimp [before_zero]
  · rintro i ⟨s, hp⟩ hi ⟨e1, e2, e7, e8, e3, e4, P, eP, e5, e6⟩
    dsimp only at e1 e2 e3 e4 e5 e6 e7 e8
    rcases Nat.lt_or_ge i B.sorts.length with hlt | hge
    · have w1 : IntKind.i64.wrap ((i : Int) + 1) = (i : Int) + 1 := wrap_id (by omega) (by omega)
      have hok := ho.so B.sorts[i] (List.getElem_mem _)
      have hnx := before_next soW B.sorts hlt
      have hle := hle1 (i + 1)
      obtain ⟨a, ha⟩ : ∃ a, B.sorts[i] = a := ⟨_, rfl⟩
      rw [ha] at hok hnx
      obtain ⟨PN, hPN⟩ : ∃ PN, PN = P0 ++ before soW B.sorts (i + 1) := ⟨_, rfl⟩
      have hPN2 : PN = P ++ soW a := by rw [hPN, hnx, eP, List.append_assoc]
      have hlen2 : PN.flatten.length = P0.flatten.length + (before soW B.sorts (i + 1)).flatten.length := by rw [hPN, List.flatten_append, List.length_append]
      have hlen : PN.flatten.length = P.flatten.length + ((argsW a.idx).flatten.length + 1 + 1 + (pkO a.dty).length) := by
        rw [hPN2, soW]; simp only [List.flatten_append, List.length_append, List.flatten_cons, List.flatten_nil, List.length_cons, List.length_nil]; omega
      have hA := args_wr a.idx hok.1
      have hf := flag_wr a.dec
      simp only [eArs] at hA
      simp -dsimp [e1, e2, e3, e4, e5, e6, e7, e8, hlt, ha, eSo, cSo, eArs, cT]
      refine wr_callP hA vb v b P rfl (by omega) (by simp -dsimp [e5]) (by simp -dsimp [e6]) fun P1 q1 k1 => ?_
      simp -dsimp [e1, e2, e3, e4]
      refine wr_callP (num_wr a.level) vb v b P1 rfl (by simp only [List.flatten_cons, List.flatten_nil, List.length_append, List.length_cons, List.length_nil]; omega) (by simp -dsimp) (by simp -dsimp) fun P2 q2 k2 => ?_
      simp only [List.flatten_cons, List.flatten_nil, List.length_append, List.length_cons, List.length_nil] at k2
      simp -dsimp [e1, e2, e3, e4]
      refine wr_callP hf vb v b P2 rfl (by simp only [List.flatten_cons, List.flatten_nil, List.length_append, List.length_cons, List.length_nil]; omega) (by simp -dsimp) (by simp -dsimp) fun P3 q3 k3 => ?_
      simp only [List.flatten_cons, List.flatten_nil, List.length_append, List.length_cons, List.length_nil] at k3
      simp -dsimp [e1, e2, e3, e4]
      refine wr_callPA (term_wr a.dty hok.2.1 hok.2.2) vb v b P3 rfl (by simp only [List.flatten_cons, List.flatten_nil, List.length_append, List.length_cons, List.length_nil]; omega) (by simp -dsimp) (by simp -dsimp) fun P4 q4 k4 => ?_
      have hE : P4 = PN := by rw [q4, q3, q2, q1, hPN2, soW]; simp only [List.append_assoc]; rfl
      subst hE
      simp -dsimp [e1, e2, e3, e4, e7, e8, hlt, w1]
      rw [hPN]; simp
    · have e : i = B.sorts.length := by omega
      subst e
      rw [before_all] at eP
      have hPl : P.flatten.length = P0.flatten.length + (B.sorts.map soW).flatten.flatten.length := by rw [eP, List.flatten_append, List.length_append]
      simp -dsimp [e1, e2, e3, e4, e5, e6, e7, e8]
      refine wr_callP (num_wr B.cons.length) vb v b P rfl (by simp only [List.flatten_cons, List.flatten_nil, List.length_append, List.length_cons, List.length_nil]; omega) (by simp -dsimp [e5]) (by simp -dsimp [e6]) fun R0 r0 j0 => ?_
      simp only [List.flatten_cons, List.flatten_nil, List.length_append, List.length_cons, List.length_nil] at j0
      simp -dsimp [e1, e2, e7]
      refine wp_upto B.cons.length (fun i st => st.s 0 = .ptr 26 vb 0 ∧ st.s 3 = .ptr 3 v3 0 ∧ st.h 3 = ⟨v3, .box [.d (.sl 6 (B.sorts.map eSo)), .d (.sl 6 (B.cons.map eCo)), .d (.int .i64 B.elim)] false⟩ ∧ st.s 43 = .d (.sl 6 (B.cons.map eCo)) ∧ st.s 44 = .d (.int .i64 B.cons.length) ∧ st.s 45 = .d (.int .i64 i) ∧
        ∃ P, P = R0 ++ before coW B.cons i ∧ st.h 26 = ⟨vb, .box [.rsl 3001 (v + P.length)] false⟩ ∧ st.h 3001 = ⟨v + P.length, .row 1 ((b ++ P.flatten).map (.int .u8)) false⟩) ?_ ?_
      · simp -dsimp [before_zero, e1, e2, e7]
      · rintro i ⟨s, hp⟩ hi ⟨e1, e2, e7, e8, e3, e4, P', eP', e5, e6⟩
        dsimp only at e1 e2 e3 e4 e5 e6 e7 e8
        rcases Nat.lt_or_ge i B.cons.length with hlt | hge
        · have w1 : IntKind.i64.wrap ((i : Int) + 1) = (i : Int) + 1 := wrap_id (by omega) (by omega)
          have hok := ho.co B.cons[i] (List.getElem_mem _)
          have hnx := before_next coW B.cons hlt
          have hle := hle2 (i + 1)
          obtain ⟨a, ha⟩ : ∃ a, B.cons[i] = a := ⟨_, rfl⟩
          rw [ha] at hok hnx
          obtain ⟨PN, hPN⟩ : ∃ PN, PN = R0 ++ before coW B.cons (i + 1) := ⟨_, rfl⟩
          have hPN2 : PN = P' ++ coW a := by rw [hPN, hnx, eP', List.append_assoc]
          have hlen2 : PN.flatten.length = R0.flatten.length + (before coW B.cons (i + 1)).flatten.length := by rw [hPN, List.flatten_append, List.length_append]
          have hlen : PN.flatten.length = P'.flatten.length + (1 + (argsW a.args).flatten.length + (rowW a.idx).flatten.length + (pkO a.dec).length) := by
            rw [hPN2, coW]; simp only [List.flatten_append, List.length_append, List.flatten_cons, List.flatten_nil, List.length_cons, List.length_nil]; omega
          have hA := args_wr a.args hok.1
          have hR := row_wr a.idx hok.2.1
          simp only [eArs, eTs] at hA hR
          simp -dsimp [e1, e2, e3, e4, e5, e6, e7, e8, hlt, ha, eCo, cCo, eArs, eTs, cT]
          refine wr_callP (num_wr a.sort) vb v b P' rfl (by simp only [List.flatten_cons, List.flatten_nil, List.length_append, List.length_cons, List.length_nil]; omega) (by simp -dsimp [e5]) (by simp -dsimp [e6]) fun P1 q1 k1 => ?_
          simp only [List.flatten_cons, List.flatten_nil, List.length_append, List.length_cons, List.length_nil] at k1
          simp -dsimp [e1, e2, e3, e4]
          refine wr_callP hA vb v b P1 rfl (by omega) (by simp -dsimp) (by simp -dsimp) fun P2 q2 k2 => ?_
          simp -dsimp [e1, e2, e3, e4]
          refine wr_callP hR vb v b P2 rfl (by omega) (by simp -dsimp) (by simp -dsimp) fun P3 q3 k3 => ?_
          simp -dsimp [e1, e2, e3, e4]
          refine wr_callPA (term_wr a.dec hok.2.2.1 hok.2.2.2) vb v b P3 rfl (by simp only [List.flatten_cons, List.flatten_nil, List.length_append, List.length_cons, List.length_nil]; omega) (by simp -dsimp) (by simp -dsimp) fun P4 q4 k4 => ?_
          have hE : P4 = PN := by rw [q4, q3, q2, q1, hPN2, coW]; simp only [List.append_assoc]
          subst hE
          simp -dsimp [e1, e2, e3, e4, e7, e8, hlt, w1]
          rw [hPN]; simp
        · have e : i = B.cons.length := by omega
          subst e
          rw [before_all] at eP'
          have hPl' : P'.flatten.length = R0.flatten.length + (B.cons.map coW).flatten.flatten.length := by rw [eP', List.flatten_append, List.length_append]
          simp -dsimp [e1, e2, e3, e4, e5, e6, e7, e8]
          refine wr_callP (num_wr B.elim) vb v b P' rfl (by simp only [List.flatten_cons, List.flatten_nil, List.length_append, List.length_cons, List.length_nil]; omega) (by simp -dsimp [e5]) (by simp -dsimp [e6]) fun Q q j => ?_
          have hQ : Q = blkW B := by rw [q, eP', r0, eP, q0, blkW]; rfl
          subst hQ
          simp -dsimp [wH]
end
section
def Eats (b : List Int) (r r' : Rd) (x : List Int) : Prop := r.bad = false ∧ b.drop r.p = x ++ b.drop r'.p
theorem Eats.trans {b : List Int} {r r' r'' : Rd} {x y : List Int} (h : Eats b r r' x) (k : Eats b r' r'' y) : Eats b r r'' (x ++ y) := ⟨h.1, by rw [h.2, k.2, List.append_assoc]⟩
def okR (t : T) : Prop := t = T0 ∨ Gt t
structure okRA (a : Ar) : Prop where
  ty : okR a.ty
  dom : a.dom.length < 256 ∧ ∀ t ∈ a.dom, okR t
  sort : 0 ≤ a.sort ∧ a.sort < 256
  idx : a.idx.length < 256 ∧ ∀ t ∈ a.idx, okR t
structure okRS (x : So) : Prop where
  idx : x.idx.length < 256 ∧ ∀ a ∈ x.idx, okRA a
  level : 0 ≤ x.level ∧ x.level < 256
  dty : okR x.dty
structure okRC (c : Co) : Prop where
  sort : 0 ≤ c.sort ∧ c.sort < 256
  args : c.args.length < 256 ∧ ∀ a ∈ c.args, okRA a
  idx : c.idx.length < 256 ∧ ∀ t ∈ c.idx, okR t
  dec : okR c.dec
structure okRB (b : Bl) : Prop where
  sorts : b.sorts.length < 256 ∧ ∀ x ∈ b.sorts, okRS x
  cons : b.cons.length < 256 ∧ ∀ c ∈ b.cons, okRC c
  elim : 0 ≤ b.elim ∧ b.elim < 256
def okRD (d : De) : Prop := rightM d = true ∧ ((∃ t, okR t ∧ d = ⟨1, t, T0, B0⟩) ∨ (∃ t u, okR t ∧ okR u ∧ d = ⟨2, t, u, B0⟩) ∨ ∃ bl, okRB bl ∧ d = ⟨3, T0, T0, bl⟩)
end
section
attribute [local simp] allD_map_d sks_map_d tk tn tks initA EndsM
theorem term20_ok (t : T) (h : okR t) : Pure Tryz.prog n_porismref20_term [.agg (cT t)] [eB (pkO t)] := by
  refine p_porismref20_term rfl fun hs => ?_
  have h1 := none20_ok t
  simp only [cT] at h1
  simp -dsimp [x_porismref20_term, cT]
  refine call_of h1 ?_
  rcases h with rfl | hg
  · simp -dsimp [none0, eB, pkO]
  · have h2 := rpack_ok t hg.f (by have := hg.n; omega)
    simp only [cT] at h2
    simp -dsimp [hg.some]
    refine call_of h2 ?_
    simp -dsimp [pkO, hg.some]
theorem flag20_ok (is : Bool) : Pure Tryz.prog n_porismref20_flag [.bool is] [.int .u8 (fl is)] := by
  refine p_porismref20_flag rfl fun hs => ?_
  cases is <;> simp -dsimp [x_porismref20_flag, fl]
def grows (k : Nat) (l : List Int) (c : AV) (h : Nat → Ent) : Prop := (c = .fsl 1 (l.map (.int .u8))) ∨ ∃ v fz, c = .rsl k v ∧ h k = ⟨v, .row 1 (l.map (.int .u8)) fz⟩
theorem row20_ok (l : List T) (ho : ∀ t ∈ l, okR t) (hb : (rowW l).flatten.length ≤ 50000000) : Pure Tryz.prog n_porismref20_row [eTs l] [eB (rowW l).flatten] := by
  refine p_porismref20_row rfl fun hs => ?_
  have hln := hs (eTs l) (by simp)
  simp [eTs, small] at hln
  replace hln := hln.1
  simp only [rowW, List.flatten_cons, List.length_append, List.length_cons, List.length_nil] at hb
  have hle := before_le (fun t => [pkO t]) l
  simp -dsimp [x_porismref20_row, eTs]
  refine wp_upto l.length (fun i st => st.s 0 = .d (.sl 3 (l.map eT)) ∧ st.s 4 = .d (.int .i64 i) ∧ ∃ P c, P = (before (fun t => [pkO t]) l i).flatten ∧ st.s 3 = c ∧ grows 21 (u8 l.length :: P) c st.h) ?_ ?_
  · simp -dsimp [before_zero, grows, u8]
  · rintro i ⟨s, hp⟩ hi ⟨e1, e2, P, c, eP, e3, e4⟩
    dsimp only at e1 e2 e3 e4
    rcases Nat.lt_or_ge i l.length with hlt | hge
    · have w1 : IntKind.i64.wrap ((i : Int) + 1) = (i : Int) + 1 := wrap_id (by omega) (by omega)
      have hT := term20_ok l[i] (ho _ (List.getElem_mem _))
      simp only [cT, eB] at hT
      have hnx := before_next (fun t => [pkO t]) l hlt
      have hle1 := hle (i + 1)
      have e5 : (before (fun t => [pkO t]) l (i + 1)).flatten = P ++ pkO l[i] := by rw [hnx, List.flatten_append, ← eP]; simp
      rw [e5, List.length_append] at hle1
      have hr : P.length + 1 + (pkO l[i]).length ≤ maxRoom := by simp only [maxRoom]; omega
      rw [e5]
      generalize pkO l[i] = Z at *
      rcases e4 with rfl | ⟨v, fz, rfl, e4⟩
      · simp -dsimp [e1, e2, e3, hlt, eT_eq, cT]
        refine call_of hT ?_
        simp -dsimp [e1, e2, e3, hlt, w1, hr, grows]
      · simp -dsimp [e1, e2, e3, e4, hlt, eT_eq, cT]
        refine call_of hT ?_
        simp -dsimp [e1, e2, e3, e4, hlt, w1, hr, grows]
    · have e : i = l.length := by omega
      subst e
      rw [before_all] at eP
      rcases e4 with rfl | ⟨v, fz, rfl, e4⟩
      · simp -dsimp [e1, e2, e3, rowW, eB, ← eP]
      · simp -dsimp [e1, e2, e3, e4, rowW, eB, ← eP]
end
section
attribute [local simp] allD_map_d sks_map_d tk tn tks initA EndsM
set_option maxHeartbeats 4000000 in
theorem args20_ok (l : List Ar) (ho : ∀ a ∈ l, okRA a) (hb : (argsW l).flatten.length ≤ 50000000) : Pure Tryz.prog n_porismref20_args [eArs l] [eB (argsW l).flatten] := by
  refine p_porismref20_args rfl fun hs => ?_
  have hln := hs (eArs l) (by simp)
  simp [eArs, small] at hln
  replace hln := hln.1
  simp only [argsW, List.flatten_cons, List.length_append, List.length_cons, List.length_nil] at hb
  have hle := before_le argW l
  simp -dsimp [x_porismref20_args, eArs]
  refine wp_upto l.length (fun i st => st.s 0 = .d (.sl 7 (l.map eAr)) ∧ st.s 4 = .d (.int .i64 i) ∧ ∃ P c, P = (before argW l i).flatten ∧ st.s 3 = c ∧ grows 25 (u8 l.length :: P) c st.h) ?_ ?_
  · simp -dsimp [before_zero, grows, u8]
  · rintro i ⟨s, hp⟩ hi ⟨e1, e2, P, c, eP, e3, e4⟩
    dsimp only at e1 e2 e3 e4
    rcases Nat.lt_or_ge i l.length with hlt | hge
    · have w1 : IntKind.i64.wrap ((i : Int) + 1) = (i : Int) + 1 := wrap_id (by omega) (by omega)
      obtain ⟨a, ha⟩ : ∃ a, l[i] = a := ⟨_, rfl⟩
      have hoa := ho l[i] (List.getElem_mem _)
      have hnx := before_next argW l hlt
      have hle1 := hle (i + 1)
      rw [ha] at hoa hnx
      have e : (argW a).flatten = [fl a.rc] ++ (pkO a.ty ++ ((rowW a.dom).flatten ++ ([u8 a.sort] ++ (rowW a.idx).flatten))) := by
        rw [argW]; simp only [List.flatten_append, List.flatten_cons, List.flatten_nil, List.append_nil, List.append_assoc]
      have e5 : (before argW l (i + 1)).flatten = P ++ ([fl a.rc] ++ (pkO a.ty ++ ((rowW a.dom).flatten ++ ([u8 a.sort] ++ (rowW a.idx).flatten)))) := by rw [hnx, List.flatten_append, ← eP, e]
      rw [e5] at hle1 ⊢
      simp only [List.length_append, List.length_cons, List.length_nil] at hle1
      have h1 := flag20_ok a.rc
      have h2 := term20_ok a.ty hoa.ty
      have h3 := row20_ok a.dom hoa.dom.2 (by omega)
      have h4 := row20_ok a.idx hoa.idx.2 (by omega)
      simp only [cT, eTs, eB] at h2 h3 h4
      generalize pkO a.ty = Z1 at *
      generalize (rowW a.dom).flatten = Z2 at *
      generalize (rowW a.idx).flatten = Z3 at *
      have r1 : P.length + 1 + 1 ≤ maxRoom := by simp only [maxRoom]; omega
      have r2 : P.length + 1 + 1 + Z1.length ≤ maxRoom := by simp only [maxRoom]; omega
      have r3 : P.length + 1 + 1 + Z1.length + Z2.length ≤ maxRoom := by simp only [maxRoom]; omega
      have r4 : P.length + 1 + 1 + Z1.length + Z2.length + 1 ≤ maxRoom := by simp only [maxRoom]; omega
      have r5 : P.length + 1 + 1 + Z1.length + Z2.length + 1 + Z3.length ≤ maxRoom := by simp only [maxRoom]; omega
      have r3' : P.length + (Z1.length + 1) + 1 + Z2.length ≤ maxRoom := by omega
      have r4' : P.length + (Z1.length + (Z2.length + 1)) + 1 + 1 ≤ maxRoom := by omega
      have r4b : P.length + (Z1.length + Z2.length + 1) + 1 + 1 ≤ maxRoom := by omega
      have r5b : P.length + (Z1.length + Z2.length + 1 + 1) + 1 + Z3.length ≤ maxRoom := by omega
      have r5c : P.length + (Z1.length + (Z2.length + 1) + 1) + 1 + Z3.length ≤ maxRoom := by omega
      have r5d : P.length + (Z1.length + Z2.length + 1 + 1) + 1 + Z3.length ≤ maxRoom := by omega
      have r5' : P.length + (Z1.length + (Z2.length + 1 + 1)) + 1 + Z3.length ≤ maxRoom := by omega
      rcases e4 with rfl | ⟨v, fz, rfl, e4⟩
      · simp -dsimp [e1, e2, e3, hlt, ha, eAr, cAr, cT, eTs]
        refine call_of h1 ?_
        simp -dsimp [r1]
        refine call_of h2 ?_
        simp -dsimp [r2]
        refine call_of h3 ?_
        simp -dsimp [r3', r4', r4b]
        refine call_of h4 ?_
        simp -dsimp [r5, r5', r5b, r5c, w1, hlt, e1, e2, grows, u8]
      · simp -dsimp [e1, e2, e3, e4, hlt, ha, eAr, cAr, cT, eTs]
        refine call_of h1 ?_
        simp -dsimp [r1, e4]
        refine call_of h2 ?_
        simp -dsimp [r2, e4]
        refine call_of h3 ?_
        simp -dsimp [r3', r4', r4b, e4]
        refine call_of h4 ?_
        simp -dsimp [r5, r5', r5b, r5c, w1, hlt, e1, e2, e4, grows, u8]
    · have e : i = l.length := by omega
      subst e
      rw [before_all] at eP
      rcases e4 with rfl | ⟨v, fz, rfl, e4⟩
      · simp -dsimp [e1, e2, e3, argsW, eB, ← eP]
      · simp -dsimp [e1, e2, e3, e4, argsW, eB, ← eP]
end
section
theorem num_good {b : List Int} {p : Nat} {n : Int} {rest : List Int} (h : b.drop p = n :: rest) : numF b ⟨p, false⟩ = (n, ⟨p + 1, false⟩) := by
  obtain ⟨hp, h1, _⟩ := drop_at h
  rw [numF, if_neg (by simp; omega)]
  simp only [List.getElem?_eq_getElem hp, Option.getD_some, h1]
theorem flag_good {b : List Int} {p : Nat} {is : Bool} {rest : List Int} (h : b.drop p = fl is :: rest) : flagF b ⟨p, false⟩ = (is, ⟨p + 1, false⟩) := by
  rw [flagF, num_good h]
  cases is <;> simp [fl]
theorem term_good {b : List Int} (hb : b.length ≤ 1000000000) {p : Nat} {t : T} {rest : List Int} (ht : okR t) (h : b.drop p = pkO t ++ rest) : termF b ⟨p, false⟩ = (t, ⟨p + (pkO t).length, false⟩) := by
  rcases ht with rfl | hg
  · obtain ⟨hp, h1, _⟩ := drop_at (a := 0) (r := rest) h
    rw [termF, if_neg (by simp; omega)]
    simp only [List.getElem?_eq_getElem hp, Option.getD_some, h1, if_true]
    rfl
  · have hpk : pkO t = pk t := by rw [pkO, hg.some]; rfl
    rw [hpk] at h ⊢
    have hlen := congrArg List.length h
    simp only [List.length_drop, List.length_append] at hlen
    have hpos := pk_pos t
    have hp : p < b.length := by omega
    obtain ⟨q1, q2, q3⟩ := get_good (b := b) (at_ := p) (t := t) (rest := rest) (by omega) (by omega) (by simpa using h) hg.f hg.n hg.d hb
    have hne : ¬ (b[p]?).getD 0 = 0 := by
      have h1 : (b.drop p)[0]? = b[p]? := by simp
      obtain ⟨k, n, ks⟩ := t
      obtain ⟨c1, c2⟩ := fm_kind hg.f
      rw [← h1, h, pk]
      have hu : u8 k = k := u8_id (by omega) (by omega)
      split <;> simp <;> omega
    rw [termF, if_neg (by simp; omega)]
    simp only [if_neg hne, q1, q2, q3]
    have e : ((b.length : Int) - rest.length).toNat = p + (pk t).length := by omega
    rw [e]
    simp
theorem rep_good {α : Type} {b : List Int} {g : Rd → α × Rd} {enc : α → List (List Int)} {Q : α → Prop} (hg : ∀ x p rest, Q x → b.drop p = (enc x).flatten ++ rest → g ⟨p, false⟩ = (x, ⟨p + (enc x).flatten.length, false⟩)) (l : List α) :
    ∀ (p : Nat) (rest : List Int), (∀ x ∈ l, Q x) → b.drop p = (l.map enc).flatten.flatten ++ rest → repF g l.length ⟨p, false⟩ = (l, ⟨p + (l.map enc).flatten.flatten.length, false⟩) := by
  intro p rest hQ h
  have key : ∀ i, i ≤ l.length → repF g i ⟨p, false⟩ = (l.take i, ⟨p + ((l.take i).map enc).flatten.flatten.length, false⟩) := by
    intro i
    induction i with
    | zero => intro _; rfl
    | succ i ih =>
      intro hi
      have hlt : i < l.length := by omega
      have h1 := ih (by omega)
      have ht : l.take (i + 1) = l.take i ++ [l[i]] := List.take_succ_eq_append_getElem hlt
      have e : (l.map enc).flatten.flatten = ((l.take i).map enc).flatten.flatten ++ ((enc l[i]).flatten ++ ((l.drop (i + 1)).map enc).flatten.flatten) := by
        have e1 : l = l.take i ++ (l[i] :: l.drop (i + 1)) := by rw [← List.drop_eq_getElem_cons hlt, List.take_append_drop]
        have e2 : l.map enc = (l.take i).map enc ++ (enc l[i] :: (l.drop (i + 1)).map enc) := by rw [← List.map_cons, ← List.map_append, ← e1]
        rw [e2, List.flatten_append, List.flatten_append, List.flatten_cons, List.flatten_append]
      rw [e, List.append_assoc, List.append_assoc] at h
      have h2 := hg l[i] _ _ (hQ _ (List.getElem_mem _)) (drop_by h)
      have e3 : ((l.take (i + 1)).map enc).flatten.flatten = ((l.take i).map enc).flatten.flatten ++ (enc l[i]).flatten := by rw [ht, List.map_append, List.flatten_append, List.flatten_append]; simp
      rw [repF, h1, if_neg (by simp), e3, ht]
      simp only [h2]
      simp only [List.length_append, Nat.add_assoc]
  have := key l.length (Nat.le_refl _)
  rwa [List.take_length] at this
theorem row_good {b : List Int} (hb : b.length ≤ 1000000000) {p : Nat} {l : List T} {rest : List Int} (ho : l.length < 256 ∧ ∀ t ∈ l, okR t) (h : b.drop p = (rowW l).flatten ++ rest) : rwF b ⟨p, false⟩ = (l, ⟨p + (rowW l).flatten.length, false⟩) := by
  have hu : u8 (l.length : Nat) = l.length := u8_id (by omega) (by omega)
  rw [rowW, hu, List.flatten_cons] at h ⊢
  have h0 := num_good (n := (l.length : Int)) (rest := (l.map fun t => [pkO t]).flatten.flatten ++ rest) h
  have hd : b.drop (p + 1) = (l.map fun t => [pkO t]).flatten.flatten ++ rest := drop_by (x := [(l.length : Int)]) h
  have h1 := rep_good (b := b) (g := termF b) (enc := fun t => [pkO t]) (Q := okR) (fun x p rest hx hh => by
    have := term_good hb hx (by simpa using hh)
    simpa using this) l (p + 1) rest ho.2 hd
  rw [rwF, h0]
  simp only [Int.toNat_natCast, h1]
  simp only [List.length_append, List.length_singleton, Nat.add_assoc]
theorem arg_good {b : List Int} (hb : b.length ≤ 1000000000) (a : Ar) (p : Nat) (rest : List Int) (ho : okRA a) (h : b.drop p = (argW a).flatten ++ rest) : argF b ⟨p, false⟩ = (a, ⟨p + (argW a).flatten.length, false⟩) := by
  have e : (argW a).flatten = [fl a.rc] ++ (pkO a.ty ++ ((rowW a.dom).flatten ++ ([a.sort] ++ (rowW a.idx).flatten))) := by
    rw [argW]
    simp only [u8_id ho.sort.1 ho.sort.2, List.flatten_append, List.flatten_cons, List.flatten_nil, List.append_nil, List.append_assoc]
  rw [e] at h ⊢
  simp only [List.append_assoc] at h
  have h1 := flag_good h
  have d1 := drop_by h
  have h2 := term_good hb ho.ty d1
  have d2 := drop_by d1
  have h3 := row_good hb ho.dom d2
  have d3 := drop_by d2
  have h4 := num_good d3
  have d4 := drop_by d3
  have h5 := row_good hb ho.idx d4
  simp only [List.length_singleton] at h2 h3 h4 h5
  rw [argF]
  simp only [h1, h2, h3, h4, h5]
  simp only [List.length_append, List.length_singleton, Nat.add_assoc]
theorem args_good {b : List Int} (hb : b.length ≤ 1000000000) {l : List Ar} {p : Nat} {rest : List Int} (ho : l.length < 256 ∧ ∀ a ∈ l, okRA a) (h : b.drop p = (argsW l).flatten ++ rest) : argsF b ⟨p, false⟩ = (l, ⟨p + (argsW l).flatten.length, false⟩) := by
  have hu : u8 (l.length : Nat) = l.length := u8_id (by omega) (by omega)
  rw [argsW, hu, List.flatten_cons] at h ⊢
  have h0 := num_good (n := (l.length : Int)) (rest := (l.map argW).flatten.flatten ++ rest) h
  have hd : b.drop (p + 1) = (l.map argW).flatten.flatten ++ rest := drop_by (x := [(l.length : Int)]) h
  have h1 := rep_good (b := b) (g := argF b) (enc := argW) (Q := okRA) (fun x p rest hx hh => arg_good hb x p rest hx hh) l (p + 1) rest ho.2 hd
  rw [argsF, h0]
  simp only [Int.toNat_natCast, h1]
  simp only [List.length_append, List.length_singleton, Nat.add_assoc]
theorem so_good {b : List Int} (hb : b.length ≤ 1000000000) (a : So) (p : Nat) (rest : List Int) (ho : okRS a) (h : b.drop p = (soW a).flatten ++ rest) : soF b ⟨p, false⟩ = (a, ⟨p + (soW a).flatten.length, false⟩) := by
  have e : (soW a).flatten = (argsW a.idx).flatten ++ ([a.level] ++ ([fl a.dec] ++ pkO a.dty)) := by
    rw [soW]
    simp only [u8_id ho.level.1 ho.level.2, List.flatten_append, List.flatten_cons, List.flatten_nil, List.append_nil, List.append_assoc]
  rw [e] at h ⊢
  simp only [List.append_assoc] at h
  have h1 := args_good hb ho.idx h
  have d1 := drop_by h
  have h2 := num_good d1
  have d2 := drop_by d1
  have h3 := flag_good d2
  have d3 := drop_by d2
  have h4 := term_good hb ho.dty d3
  simp only [List.length_singleton] at h2 h3 h4
  rw [soF]
  simp only [h1, h2, h3, h4]
  simp only [List.length_append, List.length_singleton, Nat.add_assoc]
theorem co_good {b : List Int} (hb : b.length ≤ 1000000000) (a : Co) (p : Nat) (rest : List Int) (ho : okRC a) (h : b.drop p = (coW a).flatten ++ rest) : coF b ⟨p, false⟩ = (a, ⟨p + (coW a).flatten.length, false⟩) := by
  have e : (coW a).flatten = [a.sort] ++ ((argsW a.args).flatten ++ ((rowW a.idx).flatten ++ pkO a.dec)) := by
    rw [coW]
    simp only [u8_id ho.sort.1 ho.sort.2, List.flatten_append, List.flatten_cons, List.flatten_nil, List.append_nil, List.append_assoc]
  rw [e] at h ⊢
  simp only [List.append_assoc] at h
  have h1 := num_good h
  have d1 := drop_by h
  have h2 := args_good hb ho.args d1
  have d2 := drop_by d1
  have h3 := row_good hb ho.idx d2
  have d3 := drop_by d2
  have h4 := term_good hb ho.dec d3
  simp only [List.length_singleton] at h2 h3 h4
  rw [coF]
  simp only [h1, h2, h3, h4]
  simp only [List.length_append, List.length_singleton, Nat.add_assoc]
theorem block_good {b : List Int} (hb : b.length ≤ 1000000000) {a : Bl} {p : Nat} {rest : List Int} (ho : okRB a) (h : b.drop p = (blkW a).flatten ++ rest) : blockF b ⟨p, false⟩ = (a, ⟨p + (blkW a).flatten.length, false⟩) := by
  have hs := ho.sorts.1
  have hc := ho.cons.1
  have e : (blkW a).flatten = [(a.sorts.length : Int)] ++ ((a.sorts.map soW).flatten.flatten ++ ([(a.cons.length : Int)] ++ ((a.cons.map coW).flatten.flatten ++ [a.elim]))) := by
    rw [blkW]
    simp only [u8_id ho.elim.1 ho.elim.2, u8_id (n := (a.sorts.length : Int)) (by omega) (by omega), u8_id (n := (a.cons.length : Int)) (by omega) (by omega), List.flatten_append, List.flatten_cons, List.flatten_nil, List.append_nil, List.append_assoc]
  rw [e] at h ⊢
  simp only [List.append_assoc] at h
  have h1 := num_good h
  have d1 := drop_by h
  have h2 := rep_good (b := b) (g := soF b) (enc := soW) (Q := okRS) (fun x p rest hx hh => so_good hb x p rest hx hh) a.sorts _ _ ho.sorts.2 d1
  have d2 := drop_by d1
  have h3 := num_good d2
  have d3 := drop_by d2
  have h4 := rep_good (b := b) (g := coF b) (enc := coW) (Q := okRC) (fun x p rest hx hh => co_good hb x p rest hx hh) a.cons _ _ ho.cons.2 d3
  have d4 := drop_by d3
  have h5 := num_good d4
  simp only [List.length_singleton] at h2 h3 h4 h5
  rw [blockF, sosF]
  simp only [cosF, h1, h2, h3, h4, h5, Int.toNat_natCast]
  simp only [List.length_append, List.length_singleton, Nat.add_assoc]
theorem decl_good {b : List Int} (hb : b.length ≤ 1000000000) (d : De) (p : Nat) (rest : List Int) (ho : okRD d) (h : b.drop p = (declW blkW d).flatten ++ rest) : declF b ⟨p, false⟩ = (d, ⟨p + (declW blkW d).flatten.length, false⟩) := by
  obtain ⟨hr, ⟨t, ht, rfl⟩ | ⟨t, u, ht, hu, rfl⟩ | ⟨bl, hbl, rfl⟩⟩ := ho
  · have e : (declW blkW ⟨1, t, T0, B0⟩).flatten = [1] ++ pkO t := by simp [declW, show u8 1 = 1 from rfl]
    rw [e] at h ⊢
    simp only [List.append_assoc] at h
    have h1 := num_good h
    have h2 := term_good hb ht (drop_by h)
    simp only [List.length_singleton] at h2
    rw [declF, h1, declB]
    simp only [if_true, h2, hr]
    simp only [List.length_append, List.length_singleton, Nat.add_assoc]
    rfl
  · have e : (declW blkW ⟨2, t, u, B0⟩).flatten = [2] ++ (pkO t ++ pkO u) := by simp [declW, show u8 2 = 2 from rfl]
    rw [e] at h ⊢
    simp only [List.append_assoc] at h
    have h1 := num_good h
    have d1 := drop_by h
    have h2 := term_good hb ht d1
    have h3 := term_good hb hu (drop_by d1)
    simp only [List.length_singleton] at h2 h3
    rw [declF, h1]
    simp only [declB]
    rw [if_neg (by decide)]
    simp only [if_true, h2, h3, hr]
    simp only [List.length_append, List.length_singleton, Nat.add_assoc]
    rfl
  · have e : (declW blkW ⟨3, T0, T0, bl⟩).flatten = [3] ++ (blkW bl).flatten := by simp [declW, show u8 3 = 3 from rfl]
    rw [e] at h ⊢
    simp only [List.append_assoc] at h
    have h1 := num_good h
    have h2 := block_good hb hbl (drop_by h)
    simp only [List.length_singleton] at h2
    rw [declF, h1]
    simp only [declB]
    rw [if_neg (by decide), if_neg (by decide)]
    simp only [if_true, h2, hr]
    simp only [List.length_append, List.length_singleton, Nat.add_assoc]
    rfl
theorem get_cpl {l : List De} {rest : List Int} (hl : l.length ≤ 60) (ho : ∀ d ∈ l, okRD d) (hb : (putW blkW l ++ rest).length ≤ 1000000000) : getR (putW blkW l ++ rest) = (l, ⟨(putW blkW l).length, false⟩) := by
  obtain ⟨b, hB⟩ : ∃ b, b = putW blkW l ++ rest := ⟨_, rfl⟩
  rw [← hB] at hb ⊢
  have hu : u8 (l.length : Nat) = l.length := u8_id (by omega) (by omega)
  have h : b.drop 0 = [(l.length : Int)] ++ ((l.map (declW blkW)).flatten.flatten ++ rest) := by rw [hB, putW, hu]; rfl
  have h1 := num_good h
  have h2 := rep_good (b := b) (g := declF b) (enc := declW blkW) (Q := okRD) (fun x p rest hx hh => decl_good hb x p rest hx hh) l _ _ ho (drop_by h)
  simp only [List.length_singleton, Nat.zero_add] at h1 h2
  have g : decide (60 < (l.length : Int)) = false := by simp; omega
  rw [getR, h1]
  simp only [g, Bool.or_false, Int.toNat_natCast, h2, putW, List.length_cons]
  rw [Nat.add_comm]
end
section
section
attribute [local simp] allD_map_d sks_map_d tk tn tks initA EndsM
theorem y_decl : Tryz.prog.bytesOf 32 = 144 := by kernel_rfl
def okDes (l : List De) : Prop := l.length * 144 ≤ 140737488351232 ∧ ∀ x ∈ l, okDe x
theorem arg_decls {x : D} (h : TypD Tryz.prog 22 x) : ∃ l : List De, x = eDes l ∧ okDes l := by
  obtain ⟨⟨n, h1⟩, h2⟩ := h
  obtain ⟨m, xs, rfl, hc, hb, hx⟩ := typ_slice Tryz.underlying22 c_decl y_decl is_decl h1
  obtain ⟨ks, rfl, hks⟩ : ∃ l : List De, xs = l.map eDe ∧ ∀ a ∈ l, okDe a := map_of fun x hxx => by
    obtain ⟨h4, h5⟩ := hx x hxx
    obtain ⟨t, ht, hq⟩ := typ_decl h4
    exact ⟨t, hq, by rw [h5, ht]; rfl⟩
  have h3 : isStructB Tryz.prog 22 = false := by simp only [isStructB, Tryz.underlying22]
  rw [not_agg (h2.trans h3)] at hc
  exact ⟨ks, by simpa [eDes] using hc, by simpa using hb, hks⟩
theorem sum_le_of {α : Type} (f g : α → Nat) : ∀ (l : List α), (∀ x ∈ l, f x ≤ 3 * g x) → (l.map f).sum ≤ 3 * (l.map g).sum
  | [], _ => by simp
  | x :: l, h => by
    have h1 := h x (by simp)
    have h2 := sum_le_of f g l fun y hy => h y (by simp [hy])
    simp only [List.map_cons, List.sum_cons]
    omega
theorem fl2 {α : Type} (f : α → List (List Int)) : ∀ l : List α, (l.map f).flatten.flatten.length = (l.map fun x => (f x).flatten.length).sum
  | [] => rfl
  | x :: l => by simp only [List.map_cons, List.flatten_cons, List.flatten_append, List.length_append, List.sum_cons, fl2 f l]
theorem mem_sum3 {xs : List D} {x : D} (h : x ∈ xs) : bulk x ≤ (xs.map bulk).sum := sum_mem (List.mem_map.2 ⟨x, h, rfl⟩)
theorem pkO_len (t : T) : (pkO t).length ≤ 3 * bulk (.agg (cT t)) := by
  have h1 := term_bulk t
  have h2 := pk_len t
  have h3 : 1 ≤ nodes t := by cases t; rw [nodes]; omega
  rw [pkO]
  split
  · simp; omega
  · omega
theorem rowW_len (l : List T) : (rowW l).flatten.length ≤ 3 * bulk (eTs l) := by
  have h := sum_le_of (fun t => ([pkO t] : List (List Int)).flatten.length) (fun t => bulk (eT t)) l fun t _ => by
    have := pkO_len t
    rw [← eT_eq] at this
    simpa using this
  rw [rowW, List.flatten_cons, List.length_append, fl2]
  simp only [eTs, bulk, List.map_map, Function.comp_def, List.length_cons, List.length_nil]
  omega
theorem argW_len (a : Ar) : (argW a).flatten.length ≤ 3 * bulk (eAr a) := by
  have e : bulk (eAr a) = 1 + bulk (.agg (cT a.ty)) + (bulk (eTs a.dom) + (1 + bulk (eTs a.idx))) := by
    simp only [eAr, cAr, bulk, List.map_cons, List.map_append, List.sum_cons, List.sum_append, List.map_nil, List.sum_nil, List.cons_append, cT, eTs, List.nil_append]
    omega
  have h1 := pkO_len a.ty
  have h2 := rowW_len a.dom
  have h3 := rowW_len a.idx
  rw [argW]
  simp only [List.flatten_append, List.length_append, List.flatten_cons, List.flatten_nil, List.length_cons, List.length_nil]
  omega
theorem argsW_len (l : List Ar) : (argsW l).flatten.length ≤ 3 * bulk (eArs l) := by
  have h := sum_le_of (fun a => (argW a).flatten.length) (fun a => bulk (eAr a)) l fun a _ => argW_len a
  rw [argsW, List.flatten_cons, List.length_append, fl2]
  simp only [eArs, bulk, List.map_map, Function.comp_def, List.length_cons, List.length_nil]
  omega
theorem soW_len (x : So) : (soW x).flatten.length ≤ 3 * bulk (eSo x) := by
  have e : bulk (eSo x) = bulk (eArs x.idx) + (1 + (1 + bulk (.agg (cT x.dty)))) := by
    simp only [eSo, cSo, bulk, List.map_cons, List.map_append, List.sum_cons, List.sum_append, List.map_nil, List.sum_nil, List.cons_append, cT, eArs, List.nil_append]
  have h1 := pkO_len x.dty
  have h2 := argsW_len x.idx
  rw [soW]
  simp only [List.flatten_append, List.length_append, List.flatten_cons, List.flatten_nil, List.length_cons, List.length_nil]
  omega
theorem coW_len (x : Co) : (coW x).flatten.length ≤ 3 * bulk (eCo x) := by
  have e : bulk (eCo x) = 1 + (bulk (eArs x.args) + (bulk (eTs x.idx) + bulk (.agg (cT x.dec)))) := by
    simp only [eCo, cCo, bulk, List.map_cons, List.map_append, List.sum_cons, List.sum_append, List.map_nil, List.sum_nil, List.cons_append, cT, eArs, eTs, List.nil_append]
  have h1 := pkO_len x.dec
  have h2 := argsW_len x.args
  have h3 := rowW_len x.idx
  rw [coW]
  simp only [List.flatten_append, List.length_append, List.flatten_cons, List.flatten_nil, List.length_cons, List.length_nil]
  omega
theorem blkW_len (b : Bl) : (blkW b).flatten.length ≤ 3 * bulk (eBl b) := by
  have h1 := sum_le_of (fun a => (soW a).flatten.length) (fun a => bulk (eSo a)) b.sorts fun a _ => soW_len a
  have h2 := sum_le_of (fun a => (coW a).flatten.length) (fun a => bulk (eCo a)) b.cons fun a _ => coW_len a
  rw [blkW]
  simp only [List.flatten_append, List.length_append, List.flatten_cons, List.flatten_nil, List.length_cons, List.length_nil, fl2]
  simp only [eBl, cBl, eSos, eCos, bulk, List.map_map, Function.comp_def, List.map_cons, List.map_nil, List.sum_cons, List.sum_nil]
  omega
theorem bulk_de (d : De) : bulk (eDe d) = 1 + (bulk (.agg (cT d.ty)) + (bulk (.agg (cT d.body)) + bulk (eBl d.bl))) := by
  simp only [eDe, cDe, eBl, bulk, List.map_cons, List.map_append, List.sum_cons, List.sum_append]
theorem declW_len (d : De) : (declW blkW d).flatten.length ≤ 3 * bulk (eDe d) := by
  have h1 := pkO_len d.ty
  have h2 := pkO_len d.body
  have h3 := blkW_len d.bl
  have e := bulk_de d
  rw [declW, List.flatten_cons, List.length_append]
  by_cases k1 : d.kind = 1
  · rw [if_pos k1]; simp only [List.flatten_cons, List.flatten_nil, List.length_append, List.length_cons, List.length_nil]; omega
  · by_cases k2 : d.kind = 2
    · rw [if_neg k1, if_pos k2]; simp only [List.flatten_cons, List.flatten_nil, List.length_append, List.length_cons, List.length_nil]; omega
    · rw [if_neg k1, if_neg k2]; simp only [List.length_cons, List.length_nil]; omega
theorem putW_len (l : List De) : (putW blkW l).length ≤ 3 * bulk (eDes l) := by
  have h := sum_le_of (fun a => (declW blkW a).flatten.length) (fun a => bulk (eDe a)) l fun a _ => declW_len a
  rw [putW, List.length_cons, fl2]
  simp only [eDes, bulk, List.map_map, Function.comp_def]
  omega
end
end
section
section
attribute [local simp] allD_map_d sks_map_d tk tn tks initA EndsM
theorem in_check {t : T} {v : Int} (h : inM t v = true) : checkM t = 0 := by
  rw [inM, scopeM] at h
  by_cases g : checkM t = 0
  · exact g
  · rw [if_neg g] at h; split at h <;> simp at h
theorem all_check {l : List T} {v : Int} (h : allM l v = true) : ∀ t ∈ l, checkM t = 0 := fun t ht => by
  rw [allM, Bool.not_eq_true', List.any_eq_false] at h
  have := h t ht
  exact in_check (v := v) (by simpa using this)
theorem dom_check {l : List T} {i : Int} (h : domM i l = true) : ∀ t ∈ l, checkM t = 0 := fun t ht => by
  rw [domM, allI_iff] at h
  obtain ⟨j, hj, rfl⟩ := List.mem_iff_getElem.1 ht
  exact in_check (h j hj)
theorem okW_in {l : List T} (hb : bulk (eTs l) ≤ 1048576) (h : ∀ t ∈ l, checkM t = 0) : ∀ t ∈ l, okW t := fun t ht => by
  have := (terms_bulk l).1 t ht
  exact ⟨by omega, .inr (h t ht)⟩
theorem okAW_of {b : Bl} {a : Ar} {i : Int} (hb : bulk (eAr a) ≤ 1048576) (h : argM b a i = true) : okAW a := by
  have e : bulk (eAr a) = 1 + bulk (.agg (cT a.ty)) + (bulk (eTs a.dom) + (1 + bulk (eTs a.idx))) := by
    simp only [eAr, cAr, bulk, List.map_cons, List.map_append, List.sum_cons, List.sum_append, List.map_nil, List.sum_nil, List.cons_append, cT, eTs, List.nil_append]
    omega
  have h1 := term_bulk a.ty
  rw [argM] at h
  cases hr : a.rc
  · simp only [hr, Bool.false_eq_true, if_false] at h
    cases hi : inM a.ty i
    · simp [hi] at h
    · simp only [hi, if_true] at h
      have l1 := (terms_bulk a.dom).2
      have l2 := (terms_bulk a.idx).2
      have hz : a.dom.length = 0 ∧ a.idx.length = 0 := by
        split at h
        · rename_i hw
          rw [w64, wrap_id (by omega) (by omega)] at hw
          omega
        · cases h
      refine ⟨⟨by omega, .inr (in_check hi)⟩, fun t ht => ?_, fun t ht => ?_⟩
      · rw [List.eq_nil_of_length_eq_zero hz.1] at ht; cases ht
      · rw [List.eq_nil_of_length_eq_zero hz.2] at ht; cases ht
  · simp only [hr, if_true] at h
    cases hn : noneM a.ty
    · simp [hn] at h
    · simp only [hn, if_true] at h
      split at h
      · cases h
      · split at h
        · cases h
        · split at h
          · cases h
          · split at h
            · rw [Bool.and_eq_true] at h
              exact ⟨⟨by omega, .inl hn⟩, okW_in (by omega) (dom_check h.1), okW_in (by omega) (all_check h.2)⟩
            · cases h
theorem okAWs_of {b : Bl} {l : List Ar} (hb : bulk (eArs l) ≤ 1048576) (h : rowM b l = true) : ∀ a ∈ l, okAW a := fun a ha => by
  rw [rowM] at h
  split at h
  · cases h
  · rw [allI_iff] at h
    have hm := mem_sum3 (List.mem_map.2 ⟨a, ha, rfl⟩ : eAr a ∈ l.map eAr)
    simp only [eArs, bulk] at hb
    obtain ⟨j, hj, rfl⟩ := List.mem_iff_getElem.1 ha
    exact okAW_of (by omega) (h j hj)
theorem maybe_okW {is : Bool} {t : T} {v : Int} (hb : nodes t ≤ 1048576) (h : maybeM is t v = true) : okW t := by
  rw [maybeM] at h
  cases is
  · exact ⟨by omega, .inl (by simpa using h)⟩
  · exact ⟨by omega, .inr (in_check (v := v) (by simpa using h))⟩
theorem okBW_of {b : Bl} (hb : bulk (eBl b) ≤ 1048576) (h : checkB b = 0) : okBW b := by
  obtain ⟨_, _, _, _, hs, hc⟩ := (checkB_zero b).1 h
  have e : bulk (eBl b) = bulk (eSos b.sorts) + (bulk (eCos b.cons) + 1) := by
    simp only [eBl, cBl, bulk, List.map_cons, List.sum_cons, List.map_nil, List.sum_nil, Nat.add_zero]
  refine ⟨fun x hx => ?_, fun c hx => ?_⟩
  · have hm := mem_sum3 (List.mem_map.2 ⟨x, hx, rfl⟩ : eSo x ∈ b.sorts.map eSo)
    have e1 : bulk (eSos b.sorts) = ((b.sorts.map eSo).map bulk).sum + 1 := by simp only [eSos, bulk]
    have e2 : bulk (eSo x) = bulk (eArs x.idx) + (1 + (1 + bulk (.agg (cT x.dty)))) := by
      simp only [eSo, cSo, bulk, List.map_cons, List.map_append, List.sum_cons, List.sum_append, List.map_nil, List.sum_nil, List.cons_append, cT, eArs, List.nil_append]
    have h1 := term_bulk x.dty
    obtain ⟨j, hj, hjx⟩ := List.mem_iff_getElem.1 hx
    have hsx := hs j hj
    rw [hjx, sortM] at hsx
    split at hsx
    · rename_i hr
      split at hsx
      · split at hsx
        · rename_i hmb
          exact ⟨okAWs_of (by omega) hr, maybe_okW (by omega) hmb⟩
        · cases hsx
      · cases hsx
    · cases hsx
  · have hm := mem_sum3 (List.mem_map.2 ⟨c, hx, rfl⟩ : eCo c ∈ b.cons.map eCo)
    have e1 : bulk (eCos b.cons) = ((b.cons.map eCo).map bulk).sum + 1 := by simp only [eCos, bulk]
    have e2 : bulk (eCo c) = 1 + (bulk (eArs c.args) + (bulk (eTs c.idx) + bulk (.agg (cT c.dec)))) := by
      simp only [eCo, cCo, bulk, List.map_cons, List.map_append, List.sum_cons, List.sum_append, List.map_nil, List.sum_nil, List.cons_append, cT, eArs, eTs, List.nil_append]
    have h1 := term_bulk c.dec
    have hcx := hc c hx
    rw [conM] at hcx
    split at hcx
    · cases hcx
    · split at hcx
      · rename_i hr
        split at hcx
        · cases hcx
        · split at hcx
          · split at hcx
            · rename_i ha
              exact ⟨okAWs_of (by omega) hr, okW_in (by omega) (all_check ha), maybe_okW (by omega) hcx⟩
            · cases hcx
          · cases hcx
      · cases hcx
theorem putB_ok (l : List De) (hb : bulk (eDes l) ≤ 1048576) : Pure Tryz.prog n_pile_Put [eDes l] [eB (putL blkW l), .int .i64 (putE blkW l)] := by
  have hd : ∀ d ∈ l, bulk (eDe d) ≤ 1048576 := fun d hx => by
    have hm := mem_sum3 (List.mem_map.2 ⟨d, hx, rfl⟩ : eDe d ∈ l.map eDe)
    simp only [eDes, bulk] at hb
    omega
  refine putD_ok blkW l (fun _ d hx => ?_) (fun d hx hr k1 k2 => ?_) fun _ _ => ?_
  · have := hd d hx
    have e := bulk_de d
    have h1 := term_bulk d.ty
    have h2 := term_bulk d.body
    omega
  · have := hd d hx
    have e := bulk_de d
    refine block_wr d.bl (okBW_of (by omega) ?_)
    rw [rightM, if_neg k1, if_neg k2] at hr
    split at hr
    · split at hr
      · split at hr
        · simpa using hr
        · cases hr
      · cases hr
    · cases hr
  · have := putW_len l
    omega
def heavy22 (l : List De) : Bool := if 70 < (l.length : Int) then true else l.any heavy20
theorem heavy22_ok (l : List De) : Pure Tryz.prog n_porismlaw22_Heavy [eDes l] [.bool (heavy22 l)] := by
  refine p_porismlaw22_Heavy rfl fun hs => ?_
  by_cases g : 70 < (l.length : Int)
  · simp -dsimp [x_porismlaw22_Heavy, eDes, g, heavy22]
  simp -dsimp [x_porismlaw22_Heavy, eDes, g]
  refine wp_upto l.length (fun i st => (l.take i).any heavy20 = false ∧ st.s 0 = .d (.sl 10 (l.map eDe)) ∧ st.s 3 = .d (.int .i64 i)) ?_ ?_
  · simp -dsimp
  · rintro i ⟨s, hp⟩ hi ⟨hb, e0, e1⟩
    dsimp only at e0 e1
    rcases Nat.lt_or_ge i l.length with hlt | hge
    · have w1 : IntKind.i64.wrap ((i : Int) + 1) = (i : Int) + 1 := wrap_id (by omega) (by omega)
      have hC := heavy20_ok l[i]
      have hx := fun h : heavy20 l[i] = false => any_snoc (p := heavy20) hlt hb h
      have hy := fun h : heavy20 l[i] = true => any_mem (p := heavy20) hlt h
      simp only [eDe, cDe, cT, cBl, eSos, eCos, List.cons_append, List.nil_append] at hC
      simp -dsimp [e0, e1, hlt, eDe, cDe, cT, cBl, eSos, eCos]
      refine call_of hC ?_
      cases hr : heavy20 l[i]
      · simp -dsimp [hr, e0, e1, w1, hx hr, hlt, eDe, cDe, cT, cBl, eSos, eCos]
      · simp -dsimp [hr, heavy22, g, hy hr]
    · have e : i = l.length := by omega
      subst e
      rw [List.take_length] at hb
      simp -dsimp [e0, e1, heavy22, g, hb]
end
end
section
theorem gt_of2 {t : T} (hb : nodes t ≤ 1048576) (h : checkM t = 0) : Gt t := by
  obtain ⟨h1, h2, h3⟩ := (check_iff hb).1 h
  exact ⟨h3, by omega, by omega⟩
theorem okR_none {t : T} (h : noneM t = true) : okR t := .inl ((none_iff t).1 h)
theorem okR_in {l : List T} (hb : bulk (eTs l) ≤ 1048576) (h : ∀ t ∈ l, checkM t = 0) : ∀ t ∈ l, okR t := fun t ht => .inr (gt_of2 (by have := (terms_bulk l).1 t ht; omega) (h t ht))
theorem maybe_okR {is : Bool} {t : T} {v : Int} (hb : nodes t ≤ 1048576) (h : maybeM is t v = true) : okR t := by
  rw [maybeM] at h
  cases is
  · exact okR_none (by simpa using h)
  · exact .inr (gt_of2 hb (in_check (v := v) (by simpa using h)))
theorem level_rng {n : Int} (h : levelM n = true) : 0 ≤ n ∧ n < 256 := by
  rw [levelM, Bool.and_eq_true, decide_eq_true_eq, decide_eq_true_eq] at h
  omega
theorem okRA_of {b : Bl} (hS : b.sorts.length ≤ 4) (hI : ∀ s ∈ b.sorts, s.idx.length ≤ 12) {a : Ar} {i : Int} (hb : bulk (eAr a) ≤ 1048576) (h : argM b a i = true) : okRA a := by
  have e : bulk (eAr a) = 1 + bulk (.agg (cT a.ty)) + (bulk (eTs a.dom) + (1 + bulk (eTs a.idx))) := by
    simp only [eAr, cAr, bulk, List.map_cons, List.map_append, List.sum_cons, List.sum_append, List.map_nil, List.sum_nil, List.cons_append, cT, eTs, List.nil_append]
    omega
  have h1 := term_bulk a.ty
  rw [argM] at h
  cases hr : a.rc
  · simp only [hr, Bool.false_eq_true, if_false] at h
    cases hi : inM a.ty i
    · simp [hi] at h
    · simp only [hi, if_true] at h
      have l1 := (terms_bulk a.dom).2
      have l2 := (terms_bulk a.idx).2
      have hz : (a.dom.length = 0 ∧ a.idx.length = 0) ∧ a.sort = 0 := by
        split at h
        · rename_i hw
          rw [w64, wrap_id (by omega) (by omega)] at hw
          exact ⟨by omega, by simpa using h⟩
        · cases h
      have z1 := List.eq_nil_of_length_eq_zero hz.1.1
      have z2 := List.eq_nil_of_length_eq_zero hz.1.2
      refine ⟨.inr (gt_of2 (by omega) (in_check hi)), ⟨by omega, fun t ht => ?_⟩, by omega, ⟨by omega, fun t ht => ?_⟩⟩
      · rw [z1] at ht; cases ht
      · rw [z2] at ht; cases ht
  · simp only [hr, if_true] at h
    cases hn : noneM a.ty
    · simp [hn] at h
    · simp only [hn, if_true] at h
      split at h
      · cases h
      · rename_i hd
        split at h
        · cases h
        · rename_i hs0
          split at h
          · cases h
          · rename_i s hs
            split at h
            · rename_i hix
              rw [Bool.and_eq_true] at h
              obtain ⟨hlt, hse⟩ := List.getElem?_eq_some_iff.1 hs
              have := hI s (by rw [← hse]; exact List.getElem_mem _)
              exact ⟨okR_none hn, ⟨by omega, okR_in (by omega) (dom_check h.1)⟩, by omega, ⟨by omega, okR_in (by omega) (all_check h.2)⟩⟩
            · cases h
theorem row_len {b : Bl} {l : List Ar} (h : rowM b l = true) : l.length ≤ 12 := by
  rw [rowM] at h
  split at h
  · cases h
  · omega
theorem okRAs_of {b : Bl} (hS : b.sorts.length ≤ 4) (hI : ∀ s ∈ b.sorts, s.idx.length ≤ 12) {l : List Ar} (hb : bulk (eArs l) ≤ 1048576) (h : rowM b l = true) : l.length < 256 ∧ ∀ a ∈ l, okRA a := by
  have hl := row_len h
  refine ⟨by omega, fun a ha => ?_⟩
  rw [rowM] at h
  split at h
  · cases h
  · rw [allI_iff] at h
    have hm := mem_sum3 (List.mem_map.2 ⟨a, ha, rfl⟩ : eAr a ∈ l.map eAr)
    simp only [eArs, bulk] at hb
    obtain ⟨j, hj, rfl⟩ := List.mem_iff_getElem.1 ha
    exact okRA_of hS hI (by omega) (h j hj)
theorem okRB_of {b : Bl} (hb : bulk (eBl b) ≤ 1048576) (h : checkB b = 0) : okRB b := by
  obtain ⟨_, hS, hC, hel, hs, hc⟩ := (checkB_zero b).1 h
  have e : bulk (eBl b) = bulk (eSos b.sorts) + (bulk (eCos b.cons) + 1) := by
    simp only [eBl, cBl, bulk, List.map_cons, List.sum_cons, List.map_nil, List.sum_nil, Nat.add_zero]
  have hI : ∀ s ∈ b.sorts, s.idx.length ≤ 12 := fun s hsm => by
    obtain ⟨j, hj, hjx⟩ := List.mem_iff_getElem.1 hsm
    have hsx := hs j hj
    rw [hjx, sortM] at hsx
    split at hsx
    · rename_i hr; exact row_len hr
    · cases hsx
  refine ⟨⟨by omega, fun x hx => ?_⟩, ⟨by omega, fun c hx => ?_⟩, level_rng hel⟩
  · have hm := mem_sum3 (List.mem_map.2 ⟨x, hx, rfl⟩ : eSo x ∈ b.sorts.map eSo)
    have e1 : bulk (eSos b.sorts) = ((b.sorts.map eSo).map bulk).sum + 1 := by simp only [eSos, bulk]
    have e2 : bulk (eSo x) = bulk (eArs x.idx) + (1 + (1 + bulk (.agg (cT x.dty)))) := by
      simp only [eSo, cSo, bulk, List.map_cons, List.map_append, List.sum_cons, List.sum_append, List.map_nil, List.sum_nil, List.cons_append, cT, eArs, List.nil_append]
    have h1 := term_bulk x.dty
    obtain ⟨j, hj, hjx⟩ := List.mem_iff_getElem.1 hx
    have hsx := hs j hj
    rw [hjx, sortM] at hsx
    split at hsx
    · rename_i hr
      split at hsx
      · rename_i hlv
        split at hsx
        · rename_i hmb
          exact ⟨okRAs_of hS hI (by omega) hr, level_rng hlv, maybe_okR (by omega) hmb⟩
        · cases hsx
      · cases hsx
    · cases hsx
  · have hm := mem_sum3 (List.mem_map.2 ⟨c, hx, rfl⟩ : eCo c ∈ b.cons.map eCo)
    have e1 : bulk (eCos b.cons) = ((b.cons.map eCo).map bulk).sum + 1 := by simp only [eCos, bulk]
    have e2 : bulk (eCo c) = 1 + (bulk (eArs c.args) + (bulk (eTs c.idx) + bulk (.agg (cT c.dec)))) := by
      simp only [eCo, cCo, bulk, List.map_cons, List.map_append, List.sum_cons, List.sum_append, List.map_nil, List.sum_nil, List.cons_append, cT, eArs, eTs, List.nil_append]
    have h1 := term_bulk c.dec
    have hcx := hc c hx
    rw [conM] at hcx
    split at hcx
    · cases hcx
    · rename_i hs0
      split at hcx
      · rename_i hr
        split at hcx
        · cases hcx
        · rename_i s hsg
          split at hcx
          · rename_i hix
            split at hcx
            · rename_i ha
              obtain ⟨hlt, hse⟩ := List.getElem?_eq_some_iff.1 hsg
              have := hI s (by rw [← hse]; exact List.getElem_mem _)
              exact ⟨by omega, okRAs_of hS hI (by omega) hr, ⟨by omega, okR_in (by omega) (all_check ha)⟩, maybe_okR (by omega) hcx⟩
            · cases hcx
          · cases hcx
      · cases hcx
theorem okRD_of {d : De} (hb : bulk (eDe d) ≤ 1048576) (h : rightM d = true) : okRD d := by
  refine ⟨h, ?_⟩
  have e := bulk_de d
  have h1 := term_bulk d.ty
  have h2 := term_bulk d.body
  obtain ⟨k, t, u, bl⟩ := d
  simp only at e h1 h2
  rw [rightM] at h
  simp only at h
  split at h
  · rename_i k1
    subst k1
    split at h
    · rename_i c1
      split at h
      · rename_i c2
        exact .inl ⟨t, .inr (gt_of2 (by omega) c1), by rw [(none_iff u).1 c2, (plain_iff bl).1 h]⟩
      · cases h
    · cases h
  · split at h
    · rename_i k1
      subst k1
      split at h
      · rename_i c1
        split at h
        · rename_i c2
          exact .inr (.inl ⟨t, u, .inr (gt_of2 (by omega) c1), .inr (gt_of2 (by omega) c2), by rw [(plain_iff bl).1 h]⟩)
        · cases h
      · cases h
    · split at h
      · rename_i k1
        subst k1
        split at h
        · rename_i c1
          split at h
          · rename_i c2
            exact .inr (.inr ⟨bl, okRB_of (by omega) (by simpa using h), by rw [(none_iff t).1 c1, (none_iff u).1 c2]⟩)
          · cases h
        · cases h
      · cases h
end
section
attribute [local simp] allD_map_d sks_map_d tk tn tks initA EndsM
set_option maxHeartbeats 4000000 in
theorem bytes20_12 (d : De) (h : okRD d) (hk : ¬ d.kind = 3) : Pure Tryz.prog n_porismref20_Bytes [eDe d] [eB (declW blkW d).flatten] := by
  refine p_porismref20_Bytes rfl fun hs => ?_
  obtain ⟨_, ⟨t, ht, rfl⟩ | ⟨t, u, ht, hu, rfl⟩ | ⟨bl, _, rfl⟩⟩ := h
  · have h1 := term20_ok t ht
    have hl : (pkO t).length ≤ 20000 := by
      rcases ht with rfl | hg
      · simp [pkO, none0]
      · have := pk_len t
        have := hg.n
        rw [pkO, hg.some]; simp; omega
    have r1 : 1 + (pkO t).length ≤ maxRoom := by simp only [maxRoom]; omega
    simp only [cT, eB] at h1
    simp -dsimp [x_porismref20_Bytes, eDe, cDe, cT, cBl, eSos, eCos]
    refine call_of h1 ?_
    simp -dsimp [r1, declW, eB, u8]
  · have h1 := term20_ok t ht
    have h2 := term20_ok u hu
    have hl : ∀ t, okR t → (pkO t).length ≤ 20000 := fun t ht => by
      rcases ht with rfl | hg
      · simp [pkO, none0]
      · have := pk_len t
        have := hg.n
        rw [pkO, hg.some]; simp; omega
    have l1 := hl t ht
    have l2 := hl u hu
    have r1 : 1 + (pkO t).length ≤ maxRoom := by simp only [maxRoom]; omega
    have r2 : (pkO t).length + 1 + (pkO u).length ≤ maxRoom := by simp only [maxRoom]; omega
    simp only [cT, eB] at h1 h2
    simp -dsimp [x_porismref20_Bytes, eDe, cDe, cT, cBl, eSos, eCos]
    refine call_of h1 ?_
    simp -dsimp [r1]
    refine call_of h2 ?_
    simp -dsimp [r2, declW, eB, u8]
  · exact absurd rfl hk
end
section
attribute [local simp] allD_map_d sks_map_d tk tn tks initA EndsM
set_option maxHeartbeats 8000000 in
theorem bytes20_3 (B : Bl) (ho : okRB B) (hb : (blkW B).flatten.length ≤ 50000000) : Pure Tryz.prog n_porismref20_Bytes [eDe ⟨3, T0, T0, B⟩] [eB (declW blkW ⟨3, T0, T0, B⟩).flatten] := by
  refine p_porismref20_Bytes rfl fun hs => ?_
  have hsl := ho.sorts.1
  have hcl := ho.cons.1
  have hle1 := before_le soW B.sorts
  have hle2 := before_le coW B.cons
  have hW : (declW blkW ⟨3, T0, T0, B⟩).flatten = u8 3 :: (u8 B.sorts.length :: ((B.sorts.map soW).flatten.flatten ++ (u8 B.cons.length :: ((B.cons.map coW).flatten.flatten ++ [u8 B.elim])))) := by
    simp [declW, blkW]
  simp only [blkW, List.flatten_append, List.length_append, List.flatten_cons, List.flatten_nil, List.length_cons, List.length_nil] at hb
  rw [hW]
  have r2 : 1 + 1 ≤ maxRoom := by simp only [maxRoom]; omega
  have r2' : 2 ≤ maxRoom := by simp only [maxRoom]; omega
  simp -dsimp [x_porismref20_Bytes, eDe, cDe, cT, cBl, eSos, eCos, r2, r2']
  refine wp_upto B.sorts.length (fun i st => st.s 4 = .ptr 4 1 0 ∧ st.h 4 = ⟨1, .box [.d (.sl 6 (B.sorts.map eSo)), .d (.sl 6 (B.cons.map eCo)), .d (.int .i64 B.elim)] false⟩ ∧ st.s 5 = .d (.int .i64 i) ∧ ∃ P v fz, P = (before soW B.sorts i).flatten ∧ st.s 3 = .rsl 38 v ∧ st.h 38 = ⟨v, .row 1 ((u8 3 :: u8 B.sorts.length :: P).map (.int .u8)) fz⟩) ?_ ?_
  · simp -dsimp [before_zero, u8]
  · rintro i ⟨s, hp⟩ hi ⟨e1, e2, e3, P, v, fz, eP, e4, e5⟩
    dsimp only at e1 e2 e3 e4 e5
    rcases Nat.lt_or_ge i B.sorts.length with hlt | hge
    · have w1 : IntKind.i64.wrap ((i : Int) + 1) = (i : Int) + 1 := wrap_id (by omega) (by omega)
      obtain ⟨a, ha⟩ : ∃ a, B.sorts[i] = a := ⟨_, rfl⟩
      have hoa := ho.sorts.2 B.sorts[i] (List.getElem_mem _)
      have hnx := before_next soW B.sorts hlt
      have hle := hle1 (i + 1)
      rw [ha] at hoa hnx
      have e6 : (before soW B.sorts (i + 1)).flatten = P ++ ((argsW a.idx).flatten ++ ([u8 a.level] ++ ([fl a.dec] ++ pkO a.dty))) := by
        rw [hnx, List.flatten_append, ← eP, soW]; simp only [List.flatten_append, List.flatten_cons, List.flatten_nil, List.append_nil, List.append_assoc]
      rw [e6] at hle ⊢
      simp only [List.length_append, List.length_cons, List.length_nil] at hle
      have h1 := args20_ok a.idx hoa.idx.2 (by omega)
      have h2 := flag20_ok a.dec
      have h3 := term20_ok a.dty hoa.dty
      simp only [cT, eArs, eB] at h1 h3
      generalize (argsW a.idx).flatten = Z1 at *
      generalize pkO a.dty = Z2 at *
      have r3 : P.length + 1 + 1 + Z1.length ≤ maxRoom := by simp only [maxRoom]; omega
      have r4 : P.length + Z1.length + 1 + 1 + 2 ≤ maxRoom := by simp only [maxRoom]; omega
      have r5 : P.length + (Z1.length + 2) + 1 + 1 + Z2.length ≤ maxRoom := by simp only [maxRoom]; omega
      simp -dsimp [e1, e2, e3, e4, e5, hlt, ha, eSo, cSo, cT, eArs]
      refine call_of h1 ?_
      simp -dsimp [r3, e5]
      refine call_of h2 ?_
      simp -dsimp [r4, e5]
      refine call_of h3 ?_
      simp -dsimp [r5, w1, hlt, e1, e2, e3, e5, u8]
    · have e : i = B.sorts.length := by omega
      subst e
      rw [before_all] at eP
      have r3 : P.length + 1 + 1 + 1 ≤ maxRoom := by rw [eP]; simp only [maxRoom]; omega
      simp -dsimp [e1, e2, e3, e4, e5, r3]
      refine wp_upto B.cons.length (fun i st => st.s 4 = .ptr 4 1 0 ∧ st.h 4 = ⟨1, .box [.d (.sl 6 (B.sorts.map eSo)), .d (.sl 6 (B.cons.map eCo)), .d (.int .i64 B.elim)] false⟩ ∧ st.s 7 = .d (.int .i64 i) ∧ ∃ R v fz, R = (before coW B.cons i).flatten ∧ st.s 3 = .rsl 38 v ∧ st.h 38 = ⟨v, .row 1 ((u8 3 :: u8 B.sorts.length :: (P ++ (u8 B.cons.length :: R))).map (.int .u8)) fz⟩) ?_ ?_
      · simp -dsimp [before_zero, u8, e1, e2]
      · clear e1 e2 e3 e4 e5
        rintro i ⟨s, hp⟩ hi ⟨e1, e2, e3, R, v, fz, eR, e4, e5⟩
        dsimp only at e1 e2 e3 e4 e5
        rcases Nat.lt_or_ge i B.cons.length with hlt | hge
        · have w1 : IntKind.i64.wrap ((i : Int) + 1) = (i : Int) + 1 := wrap_id (by omega) (by omega)
          obtain ⟨a, ha⟩ : ∃ a, B.cons[i] = a := ⟨_, rfl⟩
          have hoa := ho.cons.2 B.cons[i] (List.getElem_mem _)
          have hnx := before_next coW B.cons hlt
          have hle := hle2 (i + 1)
          rw [ha] at hoa hnx
          have e6 : (before coW B.cons (i + 1)).flatten = R ++ ([u8 a.sort] ++ ((argsW a.args).flatten ++ ((rowW a.idx).flatten ++ pkO a.dec))) := by
            rw [hnx, List.flatten_append, ← eR, coW]; simp only [List.flatten_append, List.flatten_cons, List.flatten_nil, List.append_nil, List.append_assoc]
          rw [e6] at hle ⊢
          simp only [List.length_append, List.length_cons, List.length_nil] at hle
          have hPl : P.length = (B.sorts.map soW).flatten.flatten.length := by rw [eP]
          have h1 := args20_ok a.args hoa.args.2 (by omega)
          have h2 := row20_ok a.idx hoa.idx.2 (by omega)
          have h3 := term20_ok a.dec hoa.dec
          simp only [cT, eArs, eTs, eB] at h1 h2 h3
          generalize (argsW a.args).flatten = Z1 at *
          generalize (rowW a.idx).flatten = Z2 at *
          generalize pkO a.dec = Z3 at *
          have r3 : P.length + (R.length + 1) + 1 + 1 + 1 ≤ maxRoom := by simp only [maxRoom]; omega
          have r4 : P.length + (R.length + 1 + 1) + 1 + 1 + Z1.length ≤ maxRoom := by simp only [maxRoom]; omega
          have r5 : P.length + (R.length + (Z1.length + 1) + 1) + 1 + 1 + Z2.length ≤ maxRoom := by simp only [maxRoom]; omega
          have r6 : P.length + (R.length + (Z1.length + Z2.length + 1) + 1) + 1 + 1 + Z3.length ≤ maxRoom := by simp only [maxRoom]; omega
          simp -dsimp [e1, e2, e3, e4, e5, hlt, ha, eCo, cCo, cT, eArs, eTs, r3]
          refine call_of h1 ?_
          simp -dsimp [r4, e5]
          refine call_of h2 ?_
          simp -dsimp [r5, e5]
          refine call_of h3 ?_
          simp -dsimp [r6, w1, hlt, e1, e2, e3, e5, u8]
        · have e : i = B.cons.length := by omega
          subst e
          rw [before_all] at eR
          have hPl : P.length + R.length ≤ 50000000 := by rw [eP, eR]; omega
          have r4 : P.length + (R.length + 1) + 1 + 1 + 1 ≤ maxRoom := by simp only [maxRoom]; omega
          rw [← eP, ← eR]
          simp -dsimp [e1, e2, e3, e4, e5, r4, eB, u8]
end
section
attribute [local simp] allD_map_d sks_map_d tk tn tks initA EndsM
end
section
attribute [local simp] allD_map_d sks_map_d tk tn tks initA EndsM
theorem putE_zero {bw : Bl → List (List Int)} {l : List De} (h : putE bw l = 0) : l.length ≤ 60 ∧ badD l = false ∧ (putW bw l).length ≤ 65536 ∧ putL bw l = putW bw l := by
  rw [putE] at h
  rw [putL]
  split at h
  · omega
  · rename_i h1
    rw [if_neg h1]
    split at h
    · omega
    · rename_i h2
      rw [if_neg h2]
      split at h
      · omega
      · rename_i h3
        rw [if_neg h3]
        exact ⟨by omega, by simpa using h2, by omega, rfl⟩
end
section
attribute [local simp] allD_map_d sks_map_d tk tn tks initA EndsM
def byteLL (ws : List (List Int)) : Prop := ∀ w ∈ ws, byteL w
theorem byteLL_flat {ws : List (List Int)} (h : byteLL ws) : byteL ws.flatten := fun x hx => by
  obtain ⟨w, hw, hxw⟩ := List.mem_flatten.1 hx
  exact h w hw x hxw
theorem byteLL_app {a c : List (List Int)} (h : byteLL a) (k : byteLL c) : byteLL (a ++ c) := fun w hw => by
  rcases List.mem_append.1 hw with hw | hw
  · exact h w hw
  · exact k w hw
theorem byteLL_rep {α : Type} {f : α → List (List Int)} (h : ∀ x, byteLL (f x)) (l : List α) : byteLL (l.map f).flatten := fun w hw => by
  obtain ⟨q, hq, hwq⟩ := List.mem_flatten.1 hw
  obtain ⟨x, _, rfl⟩ := List.mem_map.1 hq
  exact h x w hwq
theorem byteLL_one {w : List Int} (h : byteL w) : byteLL [w] := fun x hx => by simp at hx; subst hx; exact h
theorem byte_u8 (n : Int) : byteL [u8 n] := fun x hx => by simp at hx; subst hx; exact u8_rng n
theorem byte_fl (is : Bool) : byteL [fl is] := fun x hx => by simp at hx; subst hx; cases is <;> simp [fl]
theorem byte_pkO (t : T) : byteL (pkO t) := by
  rw [pkO]
  split
  · intro x hx; simp at hx; subst hx; omega
  · exact pk_byte t
theorem byte_row (l : List T) : byteLL (rowW l) := byteLL_app (a := [[u8 l.length]]) (byteLL_one (byte_u8 _)) (byteLL_rep (fun t => byteLL_one (byte_pkO t)) l)
theorem byte_arg (a : Ar) : byteLL (argW a) := byteLL_app (byteLL_app (byteLL_app (byteLL_app (byteLL_one (byte_fl _)) (byteLL_one (byte_pkO _))) (byte_row _)) (byteLL_one (byte_u8 _))) (byte_row _)
theorem byte_args (l : List Ar) : byteLL (argsW l) := byteLL_app (a := [[u8 l.length]]) (byteLL_one (byte_u8 _)) (byteLL_rep byte_arg l)
theorem byte_so (x : So) : byteLL (soW x) := byteLL_app (byteLL_app (byteLL_app (byte_args _) (byteLL_one (byte_u8 _))) (byteLL_one (byte_fl _))) (byteLL_one (byte_pkO _))
theorem byte_co (x : Co) : byteLL (coW x) := byteLL_app (byteLL_app (byteLL_app (byteLL_one (byte_u8 _)) (byte_args _)) (byte_row _)) (byteLL_one (byte_pkO _))
theorem byte_blk (x : Bl) : byteLL (blkW x) := byteLL_app (byteLL_app (byteLL_app (byteLL_app (byteLL_one (byte_u8 _)) (byteLL_rep byte_so _)) (byteLL_one (byte_u8 _))) (byteLL_rep byte_co _)) (byteLL_one (byte_u8 _))
theorem byte_decl (d : De) : byteLL (declW blkW d) := by
  rw [declW]
  by_cases k1 : d.kind = 1
  · rw [if_pos k1]
    exact byteLL_app (a := [[u8 d.kind]]) (byteLL_one (byte_u8 _)) (byteLL_one (byte_pkO _))
  · rw [if_neg k1]
    by_cases k2 : d.kind = 2
    · rw [if_pos k2]
      exact byteLL_app (a := [[u8 d.kind]]) (byteLL_one (byte_u8 _)) (byteLL_app (a := [pkO d.ty]) (byteLL_one (byte_pkO _)) (byteLL_one (byte_pkO _)))
    · rw [if_neg k2]
      exact byteLL_app (a := [[u8 d.kind]]) (byteLL_one (byte_u8 _)) (byte_blk _)
theorem byte_put (l : List De) : byteL (putW blkW l) := by
  have := byteLL_flat (byteLL_app (a := [[u8 l.length]]) (byteLL_one (byte_u8 _)) (byteLL_rep byte_decl l))
  simpa [putW] using this
theorem put_facts {l : List De} (hb : bulk (eDes l) ≤ 1048576) (h : putE blkW l = 0) : (∀ d ∈ l, okRD d) ∧ l.length ≤ 60 ∧ (putW blkW l).length ≤ 65536 ∧ 1 ≤ (putW blkW l).length ∧ putL blkW l = putW blkW l := by
  obtain ⟨h1, h2, h3, h4⟩ := putE_zero h
  refine ⟨fun d hd => okRD_of ?_ ?_, h1, h3, by rw [putW]; simp, h4⟩
  · have hm := mem_sum3 (List.mem_map.2 ⟨d, hd, rfl⟩ : eDe d ∈ l.map eDe)
    simp only [eDes, bulk] at hb
    omega
  · rw [badD, List.any_eq_false] at h2
    have := h2 d hd
    simpa using this
end
section
attribute [local simp] allD_map_d sks_map_d tk tn tks initA EndsM
theorem bytes20_ok (d : De) (hb : bulk (eDe d) ≤ 1048576) (h : rightM d = true) : Pure Tryz.prog n_porismref20_Bytes [eDe d] [eB (declW blkW d).flatten] := by
  have ho := okRD_of hb h
  by_cases hk : d.kind = 3
  · obtain ⟨_, ⟨t, ht, rfl⟩ | ⟨t, u, ht, hu, rfl⟩ | ⟨bl, hbl, rfl⟩⟩ := ho
    · cases hk
    · cases hk
    · refine bytes20_3 bl hbl ?_
      have h1 := blkW_len bl
      have h2 := bulk_de ⟨3, T0, T0, bl⟩
      simp only at h2
      omega
  · exact bytes20_12 d ho hk
set_option maxHeartbeats 4000000 in
theorem put20_ok (l : List De) (hb : bulk (eDes l) ≤ 1048576) : Pure Tryz.prog n_porismref20_Put [eDes l] [eB (putL blkW l), .int .i64 (putE blkW l)] := by
  refine p_porismref20_Put rfl fun hs => ?_
  have hln := hs (eDes l) (by simp)
  simp [eDes, small] at hln
  replace hln := hln.1
  have hd : ∀ d ∈ l, bulk (eDe d) ≤ 1048576 := fun d hx => by
    have hm := mem_sum3 (List.mem_map.2 ⟨d, hx, rfl⟩ : eDe d ∈ l.map eDe)
    simp only [eDes, bulk] at hb
    omega
  have hlen := putW_len l
  by_cases g0 : 60 < (l.length : Int)
  · simp -dsimp [x_porismref20_Put, eDes, g0, putL, putE, eB]
  simp -dsimp [x_porismref20_Put, eDes, g0]
  refine wp_upto l.length (fun i st => badD (l.take i) = false ∧ st.s 0 = .d (.sl 10 (l.map eDe)) ∧ st.s 4 = .d (.int .i64 i)) ?_ ?_
  · simp -dsimp [badD]
  · rintro i ⟨s, hp⟩ hi ⟨hbd, e0, e1⟩
    dsimp only at e0 e1
    rcases Nat.lt_or_ge i l.length with hlt | hge
    · have w1 : IntKind.i64.wrap ((i : Int) + 1) = (i : Int) + 1 := wrap_id (by omega) (by omega)
      have hC := decl20_ok l[i]
      have hx := fun h : rightM l[i] = true => any_snoc (p := fun d => !rightM d) hlt hbd (by simp [h])
      have hy := fun h : rightM l[i] = false => any_mem (p := fun d => !rightM d) hlt (by simp [h])
      simp only [eDe, cDe, cT, cBl, eSos, eCos, List.cons_append, List.nil_append] at hC
      simp -dsimp [e0, e1, hlt, eDe, cDe, cT, cBl, eSos, eCos]
      refine call_of hC ?_
      cases hr : rightM l[i]
      · simp -dsimp [hr, putL, putE, g0, badD, hy hr, eB]
      · simp -dsimp [hr, e0, e1, w1, badD, hx hr, hlt, eDe, cDe, cT, cBl, eSos, eCos]
    · have e : i = l.length := by omega
      subst e
      have hb0 : badD l = false := by rwa [List.take_length] at hbd
      have hle := before_le (declW blkW) l
      have hlen2 : (l.map (declW blkW)).flatten.flatten.length + 1 ≤ 3 * bulk (eDes l) := by simpa only [putW, List.length_cons] using hlen
      simp -dsimp [e0, e1]
      refine wp_upto l.length (fun i st => st.s 0 = .d (.sl 10 (l.map eDe)) ∧ st.s 6 = .d (.int .i64 i) ∧ ∃ P c, P = (before (declW blkW) l i).flatten ∧ st.s 5 = c ∧ grows 38 (u8 l.length :: P) c st.h) ?_ ?_
      · simp -dsimp [before_zero, grows, u8, e0]
      · clear e0 e1 s hp
        rintro i ⟨s, hp⟩ hi ⟨e0, e1, P, c, eP, e3, e4⟩
        dsimp only at e0 e1 e3 e4
        rcases Nat.lt_or_ge i l.length with hlt | hge
        · have w1 : IntKind.i64.wrap ((i : Int) + 1) = (i : Int) + 1 := wrap_id (by omega) (by omega)
          have hR : rightM l[i] = true := by
            cases hr : rightM l[i]
            · exact absurd hb0 (by rw [badD, any_mem (p := fun d => !rightM d) hlt (by simp [hr])]; simp)
            · rfl
          have hT := bytes20_ok l[i] (hd _ (List.getElem_mem _)) hR
          have hnx := before_next (declW blkW) l hlt
          have hle1 := hle (i + 1)
          have e5 : (before (declW blkW) l (i + 1)).flatten = P ++ (declW blkW l[i]).flatten := by rw [hnx, List.flatten_append, ← eP]
          rw [e5, List.length_append] at hle1
          have hr : P.length + 1 + (declW blkW l[i]).flatten.length ≤ maxRoom := by simp only [maxRoom]; omega
          rw [e5]
          generalize (declW blkW l[i]).flatten = Z at *
          simp only [eDe, cDe, cT, cBl, eSos, eCos, eB, List.cons_append, List.nil_append] at hT
          rcases e4 with rfl | ⟨v, fz, rfl, e4⟩
          · simp -dsimp [e0, e1, e3, hlt, eDe, cDe, cT, cBl, eSos, eCos]
            refine call_of hT ?_
            simp -dsimp [e0, e1, e3, hlt, w1, hr, grows]
          · simp -dsimp [e0, e1, e3, e4, hlt, eDe, cDe, cT, cBl, eSos, eCos]
            refine call_of hT ?_
            simp -dsimp [e0, e1, e3, e4, hlt, w1, hr, grows]
        · have e : i = l.length := by omega
          subst e
          rw [before_all] at eP
          have hPW : putW blkW l = u8 l.length :: P := by rw [putW, ← eP]
          by_cases g3 : (65536 : Int) < (P.length : Int) + 1
          · rcases e4 with rfl | ⟨v, fz, rfl, e4⟩
            · simp -dsimp [e0, e1, e3, putL, putE, g0, hb0, eB, hPW, g3]
            · simp -dsimp [e0, e1, e3, e4, putL, putE, g0, hb0, eB, hPW, g3]
          · rcases e4 with rfl | ⟨v, fz, rfl, e4⟩
            · simp -dsimp [e0, e1, e3, putL, putE, g0, hb0, eB, hPW, g3]
            · simp -dsimp [e0, e1, e3, e4, putL, putE, g0, hb0, eB, hPW, g3]
end
section
attribute [local simp] allD_map_d sks_map_d tk tn tks initA EndsM
theorem getPut_ok {l : List De} (hb : bulk (eDes l) ≤ 1048576) (h : putE blkW l = 0) : Pure Tryz.prog n_pile_Get [eB (putW blkW l)] [eDes l, .int .i64 0] := by
  obtain ⟨ol, hl, hA, _, _⟩ := put_facts hb h
  have h1 := get_cpl (rest := []) hl ol (by simp; omega)
  rw [List.append_nil] at h1
  have h2 := getF_ok (putW blkW l) (byte_put l)
  have h3 : getOk (putW blkW l) = true := by rw [getOk, h1]; simp
  have hn : ¬ (65536 : Int) < ((putW blkW l).length : Int) := by omega
  rw [h3, h1] at h2
  simpa [hn] using h2
set_option maxHeartbeats 8000000 in
theorem exact22_law (l : List De) (ho : okDes l) (hb : bulk (eDes l) ≤ 1048576) : Pure Tryz.prog n_porismlaw22_PileExact [eDes l] [.bool true] := by
  refine p_porismlaw22_PileExact rfl fun hs => ?_
  have hH := heavy22_ok l
  have hP := putB_ok l hb
  have hP2 := put20_ok l hb
  have hD := keepDecls_ok l
  have hK := keepBytes_ok (putL blkW l) (putL blkW l)
  simp only [eDes, eB, decide_true] at hH hP hP2 hD hK
  simp -dsimp [x_porismlaw22_PileExact, eDes]
  refine call_of hH ?_
  cases g : heavy22 l
  case true => simp -dsimp
  have hl70 : l.length ≤ 70 := by
    rw [heavy22] at g
    split at g
    · cases g
    · omega
  simp -dsimp
  refine wp_upto l.length (fun i st => st.s 0 = .d (.sl 10 (l.map eDe)) ∧ st.s 4 = .d (.int .i64 i) ∧ ∃ v', st.s 3 = .rsl 3 v' ∧ st.h 3 = ⟨v', .row 10 ((l.take i).map eDe) false⟩) ?_ ?_
  · simp -dsimp
  · rintro i ⟨s, hp⟩ hi ⟨e0, e1, v', e3, e4⟩
    dsimp only at e0 e1 e3 e4
    rcases Nat.lt_or_ge i l.length with hlt | hge
    · have w1 : IntKind.i64.wrap ((i : Int) + 1) = (i : Int) + 1 := wrap_id (by omega) (by omega)
      have hr : (i + 1) * 144 ≤ maxRoom := by simp only [maxRoom]; omega
      have hmin : min i l.length = i := by omega
      obtain ⟨d, hd⟩ : ∃ d, l[i] = d := ⟨_, rfl⟩
      have hod : okDe d := by rw [← hd]; exact ho.2 _ (List.getElem_mem _)
      have hT := twinDecl_ok d hod
      have hC := checkD_ok d
      have hR := decl20_ok d
      have hnx : (l.take (i + 1)).map eDe = (l.take i).map eDe ++ [eDe d] := by rw [List.take_succ_eq_append_getElem hlt, List.map_append, hd]; rfl
      rw [hnx]
      simp only [eDe, cDe, cT, cBl, eSos, eCos, List.cons_append, List.nil_append] at hT hC hR
      simp -dsimp [e0, e1, e3, e4, hlt, hd, eDe, cDe, cT, cBl, eSos, eCos]
      refine call_of hT ?_
      have gi : (i : Int) < (i : Int) + 1 := by omega
      have hgd : (l.map eDe)[i]? = some (eDe d) := by rw [List.getElem?_map, List.getElem?_eq_getElem hlt, hd]; rfl
      simp -dsimp [e0, e1, e3, e4, hlt, hd, hmin, hr, gi]
      refine call_of hC ?_
      cases hrt : rightM d
      all_goals
        rw [hrt] at hC hR
        simp only [if_true, Bool.false_eq_true, if_false] at hC
        simp -dsimp [e0, e1, e3, e4, hlt, hd, hmin, hr, gi, hrt, eDe, cDe, cT, cBl, eSos, eCos]
        refine call_of hR ?_
        simp -dsimp [e0, e1, e3, e4, hlt, hd, hmin, hr, gi, hrt, w1, eDe, cDe, cT, cBl, eSos, eCos]
        refine call_of hC ?_
        first
          | (simp -dsimp [e0, e1, e3, e4, hlt, hd, hmin, hr, gi, hrt, w1, eDe, cDe, cT, cBl, eSos, eCos]; done)
          | (simp -dsimp [e0, e1, e3, e4, hlt, hd, hmin, hr, gi, hrt, w1, eDe, cDe, cT, cBl, eSos, eCos]
             refine call_of hC ?_
             simp -dsimp [e0, e1, e3, e4, hlt, hd, hmin, hr, gi, hrt, w1, eDe, cDe, cT, cBl, eSos, eCos])
    · have e : i = l.length := by omega
      subst e
      rw [List.take_length] at e4
      simp -dsimp [e0, e1, e3, e4]
      refine call_of hP ?_
      simp -dsimp [e0, e1, e3, e4]
      refine call_of hP2 ?_
      simp -dsimp [e0, e1, e3, e4]
      refine call_of hK ?_
      simp -dsimp [e0, e1, e3, e4]
      refine call_of hD ?_
      by_cases hE : putE blkW l = 0
      · have hG := getPut_ok hb hE
        rw [← (putE_zero hE).2.2.2] at hG
        simp only [eDes, eB] at hG
        simp -dsimp [e0, hE]
        refine call_of hG ?_
        simp -dsimp [e0]
        refine call_of hD ?_
        simp -dsimp
        refine call_of wakes22_ok ?_
        simp -dsimp
      · simp -dsimp [hE]
        refine call_of wakes22_ok ?_
        simp -dsimp
end
end Ev
end Go.Proofs.YtgiejcndcbanjaaGreat
