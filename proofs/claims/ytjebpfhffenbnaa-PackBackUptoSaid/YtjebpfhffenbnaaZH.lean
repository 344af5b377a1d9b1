/- pack.Get; what is compared. -/
import Derived.Test.YtjebpfhffenbnaaZF
import Derived.Test.YtjebpfhffenbnaaZG
namespace Go.Proofs.Ytjebpfhffenbnaa
namespace Ev
open Go
set_option maxRecDepth 100000
set_option linter.unusedSimpArgs false
set_option linter.unusedVariables false
attribute [local simp] allD_map_d sks_map_d tk tn tks initA EndsM
noncomputable def eqT (t u : T) : Bool := @decide (t = u) (Classical.propDecidable _)
noncomputable def eqTs (l m : List T) : Bool := @decide (l = m) (Classical.propDecidable _)
theorem eqT_iff (t u : T) : eqT t u = true ↔ t = u := by simp [eqT]
theorem eqTs_iff (t u : List T) : eqTs t u = true ↔ t = u := by simp [eqTs]
theorem eqT_not (t u : T) : eqT t u = false ↔ ¬ t = u := by simp [eqT]
theorem eqTs_not (t u : List T) : eqTs t u = false ↔ ¬ t = u := by simp [eqTs]
theorem take_eq_next {α : Type} {l m : List α} {i : Nat} (h1 : i < l.length) (h2 : i < m.length) (h : l.take i = m.take i) (he : l[i] = m[i]) : l.take (i + 1) = m.take (i + 1) := by
  rw [List.take_add_one, List.take_add_one, h, List.getElem?_eq_getElem h1, List.getElem?_eq_getElem h2, he]
theorem keepBytes_ok (l m : List Int) : Pure Try.prog n_porismkeep_Bytes [eB l, eB m] [.bool (decide (l = m))] := by
  refine p_porismkeep_Bytes rfl fun hs => ?_
  have hl := hs (eB l) (by simp)
  simp [eB, small] at hl
  simp -dsimp [x_porismkeep_Bytes, eB]
  (first | refine Ask_b ?_ ?_ | refine Cnd_b ?_ ?_) <;> intro g1 <;> (try simp only [decide_eq_true_eq, decide_eq_false_iff_not, beq_iff_eq, beq_eq_false_iff_ne, bne_iff_ne, bne_eq_false_iff_eq, Bool.not_eq_true', Bool.not_eq_false', Bool.and_eq_true, Bool.or_eq_true, Bool.and_eq_false_iff, Bool.or_eq_false_iff] at g1) <;> simp -dsimp [g1]
  · have : ¬ l = m := fun h => g1 (by rw [h])
    simp [this]
  replace g1 : l.length = m.length := by omega
  refine wp_upto l.length (fun i st => st.s 0 = .d (.sl 1 (l.map (.int .u8))) ∧ st.s 1 = .d (.sl 1 (m.map (.int .u8))) ∧ st.s 5 = .d (.int .i64 i) ∧ l.take i = m.take i) ?_ ?_
  · simp -dsimp
  · rintro i ⟨s, hp⟩ hi ⟨e1, e2, e3, e4⟩
    dsimp only at e1 e2 e3
    rcases Nat.lt_or_ge i l.length with hlt | hge
    · have w1 : IntKind.i64.wrap ((i : Int) + 1) = (i : Int) + 1 := wrap_id (by omega) (by omega)
      have hlt2 : i < m.length := by omega
      by_cases he : l[i] = m[i]
      · simp -dsimp [e1, e2, e3, hlt, hlt2, he, w1]
        exact take_eq_next hlt hlt2 e4 he
      · simp -dsimp [e1, e2, e3, hlt, hlt2, he, w1]
        intro h
        exact he (by simp [h])
    · have e : i = l.length := by omega
      subst e
      rw [List.take_length, g1, List.take_length] at e4
      simp -dsimp [e1, e2, e3, e4]
theorem keepTerms2_of (l m : List T) (h : ∀ x ∈ l, ∀ y, Pure Try.prog n_porismkeep_Term [.agg (cT x), .agg (cT y)] [.bool (eqT x y)]) : Pure Try.prog n_porismkeep_Terms [eTs l, eTs m] [.bool (eqTs l m)] := by
  refine p_porismkeep_Terms rfl fun hs => ?_
  have hl := hs (eTs l) (by simp)
  simp [eTs, small] at hl
  replace hl := hl.1
  simp -dsimp [x_porismkeep_Terms, eTs]
  (first | refine Ask_b ?_ ?_ | refine Cnd_b ?_ ?_) <;> intro g1 <;> (try simp only [decide_eq_true_eq, decide_eq_false_iff_not, beq_iff_eq, beq_eq_false_iff_ne, bne_iff_ne, bne_eq_false_iff_eq, Bool.not_eq_true', Bool.not_eq_false', Bool.and_eq_true, Bool.or_eq_true, Bool.and_eq_false_iff, Bool.or_eq_false_iff] at g1) <;> simp -dsimp [g1]
  · exact (eqTs_not l m).2 fun h => g1 (by rw [h])
  replace g1 : l.length = m.length := by omega
  refine wp_upto l.length (fun i st => st.s 0 = .d (.sl 3 (l.map eT)) ∧ st.s 1 = .d (.sl 3 (m.map eT)) ∧ st.s 5 = .d (.int .i64 i) ∧ l.take i = m.take i) ?_ ?_
  · simp -dsimp
  · rintro i ⟨s, hp⟩ hi ⟨e1, e2, e3, e4⟩
    dsimp only at e1 e2 e3
    rcases Nat.lt_or_ge i l.length with hlt | hge
    · have w1 : IntKind.i64.wrap ((i : Int) + 1) = (i : Int) + 1 := wrap_id (by omega) (by omega)
      have hlt2 : i < m.length := by omega
      have hI := h l[i] (List.getElem_mem _) m[i]
      simp -dsimp [e1, e2, e3, hlt, hlt2, w1, cT]
      simp only [cT] at hI
      refine call_of hI ?_
      cases he : eqT l[i] m[i]
      · have hne := (eqT_not _ _).1 he
        simp -dsimp [e1, e2, e3, hlt, hlt2, w1, he]
        refine (eqTs_not l m).2 fun h => hne ?_
        simp [h]
      · have hee := (eqT_iff _ _).1 he
        simp -dsimp [e1, e2, e3, hlt, hlt2, w1, he]
        exact take_eq_next hlt hlt2 e4 hee
    · have e : i = l.length := by omega
      subst e
      rw [List.take_length, g1, List.take_length] at e4
      simp -dsimp [e1, e2, e3, e4]
      exact (eqTs_iff m m).2 rfl
theorem keepTerm2_ok (t : T) : ∀ u, Pure Try.prog n_porismkeep_Term [.agg (cT t), .agg (cT u)] [.bool (eqT t u)] := by
  induction t using T.ind with
  | h k n ks ih =>
    rintro ⟨k', n', ks'⟩
    refine p_porismkeep_Term rfl fun hs => ?_
    have hT := keepTerms2_of ks ks' ih
    simp only [eTs] at hT
    have hE : eqT (.mk k n ks) (.mk k' n' ks') = (decide (k = k') && decide (n = n') && eqTs ks ks') := by
      rw [Bool.eq_iff_iff]
      simp [eqT_iff, eqTs_iff, and_assoc]
    rw [hE]
    simp -dsimp [x_porismkeep_Term, cT]
    (first | refine Ask_b ?_ ?_ | refine Cnd_b ?_ ?_) <;> intro g1 <;> (try simp only [decide_eq_true_eq, decide_eq_false_iff_not, beq_iff_eq, beq_eq_false_iff_ne, bne_iff_ne, bne_eq_false_iff_eq, Bool.not_eq_true', Bool.not_eq_false', Bool.and_eq_true, Bool.or_eq_true, Bool.and_eq_false_iff, Bool.or_eq_false_iff] at g1) <;> simp -dsimp [g1]
    (first | refine Ask_b ?_ ?_ | refine Cnd_b ?_ ?_) <;> intro g2 <;> (try simp only [decide_eq_true_eq, decide_eq_false_iff_not, beq_iff_eq, beq_eq_false_iff_ne, bne_iff_ne, bne_eq_false_iff_eq, Bool.not_eq_true', Bool.not_eq_false', Bool.and_eq_true, Bool.or_eq_true, Bool.and_eq_false_iff, Bool.or_eq_false_iff] at g2) <;> simp -dsimp [g2, g1]
    refine call_of hT ?_
    simp -dsimp [g1, g2]
def T0 : T := .mk 0 0 []
/-- What is read from a place on. -/
def getS (b : List Int) (at_ : Int) : T × RS := readS 201 1 ⟨b.drop at_.toNat, 0, false⟩
def getT (b : List Int) (at_ : Int) : T := if at_ < 0 ∨ (b.length : Int) < at_ then T0 else if (getS b at_).2.bad = true then T0 else (getS b at_).1
def getN (b : List Int) (at_ : Int) : Int := if at_ < 0 ∨ (b.length : Int) < at_ then 0 else if (getS b at_).2.bad = true then 0 else IntKind.i64.wrap ((b.length : Int) - (getS b at_).2.left.length)
def getE (b : List Int) (at_ : Int) : Int := if at_ < 0 ∨ (b.length : Int) < at_ then 1 else if (getS b at_).2.bad = true then 3 else 0
theorem get_ok (b : List Int) (at_ : Int) : Pure Try.prog n_pack_Get [eB b, .int .i64 at_] [.agg (cT (getT b at_)), .int .i64 (getN b at_), .int .i64 (getE b at_)] := by
  refine p_pack_Get rfl fun hs => ?_
  simp -dsimp [x_pack_Get, eB]
  by_cases h0 : at_ < 0
  · have e1 : getT b at_ = T0 := by rw [getT, if_pos (.inl h0)]
    have e2 : getN b at_ = 0 := by rw [getN, if_pos (.inl h0)]
    have e3 : getE b at_ = 1 := by rw [getE, if_pos (.inl h0)]
    simp -dsimp [h0, e1, e2, e3, T0, cT]
  by_cases h1 : (b.length : Int) < at_
  · have e1 : getT b at_ = T0 := by rw [getT, if_pos (.inr h1)]
    have e2 : getN b at_ = 0 := by rw [getN, if_pos (.inr h1)]
    have e3 : getE b at_ = 1 := by rw [getE, if_pos (.inr h1)]
    simp -dsimp [h0, h1, e1, e2, e3, T0, cT]
  have hc : ¬ (at_ < 0 ∨ (b.length : Int) < at_) := by omega
  have h2 : 0 ≤ at_ := by omega
  have h3 : at_ ≤ (b.length : Int) := by omega
  have hR := read_ok 201 1 1 ⟨b.drop at_.toNat, 0, false⟩ (by omega) (by omega) (by omega)
  rw [show readS 201 1 ⟨b.drop at_.toNat, 0, false⟩ = getS b at_ from rfl] at hR
  rw [getT, getN, getE, if_neg hc, if_neg hc, if_neg hc]
  have hT : (b.map (D.int .u8)).take b.length = b.map (D.int .u8) := List.take_of_length_le (by simp)
  simp -dsimp [h0, h1, h2, h3, hT]
  generalize getS b at_ = q at *
  obtain ⟨t, l, n, bd⟩ := q
  refine callM_of hR (by simp [rH]) ?_
  cases bd
  · simp -dsimp [mergeK_cons, mergeK_nil, rH, h0, h1, T0, cT]
  · simp -dsimp [mergeK_cons, mergeK_nil, rH, h0, h1, T0, cT]
end Ev
end Go.Proofs.Ytjebpfhffenbnaa
