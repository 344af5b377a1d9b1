/- The document's answers for layer 6: spines, telescopes. -/
import Derived.Test.YtjebpfhffenbnaaGreatQ1
import Derived.Test.YtjebpfhffenbnaaGreatRA
namespace Go.Proofs.YtjebpfhffenbnaaGreat
namespace Ev
open Go
set_option maxRecDepth 100000
set_option linter.unusedSimpArgs false
set_option linter.unusedVariables false
attribute [local simp] allD_map_d sks_map_d tk tn tks

theorem runspine_own (t : T) : okT t → (spA t).length ≤ 1000000 → OwnC Tryz.prog n_porismref01_Unspine [.agg (cT t)] [.agg [.d (.int .i64 (spH t).kind), .d (.int .i64 (spH t).num), .d (.sl 3 ((spH t).kids.map eT))], .one (.row 3 ((spA t).reverse.map eT) false)] := by
  refine T.ind (p := fun t => okT t → (spA t).length ≤ 1000000 → OwnC Tryz.prog n_porismref01_Unspine [.agg (cT t)] [.agg [.d (.int .i64 (spH t).kind), .d (.int .i64 (spH t).num), .d (.sl 3 ((spH t).kids.map eT))], .one (.row 3 ((spA t).reverse.map eT) false)]) ?_ t
  intro k n ks ih ho hb
  refine o_porismref01_Unspine rfl fun hs => ?_
  by_cases hc : k = 6 ∧ ∃ a b, ks = [a, b]
  · obtain ⟨rfl, a, b, rfl⟩ := hc
    rw [(sp_two n a b).1, (sp_two n a b).2]
    rw [(sp_two n a b).1, List.length_cons] at hb
    have h := ih a (by simp) (ho.kids.2 a (by simp)) (by omega)
    have hb' := twin_ok b (ho.kids.2 b (by simp))
    have hr : ((spA a).length + 1) * 40 ≤ maxRoom := by simp only [maxRoom]; omega
    simp only [cT] at h hb'
    simp -dsimp [x_porismref01_Unspine, cT, eT_eq]
    refine callO_of h (by simp [rowsV, rowsC, RV.cells]) ?_
    simp -dsimp [cT, eT_eq]
    refine call_of hb' ?_
    simp -dsimp [cT, eT_eq, hr]
  · rw [(sp_none hc).1, (sp_none hc).2]
    have htw := twin_ok (.mk k n ks) ho
    simp only [cT, tk, tn, tks] at htw
    simp -dsimp [x_porismref01_Unspine, cT]
    by_cases h6 : k = 6
    · have h2 : ¬ (ks.length : Int) = 2 := fun h => hc ⟨h6, by
        match ks, h with
        | [a, b], _ => exact ⟨a, b, rfl⟩
        | [], h => simp at h
        | [_], h => simp at h
        | _ :: _ :: _ :: _, h => simp at h; omega⟩
      simp -dsimp [h6, h2]
      rw [h6] at htw
      refine call_of htw ?_
      simp -dsimp [cT, h6]
    · simp -dsimp [h6]
      refine call_of htw ?_
      simp -dsimp [cT]
theorem runpis_ok (t : T) (hb : (piD t).length ≤ 1000000) (h1 : okT (piB t)) (h2 : okTs (piD t)) : Pure Tryz.prog n_porismref01_Unpis [.agg (cT t)] [eTs (piD t), .agg (cT (piB t))] := by
  refine p_porismref01_Unpis rfl fun hs => ?_
  simp -dsimp [x_porismref01_Unpis, cT]
  refine wp_upto (piD t).length (fun i st => st.s 3 = .ptr 3 1 0 ∧ st.h 3 = ⟨1, .box [.d (.int .i64 0), .d (.int .i64 0), .fsl 3 []] false⟩ ∧ st.s 1 = .ptr 1 1 0 ∧ ∃ (cur : T) (L : List T),
    st.h 1 = ⟨1, .box [.d (.int .i64 cur.kind), .d (.int .i64 cur.num), .d (.sl 3 (cur.kids.map eT))] false⟩ ∧ L ++ piD cur = piD t ∧ L.length = i ∧ piB cur = piB t ∧
    st.s 4 = .rsl 4 (1 + i) ∧ st.h 4 = ⟨1 + i, .row 3 (L.map eT) false⟩) ?_ ?_
  · simp -dsimp
    exact ⟨t, ⟨rfl, rfl, rfl⟩, [], by simp⟩
  · rintro i ⟨s, hp⟩ hi ⟨g1, g2, g3, cur, L, g4, g5, g6, g7, g8, g9⟩
    dsimp only at g1 g2 g3 g4 g8 g9
    obtain ⟨k, n, ks⟩ := cur
    simp only [tk, tn, tks] at g4
    have hL : L.length ≤ (piD t).length := by rw [← g5, List.length_append]; omega
    by_cases hc : k = 4 ∧ ∃ a b, ks = [a, b]
    · obtain ⟨rfl, a, b, rfl⟩ := hc
      rw [(pi_two n a b).1] at g5
      rw [(pi_two n a b).2] at g7
      have hlt : i < (piD t).length := by rw [← g5, List.length_append, List.length_cons]; omega
      have hr : (L.length + 1) * 40 ≤ maxRoom := by simp only [maxRoom]; omega
      simp -dsimp [g1, g2, g3, g4, g8, g9, hr, eT_eq, cT]
      refine call_of (twin_ok a (h2.2 a (by rw [← g5]; simp))) ?_
      simp -dsimp [g1, g2, g3, g4, g8, g9, hr, eT_eq, cT]
      exact ⟨hlt, b, ⟨rfl, rfl, rfl⟩, L ++ [a], by simp [g5], by simp [g6], g7, by omega, by simp [eT_eq, cT]⟩
    · have e1 := pi_none (n := n) hc
      rw [e1.1, List.append_nil] at g5
      rw [e1.2] at g7
      subst g5
      rw [← g7] at h1
      have htw := twin_ok _ h1
      simp only [cT, tk, tn, tks] at htw
      by_cases h4 : k = 4
      · have h2' : ¬ (ks.length : Int) = 2 := fun h => hc ⟨h4, by
          match ks, h with
          | [a, b], _ => exact ⟨a, b, rfl⟩
          | [], h => simp at h
          | [_], h => simp at h
          | _ :: _ :: _ :: _, h => simp at h; omega⟩
        rw [h4] at htw g4 g7
        simp -dsimp [g1, g2, g3, g4, g8, g9, h4, h2']
        refine call_of htw ?_
        simp -dsimp [g1, g2, g3, g4, g8, g9, cT, ← g7, eTs]
      · simp -dsimp [g1, g2, g3, g4, g8, g9, h4]
        refine call_of htw ?_
        simp -dsimp [g1, g2, g3, g4, g8, g9, cT, ← g7, eTs]
end Ev
end Go.Proofs.YtjebpfhffenbnaaGreat
