/- New memory: term.Twin, term.Twins. -/
import Derived.Test.YtncmainjcffanaaGreatSA
namespace Go.Proofs.YtncmainjcffanaaGreat
namespace Ev
open Go
set_option maxRecDepth 100000
set_option linter.unusedSimpArgs false
set_option linter.unusedVariables false
attribute [local simp] allD_map_d sks_map_d tk tn tks
theorem ntwins_of (l : List T) (hl : l.length * 40 ≤ 140737488351232) (h : ∀ x ∈ l, PureN Tryz.prog n_term_Twin [.agg (cT x)] [.agg (cT x)]) : PureN Tryz.prog n_term_Twins [eTs l] [eTs l] := by
  refine new_small true hm Tryz.func127 c_term_Twins rfl fun hs n => ?_
  simp -dsimp [x_term_Twins, eTs]
  by_cases hz : l = []
  · subst hz
    simp -dsimp
  simp -dsimp [hz]
  have r1 : (l.length : Int) * 40 ≤ (maxRoom : Int) := by simp only [maxRoom]; omega
  have r2 : l.length ≤ maxRoom := by simp only [maxRoom]; omega
  simp -dsimp [hz, r1, r2]
  refine wp_upto l.length (fun i st => st.s 0 = .d (.sl 3 (l.map eT)) ∧ st.s 3 = .rsl 10 1 ∧ st.s 12 = .d (.int .i64 l.length) ∧ st.s 13 = .d (.int .i64 i) ∧
    st.h 10 = ⟨1, .row 3 ((l.map eT).take i ++ List.replicate (l.length - i) (D.agg [.int .i64 0, .int .i64 0, .sl 3 []])) false⟩) ?_ ?_
  · simp -dsimp
  · rintro i ⟨s, hp⟩ hi ⟨g1, g2, g3, g4, g5⟩
    dsimp only at g1 g2 g3 g4 g5
    rcases Nat.lt_or_ge i l.length with hlt | hge
    · have w1 : IntKind.i64.wrap ((i : Int) + 1) = (i : Int) + 1 := wrap_id (by omega) (by omega)
      simp -dsimp [g1, g2, g3, g4, g5, hlt, cT]
      refine callN_of (h l[i] (List.getElem_mem _)) ?_
      have q1 : (i : Int) < ((min i l.length : Nat) : Int) + ((l.length - i : Nat) : Int) := by omega
      have q2 : i < min i l.length + (l.length - i) := by omega
      have hle : (l.map eT).length = l.length := List.length_map ..
      have hfn := fill_next (l := l.map eT) (z := D.agg [.int .i64 0, .int .i64 0, .sl 3 []]) (i := i) (by rw [hle]; exact hlt)
      have hel : (l.map eT)[i]'(by rw [hle]; exact hlt) = .agg (cT l[i]) := by rw [List.getElem_map, eT_eq]
      rw [hel, hle] at hfn
      simp only [cT] at hfn
      simp -dsimp [g1, g2, g3, g4, g5, hlt, w1, q1, q2, cT, hfn]
    · have e : i = l.length := by omega
      subst e
      have ht : (l.map eT).take l.length = l.map eT := List.take_of_length_le (by rw [List.length_map]; exact Nat.le_refl _)
      rw [ht, Nat.sub_self, List.replicate_zero, List.append_nil] at g5
      simp -dsimp [g1, g2, g3, g4, g5]
theorem ntwin_ok (t : T) : okT t → PureN Tryz.prog n_term_Twin [.agg (cT t)] [.agg (cT t)] := by
  refine T.ind (p := fun t => okT t → PureN Tryz.prog n_term_Twin [.agg (cT t)] [.agg (cT t)]) ?_ t
  intro k n ks ih h
  obtain ⟨h1, h2⟩ := h.kids
  refine new_small false hm Tryz.func62 c_term_Twin rfl fun hs n => ?_
  simp -dsimp [x_term_Twin, cT]
  refine callN_of (ntwins_of ks h1 fun x hx => ih x hx (h2 x hx)) ?_
  simp -dsimp [eTs]
theorem ntwins_ok (l : List T) (h : okTs l) : PureN Tryz.prog n_term_Twins [eTs l] [eTs l] := ntwins_of l h.1 fun x hx => ntwin_ok x (h.2 x hx)
end Ev
end Go.Proofs.YtncmainjcffanaaGreat
