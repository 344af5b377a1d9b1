/- New memory: spines, telescopes. -/
import Derived.Test.YtncmainjcffanaaGreatN1
import Derived.Test.YtncmainjcffanaaGreatRA
namespace Go.Proofs.YtncmainjcffanaaGreat
namespace Ev
open Go
set_option maxRecDepth 100000
set_option linter.unusedSimpArgs false
set_option linter.unusedVariables false
attribute [local simp] allD_map_d sks_map_d tk tn tks
theorem nspine_ok (f : T) (l : List T) (hl : l.length ≤ 100000000) (hf : okT f) (ho : okTs l) : PureN Tryz.prog n_tele_Spine [.agg (cT f), eTs l] [.agg (cT (spT f l))] := by
  refine new_small false hm Tryz.func59 c_tele_Spine rfl fun hs n => ?_
  simp -dsimp [x_tele_Spine, cT, eTs]
  refine callN_of (ntwin_ok f hf) ?_
  simp -dsimp [cT]
  refine wp_upto l.length (fun i st => st.s 4 = .ptr 4 1 0 ∧ st.h 4 = ⟨1, .box [.d (.int .i64 0), .d (.int .i64 0), .fsl 3 []] false⟩ ∧ st.s 10 = .d (.sl 3 (l.map eT)) ∧ st.s 11 = .d (.int .i64 l.length) ∧ st.s 12 = .d (.int .i64 i) ∧
    st.s 5 = .ptr 5 1 0 ∧ ∃ cs, st.h 5 = ⟨1, .box [.d (.int .i64 (spT f (l.take i)).kind), .d (.int .i64 (spT f (l.take i)).num), cs] false⟩ ∧ cs = .n true (.sl 3 ((spT f (l.take i)).kids.map eT))) ?_ ?_
  · simp -dsimp [spT]
  · rintro i ⟨s, hp⟩ hi ⟨g1, g2, g3, g4, g5, g6, cs, g7, g8⟩
    dsimp only at g1 g2 g3 g4 g5 g6 g7
    rcases Nat.lt_or_ge i l.length with hlt | hge
    · have w1 : IntKind.i64.wrap ((i : Int) + 1) = (i : Int) + 1 := wrap_id (by omega) (by omega)
      have hnx : spT f (l.take (i + 1)) = .mk 6 0 [spT f (l.take i), l[i]] := by
        have e : l.take (i + 1) = l.take i ++ [l[i]] := by rw [List.take_add_one, List.getElem?_eq_getElem hlt]; rfl
        rw [spT, e, List.foldl_append]
        rfl
      rw [hnx]
      generalize spT f (l.take i) = Y at g7 g8
      have hnode := node_ok 6 [Y, l[i]]
      simp only [List.map_cons, List.map_nil, eT_eq, cT] at hnode
      subst g8
      simp -dsimp [g1, g2, g3, g4, g5, g6, g7, hlt, cT]
      refine callN_of (ntwin_ok l[i] (ho.2 _ (List.getElem_mem _))) ?_
      simp -dsimp [g1, g2, g3, g4, g5, g6, g7, hlt, cT]
      refine callH_of (by simp -dsimp) hnode ?_
      simp -dsimp [g1, g2, g3, g4, g5, g6, g7, hlt, w1, eT_eq, cT]
    · have e : i = l.length := by omega
      subst e
      rw [List.take_length] at g7 g8
      subst g8
      simp -dsimp [g1, g2, g3, g4, g5, g6, g7]
end Ev
end Go.Proofs.YtncmainjcffanaaGreat
