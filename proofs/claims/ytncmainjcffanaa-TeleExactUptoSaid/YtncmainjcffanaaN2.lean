/- New memory: spines, telescopes. -/
import Derived.Test.YtncmainjcffanaaN1
import Derived.Test.YtncmainjcffanaaRA
namespace Go.Proofs.Ytncmainjcffanaa
namespace Ev
open Go
set_option maxRecDepth 100000
set_option linter.unusedSimpArgs false
set_option linter.unusedVariables false
attribute [local simp] allD_map_d sks_map_d tk tn tks
theorem nunspine_ok (t : T) (hb : (spA t).length ≤ 1000000) (h1 : okT (spH t)) (h2 : okTs (spA t).reverse) : PureN Try.prog n_tele_Unspine [.agg (cT t)] [.agg (cT (spH t)), eTs (spA t).reverse] := by
  refine new_small false hm Try.func13 c_tele_Unspine rfl fun hs n => ?_
  have hsp := split_ok t hb
  generalize (spA t).reverse = R at hsp h2 ⊢
  simp -dsimp [x_tele_Unspine, cT]
  refine call_of hsp ?_
  simp -dsimp [cT, eTs]
  refine callN_of (ntwin_ok _ h1) ?_
  simp -dsimp [cT, eTs]
  refine callN_of (ntwins_ok _ h2) ?_
  simp -dsimp [cT, eTs]

theorem nspine_ok (f : T) (l : List T) (hl : l.length ≤ 100000000) (hf : okT f) (ho : okTs l) : PureN Try.prog n_tele_Spine [.agg (cT f), eTs l] [.agg (cT (spT f l))] := by
  refine new_small false hm Try.func12 c_tele_Spine rfl fun hs n => ?_
  simp -dsimp [x_tele_Spine, cT, eTs]
  refine callN_of (ntwin_ok f hf) ?_
  simp -dsimp [cT]
  refine wp_upto l.length (fun i st => st.s 4 = .ptr 4 1 0 ∧ st.h 4 = ⟨1, .box [.d (.int .i64 0), .d (.int .i64 0), .fsl 3 []] false⟩ ∧ st.s 10 = .d (.sl 3 (l.map eT)) ∧ st.s 11 = .d (.int .i64 l.length) ∧ st.s 12 = .d (.int .i64 i) ∧
    st.s 5 = .ptr 5 1 0 ∧ ∃ cs, st.h 5 = ⟨1, .box [.d (.int .i64 (spT f (l.take i)).kind), .d (.int .i64 (spT f (l.take i)).num), cs] false⟩ ∧ cs = .n true (.sl 3 ((spT f (l.take i)).kids.map eT))) ?_ ?_
  · simp -dsimp [spT]
  · rintro i ⟨s, hp⟩ hi ⟨g1, g2, g3, g4, g5, g6, cs, g7, g8⟩
    dsimp only at g1 g2 g3 g4 g5 g6 g7
    rcases Nat.lt_or_ge i l.length with hlt | hge
    · have w1 : IntKind.i64.wrap ((i : Int) + 1) = (i : Int) + 1 := wrap_id (by omega) (by omega)
      have hnx : spT f (l.take (i + 1)) = .mk 6 0 [spT f (l.take i), l[i]] := by
        have e : l.take (i + 1) = l.take i ++ [l[i]] := by rw [List.take_add_one, List.getElem?_eq_getElem hlt]; rfl
        rw [spT, e, List.foldl_append]
        rfl
      rw [hnx]
      generalize spT f (l.take i) = Y at g7 g8
      have hnode := node_ok 6 [Y, l[i]]
      simp only [List.map_cons, List.map_nil, eT_eq, cT] at hnode
      subst g8
      simp -dsimp [g1, g2, g3, g4, g5, g6, g7, hlt, cT]
      refine callN_of (ntwin_ok l[i] (ho.2 _ (List.getElem_mem _))) ?_
      simp -dsimp [g1, g2, g3, g4, g5, g6, g7, hlt, cT]
      refine callH_of (by simp -dsimp) hnode ?_
      simp -dsimp [g1, g2, g3, g4, g5, g6, g7, hlt, w1, eT_eq, cT]
    · have e : i = l.length := by omega
      subst e
      rw [List.take_length] at g7 g8
      subst g8
      simp -dsimp [g1, g2, g3, g4, g5, g6, g7]
theorem nunpis_ok (t : T) (hb : (piD t).length ≤ 1000000) (h1 : okT (piB t)) (h2 : okTs (piD t)) : PureN Try.prog n_tele_Unpis [.agg (cT t)] [eTs (piD t), .agg (cT (piB t))] := by
  refine new_small true hm Try.func14 c_tele_Unpis rfl fun hs n => ?_
  simp -dsimp [x_tele_Unpis, cT]
  refine wp_upto (piD t).length (fun i st => st.s 3 = .ptr 3 1 0 ∧ st.h 3 = ⟨1, .box [.d (.int .i64 0), .d (.int .i64 0), .fsl 3 []] false⟩ ∧ st.s 1 = .ptr 1 1 0 ∧ ∃ (cur : T) (L : List T),
    st.h 1 = ⟨1, .box [.d (.int .i64 cur.kind), .d (.int .i64 cur.num), .d (.sl 3 (cur.kids.map eT))] false⟩ ∧ L ++ piD cur = piD t ∧ L.length = i ∧ piB cur = piB t ∧
    st.s 4 = .rsl 4 (1 + i) ∧ st.h 4 = ⟨1 + i, .row 3 (L.map eT) false⟩) ?_ ?_
  · simp -dsimp
    exact ⟨t, ⟨rfl, rfl, rfl⟩, [], by simp⟩
  · rintro i ⟨s, hp⟩ hi ⟨g1, g2, g3, cur, L, g4, g5, g6, g7, g8, g9⟩
    dsimp only at g1 g2 g3 g4 g8 g9
    have htw := two_ok cur 4
    obtain ⟨k, n, ks⟩ := cur
    simp only [cT, tk, tn, tks] at htw g4
    have hL : L.length ≤ (piD t).length := by rw [← g5, List.length_append]; omega
    by_cases hc : k = 4 ∧ ∃ a b, ks = [a, b]
    · have hd := twoB_is (n := n) |>.2 hc
      rw [hd] at htw
      obtain ⟨rfl, a, b, rfl⟩ := hc
      rw [(pi_two n a b).1] at g5
      rw [(pi_two n a b).2] at g7
      have hlt : i < (piD t).length := by rw [← g5, List.length_append, List.length_cons]; omega
      simp -dsimp [g1, g2, g3, g4, g8, g9]
      refine call_of htw ?_
      have hr : (L.length + 1) * 40 ≤ maxRoom := by simp only [maxRoom]; omega
      simp -dsimp [g1, g2, g3, g4, g8, g9, hr, eT_eq, cT]
      refine callN_of (ntwin_ok a (h2.2 a (by rw [← g5]; simp))) ?_
      simp -dsimp [g1, g2, g3, g4, g8, g9, hr, eT_eq, cT]
      exact ⟨hlt, b, ⟨rfl, rfl, rfl⟩, L ++ [a], by simp [g5], by simp [g6], g7, by omega, by simp [eT_eq, cT]⟩
    · have hd : twoB (.mk k n ks) 4 = false := by
        cases h : twoB (.mk k n ks) 4 with
        | false => rfl
        | true => exact absurd (twoB_is.1 h) hc
      have e1 := pi_none (n := n) hc
      rw [e1.1, List.append_nil] at g5
      rw [e1.2] at g7
      subst g5
      rw [← g7] at h1
      rw [hd] at htw
      simp -dsimp [g1, g2, g3, g4, g8, g9]
      refine call_of htw ?_
      simp -dsimp [g1, g2, g3, g4, g8, g9]
      refine callN_of (ntwin_ok _ h1) ?_
      simp -dsimp [g1, g2, g3, g4, g8, g9, cT, ← g7, eTs]
end Ev
end Go.Proofs.Ytncmainjcffanaa
