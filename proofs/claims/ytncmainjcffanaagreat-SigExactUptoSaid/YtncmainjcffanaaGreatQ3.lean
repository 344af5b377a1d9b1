/- The document's answers for layer 6: spines, telescopes. -/
import Derived.Test.YtncmainjcffanaaGreatQ1
import Derived.Test.YtncmainjcffanaaGreatRA
namespace Go.Proofs.YtncmainjcffanaaGreat
namespace Ev
open Go
set_option maxRecDepth 100000
set_option linter.unusedSimpArgs false
set_option linter.unusedVariables false
attribute [local simp] allD_map_d sks_map_d tk tn tks

theorem rspine_ok (f : T) (l : List T) (hl : l.length ≤ 100000000) (hf : okT f) (ho : okTs l) : Pure Tryz.prog n_porismref01_Spine [.agg (cT f), eTs l] [.agg (cT (spT f l))] := by
  refine p_porismref01_Spine rfl fun hs => ?_
  simp -dsimp [x_porismref01_Spine, cT, eTs]
  refine call_of (twin_ok f hf) ?_
  simp -dsimp [cT]
  refine wp_upto l.length (fun i st => st.s 4 = .ptr 4 1 0 ∧ st.h 4 = ⟨1, .box [.d (.int .i64 0), .d (.int .i64 0), .fsl 3 []] false⟩ ∧ st.s 1 = .d (.sl 3 (l.map eT)) ∧ st.s 6 = .d (.int .i64 i) ∧
    st.s 5 = .ptr 5 1 0 ∧ ∃ cs, st.h 5 = ⟨1, .box [.d (.int .i64 (spT f (l.take i)).kind), .d (.int .i64 (spT f (l.take i)).num), cs] false⟩ ∧ (cs = .d (.sl 3 ((spT f (l.take i)).kids.map eT)) ∨ cs = .fsl 3 ((spT f (l.take i)).kids.map eT))) ?_ ?_
  · simp -dsimp [spT]
  · rintro i ⟨s, hp⟩ hi ⟨g1, g2, g3, g4, g5, cs, g6, g7⟩
    dsimp only at g1 g2 g3 g4 g5 g6
    rcases Nat.lt_or_ge i l.length with hlt | hge
    · have w1 : IntKind.i64.wrap ((i : Int) + 1) = (i : Int) + 1 := wrap_id (by omega) (by omega)
      have hnx : spT f (l.take (i + 1)) = .mk 6 0 [spT f (l.take i), l[i]] := by
        have e : l.take (i + 1) = l.take i ++ [l[i]] := by rw [List.take_add_one, List.getElem?_eq_getElem hlt]; rfl
        rw [spT, e, List.foldl_append]
        rfl
      rw [hnx]
      generalize spT f (l.take i) = Y at g6 g7
      have hnode := rt_ok 6 [Y, l[i]] (by simp [maxRoom])
      simp only [eTs, List.map_cons, List.map_nil, eT_eq, cT, tk, tn, tks] at hnode
      rcases g7 with rfl | rfl
      all_goals
        simp -dsimp [g1, g2, g3, g4, g5, g6, hlt, cT]
        refine call_of (twin_ok l[i] (ho.2 _ (List.getElem_mem _))) ?_
        simp -dsimp [g1, g2, g3, g4, g5, g6, hlt, cT]
        refine call_of hnode ?_
        simp -dsimp [g1, g2, g3, g4, g5, g6, hlt, w1, eT_eq, cT]
    · have e : i = l.length := by omega
      subst e
      rw [List.take_length] at g6 g7
      rcases g7 with rfl | rfl
      · simp -dsimp [g1, g2, g3, g4, g5, g6]
      · simp -dsimp [g1, g2, g3, g4, g5, g6]
theorem rwrap_ok (k : Int) (l : List T) (t : T) (hl : l.length ≤ 100000000) (ht : okT t) (ho : okTs l) : Pure Tryz.prog n_porismref01_wrap [.int .i64 k, eTs l, .agg (cT t)] [.agg (cT (nestT k l t))] := by
  refine p_porismref01_wrap rfl fun hs => ?_
  have w0 : IntKind.i64.wrap ((l.length : Int) - 1) = (l.length : Int) - 1 := wrap_id (by omega) (by omega)
  simp -dsimp [x_porismref01_wrap, cT, eTs]
  refine call_of (twin_ok t ht) ?_
  simp -dsimp [cT, w0]
  refine wp_upto l.length (fun i st => st.s 6 = .ptr 6 1 0 ∧ st.h 6 = ⟨1, .box [.d (.int .i64 0), .d (.int .i64 0), .fsl 3 []] false⟩ ∧ st.s 0 = .d (.int .i64 k) ∧ st.s 1 = .d (.sl 3 (l.map eT)) ∧ st.s 8 = .d (.int .i64 ((l.length : Int) - 1 - i)) ∧
    st.s 7 = .ptr 7 1 0 ∧ ∃ cs, st.h 7 = ⟨1, .box [.d (.int .i64 (nestT k (l.drop (l.length - i)) t).kind), .d (.int .i64 (nestT k (l.drop (l.length - i)) t).num), cs] false⟩ ∧
      (cs = .d (.sl 3 ((nestT k (l.drop (l.length - i)) t).kids.map eT)) ∨ cs = .fsl 3 ((nestT k (l.drop (l.length - i)) t).kids.map eT))) ?_ ?_
  · simp -dsimp [nestT]
  · rintro i ⟨s, hp⟩ hi ⟨g1, g2, g3, g4, g5, g6, cs, g7, g8⟩
    dsimp only at g1 g2 g3 g4 g5 g6 g7
    rcases Nat.lt_or_ge i l.length with hlt | hge
    · obtain ⟨m, hm⟩ : ∃ m : Nat, l.length = m + 1 + i := ⟨l.length - 1 - i, by omega⟩
      have hmi : (l.length : Int) - 1 - i = (m : Int) := by omega
      have hml : m < l.length := by omega
      have w1 : IntKind.i64.wrap ((m : Int) - 1) = (l.length : Int) - 1 - ((i + 1 : Nat) : Int) := by rw [wrap_id (by omega) (by omega)]; omega
      have e1 : l.length - i = m + 1 := by omega
      have e2 : l.length - (i + 1) = m := by omega
      have hnx : nestT k (l.drop m) t = .mk k 0 [l[m], nestT k (l.drop (m + 1)) t] := by
        rw [List.drop_eq_getElem_cons hml]
        rfl
      rw [hmi] at g5
      rw [e1] at g7 g8
      rw [e2, hnx]
      generalize nestT k (l.drop (m + 1)) t = Y at g7 g8
      have hnode := rt_ok k [l[m], Y] (by simp [maxRoom])
      simp only [eTs, List.map_cons, List.map_nil, eT_eq, cT, tk, tn, tks] at hnode
      rcases g8 with rfl | rfl
      all_goals
        simp -dsimp [g1, g2, g3, g4, g5, g6, g7, hml, cT]
        refine call_of (twin_ok l[m] (ho.2 _ (List.getElem_mem _))) ?_
        simp -dsimp [g1, g2, g3, g4, g5, g6, g7, hml, cT]
        refine call_of hnode ?_
        simp -dsimp [g1, g2, g3, g4, g5, g6, g7, hml, w1, eT_eq, cT, hlt]
    · have e : i = l.length := by omega
      subst e
      have e3 : (l.length : Int) - 1 - (l.length : Int) = -1 := by omega
      rw [e3] at g5
      rw [Nat.sub_self, List.drop_zero] at g7 g8
      rcases g8 with rfl | rfl
      · simp -dsimp [g1, g2, g3, g4, g5, g6, g7]
      · simp -dsimp [g1, g2, g3, g4, g5, g6, g7]
theorem rpis_ok (l : List T) (t : T) (hl : l.length ≤ 100000000) (ht : okT t) (hol : okTs l) : Pure Tryz.prog n_porismref01_Pis [eTs l, .agg (cT t)] [.agg (cT (nestT 4 l t))] := by
  refine p_porismref01_Pis rfl fun hs => ?_
  have h := rwrap_ok 4 l t hl ht hol
  simp only [cT, eTs] at h
  simp -dsimp [x_porismref01_Pis, cT, eTs]
  refine call_of h ?_
  simp -dsimp [cT]
theorem runspine_own (t : T) : okT t → (spA t).length ≤ 1000000 → OwnC Tryz.prog n_porismref01_Unspine [.agg (cT t)] [.agg [.d (.int .i64 (spH t).kind), .d (.int .i64 (spH t).num), .d (.sl 3 ((spH t).kids.map eT))], .one (.row 3 ((spA t).reverse.map eT) false)] := by
  refine T.ind (p := fun t => okT t → (spA t).length ≤ 1000000 → OwnC Tryz.prog n_porismref01_Unspine [.agg (cT t)] [.agg [.d (.int .i64 (spH t).kind), .d (.int .i64 (spH t).num), .d (.sl 3 ((spH t).kids.map eT))], .one (.row 3 ((spA t).reverse.map eT) false)]) ?_ t
  intro k n ks ih ho hb
  refine o_porismref01_Unspine rfl fun hs => ?_
  by_cases hc : k = 6 ∧ ∃ a b, ks = [a, b]
  · obtain ⟨rfl, a, b, rfl⟩ := hc
    rw [(sp_two n a b).1, (sp_two n a b).2]
    rw [(sp_two n a b).1, List.length_cons] at hb
    have h := ih a (by simp) (ho.kids.2 a (by simp)) (by omega)
    have hb' := twin_ok b (ho.kids.2 b (by simp))
    have hr : ((spA a).length + 1) * 40 ≤ maxRoom := by simp only [maxRoom]; omega
    simp only [cT] at h hb'
    simp -dsimp [x_porismref01_Unspine, cT, eT_eq]
    refine callO_of h (by simp [rowsV, rowsC, RV.cells]) ?_
    simp -dsimp [cT, eT_eq]
    refine call_of hb' ?_
    simp -dsimp [cT, eT_eq, hr]
  · rw [(sp_none hc).1, (sp_none hc).2]
    have htw := twin_ok (.mk k n ks) ho
    simp only [cT, tk, tn, tks] at htw
    simp -dsimp [x_porismref01_Unspine, cT]
    by_cases h6 : k = 6
    · have h2 : ¬ (ks.length : Int) = 2 := fun h => hc ⟨h6, by
        match ks, h with
        | [a, b], _ => exact ⟨a, b, rfl⟩
        | [], h => simp at h
        | [_], h => simp at h
        | _ :: _ :: _ :: _, h => simp at h; omega⟩
      simp -dsimp [h6, h2]
      rw [h6] at htw
      refine call_of htw ?_
      simp -dsimp [cT, h6]
    · simp -dsimp [h6]
      refine call_of htw ?_
      simp -dsimp [cT]
theorem runpis_ok (t : T) (hb : (piD t).length ≤ 1000000) (h1 : okT (piB t)) (h2 : okTs (piD t)) : Pure Tryz.prog n_porismref01_Unpis [.agg (cT t)] [eTs (piD t), .agg (cT (piB t))] := by
  refine p_porismref01_Unpis rfl fun hs => ?_
  simp -dsimp [x_porismref01_Unpis, cT]
  refine wp_upto (piD t).length (fun i st => st.s 3 = .ptr 3 1 0 ∧ st.h 3 = ⟨1, .box [.d (.int .i64 0), .d (.int .i64 0), .fsl 3 []] false⟩ ∧ st.s 1 = .ptr 1 1 0 ∧ ∃ (cur : T) (L : List T),
    st.h 1 = ⟨1, .box [.d (.int .i64 cur.kind), .d (.int .i64 cur.num), .d (.sl 3 (cur.kids.map eT))] false⟩ ∧ L ++ piD cur = piD t ∧ L.length = i ∧ piB cur = piB t ∧
    st.s 4 = .rsl 4 (1 + i) ∧ st.h 4 = ⟨1 + i, .row 3 (L.map eT) false⟩) ?_ ?_
  · simp -dsimp
    exact ⟨t, ⟨rfl, rfl, rfl⟩, [], by simp⟩
  · rintro i ⟨s, hp⟩ hi ⟨g1, g2, g3, cur, L, g4, g5, g6, g7, g8, g9⟩
    dsimp only at g1 g2 g3 g4 g8 g9
    obtain ⟨k, n, ks⟩ := cur
    simp only [tk, tn, tks] at g4
    have hL : L.length ≤ (piD t).length := by rw [← g5, List.length_append]; omega
    by_cases hc : k = 4 ∧ ∃ a b, ks = [a, b]
    · obtain ⟨rfl, a, b, rfl⟩ := hc
      rw [(pi_two n a b).1] at g5
      rw [(pi_two n a b).2] at g7
      have hlt : i < (piD t).length := by rw [← g5, List.length_append, List.length_cons]; omega
      have hr : (L.length + 1) * 40 ≤ maxRoom := by simp only [maxRoom]; omega
      simp -dsimp [g1, g2, g3, g4, g8, g9, hr, eT_eq, cT]
      refine call_of (twin_ok a (h2.2 a (by rw [← g5]; simp))) ?_
      simp -dsimp [g1, g2, g3, g4, g8, g9, hr, eT_eq, cT]
      exact ⟨hlt, b, ⟨rfl, rfl, rfl⟩, L ++ [a], by simp [g5], by simp [g6], g7, by omega, by simp [eT_eq, cT]⟩
    · have e1 := pi_none (n := n) hc
      rw [e1.1, List.append_nil] at g5
      rw [e1.2] at g7
      subst g5
      rw [← g7] at h1
      have htw := twin_ok _ h1
      simp only [cT, tk, tn, tks] at htw
      by_cases h4 : k = 4
      · have h2' : ¬ (ks.length : Int) = 2 := fun h => hc ⟨h4, by
          match ks, h with
          | [a, b], _ => exact ⟨a, b, rfl⟩
          | [], h => simp at h
          | [_], h => simp at h
          | _ :: _ :: _ :: _, h => simp at h; omega⟩
        rw [h4] at htw g4 g7
        simp -dsimp [g1, g2, g3, g4, g8, g9, h4, h2']
        refine call_of htw ?_
        simp -dsimp [g1, g2, g3, g4, g8, g9, cT, ← g7, eTs]
      · simp -dsimp [g1, g2, g3, g4, g8, g9, h4]
        refine call_of htw ?_
        simp -dsimp [g1, g2, g3, g4, g8, g9, cT, ← g7, eTs]
theorem rvars_ok (n : Nat) (hn : n ≤ 65536) : Pure Tryz.prog n_porismref01_Vars [.int .i64 n] [eTs (varsN n)] := by
  refine p_porismref01_Vars rfl fun hs => ?_
  have w0 : IntKind.i64.wrap ((n : Int) - 1) = (n : Int) - 1 := wrap_id (by omega) (by omega)
  simp -dsimp [x_porismref01_Vars, w0]
  refine wp_upto n (fun i st => st.s 2 = .rsl 2 1 ∧ st.h 2 = ⟨1, .row 3 [] false⟩ ∧ st.s 0 = .d (.int .i64 n) ∧ st.s 4 = .d (.int .i64 ((n : Int) - 1 - i)) ∧ st.s 3 = .rsl 3 (1 + i) ∧ st.h 3 = ⟨1 + i, .row 3 (((varsN n).take i).map eT) false⟩) ?_ ?_
  · simp -dsimp
  · rintro i ⟨s, hp⟩ hi ⟨g1, g2, g3, g4, g5, g6⟩
    dsimp only at g1 g2 g3 g4 g5 g6
    have hvl := varsN_len n
    rcases Nat.lt_or_ge i n with hlt | hge
    · have w1 : IntKind.i64.wrap ((n : Int) - 1 - i - 1) = (n : Int) - 1 - ((i + 1 : Nat) : Int) := by rw [wrap_id (by omega) (by omega)]; omega
      have q1 : (0 : Int) ≤ (n : Int) - 1 - i := by omega
      have q1' : (i : Int) ≤ (n : Int) - 1 := by omega
      have q2 : (n : Int) ≤ 65536 := by omega
      have hg := varsN_get n i (by omega)
      have hr : (min i n + 1) * 40 ≤ maxRoom := by simp only [maxRoom]; omega
      have htk : ((varsN n).take (i + 1)).map eT = ((varsN n).take i).map eT ++ [.agg (cT (.mk 1 ((n : Int) - 1 - i) []))] := by
        rw [take_snoc (List.getElem?_eq_getElem (by omega : i < (varsN n).length)), hg, List.map_append]
        simp [eT_eq, tV]
      rw [htk]
      simp -dsimp [g1, g2, g3, g4, g5, g6, q1, q1', q2]
      refine call_of (rv_ok _) ?_
      simp -dsimp [g1, g2, g3, g4, g5, g6, q1, q1', q2, hvl, hr, w1, cT, hlt]
      omega
    · have e : i = n := by omega
      subst e
      have q1 : ¬ (0 : Int) ≤ (i : Int) - 1 - i := by omega
      have q1' : ¬ (i : Int) ≤ (i : Int) - 1 := by omega
      have ht : (varsN i).take i = varsN i := List.take_of_length_le (by omega)
      rw [ht] at g6
      simp -dsimp [g1, g2, g3, g4, g5, g6, q1, q1', eTs]
end Ev
end Go.Proofs.YtncmainjcffanaaGreat
