/- Several texts in one. -/
import Derived.Test.YtncmainjcffanaaGreatBB
/- TeleAgain. -/
namespace Go.Proofs.YtncmainjcffanaaGreat
namespace Ev
open Go
set_option maxRecDepth 100000
set_option linter.unusedSimpArgs false
set_option linter.unusedVariables false
attribute [local simp] allD_map_d sks_map_d tk tn tks

theorem formed_two {k n : Int} {ks : List T} (hk : kidsM k = 2) (h : formedM (.mk k n ks) = true) : n = 0 ∧ ∃ a b, ks = [a, b] ∧ formedM a = true ∧ formedM b = true := by
  rw [formedM_is, hk] at h
  split at h
  · rename_i hl
    rw [if_neg (by omega)] at h
    split at h
    · rename_i h0
      match ks, hl with
      | [a, b], _ =>
        simp only [List.all_cons, List.all_nil, Bool.and_true, Bool.and_eq_true] at h
        exact ⟨h0, a, b, rfl, h⟩
      | [], hl => simp at hl
      | [_], hl => simp at hl
      | _ :: _ :: _ :: _, hl => simp at hl; omega
    · cases h
  · cases h
theorem sp_again (t : T) : formedM t = true → spT (spH t) (spA t).reverse = t ∧ (spH t).kind ≠ 6 := by
  refine T.ind (p := fun t => formedM t = true → spT (spH t) (spA t).reverse = t ∧ (spH t).kind ≠ 6) ?_ t
  intro k n ks ih hf
  by_cases hc : k = 6 ∧ ∃ a b, ks = [a, b]
  · obtain ⟨rfl, a, b, rfl⟩ := hc
    obtain ⟨rfl, a', b', e, hfa, hfb⟩ := formed_two rfl hf
    cases e
    obtain ⟨h1, h2⟩ := ih a (by simp) hfa
    rw [(sp_two 0 a b).1, (sp_two 0 a b).2, List.reverse_cons, spT, List.foldl_append]
    refine ⟨?_, h2⟩
    rw [spT] at h1
    rw [h1]
    rfl
  · rw [(sp_none hc).1, (sp_none hc).2]
    refine ⟨rfl, fun h6 => hc ?_⟩
    have h6 : k = 6 := h6
    subst h6
    obtain ⟨_, a, b, e, _⟩ := formed_two rfl hf
    exact ⟨rfl, a, b, e⟩
theorem pi_again (t : T) : formedM t = true → nestT 4 (piD t) (piB t) = t ∧ (piB t).kind ≠ 4 := by
  refine T.ind (p := fun t => formedM t = true → nestT 4 (piD t) (piB t) = t ∧ (piB t).kind ≠ 4) ?_ t
  intro k n ks ih hf
  by_cases hc : k = 4 ∧ ∃ a b, ks = [a, b]
  · obtain ⟨rfl, a, b, rfl⟩ := hc
    obtain ⟨rfl, a', b', e, hfa, hfb⟩ := formed_two rfl hf
    cases e
    obtain ⟨h1, h2⟩ := ih b (by simp) hfb
    rw [(pi_two 0 a b).1, (pi_two 0 a b).2, nestT, List.foldr_cons]
    refine ⟨?_, h2⟩
    rw [nestT] at h1
    rw [h1]
  · rw [(pi_none hc).1, (pi_none hc).2]
    refine ⟨rfl, fun h6 => hc ?_⟩
    have h6 : k = 4 := h6
    subst h6
    obtain ⟨_, a, b, e, _⟩ := formed_two rfl hf
    exact ⟨rfl, a, b, e⟩
theorem sp_parts (t : T) : okT t → okT (spH t) ∧ (∀ x ∈ spA t, okT x) ∧ (spA t).length + nodes (spH t) ≤ nodes t ∧ ∀ x ∈ spA t, nodes x ≤ nodes t := by
  refine T.ind (p := fun t => okT t → okT (spH t) ∧ (∀ x ∈ spA t, okT x) ∧ (spA t).length + nodes (spH t) ≤ nodes t ∧ ∀ x ∈ spA t, nodes x ≤ nodes t) ?_ t
  intro k n ks ih ho
  by_cases hc : k = 6 ∧ ∃ a b, ks = [a, b]
  · obtain ⟨rfl, a, b, rfl⟩ := hc
    obtain ⟨h1, h2, h3, h4⟩ := ih a (by simp) (ho.kids.2 a (by simp))
    rw [(sp_two n a b).1, (sp_two n a b).2, nodes2, List.length_cons]
    refine ⟨h1, fun x hx => ?_, by omega, fun x hx => ?_⟩
    · rcases List.mem_cons.1 hx with rfl | hx
      · exact ho.kids.2 _ (by simp)
      · exact h2 x hx
    · rcases List.mem_cons.1 hx with rfl | hx
      · omega
      · have := h4 x hx; omega
  · rw [(sp_none hc).1, (sp_none hc).2]
    exact ⟨ho, by simp, by simp, by simp⟩
theorem pi_parts (t : T) : okT t → okT (piB t) ∧ (∀ x ∈ piD t, okT x) ∧ (piD t).length + nodes (piB t) ≤ nodes t ∧ ∀ x ∈ piD t, nodes x ≤ nodes t := by
  refine T.ind (p := fun t => okT t → okT (piB t) ∧ (∀ x ∈ piD t, okT x) ∧ (piD t).length + nodes (piB t) ≤ nodes t ∧ ∀ x ∈ piD t, nodes x ≤ nodes t) ?_ t
  intro k n ks ih ho
  by_cases hc : k = 4 ∧ ∃ a b, ks = [a, b]
  · obtain ⟨rfl, a, b, rfl⟩ := hc
    obtain ⟨h1, h2, h3, h4⟩ := ih b (by simp) (ho.kids.2 b (by simp))
    rw [(pi_two n a b).1, (pi_two n a b).2, nodes2, List.length_cons]
    refine ⟨h1, fun x hx => ?_, by omega, fun x hx => ?_⟩
    · rcases List.mem_cons.1 hx with rfl | hx
      · exact ho.kids.2 _ (by simp)
      · exact h2 x hx
    · rcases List.mem_cons.1 hx with rfl | hx
      · omega
      · have := h4 x hx; omega
  · rw [(pi_none hc).1, (pi_none hc).2]
    exact ⟨ho, by simp, by simp, by simp⟩
theorem okTs_of {l : List T} (hl : l.length ≤ 1000000) (h : ∀ x ∈ l, okT x) : okTs l := ⟨by omega, h⟩
end Ev
end Go.Proofs.YtncmainjcffanaaGreat
/- TeleScopes. -/
namespace Go.Proofs.YtncmainjcffanaaGreat
namespace Ev
open Go
set_option maxRecDepth 100000
set_option linter.unusedSimpArgs false
set_option linter.unusedVariables false
attribute [local simp] allD_map_d sks_map_d tk tn tks

theorem check_iff2 {t : T} (h : nodes t ≤ 1099511627776) : checkM t = 0 ↔ nodes t ≤ 6000 ∧ depthN t ≤ 200 ∧ formedM t = true := by
  rw [checkM, size_is _ h, depth_is _ h]
  by_cases h1 : (6000 : Int) < nodes t
  · rw [if_pos h1]
    constructor
    · intro h; cases h
    · omega
  · rw [if_neg h1]
    by_cases h2 : (200 : Int) < depthN t
    · rw [if_pos h2]
      constructor
      · intro h; cases h
      · omega
    · rw [if_neg h2]
      cases formedM t
      · simp
      · simp; omega
theorem scope_is2 {t : T} {v : Int} (h0 : 0 ≤ v) (h1 : v ≤ 65536) (hn : nodes t ≤ 4000000) : scopeM t v 65536 = true ↔ checkM t = 0 ∧ wiT t v 65536 = true := by
  rw [scopeM, if_neg (by omega), if_neg (by omega), if_neg (show ¬65536 < v by omega), within_is 65536 t v h0 (by omega)]
  by_cases h : checkM t = 0
  · rw [if_pos h]; simp [h]
  · rw [if_neg h]; simp [h]
theorem sum_bulk (l : List T) : (l.map nodes).sum ≤ bulk (eTs l) := by
  have go : ∀ l : List T, (l.map nodes).sum ≤ (l.map (bulk ∘ eT)).sum := by
    intro l
    induction l with
    | nil => simp
    | cons x xs ih =>
      have := nodes_bulk x
      simp only [List.map_cons, List.sum_cons, Function.comp] at ih ⊢
      omega
  have := go l
  simp only [eTs, bulk, List.map_map]
  omega
theorem nest_nodes (k : Int) (l : List T) (t : T) : nodes (nestT k l t) = (l.map nodes).sum + l.length + nodes t := by
  induction l with
  | nil => simp [nestT]
  | cons a l ih =>
    show nodes (.mk k 0 [a, nestT k l t]) = _
    rw [nodes2, ih, List.map_cons, List.sum_cons, List.length_cons]
    omega
theorem nest_depth (k k' : Int) (l : List T) (t : T) : depthN (nestT k l t) = depthN (nestT k' l t) := by
  induction l with
  | nil => rfl
  | cons a l ih =>
    show depthN (.mk k 0 [a, nestT k l t]) = depthN (.mk k' 0 [a, nestT k' l t])
    rw [depthN, depthN]
    simp [ih]
theorem nest_formed {k k' : Int} (h : kidsM k = 2) (h' : kidsM k' = 2) (l : List T) (t : T) : formedM (nestT k l t) = formedM (nestT k' l t) := by
  induction l with
  | nil => rfl
  | cons a l ih =>
    show formedM (.mk k 0 [a, nestT k l t]) = formedM (.mk k' 0 [a, nestT k' l t])
    rw [formedM_is, formedM_is, h, h']
    simp [ih]
theorem nest_wi {k c : Int} (hk : k = 4 ∨ k = 5) : ∀ (l : List T) (t : T) (v : Int), (∀ (i : Nat) (h : i < l.length), wiT l[i] (v + i) c = true) → wiT t (v + l.length) c = true → wiT (nestT k l t) v c = true
  | [], t, v, _, h => by simpa [nestT] using h
  | a :: l, t, v, h1, h2 => by
    show wiT (.mk k 0 [a, nestT k l t]) v c = true
    have b0 : bindsM k 0 = 0 := by rcases hk with rfl | rfl <;> rfl
    have b1 : bindsM k 1 = 1 := by rcases hk with rfl | rfl <;> rfl
    have ha := h1 0 (by simp)
    have hr := nest_wi hk l t (v + 1) (fun i hi => by
      have := h1 (i + 1) (by simpa using hi)
      simp only [List.getElem_cons_succ] at this
      rw [← this]
      congr 1
      omega) (by
      rw [List.length_cons] at h2
      rw [← h2]
      congr 1
      omega)
    simp only [List.getElem_cons_zero] at ha
    have ha' : wiT a v c = true := by rw [← ha]; congr 1; omega
    rw [wiT, if_neg (by omega), if_neg (by omega), if_neg (by omega)]
    simp only [wiL, Bool.and_true, Bool.and_eq_true]
    refine ⟨?_, ?_⟩
    · show wiT a (v + bindsM k 0) c = true
      rw [b0]
      simpa using ha'
    · show wiT (nestT k l t) (v + bindsM k 1) c = true
      rw [b1]
      exact hr
theorem check_same {t u : T} (hn : nodes t ≤ 1099511627776) (h1 : nodes t = nodes u) (h2 : depthN t = depthN u) (h3 : formedM t = formedM u) : checkM t = checkM u := by
  rw [checkM, checkM, size_is _ hn, depth_is _ hn, size_is u (by omega), depth_is u (by omega), h1, h2, h3]

end Ev
end Go.Proofs.YtncmainjcffanaaGreat
/- TeleBack. -/
namespace Go.Proofs.YtncmainjcffanaaGreat
namespace Ev
open Go
set_option maxRecDepth 100000
set_option linter.unusedSimpArgs false
set_option linter.unusedVariables false
attribute [local simp] allD_map_d sks_map_d tk tn tks

theorem sp_back (l : List T) : ∀ t : T, spA (spT t l) = l.reverse ++ spA t ∧ spH (spT t l) = spH t := by
  induction l with
  | nil => intro t; simp [spT]
  | cons a l ih =>
    intro t
    have h := ih (.mk 6 0 [t, a])
    show spA (spT (.mk 6 0 [t, a]) l) = _ ∧ spH (spT (.mk 6 0 [t, a]) l) = _
    rw [h.1, h.2, (sp_two 0 t a).1, (sp_two 0 t a).2]
    simp
theorem pi_back (l : List T) (t : T) : piD (nestT 4 l t) = l ++ piD t ∧ piB (nestT 4 l t) = piB t := by
  induction l with
  | nil => simp [nestT]
  | cons a l ih =>
    show piD (.mk 4 0 [a, nestT 4 l t]) = _ ∧ piB (.mk 4 0 [a, nestT 4 l t]) = _
    rw [(pi_two _ _ _).1, (pi_two _ _ _).2, ih.1, ih.2]
    simp
theorem sp_head {t : T} (h : t.kind ≠ 6) : spA t = [] ∧ spH t = t := by
  obtain ⟨k, n, ks⟩ := t
  exact sp_none fun hc => h hc.1
theorem pi_head {t : T} (h : t.kind ≠ 4) : piD t = [] ∧ piB t = t := by
  obtain ⟨k, n, ks⟩ := t
  exact pi_none fun hc => h hc.1
theorem sp_okT : ∀ (l : List T) (t : T), okT t → (∀ x ∈ l, okT x) → okT (spT t l)
  | [], t, ht, _ => ht
  | a :: l, t, ht, h => sp_okT l (.mk 6 0 [t, a]) (okT_two ht (h a (by simp)) (by omega)) fun x hx => h x (by simp [hx])
theorem okT_k {k n : Int} {a b : T} (hk : 0 ≤ k ∧ k ≤ 100000) (ha : okT a) (hb : okT b) (hn : 0 ≤ n ∧ n ≤ 100000) : okT (.mk k n [a, b]) :=
  .mk k n [a, b] (by simp only [n64]; omega) (by simp only [n64]; omega) (by simp) (by intro x hx; simp at hx; rcases hx with rfl | rfl <;> assumption)
theorem nest_okT {k : Int} (hk : 0 ≤ k ∧ k ≤ 100000) (t : T) (ht : okT t) : ∀ l : List T, (∀ x ∈ l, okT x) → okT (nestT k l t)
  | [], _ => ht
  | a :: l, h => okT_k hk (h a (by simp)) (nest_okT hk t ht l fun x hx => h x (by simp [hx])) (by omega)
theorem sp_nodes' (l : List T) : ∀ t : T, nodes (spT t l) = (l.map nodes).sum + l.length + nodes t := by
  induction l with
  | nil => intro t; simp [spT]
  | cons a l ih =>
    intro t
    have h := ih (.mk 6 0 [t, a])
    show nodes (spT (.mk 6 0 [t, a]) l) = _
    rw [h, nodes2, List.map_cons, List.sum_cons, List.length_cons]
    omega

theorem heavy_no {l : List T} (hb : (l.map nodes).sum ≤ 1048576) (h : heavy02 l = false) : l.length ≤ 60 ∧ (∀ x ∈ l, depthN x ≤ 300) ∧ (l.map nodes).sum ≤ 9000 := by
  have hm : ∀ x ∈ l, nodes x ≤ (l.map nodes).sum := fun x hx => sum_mem (List.mem_map.2 ⟨x, hx, rfl⟩)
  rw [heavy02, Bool.or_eq_false_iff, Bool.or_eq_false_iff] at h
  obtain ⟨⟨h1, h2⟩, h3⟩ := h
  rw [foldl_sum l 0 (by omega) (by omega) fun x hx => size_is x (by have := hm x hx; omega)] at h3
  refine ⟨by simp at h1; omega, fun x hx => ?_, by simp at h3; omega⟩
  have := List.any_eq_false.1 h2 x hx
  rw [depth_is x (by have := hm x hx; omega)] at this
  simp at this
  omega
theorem sum_take (l : List T) (i : Nat) (h : i < l.length) : ((l.take (i + 1)).map nodes).sum = ((l.take i).map nodes).sum + nodes l[i] := by
  rw [take_snoc (List.getElem?_eq_getElem h), List.map_append, List.sum_append]
  simp

end Ev
end Go.Proofs.YtncmainjcffanaaGreat
/- TeleParts. -/
namespace Go.Proofs.YtncmainjcffanaaGreat
namespace Ev
open Go
set_option maxRecDepth 100000
set_option linter.unusedSimpArgs false
set_option linter.unusedVariables false
attribute [local simp] allD_map_d sks_map_d tk tn tks

theorem twins_own (l : List T) (h : okTs l) : OwnC Tryz.prog n_porismkeep_Twins [eTs l] [.one (.row 3 (l.map eT) false)] := by
  refine o_porismkeep_Twins rfl fun hs => ?_
  have hl := h.1
  simp -dsimp [x_porismkeep_Twins, eTs]
  refine wp_upto l.length (fun i st => st.s 0 = .d (.sl 3 (l.map eT)) ∧ st.s 4 = .d (.int .i64 i) ∧ ∃ v, st.s 3 = .rsl 3 v ∧ st.h 3 = ⟨v, .row 3 ((l.map eT).take i) false⟩) ?_ ?_
  · simp -dsimp
  · rintro i ⟨s, hp⟩ hi ⟨g1, g2, v, g3, g4⟩
    dsimp only at g1 g2 g3 g4
    rcases Nat.lt_or_ge i l.length with hlt | hge
    · have w1 : IntKind.i64.wrap ((i : Int) + 1) = (i : Int) + 1 := wrap_id (by omega) (by omega)
      simp -dsimp [g1, g2, g3, g4, hlt, cT]
      refine call_of (twin_ok l[i] (h.2 _ (List.getElem_mem _))) ?_
      have hr : (min i l.length + 1) * 40 ≤ maxRoom := by simp only [maxRoom]; omega
      have hn := take_next eT cT eT_eq l i hlt
      simp only [cT] at hn
      simp -dsimp [g1, g2, g3, g4, hlt, cT, hr, hn, w1]
    · have e : i = l.length := by omega
      subst e
      simp -dsimp [g1, g2, g3, g4]
      exact List.take_of_length_le (by simp)
theorem nest_append (k : Int) (l m : List T) (t : T) : nestT k (l ++ m) t = nestT k l (nestT k m t) := List.foldr_append ..
theorem sp_append (l m : List T) (t : T) : spT t (l ++ m) = spT (spT t l) m := List.foldl_append ..

end Ev
end Go.Proofs.YtncmainjcffanaaGreat
