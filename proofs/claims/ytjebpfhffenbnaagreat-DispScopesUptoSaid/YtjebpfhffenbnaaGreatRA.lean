/- Several texts in one. -/
import Derived.Test.YtjebpfhffenbnaaGreatBB
/- TeleAgain. -/
namespace Go.Proofs.YtjebpfhffenbnaaGreat
namespace Ev
open Go
set_option maxRecDepth 100000
set_option linter.unusedSimpArgs false
set_option linter.unusedVariables false
attribute [local simp] allD_map_d sks_map_d tk tn tks

theorem formed_two {k n : Int} {ks : List T} (hk : kidsM k = 2) (h : formedM (.mk k n ks) = true) : n = 0 ∧ ∃ a b, ks = [a, b] ∧ formedM a = true ∧ formedM b = true := by
  rw [formedM_is, hk] at h
  split at h
  · rename_i hl
    rw [if_neg (by omega)] at h
    split at h
    · rename_i h0
      match ks, hl with
      | [a, b], _ =>
        simp only [List.all_cons, List.all_nil, Bool.and_true, Bool.and_eq_true] at h
        exact ⟨h0, a, b, rfl, h⟩
      | [], hl => simp at hl
      | [_], hl => simp at hl
      | _ :: _ :: _ :: _, hl => simp at hl; omega
    · cases h
  · cases h
theorem sp_again (t : T) : formedM t = true → spT (spH t) (spA t).reverse = t ∧ (spH t).kind ≠ 6 := by
  refine T.ind (p := fun t => formedM t = true → spT (spH t) (spA t).reverse = t ∧ (spH t).kind ≠ 6) ?_ t
  intro k n ks ih hf
  by_cases hc : k = 6 ∧ ∃ a b, ks = [a, b]
  · obtain ⟨rfl, a, b, rfl⟩ := hc
    obtain ⟨rfl, a', b', e, hfa, hfb⟩ := formed_two rfl hf
    cases e
    obtain ⟨h1, h2⟩ := ih a (by simp) hfa
    rw [(sp_two 0 a b).1, (sp_two 0 a b).2, List.reverse_cons, spT, List.foldl_append]
    refine ⟨?_, h2⟩
    rw [spT] at h1
    rw [h1]
    rfl
  · rw [(sp_none hc).1, (sp_none hc).2]
    refine ⟨rfl, fun h6 => hc ?_⟩
    have h6 : k = 6 := h6
    subst h6
    obtain ⟨_, a, b, e, _⟩ := formed_two rfl hf
    exact ⟨rfl, a, b, e⟩
end Ev
end Go.Proofs.YtjebpfhffenbnaaGreat
/- TeleScopes. -/
namespace Go.Proofs.YtjebpfhffenbnaaGreat
namespace Ev
open Go
set_option maxRecDepth 100000
set_option linter.unusedSimpArgs false
set_option linter.unusedVariables false
attribute [local simp] allD_map_d sks_map_d tk tn tks

theorem check_iff2 {t : T} (h : nodes t ≤ 1099511627776) : checkM t = 0 ↔ nodes t ≤ 6000 ∧ depthN t ≤ 200 ∧ formedM t = true := by
  rw [checkM, size_is _ h, depth_is _ h]
  by_cases h1 : (6000 : Int) < nodes t
  · rw [if_pos h1]
    constructor
    · intro h; cases h
    · omega
  · rw [if_neg h1]
    by_cases h2 : (200 : Int) < depthN t
    · rw [if_pos h2]
      constructor
      · intro h; cases h
      · omega
    · rw [if_neg h2]
      cases formedM t
      · simp
      · simp; omega
theorem scope_is2 {t : T} {v : Int} (h0 : 0 ≤ v) (h1 : v ≤ 65536) (hn : nodes t ≤ 4000000) : scopeM t v 65536 = true ↔ checkM t = 0 ∧ wiT t v 65536 = true := by
  rw [scopeM, if_neg (by omega), if_neg (by omega), if_neg (show ¬65536 < v by omega), within_is 65536 t v h0 (by omega)]
  by_cases h : checkM t = 0
  · rw [if_pos h]; simp [h]
  · rw [if_neg h]; simp [h]
theorem sum_bulk (l : List T) : (l.map nodes).sum ≤ bulk (eTs l) := by
  have go : ∀ l : List T, (l.map nodes).sum ≤ (l.map (bulk ∘ eT)).sum := by
    intro l
    induction l with
    | nil => simp
    | cons x xs ih =>
      have := nodes_bulk x
      simp only [List.map_cons, List.sum_cons, Function.comp] at ih ⊢
      omega
  have := go l
  simp only [eTs, bulk, List.map_map]
  omega
theorem nest_nodes (k : Int) (l : List T) (t : T) : nodes (nestT k l t) = (l.map nodes).sum + l.length + nodes t := by
  induction l with
  | nil => simp [nestT]
  | cons a l ih =>
    show nodes (.mk k 0 [a, nestT k l t]) = _
    rw [nodes2, ih, List.map_cons, List.sum_cons, List.length_cons]
    omega
theorem nest_wi {k c : Int} (hk : k = 4 ∨ k = 5) : ∀ (l : List T) (t : T) (v : Int), (∀ (i : Nat) (h : i < l.length), wiT l[i] (v + i) c = true) → wiT t (v + l.length) c = true → wiT (nestT k l t) v c = true
  | [], t, v, _, h => by simpa [nestT] using h
  | a :: l, t, v, h1, h2 => by
    show wiT (.mk k 0 [a, nestT k l t]) v c = true
    have b0 : bindsM k 0 = 0 := by rcases hk with rfl | rfl <;> rfl
    have b1 : bindsM k 1 = 1 := by rcases hk with rfl | rfl <;> rfl
    have ha := h1 0 (by simp)
    have hr := nest_wi hk l t (v + 1) (fun i hi => by
      have := h1 (i + 1) (by simpa using hi)
      simp only [List.getElem_cons_succ] at this
      rw [← this]
      congr 1
      omega) (by
      rw [List.length_cons] at h2
      rw [← h2]
      congr 1
      omega)
    simp only [List.getElem_cons_zero] at ha
    have ha' : wiT a v c = true := by rw [← ha]; congr 1; omega
    rw [wiT, if_neg (by omega), if_neg (by omega), if_neg (by omega)]
    simp only [wiL, Bool.and_true, Bool.and_eq_true]
    refine ⟨?_, ?_⟩
    · show wiT a (v + bindsM k 0) c = true
      rw [b0]
      simpa using ha'
    · show wiT (nestT k l t) (v + bindsM k 1) c = true
      rw [b1]
      exact hr
end Ev
end Go.Proofs.YtjebpfhffenbnaaGreat
/- TeleBack. -/
namespace Go.Proofs.YtjebpfhffenbnaaGreat
namespace Ev
open Go
set_option maxRecDepth 100000
set_option linter.unusedSimpArgs false
set_option linter.unusedVariables false
attribute [local simp] allD_map_d sks_map_d tk tn tks

theorem pi_back (l : List T) (t : T) : piD (nestT 4 l t) = l ++ piD t ∧ piB (nestT 4 l t) = piB t := by
  induction l with
  | nil => simp [nestT]
  | cons a l ih =>
    show piD (.mk 4 0 [a, nestT 4 l t]) = _ ∧ piB (.mk 4 0 [a, nestT 4 l t]) = _
    rw [(pi_two _ _ _).1, (pi_two _ _ _).2, ih.1, ih.2]
    simp
theorem pi_head {t : T} (h : t.kind ≠ 4) : piD t = [] ∧ piB t = t := by
  obtain ⟨k, n, ks⟩ := t
  exact pi_none fun hc => h hc.1
theorem sp_okT : ∀ (l : List T) (t : T), okT t → (∀ x ∈ l, okT x) → okT (spT t l)
  | [], t, ht, _ => ht
  | a :: l, t, ht, h => sp_okT l (.mk 6 0 [t, a]) (okT_two ht (h a (by simp)) (by omega)) fun x hx => h x (by simp [hx])
theorem okT_k {k n : Int} {a b : T} (hk : 0 ≤ k ∧ k ≤ 100000) (ha : okT a) (hb : okT b) (hn : 0 ≤ n ∧ n ≤ 100000) : okT (.mk k n [a, b]) :=
  .mk k n [a, b] (by simp only [n64]; omega) (by simp only [n64]; omega) (by simp) (by intro x hx; simp at hx; rcases hx with rfl | rfl <;> assumption)
theorem nest_okT {k : Int} (hk : 0 ≤ k ∧ k ≤ 100000) (t : T) (ht : okT t) : ∀ l : List T, (∀ x ∈ l, okT x) → okT (nestT k l t)
  | [], _ => ht
  | a :: l, h => okT_k hk (h a (by simp)) (nest_okT hk t ht l fun x hx => h x (by simp [hx])) (by omega)
theorem sp_nodes' (l : List T) : ∀ t : T, nodes (spT t l) = (l.map nodes).sum + l.length + nodes t := by
  induction l with
  | nil => intro t; simp [spT]
  | cons a l ih =>
    intro t
    have h := ih (.mk 6 0 [t, a])
    show nodes (spT (.mk 6 0 [t, a]) l) = _
    rw [h, nodes2, List.map_cons, List.sum_cons, List.length_cons]
    omega

theorem heavy_no {l : List T} (hb : (l.map nodes).sum ≤ 1048576) (h : heavy02 l = false) : l.length ≤ 60 ∧ (∀ x ∈ l, depthN x ≤ 300) ∧ (l.map nodes).sum ≤ 9000 := by
  have hm : ∀ x ∈ l, nodes x ≤ (l.map nodes).sum := fun x hx => sum_mem (List.mem_map.2 ⟨x, hx, rfl⟩)
  rw [heavy02, Bool.or_eq_false_iff, Bool.or_eq_false_iff] at h
  obtain ⟨⟨h1, h2⟩, h3⟩ := h
  rw [foldl_sum l 0 (by omega) (by omega) fun x hx => size_is x (by have := hm x hx; omega)] at h3
  refine ⟨by simp at h1; omega, fun x hx => ?_, by simp at h3; omega⟩
  have := List.any_eq_false.1 h2 x hx
  rw [depth_is x (by have := hm x hx; omega)] at this
  simp at this
  omega
end Ev
end Go.Proofs.YtjebpfhffenbnaaGreat
/- TeleParts. -/
namespace Go.Proofs.YtjebpfhffenbnaaGreat
namespace Ev
open Go
set_option maxRecDepth 100000
set_option linter.unusedSimpArgs false
set_option linter.unusedVariables false
attribute [local simp] allD_map_d sks_map_d tk tn tks

end Ev
end Go.Proofs.YtjebpfhffenbnaaGreat
