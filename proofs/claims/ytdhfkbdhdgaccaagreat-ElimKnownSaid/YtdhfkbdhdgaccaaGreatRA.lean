/- Several texts in one. -/
import Derived.Test.YtdhfkbdhdgaccaaGreatBB
/- TeleAgain. -/
namespace Go.Proofs.YtdhfkbdhdgaccaaGreat
namespace Ev
open Go
set_option maxRecDepth 100000
set_option linter.unusedSimpArgs false
set_option linter.unusedVariables false
attribute [local simp] allD_map_d sks_map_d tk tn tks

theorem okTs_of {l : List T} (hl : l.length ≤ 1000000) (h : ∀ x ∈ l, okT x) : okTs l := ⟨by omega, h⟩
end Ev
end Go.Proofs.YtdhfkbdhdgaccaaGreat
/- TeleScopes. -/
namespace Go.Proofs.YtdhfkbdhdgaccaaGreat
namespace Ev
open Go
set_option maxRecDepth 100000
set_option linter.unusedSimpArgs false
set_option linter.unusedVariables false
attribute [local simp] allD_map_d sks_map_d tk tn tks

theorem scope_is2 {t : T} {v : Int} (h0 : 0 ≤ v) (h1 : v ≤ 65536) (hn : nodes t ≤ 4000000) : scopeM t v 65536 = true ↔ checkM t = 0 ∧ wiT t v 65536 = true := by
  rw [scopeM, if_neg (by omega), if_neg (by omega), if_neg (show ¬65536 < v by omega), within_is 65536 t v h0 (by omega)]
  by_cases h : checkM t = 0
  · rw [if_pos h]; simp [h]
  · rw [if_neg h]; simp [h]
theorem nest_nodes (k : Int) (l : List T) (t : T) : nodes (nestT k l t) = (l.map nodes).sum + l.length + nodes t := by
  induction l with
  | nil => simp [nestT]
  | cons a l ih =>
    show nodes (.mk k 0 [a, nestT k l t]) = _
    rw [nodes2, ih, List.map_cons, List.sum_cons, List.length_cons]
    omega
theorem nest_wi {k c : Int} (hk : k = 4 ∨ k = 5) : ∀ (l : List T) (t : T) (v : Int), (∀ (i : Nat) (h : i < l.length), wiT l[i] (v + i) c = true) → wiT t (v + l.length) c = true → wiT (nestT k l t) v c = true
  | [], t, v, _, h => by simpa [nestT] using h
  | a :: l, t, v, h1, h2 => by
    show wiT (.mk k 0 [a, nestT k l t]) v c = true
    have b0 : bindsM k 0 = 0 := by rcases hk with rfl | rfl <;> rfl
    have b1 : bindsM k 1 = 1 := by rcases hk with rfl | rfl <;> rfl
    have ha := h1 0 (by simp)
    have hr := nest_wi hk l t (v + 1) (fun i hi => by
      have := h1 (i + 1) (by simpa using hi)
      simp only [List.getElem_cons_succ] at this
      rw [← this]
      congr 1
      omega) (by
      rw [List.length_cons] at h2
      rw [← h2]
      congr 1
      omega)
    simp only [List.getElem_cons_zero] at ha
    have ha' : wiT a v c = true := by rw [← ha]; congr 1; omega
    rw [wiT, if_neg (by omega), if_neg (by omega), if_neg (by omega)]
    simp only [wiL, Bool.and_true, Bool.and_eq_true]
    refine ⟨?_, ?_⟩
    · show wiT a (v + bindsM k 0) c = true
      rw [b0]
      simpa using ha'
    · show wiT (nestT k l t) (v + bindsM k 1) c = true
      rw [b1]
      exact hr
end Ev
end Go.Proofs.YtdhfkbdhdgaccaaGreat
/- TeleBack. -/
namespace Go.Proofs.YtdhfkbdhdgaccaaGreat
namespace Ev
open Go
set_option maxRecDepth 100000
set_option linter.unusedSimpArgs false
set_option linter.unusedVariables false
attribute [local simp] allD_map_d sks_map_d tk tn tks

theorem pi_back (l : List T) (t : T) : piD (nestT 4 l t) = l ++ piD t ∧ piB (nestT 4 l t) = piB t := by
  induction l with
  | nil => simp [nestT]
  | cons a l ih =>
    show piD (.mk 4 0 [a, nestT 4 l t]) = _ ∧ piB (.mk 4 0 [a, nestT 4 l t]) = _
    rw [(pi_two _ _ _).1, (pi_two _ _ _).2, ih.1, ih.2]
    simp
theorem pi_head {t : T} (h : t.kind ≠ 4) : piD t = [] ∧ piB t = t := by
  obtain ⟨k, n, ks⟩ := t
  exact pi_none fun hc => h hc.1
theorem sp_okT : ∀ (l : List T) (t : T), okT t → (∀ x ∈ l, okT x) → okT (spT t l)
  | [], t, ht, _ => ht
  | a :: l, t, ht, h => sp_okT l (.mk 6 0 [t, a]) (okT_two ht (h a (by simp)) (by omega)) fun x hx => h x (by simp [hx])
theorem okT_k {k n : Int} {a b : T} (hk : 0 ≤ k ∧ k ≤ 100000) (ha : okT a) (hb : okT b) (hn : 0 ≤ n ∧ n ≤ 100000) : okT (.mk k n [a, b]) :=
  .mk k n [a, b] (by simp only [n64]; omega) (by simp only [n64]; omega) (by simp) (by intro x hx; simp at hx; rcases hx with rfl | rfl <;> assumption)
theorem nest_okT {k : Int} (hk : 0 ≤ k ∧ k ≤ 100000) (t : T) (ht : okT t) : ∀ l : List T, (∀ x ∈ l, okT x) → okT (nestT k l t)
  | [], _ => ht
  | a :: l, h => okT_k hk (h a (by simp)) (nest_okT hk t ht l fun x hx => h x (by simp [hx])) (by omega)
theorem sp_nodes' (l : List T) : ∀ t : T, nodes (spT t l) = (l.map nodes).sum + l.length + nodes t := by
  induction l with
  | nil => intro t; simp [spT]
  | cons a l ih =>
    intro t
    have h := ih (.mk 6 0 [t, a])
    show nodes (spT (.mk 6 0 [t, a]) l) = _
    rw [h, nodes2, List.map_cons, List.sum_cons, List.length_cons]
    omega

end Ev
end Go.Proofs.YtdhfkbdhdgaccaaGreat
/- TeleParts. -/
namespace Go.Proofs.YtdhfkbdhdgaccaaGreat
namespace Ev
open Go
set_option maxRecDepth 100000
set_option linter.unusedSimpArgs false
set_option linter.unusedVariables false
attribute [local simp] allD_map_d sks_map_d tk tn tks

theorem twins_own (l : List T) (h : okTs l) : OwnC Tryz.prog n_porismkeep_Twins [eTs l] [.one (.row 3 (l.map eT) false)] := by
  refine o_porismkeep_Twins rfl fun hs => ?_
  have hl := h.1
  simp -dsimp [x_porismkeep_Twins, eTs]
  refine wp_upto l.length (fun i st => st.s 0 = .d (.sl 3 (l.map eT)) ∧ st.s 4 = .d (.int .i64 i) ∧ ∃ v, st.s 3 = .rsl 3 v ∧ st.h 3 = ⟨v, .row 3 ((l.map eT).take i) false⟩) ?_ ?_
  · simp -dsimp
  · rintro i ⟨s, hp⟩ hi ⟨g1, g2, v, g3, g4⟩
    dsimp only at g1 g2 g3 g4
    rcases Nat.lt_or_ge i l.length with hlt | hge
    · have w1 : IntKind.i64.wrap ((i : Int) + 1) = (i : Int) + 1 := wrap_id (by omega) (by omega)
      simp -dsimp [g1, g2, g3, g4, hlt, cT]
      refine call_of (twin_ok l[i] (h.2 _ (List.getElem_mem _))) ?_
      have hr : (min i l.length + 1) * 40 ≤ maxRoom := by simp only [maxRoom]; omega
      have hn := take_next eT cT eT_eq l i hlt
      simp only [cT] at hn
      simp -dsimp [g1, g2, g3, g4, hlt, cT, hr, hn, w1]
    · have e : i = l.length := by omega
      subst e
      simp -dsimp [g1, g2, g3, g4]
      exact List.take_of_length_le (by simp)
end Ev
end Go.Proofs.YtdhfkbdhdgaccaaGreat
