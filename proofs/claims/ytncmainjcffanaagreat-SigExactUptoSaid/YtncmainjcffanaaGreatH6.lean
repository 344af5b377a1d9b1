/- SigClosed, SigArgs. -/
import Derived.Test.YtncmainjcffanaaGreatH5
namespace Go.Proofs.YtncmainjcffanaaGreat
namespace Ev
open Go
set_option maxRecDepth 100000
set_option linter.unusedSimpArgs false
set_option linter.unusedVariables false
attribute [local simp] allD_map_d sks_map_d tk tn tks one_sos one_cos one_ars one_ts

theorem okTs_nil : okTs [] := ⟨by simp, by simp⟩
theorem natB_ok : okBl natB := by
  have hz : okT zT := okT_leaf (by omega) (by omega)
  have hr : okAr (recA 0 []) := ⟨hz, okTs_nil, ⟨by decide, by decide⟩, okTs_nil⟩
  refine ⟨by decide, fun s hs => ?_, by decide, fun c hc => ?_, ⟨by decide, by decide⟩⟩
  · simp only [natB, List.mem_singleton] at hs
    subst hs
    exact ⟨⟨by simp, by simp⟩, ⟨by decide, by decide⟩, hz⟩
  · simp only [natB, List.mem_cons, List.not_mem_nil, or_false] at hc
    rcases hc with rfl | rfl
    · exact ⟨⟨by decide, by decide⟩, ⟨by simp, by simp⟩, okTs_nil, hz⟩
    · exact ⟨⟨by decide, by decide⟩, ⟨by simp, fun x hx => by simp at hx; subst hx; exact hr⟩, okTs_nil, hz⟩
theorem natB_fine : FineBl natB := by
  have hz : nodes zT ≤ 9000 := by rw [zT, leaf_nodes]; omega
  have hr : FineAr (recA 0 []) := ⟨hz, by simp [recA], by simp [recA], by simp [recA], by simp [recA]⟩
  refine ⟨by decide, by decide, fun s hs => ?_, fun c hc => ?_⟩
  · simp only [natB, List.mem_singleton] at hs
    subst hs
    exact ⟨⟨by simp, by simp⟩, hz⟩
  · simp only [natB, List.mem_cons, List.not_mem_nil, or_false] at hc
    rcases hc with rfl | rfl
    · exact ⟨⟨by simp, by simp⟩, by simp, by simp, hz⟩
    · exact ⟨⟨by simp, fun x hx => by simp at hx; subst hx; exact hr⟩, by simp, by simp, hz⟩
theorem pi2_check (a b : Int) (ha : 0 ≤ a ∧ a ≤ 65535) (hb : 0 ≤ b ∧ b ≤ 65535) : checkM (.mk 4 0 [tC a, tC b]) = 0 := by
  have n0 : nodes (.mk 4 0 [tC a, tC b]) = 3 := by rw [nodes2, tC, tC, leaf_nodes, leaf_nodes]
  refine (check_iff2 (by omega)).2 ⟨by omega, ?_, ?_⟩
  · have := depth_le (.mk 4 0 [tC a, tC b])
    omega
  · rw [formedM_is]
    have h0 : kidsM 4 = 2 := rfl
    rw [h0]
    simp [tC_formed ha, tC_formed hb]
theorem wakes10_ok : Pure Tryz.prog n_porismlaw10_wakes [] [.bool true] := by
  refine p_porismlaw10_wakes rfl fun hs => ?_
  have hC := conType_ok natB natB_ok natB_fine 0 1
  have e1 : mayE natB 0 1 natB.cons.length = 0 := by rfl
  have e2 : ctT natB 0 ⟨0, [recA 0 []], [], zT⟩ = .mk 4 0 [tC 0, tC 0] := by rfl
  have e3 : ctE natB 0 1 = 0 := by
    rw [ctE, if_pos e1]
    show checkM (ctT natB 0 ⟨0, [recA 0 []], [], zT⟩) = 0
    rw [e2]
    exact pi2_check 0 0 (by omega) (by omega)
  have e4 : ctR natB 0 1 = .mk 4 0 [tC 0, tC 0] := by
    rw [ctR, if_pos e3]
    exact e2
  rw [e3, e4] at hC
  have hc := rc_ok 0
  have hT := rt_ok 4 [tC 0, tC 0] (by simp [maxRoom])
  have hk := keepTerm_ok (.mk 4 0 [tC 0, tC 0])
  have hN := nat_ok
  simp only [declC, cBl, eBl, cT, tC, eTs, List.map_cons, List.map_nil, eT_eq, tk, tn, tks, List.cons_append, List.nil_append] at hC hc hT hk hN
  simp -dsimp [x_porismlaw10_wakes]
  refine call_of hN ?_
  simp -dsimp
  refine call_of hC ?_
  simp -dsimp
  refine call_of hc ?_
  simp -dsimp
  refine call_of hc ?_
  simp -dsimp
  refine call_of hT ?_
  simp -dsimp
  refine call_of hk ?_
  simp -dsimp
theorem shapeR_iff {b : Bl} : shapeR b = true ↔ checkB b = 0 := by simp [shapeR]
theorem ft_err {b : Bl} (hf : Fit b) {base : Int} (h0 : 0 ≤ base) (h1 : base ≤ 60000) {t : T} (hn : nodes t ≤ 500000) (hfm : formedM t = true) (h : checkM t ≠ 0) : checkM t = 4 ∨ checkM t = 5 := by
  rw [checkM] at h ⊢
  split
  · exact .inl rfl
  · split
    · exact .inr rfl
    · rename_i a1 a2
      rw [if_neg a1, if_neg a2, if_pos hfm] at h
      exact absurd rfl h
end Ev
end Go.Proofs.YtncmainjcffanaaGreat
