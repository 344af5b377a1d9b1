/- pack: what Get tells; bytes that come in; the law's identity. -/
import Derived.Test.YtjebpfhffenbnaaZH
namespace Go.Proofs.Ytjebpfhffenbnaa
namespace Ev
open Go
set_option maxRecDepth 100000
set_option linter.unusedSimpArgs false
set_option linter.unusedVariables false
attribute [local simp] allD_map_d sks_map_d tk tn tks initA EndsM
theorem get_good {b : List Int} {at_ : Int} {t : T} {rest : List Int} (h0 : 0 ≤ at_) (h1 : at_ ≤ (b.length : Int)) (hd : b.drop at_.toNat = pk t ++ rest) (hf : formedM t = true) (hn : nodes t ≤ 6000) (hp : depthN t ≤ 200) (hl : b.length ≤ 1000000000) :
    getT b at_ = t ∧ getN b at_ = (b.length : Int) - rest.length ∧ getE b at_ = 0 := by
  have hc : ¬ (at_ < 0 ∨ (b.length : Int) < at_) := by omega
  have hG : getS b at_ = (t, ⟨rest, 0 + nodes t, false⟩) := by
    rw [getS, hd]
    exact rd_good t 201 1 0 rest hf (by omega) (by omega) (by omega) (by omega) (by omega)
  have hlen : rest.length ≤ b.length := by
    have := congrArg List.length hd
    simp at this
    omega
  rw [getT, getN, getE, if_neg hc, if_neg hc, if_neg hc, hG]
  simp only [Bool.false_eq_true, if_false]
  exact ⟨trivial, wrap_id (by omega) (by omega), trivial⟩
theorem get_sound {b : List Int} {at_ : Int} (hB : byteL b) (hl : b.length ≤ 1000000000) (h : getE b at_ = 0) : 0 ≤ at_ ∧ at_ ≤ (b.length : Int) ∧ ∃ rest, b.drop at_.toNat = pk (getT b at_) ++ rest ∧ formedM (getT b at_) = true ∧ nodes (getT b at_) ≤ 6000 ∧ depthN (getT b at_) ≤ 200 ∧ getN b at_ = (b.length : Int) - rest.length := by
  by_cases hc : at_ < 0 ∨ (b.length : Int) < at_
  · rw [getE, if_pos hc] at h; omega
  rw [getE, if_neg hc] at h
  rw [getT, getN, if_neg hc, if_neg hc]
  by_cases hb : (getS b at_).2.bad = true
  · rw [if_pos hb] at h; omega
  rw [if_neg hb, if_neg hb]
  have hS := rd_sound 201 1 ⟨b.drop at_.toNat, 0, false⟩ (fun x hx => hB x (List.mem_of_mem_drop hx)) (by simp) (by simp) (by omega) (by omega) (by omega) (by rw [← getS]; simpa using hb)
  rw [← getS] at hS
  generalize getS b at_ = q at *
  obtain ⟨t, l, n, bd⟩ := q
  obtain ⟨s1, s2, s3, s4, s5, s6⟩ := hS
  simp only at s1 s2 s3 s4 s5 s6 ⊢
  have hlen : l.length ≤ b.length := by
    have := congrArg List.length s3
    simp at this
    omega
  exact ⟨by omega, by omega, l, s3, s2, by omega, by omega, wrap_id (by omega) (by omega)⟩
theorem get_err {b : List Int} {at_ : Int} (h : ¬ getE b at_ = 0) : getT b at_ = T0 ∧ getN b at_ = 0 ∧ ((getE b at_ = 1 ∧ (at_ < 0 ∨ (b.length : Int) < at_)) ∨ (getE b at_ = 3 ∧ ¬ (at_ < 0 ∨ (b.length : Int) < at_))) := by
  by_cases hc : at_ < 0 ∨ (b.length : Int) < at_
  · rw [getT, getN, getE, if_pos hc, if_pos hc, if_pos hc]; exact ⟨rfl, rfl, .inl ⟨rfl, hc⟩⟩
  rw [getE, if_neg hc] at h
  rw [getT, getN, getE, if_neg hc, if_neg hc, if_neg hc]
  by_cases hb : (getS b at_).2.bad = true
  · rw [if_pos hb, if_pos hb, if_pos hb]; exact ⟨rfl, rfl, .inr ⟨rfl, hc⟩⟩
  · rw [if_neg hb] at h; exact (h rfl).elim
theorem check_of {t : T} (hf : formedM t = true) (hn : nodes t ≤ 6000) (hp : depthN t ≤ 200) : checkM t = 0 := (check_iff (by omega)).2 ⟨hn, hp, hf⟩
/-! what comes in -/
/-! the identity -/
def idT : T := .mk 5 0 [.mk 2 0 [], .mk 1 0 []]
theorem idT_fm : formedM idT = true := fm_node_of (by decide) (by decide) fun x hx => by
  simp only [List.mem_cons, List.not_mem_nil, or_false] at hx
  rcases hx with rfl | rfl <;> exact fm_leaf_of (by decide) (by omega) (by omega)
theorem idT_nodes : nodes idT = 3 := by simp [idT, nodes]
theorem idT_pk : pk idT = [5, 2, 0, 0, 1, 0, 0] := rfl
theorem wakes03_ok : Pure Try.prog n_porismlaw03_wakes [] [.bool true] := by
  refine p_porismlaw03_wakes rfl fun hs => ?_
  have hd := depth_le idT
  rw [idT_nodes] at hd
  have hck : checkM idT = 0 := check_of idT_fm (by rw [idT_nodes]; omega) (by omega)
  obtain ⟨g1, g2, g3⟩ := get_good (b := pk idT) (at_ := 0) (t := idT) (rest := []) (by omega) (by omega) (by simp) idT_fm (by rw [idT_nodes]; omega) (by omega) (by simp [idT_pk])
  have hP := put_ok [] idT (by simp) (by rw [idT_nodes]; omega)
  have hG := get_ok (pk idT) 0
  have hB := keepBytes_ok (pk idT) (pk idT)
  have hK := keepTerm_ok idT
  rw [g1, g2, g3] at hG
  simp only [putB, hck, if_true, List.nil_append] at hP
  simp only [eB, idT_pk, decide_true] at hP hG hB
  simp [idT_pk] at hG hP hB
  simp -dsimp [x_porismlaw03_wakes]
  refine call_of (ru_ok 0) ?_
  simp -dsimp [cT]
  refine call_of (rv_ok 0) ?_
  simp -dsimp [cT]
  have hT := rt_ok 5 [.mk 2 0 [], .mk 1 0 []] (by simp only [maxRoom]; decide)
  simp [eTs, eT_eq, cT] at hT
  refine call_of hT ?_
  simp [idT, cT, eT_eq] at hP hG hK
  simp -dsimp [cT]
  refine call_of hP ?_
  simp -dsimp [cT]
  refine call_of hG ?_
  simp -dsimp [cT]
  refine call_of hB ?_
  simp -dsimp [cT]
  refine call_of hK ?_
  simp -dsimp [cT]
end Ev
end Go.Proofs.Ytjebpfhffenbnaa
