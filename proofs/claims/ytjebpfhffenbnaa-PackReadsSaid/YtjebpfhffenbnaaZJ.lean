/- PackReads. -/
import Derived.Test.YtjebpfhffenbnaaZI
namespace Go.Proofs.Ytjebpfhffenbnaa
namespace Ev
open Go
set_option maxRecDepth 100000
set_option linter.unusedSimpArgs false
set_option linter.unusedVariables false
attribute [local simp] allD_map_d sks_map_d tk tn tks initA EndsM
theorem reads03_law (b : List Int) (hB : byteL b) (at_ : Int) : Pure Try.prog n_porismlaw03_PackReads [eB b, .int .i64 at_] [.bool true] := by
  refine p_porismlaw03_PackReads rfl fun hs => ?_
  simp -dsimp [x_porismlaw03_PackReads, eB]
  by_cases g0 : (3000 : Int) < b.length
  · simp -dsimp [g0]
  have hG := get_ok b at_
  simp only [eB] at hG
  simp -dsimp [g0]
  refine call_of hG ?_
  by_cases hE : getE b at_ = 0
  · obtain ⟨a1, a2, rest, a3, a4, a5, a6, a7⟩ := get_sound hB (by omega) hE
    generalize getT b at_ = t at *
    rw [hE]
    have hck := check_of a4 a5 a6
    have hP := put_ok [] t (by simp) (by omega)
    simp only [putB, hck, if_true, List.nil_append, eB, List.map_nil] at hP
    have hlen := congrArg List.length a3
    simp only [List.length_drop, List.length_append] at hlen
    have hpos := pk_pos t
    have c1 : at_ < getN b at_ := by omega
    have c2 : getN b at_ ≤ (b.length : Int) := by omega
    have c3 : 0 ≤ getN b at_ := by omega
    have hsl : (b.take (getN b at_).toNat).drop at_.toNat = pk t := by
      rw [List.drop_take, a3]
      have : (getN b at_).toNat - at_.toNat = (pk t).length := by omega
      rw [this]; simp
    have hB2 := keepBytes_ok (pk t) (pk t)
    simp only [eB, decide_true] at hB2
    have c4 : at_ ≤ (getN b at_) := by omega
    have c5 : at_.toNat ≤ (getN b at_).toNat := by omega
    simp -dsimp [cT]
    refine call_of hP ?_
    have c6 : at_ ≤ max (getN b at_) 0 := by omega
    have hsl2 : ((b.map (D.int .u8)).take (getN b at_).toNat).drop at_.toNat = (pk t).map (.int .u8) := by rw [← List.map_take, ← List.map_drop, hsl]
    simp -dsimp [cT, a1, a2, c1, c2, c3, c4, c5, c6, hsl2]
    refine call_of hB2 ?_
    simp -dsimp [cT]
    refine call_of wakes03_ok ?_
    simp -dsimp [cT]
  · obtain ⟨e1, e2, e3⟩ := get_err hE
    rw [e1, e2]
    have hK := keepTerm_ok T0
    simp only [T0, cT] at hK
    rcases e3 with ⟨e3, e4⟩ | ⟨e3, e4⟩
    · rw [e3]
      rcases e4 with h | h
      · simp -dsimp [cT, T0, h]
        refine call_of hK ?_
        simp -dsimp [cT, T0, h]
        refine call_of wakes03_ok ?_
        simp -dsimp [cT, T0, h]
      · have h' : ¬ at_ < 0 := by omega
        simp -dsimp [cT, T0, h, h']
        refine call_of hK ?_
        simp -dsimp [cT, T0, h]
        refine call_of wakes03_ok ?_
        simp -dsimp [cT, T0, h]
    · rw [e3]
      have h1 : ¬ at_ < 0 := by omega
      have h2 : ¬ (b.length : Int) < at_ := by omega
      simp -dsimp [cT, T0, h1, h2]
      refine call_of hK ?_
      simp -dsimp [cT, T0]
      refine call_of wakes03_ok ?_
      simp -dsimp [cT, T0]
end Ev
end Go.Proofs.Ytjebpfhffenbnaa
