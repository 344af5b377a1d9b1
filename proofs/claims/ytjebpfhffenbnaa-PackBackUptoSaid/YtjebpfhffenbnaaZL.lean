/- PackBack. -/
import Derived.Test.YtjebpfhffenbnaaZI
namespace Go.Proofs.Ytjebpfhffenbnaa
namespace Ev
open Go
set_option maxRecDepth 100000
set_option linter.unusedSimpArgs false
set_option linter.unusedVariables false
attribute [local simp] allD_map_d sks_map_d tk tn tks initA EndsM
theorem u64_is (n : Int) : IntKind.u64.wrap n = n % 18446744073709551616 := by simp [IntKind.wrap, IntKind.bits, IntKind.signed]
theorem pk_inj {t u : T} (h1 : formedM t = true) (h2 : formedM u = true) (h : pk t = pk u) : t = u := (pk_pre t u [] [] h1 h2 (by simp [h])).1
/-- Cut short, it is none. -/
theorem get_cut {l m : List Int} {u : T} {c : Nat} (hl : byteL l) (hf : formedM u = true) (hb : l.length + (pk u).length ≤ 1000000000) (hc1 : l.length ≤ c) (hc2 : c < l.length + (pk u).length) (hm : m = (l ++ pk u).take c) : getE m l.length = 3 := by
  have hlen : m.length = c := by rw [hm]; simp; omega
  have hB : byteL m := fun x hx => by
    rw [hm] at hx
    have := List.mem_of_mem_take hx
    rw [List.mem_append] at this
    rcases this with h | h
    · exact hl x h
    · exact pk_byte u x h
  by_cases hE : getE m l.length = 0
  · exfalso
    obtain ⟨_, _, rest, a3, a4, a5, a6, a7⟩ := get_sound hB (by omega) hE
    have e1 : m.drop l.length = (pk u).take (c - l.length) := by
      rw [hm, List.drop_take, List.drop_left]
    rw [show ((l.length : Int)).toNat = l.length from rfl, e1] at a3
    have e2 : pk u ++ [] = pk (getT m l.length) ++ (rest ++ (pk u).drop (c - l.length)) := by
      rw [← List.append_assoc, ← a3, List.take_append_drop, List.append_nil]
    obtain ⟨_, h2⟩ := pk_pre _ _ _ _ hf a4 e2
    have h3 := congrArg List.length h2
    simp at h3
    omega
  · obtain ⟨_, _, h | h⟩ := get_err hE
    · omega
    · exact h.1
theorem back03_law (t u : T) (cut : Int) (hbt : nodes t ≤ 1048576) (hbu : nodes u ≤ 1048576) : Pure Try.prog n_porismlaw03_PackBack [.agg (cT t), .agg (cT u), .int .i64 cut] [.bool true] := by
  refine p_porismlaw03_PackBack rfl fun hs => ?_
  have hH := heavy02_ok [t, u]
  simp [eTs, eT_eq, cT] at hH
  simp -dsimp [x_porismlaw03_PackBack, cT]
  refine call_of hH ?_
  generalize heavy02 [t, u] = hv
  cases hv
  case true => simp -dsimp
  have hP1 := put_ok [] t (by simp) (by omega)
  simp only [putB, eB, cT, List.map_nil, List.nil_append] at hP1
  simp -dsimp [cT]
  refine call_of hP1 ?_
  by_cases hc1 : checkM t = 0
  case neg =>
    simp -dsimp [hc1]
    refine call_of wakes03_ok ?_
    simp -dsimp
  obtain ⟨a1, a2, a3⟩ := (check_iff hbt).1 hc1
  have hlt := pk_len t
  have hlu := pk_len u
  have hpt := pk_pos t
  have hpu := pk_pos u
  have hP2 := put_ok (pk t) u (by omega) (by omega)
  simp only [putB, eB, cT] at hP2
  simp -dsimp [hc1, cT]
  refine call_of hP2 ?_
  by_cases hc2 : checkM u = 0
  case neg =>
    simp -dsimp [hc2]
    refine call_of wakes03_ok ?_
    simp -dsimp
  obtain ⟨b1, b2, b3⟩ := (check_iff hbu).1 hc2
  have z1 : ¬ (pk t).length = 0 := by omega
  have z2 : ¬ ((pk t).length + (pk u).length ≤ (pk t).length) := by omega
  have z3 : ¬ (((pk t).length : Int) + (pk u).length ≤ (pk t).length) := by omega
  obtain ⟨q1, q2, q3⟩ := get_good (b := pk t ++ pk u) (at_ := 0) (t := t) (rest := pk u) (by omega) (by omega) (by simp) a3 a1 a2 (by simp; omega)
  obtain ⟨r1, r2, r3⟩ := get_good (b := pk t ++ pk u) (at_ := (pk t).length) (t := u) (rest := []) (by omega) (by rw [List.length_append]; omega) (by simp) b3 b1 b2 (by simp; omega)
  have hG1 := get_ok (pk t ++ pk u) 0
  have hG2 := get_ok (pk t ++ pk u) (pk t).length
  rw [q1, q2, q3] at hG1
  rw [r1, r2, r3] at hG2
  have e1 : (((pk t ++ pk u).length : Nat) : Int) - (pk u).length = (pk t).length := by simp
  have e2 : (((pk t ++ pk u).length : Nat) : Int) - (([] : List Int).length : Nat) = (pk t).length + (pk u).length := by simp
  rw [e1] at hG1
  rw [e2] at hG2
  simp only [eB, cT, List.map_append] at hG1 hG2
  have hK1 := keepTerm_ok t
  have hK2 := keepTerm_ok u
  have hK3 := keepTerm2_ok t u
  simp only [cT] at hK1 hK2 hK3
  have hB := keepBytes_ok (pk t) (pk u)
  simp only [eB] at hB
  simp -dsimp [hc2, cT, z1, z2, z3]
  refine call_of hG1 ?_
  simp -dsimp [hc2, cT, z1, z2, z3]
  refine call_of hG2 ?_
  simp -dsimp [hc2, cT, z1, z2, z3]
  refine call_of hK1 ?_
  simp -dsimp [hc2, cT, z1, z2, z3]
  refine call_of hK2 ?_
  simp -dsimp [hc2, cT, z1, z2, z3]
  have wl : IntKind.i64.wrap (((pk t).length : Int) + (pk u).length - (pk t).length) = (pk u).length := by rw [wrap_id (by omega) (by omega)]; omega
  have wu : IntKind.u64.wrap ((pk u).length : Int) = (pk u).length := by rw [u64_is]; omega
  have hz : ¬ pk u = [] := by intro h; rw [h] at hpu; simp at hpu
  have hz2 : ¬ ((pk u).length : Int) = 0 := by omega
  obtain ⟨rn, hr, hrl⟩ : ∃ rn : Nat, (IntKind.u64.wrap cut).tmod ((pk u).length : Int) = rn ∧ rn < (pk u).length := by
    have h1 : 0 ≤ IntKind.u64.wrap cut := by rw [u64_is]; omega
    have h2 := Int.emod_nonneg (IntKind.u64.wrap cut) hz2
    have h3 := Int.emod_lt_of_pos (IntKind.u64.wrap cut) (by omega : 0 < ((pk u).length : Int))
    rw [Int.tmod_eq_emod_of_nonneg h1]
    exact ⟨((IntKind.u64.wrap cut) % ((pk u).length : Int)).toNat, by omega, by omega⟩
  have wr : IntKind.i64.wrap (rn : Int) = rn := wrap_id (by omega) (by omega)
  have wc : IntKind.i64.wrap (((pk t).length : Int) + rn) = ((pk t).length : Int) + rn := wrap_id (by omega) (by omega)
  have p1 : 0 ≤ ((pk t).length : Int) + rn := by omega
  have p2 : ((pk t).length : Int) + rn ≤ ((pk t).length : Int) + (pk u).length := by omega
  have p3 : rn ≤ (pk u).length := by omega
  have hcut := get_cut (l := pk t) (m := (pk t ++ pk u).take ((pk t).length + rn)) (u := u) (c := (pk t).length + rn) (pk_byte t) b3 (by omega) (by omega) (by omega) rfl
  have hG3 := get_ok ((pk t ++ pk u).take ((pk t).length + rn)) (pk t).length
  rw [hcut, (get_err (by rw [hcut]; omega)).1, (get_err (by rw [hcut]; omega)).2.1] at hG3
  have et : ((pk t).length + rn) = (((pk t).length : Int) + rn).toNat := by omega
  rw [et] at hG3
  simp only [eB, cT, T0, tk, tn, tks, List.map_nil, List.map_take, List.map_append] at hG3
  simp -dsimp [wl, wu, hz, hz2, hr, wr, wc, p1, p2, p3]
  refine call_of hG3 ?_
  have hdr : ((pk t).map (D.int .u8) ++ (pk u).map (D.int .u8)).drop (pk t).length = (pk u).map (D.int .u8) := List.drop_left' (by simp)
  have htk : ((pk t).map (D.int .u8) ++ (pk u).map (D.int .u8)).take ((pk t).length + (pk u).length) = (pk t).map (D.int .u8) ++ (pk u).map (D.int .u8) := List.take_of_length_le (by simp)
  have p4 : ((pk t).length : Int) ≤ ((pk t).length : Int) + (pk u).length := by omega
  simp -dsimp [hdr, htk, p2, p3, p4]
  refine call_of hB ?_
  simp -dsimp [cT]
  refine call_of hK3 ?_
  have he : decide (pk t = pk u) = eqT t u := by
    rw [Bool.eq_iff_iff, decide_eq_true_eq, eqT_iff]
    exact ⟨fun h => pk_inj a3 b3 h, fun h => by rw [h]⟩
  simp -dsimp [he]
  refine call_of wakes03_ok ?_
  simp -dsimp
end Ev
end Go.Proofs.Ytjebpfhffenbnaa
