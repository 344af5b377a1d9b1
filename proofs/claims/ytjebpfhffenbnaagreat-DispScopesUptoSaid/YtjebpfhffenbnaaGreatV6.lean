/- disp: known blocks; terms built. -/
import Derived.Test.YtjebpfhffenbnaaGreatV5
import Derived.Test.YtjebpfhffenbnaaGreatO7
import Derived.Test.YtjebpfhffenbnaaGreatKB
namespace Go.Proofs.YtjebpfhffenbnaaGreat
namespace Ev
open Go
set_option maxRecDepth 100000
set_option linter.unusedSimpArgs false
set_option linter.unusedVariables false
section
attribute [local simp] allD_map_d sks_map_d tk tn tks initA EndsM one_sos one_cos one_ars one_ts
theorem traw (k : Int) (l : List D) (hl : l.length * 40 ≤ maxRoom) : Pure Tryz.prog n_porismref01_T [.int .i64 k, .sl 3 l] [.agg [.int .i64 k, .int .i64 0, .sl 3 l]] := by
  refine p_porismref01_T rfl fun hs => ?_
  simp -dsimp [x_porismref01_T, hl]
theorem craw (n : Int) : Pure Tryz.prog n_porismref01_C [.int .i64 n] [.agg [.int .i64 3, .int .i64 n, .sl 3 []]] := by simpa [cT] using rc_ok n
theorem vraw (n : Int) : Pure Tryz.prog n_porismref01_V [.int .i64 n] [.agg [.int .i64 1, .int .i64 n, .sl 3 []]] := by simpa [cT] using rv_ok n
theorem uraw (n : Int) : Pure Tryz.prog n_porismref01_U [.int .i64 n] [.agg [.int .i64 2, .int .i64 n, .sl 3 []]] := by simpa [cT] using ru_ok n
theorem known_zero {b : Bl} {base : Int} (h : knownB b base true = true) : positE 9000 b base = 0 := by
  simp only [knownB, Bool.and_eq_true, decide_eq_true_eq, beq_iff_eq] at h
  obtain ⟨h1, h2, h3, h4, h5, h6⟩ := h
  rw [positE, if_pos (shapeC_of h3), if_neg (by omega), h6]
  rfl
theorem known_okBl {b : Bl} {base : Int} {g : Bool} (h : knownB b base g = true) : okBl b ∧ FineBl b ∧ Fit b := by
  simp only [knownB, Bool.and_eq_true] at h
  have fb := fineBl_of h.2.1
  exact ⟨okBl_of h.1, fb, ⟨fb.s, fb.c⟩⟩
theorem checkC {t : T} (h : formC t = true) (hn : nodB t ≤ 200) : checkM t = 0 := by
  rw [nodB_is] at hn
  rw [formC_is] at h
  have hd := depth_le t
  exact (check_iff (by omega)).2 ⟨by omega, by omega, h⟩
theorem known_motive {b : Bl} {base k : Int} {so : So} {w : T} (hz : positE 9000 b base = 0) (k0 : 0 ≤ k) (hk : b.sorts[k.toNat]? = some so) (hw : motT b base k so = w) (hc : checkM w = 0) : motR b base k = w ∧ motE b base k = 0 := by
  have hlt := (List.getElem?_eq_some_iff.1 hk).1
  have hm : mayP b base k b.sorts.length = 0 := by rw [mayP, if_neg (by omega), hz]
  have e : motE b base k = 0 := by rw [motE, if_pos hm, hk]; simp only [hw, hc]
  exact ⟨by rw [motR, if_pos e, hk]; exact hw, e⟩
theorem known_method {b : Bl} {base c : Int} {x : Co} {so : So} {w : T} (hz : positE 9000 b base = 0) (c0 : 0 ≤ c) (hk : b.cons[c.toNat]? = some x) (hso : b.sorts[x.sort.toNat]? = some so) (hw : metT b base c x so = w) (hc : checkM w = 0) : metR b base c = w ∧ metE b base c = 0 := by
  have hlt := (List.getElem?_eq_some_iff.1 hk).1
  have hm : mayP b base c b.cons.length = 0 := by rw [mayP, if_neg (by omega), hz]
  have ha : metA b base c = some w := by rw [metA, hk]; simp only [hso, hw]
  have e : metE b base c = 0 := by rw [metE, if_pos hm, ha]; exact hc
  exact ⟨by rw [metR, if_pos e, ha]; rfl, e⟩
theorem nat8 : knownB natB 0 true = true := by decide +kernel
def natM : T := .mk 4 0 [.mk 3 0 [], .mk 2 0 []]
def natZ : T := .mk 6 0 [.mk 1 0 [], .mk 3 1 []]
def natS : T := .mk 4 0 [.mk 3 0 [], .mk 4 0 [.mk 6 0 [.mk 1 2 [], .mk 1 0 []], .mk 6 0 [.mk 1 3 [], .mk 6 0 [.mk 3 2 [], .mk 1 1 []]]]]
theorem natM_is : motT natB 0 0 ⟨[], 0, false, zT⟩ = natM := by kernel_rfl
theorem natZ_is : metT natB 0 0 ⟨0, [], [], zT⟩ ⟨[], 0, false, zT⟩ = natZ := by kernel_rfl
theorem natS_is : metT natB 0 1 ⟨0, [recA 0 []], [], zT⟩ ⟨[], 0, false, zT⟩ = natS := by kernel_rfl
theorem natM_ok : motR natB 0 0 = natM ∧ motE natB 0 0 = 0 := known_motive (known_zero nat8) (by omega) rfl natM_is (checkC (by decide +kernel) (by decide +kernel))
theorem natZ_ok : metR natB 0 0 = natZ ∧ metE natB 0 0 = 0 := known_method (known_zero nat8) (by omega) rfl rfl natZ_is (checkC (by decide +kernel) (by decide +kernel))
theorem natS_ok : metR natB 0 1 = natS ∧ metE natB 0 1 = 0 := known_method (known_zero nat8) (by omega) rfl rfl natS_is (checkC (by decide +kernel) (by decide +kernel))
theorem wakes11_ok : Pure Tryz.prog n_porismlaw11_wakes [] [.bool true] := by
  refine p_porismlaw11_wakes rfl fun hs => ?_
  obtain ⟨ob, fb, hf⟩ := known_okBl nat8
  have hN := nat_ok
  have h1 := motive_ok natB ob fb hf 0 0 (by omega)
  have h2 := method_ok natB ob fb hf 0 0 (by omega)
  have h3 := method_ok natB ob fb hf 0 1 (by omega)
  rw [natM_ok.1, natM_ok.2] at h1
  rw [natZ_ok.1, natZ_ok.2] at h2
  rw [natS_ok.1, natS_ok.2] at h3
  have k1 := keepTerm_ok natM
  have k2 := keepTerm_ok natZ
  have k3 := keepTerm_ok natS
  simp only [declC, cBl, eBl, eSos, eCos, natB, natM, natZ, natS, eSo, cSo, eCo, cCo, eArs, eAr, cAr, recA, zT, cT, eTs, List.map_cons, List.map_nil, eT_eq, tk, tn, tks, List.cons_append, List.nil_append] at hN h1 h2 h3 k1 k2 k3
  simp -dsimp [x_porismlaw11_wakes]
  refine call_of hN ?_
  simp -dsimp
  refine call_of h1 ?_
  simp -dsimp
  refine call_of h2 ?_
  simp -dsimp
  refine call_of h3 ?_
  simp -dsimp
  repeat ((first | refine call_of (craw _) ?_ | refine call_of (vraw _) ?_ | refine call_of (uraw _) ?_ | refine call_of (traw _ _ (by decide)) ?_ | refine call_of k1 ?_ | refine call_of k2 ?_ | refine call_of k3 ?_); simp -dsimp)
end
end Ev
end Go.Proofs.YtjebpfhffenbnaaGreat
