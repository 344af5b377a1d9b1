/- DispKnown. -/
import Derived.Test.YthopdhnbflkabaaV6
namespace Go.Proofs.Ythopdhnbflkabaa
namespace Ev
open Go
set_option maxRecDepth 100000
set_option linter.unusedSimpArgs false
set_option linter.unusedVariables false
attribute [local simp ↓] wx_skip wx_region wx_seq wx_block wx_exit wx_ret wx_cond wx_loop wo_nil wo_run wo_ask wx_draw wt_nil wt_run_t wt_run_f wt_ask_t wt_ask_f rb_mv rb_nilrow rb_pick rb_alloc rb_box rb_load rb_store rb_nilck rb_bin rb_binb rb_un rb_conv rb_mkf rb_mks rb_slice rb_faddr rb_fld rb_iaddr rb_ext rb_len rb_app rb_mm rb_build rb_bslice run_callC upd_eq upd_ne
attribute [local simp] runB_some runB_none Tch_nil Tch_cons Chk_t Cnd_t Cnd_f Ask_tt Ask_ff Ask_tf Ask_ft Ask_skip act ev_t ev_c evs sks caps2 touch_call List.cons_append List.nil_append putS binI binB int_add int_sub int_mul int_quo int_rem int_or int_eql int_neq int_lss int_leq int_gtr int_geq shiftD Ex.then Ex.inBlock Ends resL resX allD toD_d toD_fsl sk_d sk_fsl none_ loadA cut wrapA wrapD avc_d avc_agg avc_fsl avc_rsl avc_ptr avc_eptr avc_clo dc_agg dc_int dc_bool dc_str dc_sl dc_nilp dc_rp dc_clo on_int on_bool on_str on_sl on_nilp on_rp on_clo on_fsl on_rsl on_ptr on_eptr on_cloA newE elemsA elemsS storeA put frz_nil deep callee resA initS touchOp fits compat rd wr key1 buildA partsD partsK idx frz_at Body.frz lk_hit lk_miss toD6_agg toD5_agg toD4_agg toD6_clo toD5_clo toD4_clo toD6_ptr toD5_ptr toD4_ptr sk6_agg sk5_agg sk4_agg sk6_clo sk5_clo sk4_clo sk6_ptr sk5_ptr sk4_ptr toD_rsl sk_rsl resK EndsP EndsMP fitVs fitCs fitC keysV keysC keyC cellsA1 skVs skCs skC1 resO tupA valsV cellsV oneV rowsV rowsC RV.cells nk rowsH_one rowsH_two rowsH_none
section
attribute [local simp] allD_map_d sks_map_d tk tn tks initA EndsM one_sos one_cos one_ars one_ts
theorem recraw (n : Int) (l : List D) (hl : l.length * 40 ≤ maxRoom) : Pure Try.prog n_porismref20_rec [.int .i64 n, .sl 3 l] [.agg [.bool true, .int .i64 0, .int .i64 0, .sl 3 [], .sl 3 [], .int .i64 n, .sl 3 l]] := by
  refine p_porismref20_rec rfl fun hs => ?_
  simp -dsimp [hl, x_porismref20_rec]
theorem appraw (k n k' n' : Int) (l l' : List D) : Pure Try.prog n_porismref20_app [.agg [.int .i64 k, .int .i64 n, .sl 3 l], .agg [.int .i64 k', .int .i64 n', .sl 3 l']] [.agg [.int .i64 6, .int .i64 0, .sl 3 [.agg [.int .i64 k, .int .i64 n, .sl 3 l], .agg [.int .i64 k', .int .i64 n', .sl 3 l']]]] := by
  refine p_porismref20_app rfl fun hs => ?_
  have hT := traw 6 [.agg [.int .i64 k, .int .i64 n, .sl 3 l], .agg [.int .i64 k', .int .i64 n', .sl 3 l']] (by simp [maxRoom])
  simp -dsimp [x_porismref20_app]
  refine call_of hT ?_
  simp -dsimp
def tA (f a : T) : T := .mk 6 0 [f, a]
def tP (f a : T) : T := .mk 4 0 [f, a]
/-- Contexts and types. -/
def synB (base : Int) : Bl := ⟨[⟨[], 0, false, zT⟩, ⟨[recA 0 []], 0, false, zT⟩], [⟨0, [], [], zT⟩, ⟨0, [recA 0 [], recA 1 [tV 0]], [], zT⟩, ⟨1, [recA 0 []], [tV 0], zT⟩, ⟨1, [recA 0 [], recA 1 [tV 0], recA 1 [tA (tA (tC (base + 3)) (tV 1)) (tV 0)]], [tV 2], zT⟩], 0⟩
theorem syn_ok (base : Int) (hb : 0 ≤ base ∧ base ≤ 60000) : Pure Try.prog n_porismref20_Syntax [.int .i64 base] [.agg (declC (synB base))] := by
  refine p_porismref20_Syntax rfl fun hs => ?_
  have h1 := small_ok base ⟨by omega, by omega⟩
  have w1 : IntKind.i64.wrap (base + 3) = base + 3 := wrap_id (by omega) (by omega)
  have hD := decl_ok (synB base)
  simp only [declC, synB, tA, recA, cBl, eBl, eSos, eCos, eSo, cSo, eCo, cCo, eArs, eAr, cAr, cT, tC, tV, zT, eTs, List.map_cons, List.map_nil, eT_eq, tk, tn, tks, List.cons_append, List.nil_append] at hD ⊢
  simp -dsimp [x_porismref20_Syntax]
  refine call_of h1 ?_
  simp -dsimp [w1]
  repeat ((first | refine call_of (craw _) ?_ | refine call_of (vraw _) ?_ | refine call_of (recraw _ _ (by simp [maxRoom])) ?_ | refine call_of (appraw _ _ _ _ _ _) ?_ | refine call_of hD ?_); simp -dsimp [w1])
theorem syn8 : knownB (synB 0) 0 true = true := by decide +kernel
def synM : T := tP (tC 0) (tP (tA (tV 1) (tV 0)) (tP (tA (tC 1) (tV 1)) (.mk 2 0 [])))
def synX : T := tP (tC 0) (tP (tA (tV 3) (tV 0)) (tP (tA (tC 1) (tV 1)) (tP (spT (tV 4) [tV 2, tV 1, tV 0]) (tA (tV 6) (spT (tC 3) [tV 3, tV 1])))))
theorem synM_is : motT (synB 0) 0 1 ⟨[recA 0 []], 0, false, zT⟩ = synM := by kernel_rfl
theorem synX_is : metT (synB 0) 0 1 ⟨0, [recA 0 [], recA 1 [tV 0]], [], zT⟩ ⟨[], 0, false, zT⟩ = synX := by kernel_rfl
theorem synM_ok : motR (synB 0) 0 1 = synM ∧ motE (synB 0) 0 1 = 0 := known_motive (known_zero syn8) (by omega) rfl synM_is (checkC (by decide +kernel) (by decide +kernel))
theorem synX_ok : metR (synB 0) 0 1 = synX ∧ metE (synB 0) 0 1 = 0 := known_method (known_zero syn8) (by omega) rfl rfl synX_is (checkC (by decide +kernel) (by decide +kernel))
theorem tar8 : knownB (tarskiB 5) 5 true = true := by decide +kernel
def tarW : T := tP (tC 5) (tP (tA (tV 1) (tV 0)) (tP (tP (tA (tC 6) (tV 1)) (tC 5)) (tP (tP (tA (tC 6) (tV 2)) (tA (tV 4) (tA (tV 1) (tV 0)))) (tA (tV 4) (spT (tC 7) [tV 3, tV 1])))))
theorem tarW_is : metT (tarskiB 5) 5 0 ⟨0, [recA 0 [], ⟨true, zT, [.mk 6 0 [tC 6, tV 0]], 0, []⟩], [], pi20 6⟩ ⟨[], 1, true, .mk 2 0 []⟩ = tarW := by kernel_rfl
theorem tarW_ok : metR (tarskiB 5) 5 0 = tarW ∧ metE (tarskiB 5) 5 0 = 0 := known_method (known_zero tar8) (by omega) rfl rfl tarW_is (checkC (by decide +kernel) (by decide +kernel))
set_option maxHeartbeats 4000000 in
theorem known11_law (which : Int) : Pure Try.prog n_porismlaw11_DispKnown [.int .i64 which] [.bool true] := by
  refine p_porismlaw11_DispKnown rfl fun hs => ?_
  have oV : ∀ n : Int, 0 ≤ n ∧ n ≤ 100 → okT (tV n) := fun n h => okT_leaf (by omega) (by omega)
  have oC : ∀ n : Int, 0 ≤ n ∧ n ≤ 100 → okT (tC n) := fun n h => okT_leaf (by omega) (by omega)
  have hS1 := rspine_ok (tV 4) [tV 2, tV 1, tV 0] (by simp) (oV 4 (by omega)) ⟨by simp, by intro x hx; simp at hx; rcases hx with rfl | rfl | rfl <;> exact oV _ (by omega)⟩
  have hS2 := rspine_ok (tC 3) [tV 3, tV 1] (by simp) (oC 3 (by omega)) ⟨by simp, by intro x hx; simp at hx; rcases hx with rfl | rfl <;> exact oV _ (by omega)⟩
  have hS3 := rspine_ok (tC 7) [tV 3, tV 1] (by simp) (oC 7 (by omega)) ⟨by simp, by intro x hx; simp at hx; rcases hx with rfl | rfl <;> exact oV _ (by omega)⟩
  have hN := syn_ok 0 (by omega)
  obtain ⟨ob, fb, hf⟩ := known_okBl syn8
  have h1 := motive_ok (synB 0) ob fb hf 0 1 (by omega)
  have h2 := method_ok (synB 0) ob fb hf 0 1 (by omega)
  rw [synM_ok.1, synM_ok.2] at h1
  rw [synX_ok.1, synX_ok.2] at h2
  have k1 := keepTerm_ok synM
  have k2 := keepTerm_ok synX
  have hK := tarski_ok 5 (by omega)
  obtain ⟨ob', fb', hf'⟩ := known_okBl tar8
  have h3 := method_ok (tarskiB 5) ob' fb' hf' 5 0 (by omega)
  rw [tarW_ok.1, tarW_ok.2] at h3
  have k3 := keepTerm_ok tarW
  have s1 : spT (tV 4) [tV 2, tV 1, tV 0] = tA (tA (tA (tV 4) (tV 2)) (tV 1)) (tV 0) := rfl
  have s2 : spT (tC 3) [tV 3, tV 1] = tA (tA (tC 3) (tV 3)) (tV 1) := rfl
  have s3 : spT (tC 7) [tV 3, tV 1] = tA (tA (tC 7) (tV 3)) (tV 1) := rfl
  simp only [synM, synX, tarW, tP, s1, s2, s3] at h1 h2 h3 k1 k2 k3 hS1 hS2 hS3
  simp only [declC, cBl, eBl, eSos, eCos, synB, tarskiB, pi20, tA, tC, tV, eSo, cSo, eCo, cCo, eArs, eAr, cAr, recA, zT, cT, eTs, List.map_cons, List.map_nil, eT_eq, tk, tn, tks, List.cons_append, List.nil_append] at hN h1 h2 h3 k1 k2 k3 hK hS1 hS2 hS3
  simp only [Int.zero_add, Int.reduceAdd] at hN h1 h2 h3 hK
  simp -dsimp [x_porismlaw11_DispKnown]
  by_cases hw : which.tmod 2 = 0
  · simp -dsimp [hw]
    refine call_of hN ?_
    simp -dsimp [hw]
    refine call_of h1 ?_
    simp -dsimp [hw]
    repeat ((first | refine call_of (craw _) ?_ | refine call_of (vraw _) ?_ | refine call_of (uraw _) ?_ | refine call_of (traw _ _ (by simp [maxRoom])) ?_ | refine call_of hS1 ?_ | refine call_of hS2 ?_ | refine call_of hS3 ?_ | refine call_of h2 ?_ | refine call_of h3 ?_ | refine call_of k1 ?_ | refine call_of k2 ?_ | refine call_of k3 ?_ | refine call_of wakes11_ok ?_); simp -dsimp [hw])
  · simp -dsimp [hw]
    refine call_of hK ?_
    simp -dsimp [hw]
    repeat ((first | refine call_of (craw _) ?_ | refine call_of (vraw _) ?_ | refine call_of (uraw _) ?_ | refine call_of (traw _ _ (by simp [maxRoom])) ?_ | refine call_of hS1 ?_ | refine call_of hS2 ?_ | refine call_of hS3 ?_ | refine call_of h2 ?_ | refine call_of h3 ?_ | refine call_of k1 ?_ | refine call_of k2 ?_ | refine call_of k3 ?_ | refine call_of wakes11_ok ?_); simp -dsimp [hw])
end
end Ev
end Go.Proofs.Ythopdhnbflkabaa
