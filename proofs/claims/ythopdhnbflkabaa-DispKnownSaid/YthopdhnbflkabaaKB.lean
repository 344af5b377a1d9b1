/- Blocks that are known. -/
import Derived.Test.YthopdhnbflkabaaH3
import Derived.Test.YthopdhnbflkabaaXs
namespace Go.Proofs.Ythopdhnbflkabaa
namespace Ev
open Go
set_option maxRecDepth 100000
set_option linter.unusedSimpArgs false
set_option linter.unusedVariables false
attribute [local simp ↓] wx_skip wx_region wx_seq wx_block wx_exit wx_ret wx_cond wx_loop wo_nil wo_run wo_ask wx_draw wt_nil wt_run_t wt_run_f wt_ask_t wt_ask_f rb_mv rb_nilrow rb_pick rb_alloc rb_box rb_load rb_store rb_nilck rb_bin rb_binb rb_un rb_conv rb_mkf rb_mks rb_slice rb_faddr rb_fld rb_iaddr rb_ext rb_len rb_app rb_mm rb_build rb_bslice run_callC upd_eq upd_ne
attribute [local simp] runB_some runB_none Tch_nil Tch_cons Chk_t Cnd_t Cnd_f Ask_tt Ask_ff Ask_tf Ask_ft Ask_skip act ev_t ev_c evs sks caps2 touch_call List.cons_append List.nil_append putS binI binB int_add int_sub int_mul int_quo int_rem int_or int_eql int_neq int_lss int_leq int_gtr int_geq shiftD Ex.then Ex.inBlock Ends resL resX allD toD_d toD_fsl sk_d sk_fsl none_ loadA cut wrapA wrapD avc_d avc_agg avc_fsl avc_rsl avc_ptr avc_eptr avc_clo dc_agg dc_int dc_bool dc_str dc_sl dc_nilp dc_rp dc_clo on_int on_bool on_str on_sl on_nilp on_rp on_clo on_fsl on_rsl on_ptr on_eptr on_cloA newE elemsA elemsS storeA put frz_nil deep callee resA initS touchOp fits compat rd wr key1 buildA partsD partsK idx frz_at Body.frz lk_hit lk_miss toD6_agg toD5_agg toD4_agg toD6_clo toD5_clo toD4_clo toD6_ptr toD5_ptr toD4_ptr sk6_agg sk5_agg sk4_agg sk6_clo sk5_clo sk4_clo sk6_ptr sk5_ptr sk4_ptr toD_rsl sk_rsl resK EndsP EndsMP fitVs fitCs fitC keysV keysC keyC cellsA1 skVs skCs skC1 resO tupA valsV cellsV oneV rowsV rowsC RV.cells nk rowsH_one rowsH_two rowsH_none
section
attribute [local simp] allD_map_d sks_map_d tk tn tks initA EndsM one_sos one_cos one_ars one_ts
theorem in20_ok (n lo hi : Int) : Pure Try.prog n_porismref20_in [.int .i64 n, .int .i64 lo, .int .i64 hi] [.bool (decide (lo ≤ n) && decide (n ≤ hi))] := by
  refine p_porismref20_in rfl fun hs => ?_
  simp -dsimp [x_porismref20_in]
  (first | refine Ask_b ?_ ?_ | refine Cnd_b ?_ ?_) <;> intro h <;> (try simp only [decide_eq_true_eq, decide_eq_false_iff_not, beq_iff_eq, beq_eq_false_iff_ne, bne_iff_ne, bne_eq_false_iff_eq, Bool.not_eq_true', Bool.not_eq_false', Bool.and_eq_true, Bool.or_eq_true, Bool.and_eq_false_iff, Bool.or_eq_false_iff] at h) <;> simp -dsimp [h]
theorem small_ok (n : Int) (h : 0 ≤ n ∧ n ≤ 65000) : Pure Try.prog n_porismref20_small [.int .i64 n] [.int .i64 n] := by
  refine p_porismref20_small rfl fun hs => ?_
  have hI := in20_ok n 0 65000
  simp -dsimp [x_porismref20_small]
  refine call_of hI ?_
  simp -dsimp [h.1, h.2]
theorem app_ok (f a : T) : Pure Try.prog n_porismref20_app [.agg (cT f), .agg (cT a)] [.agg (cT (.mk 6 0 [f, a]))] := by
  refine p_porismref20_app rfl fun hs => ?_
  have hT := rt_ok 6 [f, a] (by simp [maxRoom])
  simp only [cT, eTs, List.map_cons, List.map_nil, eT_eq, tk, tn, tks] at hT
  simp -dsimp [x_porismref20_app, cT]
  refine call_of hT ?_
  simp -dsimp [cT, eT_eq]
/-- A universe without further codes: of functions alone. -/
def pi20 (el : Int) : T := .mk 4 0 [.mk 6 0 [tC el, tV 1], .mk 6 0 [tC el, .mk 6 0 [tV 1, tV 0]]]
def tarskiB (base : Int) : Bl := ⟨[⟨[], 1, true, .mk 2 0 []⟩], [⟨0, [recA 0 [], ⟨true, zT, [.mk 6 0 [tC (base + 1), tV 0]], 0, []⟩], [], pi20 (base + 1)⟩], 0⟩
theorem tarski_ok (base : Int) (hb : 0 ≤ base ∧ base ≤ 65000) : Pure Try.prog n_porismref20_Tarski [.int .i64 base, .sl 1 []] [.agg (declC (tarskiB base)), .int .i64 0] := by
  refine p_porismref20_Tarski rfl fun hs => ?_
  have hI := in20_ok base 0 65000
  have w1 : IntKind.i64.wrap (base + 1) = base + 1 := wrap_id (by omega) (by omega)
  have hC := rc_ok (base + 1)
  have hU := ru_ok 0
  have hV := rv_ok
  have hR := rec_ok 0 [] (by simp)
  have hA1 := app_ok (tC (base + 1)) (tV 0)
  have hA2 := app_ok (tC (base + 1)) (tV 1)
  have hA3 := app_ok (tV 1) (tV 0)
  have hA4 := app_ok (tC (base + 1)) (.mk 6 0 [tV 1, tV 0])
  have hT := rt_ok 4 [.mk 6 0 [tC (base + 1), tV 1], .mk 6 0 [tC (base + 1), .mk 6 0 [tV 1, tV 0]]] (by simp [maxRoom])
  have hD := decl_ok (tarskiB base)
  simp only [declC, tarskiB, pi20, recA, cBl, eBl, eSos, eCos, eSo, cSo, eCo, cCo, eArs, eAr, cAr, cT, tC, tV, zT, eTs, List.map_cons, List.map_nil, eT_eq, tk, tn, tks, List.cons_append, List.nil_append] at hC hU hV hR hA1 hA2 hA3 hA4 hT hD ⊢
  simp -dsimp [x_porismref20_Tarski]
  refine call_of hI ?_
  simp -dsimp [hb.1, hb.2]
  refine wp_upto 0 (fun i st => st.s 0 = .d (.int .i64 base) ∧ st.s 1 = .d (.sl 1 []) ∧ st.s 6 = .d (.bool true) ∧ st.s 7 = .d (.int .i64 i) ∧ st.s 4 = .ptr 4 1 0 ∧
    st.h 4 = ⟨1, .box [.d (.int .i64 0), .d (.int .i64 0), .d (.int .i64 0), .fsl 3 [], .d (.int .i64 0), .d (.int .i64 0), .fsl 3 [], .fsl 6 [], .fsl 6 [], .d (.int .i64 0)] false⟩) ?_ ?_
  · simp -dsimp [hb.1, hb.2]
  · rintro i ⟨s, hp⟩ hi ⟨g0, g1, g6, g7, g4, k4⟩
    dsimp only at g0 g1 g6 g7 g4 k4
    have : i = 0 := by omega
    subst this
    simp -dsimp [g0, g1, g6, g7, g4, k4, w1]
    refine call_of hC ?_
    simp -dsimp [g0, g1, g6, g7, g4, k4, w1]
    refine call_of hU ?_
    simp -dsimp [g0, g1, g6, g7, g4, k4, w1]
    refine wp_upto 0 (fun i st => st.s 1 = .d (.sl 1 []) ∧ st.s 4 = .ptr 4 1 0 ∧ st.s 8 = .ptr 8 ((hp 8).ver + 1) 0 ∧ st.s 9 = .ptr 9 ((hp 9).ver + 1) 0 ∧ st.s 10 = .d (.int .i64 i) ∧
      st.h 4 = ⟨1, .box [.d (.int .i64 0), .d (.int .i64 0), .d (.int .i64 0), .fsl 3 [], .d (.int .i64 0), .d (.int .i64 0), .fsl 3 [], .fsl 6 [], .fsl 6 [], .d (.int .i64 0)] false⟩ ∧
      st.h 8 = ⟨(hp 8).ver + 1, .box [.d (.int .i64 3), .d (.int .i64 (base + 1)), .d (.sl 3 [])] false⟩ ∧
      st.h 9 = ⟨(hp 9).ver + 1, .box [.fsl 6 [.agg [.sl 7 [], .int .i64 1, .bool true, .int .i64 2, .int .i64 0, .sl 3 []]], .fsl 6 [], .d (.int .i64 0)] false⟩) ?_ ?_
    · simp -dsimp [g0, g1, g6, g7, g4, k4, w1]
    · clear g0 g1 g6 g7 g4 k4
      rintro i ⟨s, hq⟩ hi ⟨g1, g4, g8, g9, g10, k4, k8, k9⟩
      dsimp only at g1 g4 g8 g9 g10 k4 k8 k9
      have : i = 0 := by omega
      subst this
      have h96 : 96 ≤ maxRoom := by simp only [maxRoom]; omega
      simp -dsimp [g1, g4, g8, g9, g10, k4, k8, k9]
      refine call_of hR ?_
      simp -dsimp [g1, g4, g8, g9, g10, k4, k8, k9]
      refine call_of (hV 0) ?_
      simp -dsimp [g1, g4, g8, g9, g10, k4, k8, k9]
      refine call_of hA1 ?_
      simp -dsimp [g1, g4, g8, g9, g10, k4, k8, k9]
      refine call_of (hV 1) ?_
      simp -dsimp [g1, g4, g8, g9, g10, k4, k8, k9]
      refine call_of hA2 ?_
      simp -dsimp [g1, g4, g8, g9, g10, k4, k8, k9]
      refine call_of (hV 1) ?_
      simp -dsimp [g1, g4, g8, g9, g10, k4, k8, k9]
      refine call_of (hV 0) ?_
      simp -dsimp [g1, g4, g8, g9, g10, k4, k8, k9]
      refine call_of hA3 ?_
      simp -dsimp [g1, g4, g8, g9, g10, k4, k8, k9]
      refine call_of hA4 ?_
      simp -dsimp [g1, g4, g8, g9, g10, k4, k8, k9]
      refine call_of hT ?_
      simp -dsimp [g1, g4, g8, g9, g10, k4, k8, k9, h96]
      refine call_of hD ?_
      simp -dsimp [g1, g4, g8, g9, g10, k4, k8, k9]
end
end Ev
end Go.Proofs.Ythopdhnbflkabaa
