/- Blocks that are known. -/
import Derived.Test.YthopdhnbflkabaaH3
import Derived.Test.YthopdhnbflkabaaXs
namespace Go.Proofs.Ythopdhnbflkabaa
namespace Ev
open Go
set_option maxRecDepth 100000
set_option linter.unusedSimpArgs false
set_option linter.unusedVariables false
attribute [local simp ↓] wx_skip wx_region wx_seq wx_block wx_exit wx_ret wx_cond wx_loop wo_nil wo_run wo_ask wx_draw wt_nil wt_run_t wt_run_f wt_ask_t wt_ask_f rb_mv rb_nilrow rb_pick rb_alloc rb_box rb_load rb_store rb_nilck rb_bin rb_binb rb_un rb_conv rb_mkf rb_mks rb_slice rb_faddr rb_fld rb_iaddr rb_ext rb_len rb_app rb_mm rb_build rb_bslice run_callC upd_eq upd_ne
attribute [local simp] runB_some runB_none Tch_nil Tch_cons Chk_t Cnd_t Cnd_f Ask_tt Ask_ff Ask_tf Ask_ft Ask_skip act ev_t ev_c evs sks caps2 touch_call List.cons_append List.nil_append putS binI binB int_add int_sub int_mul int_quo int_rem int_or int_eql int_neq int_lss int_leq int_gtr int_geq shiftD Ex.then Ex.inBlock Ends resL resX allD toD_d toD_fsl sk_d sk_fsl none_ loadA cut wrapA wrapD avc_d avc_agg avc_fsl avc_rsl avc_ptr avc_eptr avc_clo dc_agg dc_int dc_bool dc_str dc_sl dc_nilp dc_rp dc_clo on_int on_bool on_str on_sl on_nilp on_rp on_clo on_fsl on_rsl on_ptr on_eptr on_cloA newE elemsA elemsS storeA put frz_nil deep callee resA initS touchOp fits compat rd wr key1 buildA partsD partsK idx frz_at Body.frz lk_hit lk_miss toD6_agg toD5_agg toD4_agg toD6_clo toD5_clo toD4_clo toD6_ptr toD5_ptr toD4_ptr sk6_agg sk5_agg sk4_agg sk6_clo sk5_clo sk4_clo sk6_ptr sk5_ptr sk4_ptr toD_rsl sk_rsl resK EndsP EndsMP fitVs fitCs fitC keysV keysC keyC cellsA1 skVs skCs skC1 resO tupA valsV cellsV oneV rowsV rowsC RV.cells nk rowsH_one rowsH_two rowsH_none
section
attribute [local simp] allD_map_d sks_map_d tk tn tks initA EndsM one_sos one_cos one_ars one_ts
theorem in20_ok (n lo hi : Int) : Pure Try.prog n_porismref20_in [.int .i64 n, .int .i64 lo, .int .i64 hi] [.bool (decide (lo ≤ n) && decide (n ≤ hi))] := by
  refine p_porismref20_in rfl fun hs => ?_
  simp -dsimp [x_porismref20_in]
  (first | refine Ask_b ?_ ?_ | refine Cnd_b ?_ ?_) <;> intro h <;> (try simp only [decide_eq_true_eq, decide_eq_false_iff_not, beq_iff_eq, beq_eq_false_iff_ne, bne_iff_ne, bne_eq_false_iff_eq, Bool.not_eq_true', Bool.not_eq_false', Bool.and_eq_true, Bool.or_eq_true, Bool.and_eq_false_iff, Bool.or_eq_false_iff] at h) <;> simp -dsimp [h]
theorem small_ok (n : Int) (h : 0 ≤ n ∧ n ≤ 65000) : Pure Try.prog n_porismref20_small [.int .i64 n] [.int .i64 n] := by
  refine p_porismref20_small rfl fun hs => ?_
  have hI := in20_ok n 0 65000
  simp -dsimp [x_porismref20_small]
  refine call_of hI ?_
  simp -dsimp [h.1, h.2]
def extA (t : T) : Ar := ⟨false, t, [], 0, []⟩
theorem ext_ok (t : T) : Pure Try.prog n_porismref20_ext [.agg (cT t)] [.agg (cAr (extA t))] := by
  refine p_porismref20_ext rfl fun hs => ?_
  simp -dsimp [x_porismref20_ext, cT, cAr, extA, eTs]
theorem app_ok (f a : T) : Pure Try.prog n_porismref20_app [.agg (cT f), .agg (cT a)] [.agg (cT (.mk 6 0 [f, a]))] := by
  refine p_porismref20_app rfl fun hs => ?_
  have hT := rt_ok 6 [f, a] (by simp [maxRoom])
  simp only [cT, eTs, List.map_cons, List.map_nil, eT_eq, tk, tn, tks] at hT
  simp -dsimp [x_porismref20_app, cT]
  refine call_of hT ?_
  simp -dsimp [cT, eT_eq]
/-- Trees, over two constants. -/
def treeB (a b : Int) : Bl := ⟨[⟨[], 0, false, zT⟩], [⟨0, [extA (tC a), ⟨true, zT, [.mk 6 0 [tC b, tV 0]], 0, []⟩], [], zT⟩], 0⟩
theorem tree_ok (a b : Int) (ha : 0 ≤ a ∧ a ≤ 65000) (hb : 0 ≤ b ∧ b ≤ 65000) : Pure Try.prog n_porismref20_Tree [.int .i64 a, .int .i64 b] [.agg (declC (treeB a b))] := by
  refine p_porismref20_Tree rfl fun hs => ?_
  have h1 := small_ok a ha
  have h2 := small_ok b hb
  have hC := rc_ok
  have hX := ext_ok (tC a)
  have hV := rv_ok 0
  have hA := app_ok (tC b) (tV 0)
  have hD := decl_ok (treeB a b)
  simp only [declC, treeB, extA, cBl, eBl, eSos, eCos, eSo, cSo, eCo, cCo, eArs, eAr, cAr, cT, tC, tV, zT, eTs, List.map_cons, List.map_nil, eT_eq, tk, tn, tks, List.cons_append, List.nil_append] at hC hX hV hA hD ⊢
  simp -dsimp [x_porismref20_Tree]
  refine call_of h1 ?_
  simp -dsimp
  refine call_of h2 ?_
  simp -dsimp
  refine call_of (hC a) ?_
  simp -dsimp
  refine call_of hX ?_
  simp -dsimp
  refine call_of (hC b) ?_
  simp -dsimp
  refine call_of hV ?_
  simp -dsimp
  refine call_of hA ?_
  simp -dsimp
  refine call_of hD ?_
  simp -dsimp
end
end Ev
end Go.Proofs.Ythopdhnbflkabaa
