/- sig: what it tells; blocks within bounds. -/
import Derived.Test.YthopdhnbflkabaaH2
import Derived.Test.YthopdhnbflkabaaQ2
import Derived.Test.YthopdhnbflkabaaQ3
import Derived.Test.YthopdhnbflkabaaRA
namespace Go.Proofs.Ythopdhnbflkabaa
namespace Ev
open Go
set_option maxRecDepth 100000
set_option linter.unusedSimpArgs false
set_option linter.unusedVariables false
attribute [local simp ↓] wx_skip wx_region wx_seq wx_block wx_exit wx_ret wx_cond wx_loop wo_nil wo_run wo_ask wx_draw wt_nil wt_run_t wt_run_f wt_ask_t wt_ask_f rb_mv rb_nilrow rb_pick rb_alloc rb_box rb_load rb_store rb_nilck rb_bin rb_binb rb_un rb_conv rb_mkf rb_mks rb_slice rb_faddr rb_fld rb_iaddr rb_ext rb_len rb_app rb_mm rb_build rb_bslice run_callC upd_eq upd_ne
attribute [local simp] runB_some runB_none Tch_nil Tch_cons Chk_t Cnd_t Cnd_f Ask_tt Ask_ff Ask_tf Ask_ft Ask_skip act ev_t ev_c evs sks caps2 touch_call List.cons_append List.nil_append putS binI binB int_add int_sub int_mul int_quo int_rem int_or int_eql int_neq int_lss int_leq int_gtr int_geq shiftD Ex.then Ex.inBlock Ends resL resX allD toD_d toD_fsl sk_d sk_fsl none_ loadA cut wrapA wrapD avc_d avc_agg avc_fsl avc_rsl avc_ptr avc_eptr avc_clo dc_agg dc_int dc_bool dc_str dc_sl dc_nilp dc_rp dc_clo on_int on_bool on_str on_sl on_nilp on_rp on_clo on_fsl on_rsl on_ptr on_eptr on_cloA newE elemsA elemsS storeA put frz_nil deep callee resA initS touchOp fits compat rd wr key1 buildA partsD partsK idx frz_at Body.frz lk_hit lk_miss toD6_agg toD5_agg toD4_agg toD6_clo toD5_clo toD4_clo toD6_ptr toD5_ptr toD4_ptr sk6_agg sk5_agg sk4_agg sk6_clo sk5_clo sk4_clo sk6_ptr sk5_ptr sk4_ptr toD_rsl sk_rsl resK EndsP EndsMP fitVs fitCs fitC keysV keysC keyC cellsA1 skVs skCs skC1 resO tupA valsV cellsV oneV rowsV rowsC RV.cells nk rowsH_one rowsH_two rowsH_none
theorem one_sos (l : List So) : (AV.d (eSos l)).one = true := rfl
theorem one_cos (l : List Co) : (AV.d (eCos l)).one = true := rfl
theorem one_ars (l : List Ar) : (AV.d (eArs l)).one = true := rfl
theorem one_ts (l : List T) : (AV.d (eTs l)).one = true := rfl
attribute [local simp] allD_map_d sks_map_d tk tn tks one_sos one_cos one_ars one_ts

/-! ### bounds -/
structure FineAr (a : Ar) : Prop where
  ty : nodes a.ty ≤ 9000
  domL : a.dom.length ≤ 60
  dom : (a.dom.map nodes).sum ≤ 9000
  idxL : a.idx.length ≤ 60
  idx : (a.idx.map nodes).sum ≤ 9000
def FineArs (l : List Ar) : Prop := l.length ≤ 20 ∧ ∀ a ∈ l, FineAr a
structure FineSo (s : So) : Prop where
  idx : FineArs s.idx
  dty : nodes s.dty ≤ 9000
structure FineCo (c : Co) : Prop where
  args : FineArs c.args
  idxL : c.idx.length ≤ 60
  idx : (c.idx.map nodes).sum ≤ 9000
  dec : nodes c.dec ≤ 9000
structure FineBl (b : Bl) : Prop where
  s : b.sorts.length ≤ 10
  c : b.cons.length ≤ 20
  sorts : ∀ s ∈ b.sorts, FineSo s
  cons : ∀ c ∈ b.cons, FineCo c
/-! ### what sig tells -/
theorem tc_ok (n : Int) : Pure Try.prog n_term_C [.int .i64 n] [.agg (cT (.mk 3 n []))] := by
  refine p_term_C rfl fun hs => ?_
  simp -dsimp [x_term_C, cT]
theorem tu_ok (n : Int) : Pure Try.prog n_term_U [.int .i64 n] [.agg (cT (.mk 2 n []))] := by
  refine p_term_U rfl fun hs => ?_
  simp -dsimp [x_term_U, cT]
def tC (n : Int) : T := .mk 3 n []
def fmT (b : Bl) (base k : Int) : T := tC (if 0 < former b base k then former b base k else 0)
theorem sformer_ok (b : Bl) (base k : Int) : Pure Try.prog n_sig_former [eBl b, .int .i64 base, .int .i64 k] [.agg (cT (fmT b base k))] := by
  refine p_sig_former rfl fun hs => ?_
  have h := former_ok b base k
  simp only [eBl, cBl] at h
  simp -dsimp [x_sig_former, eBl, cBl]
  refine call_of h ?_
  simp -dsimp
  refine call_of (tc_ok _) ?_
  simp -dsimp [cT, fmT, tC]
theorem place_n64 (a c k m : Int) : n64 (place a c k m) := by
  rw [place]
  split
  · exact ⟨by omega, by omega⟩
  · have := wrap_lo (w64 (a + c) + k)
    simp only [w64, n64] at this ⊢
    omega
theorem fmT_ok (b : Bl) (base k : Int) : okT (fmT b base k) := by
  have h := place_n64 base 0 k b.sorts.length
  refine .mk _ _ _ ⟨by omega, by omega⟩ ?_ (by simp) (by simp)
  show n64 (if 0 < former b base k then former b base k else 0)
  split
  · exact h
  · exact ⟨by omega, by omega⟩
def argTy (b : Bl) (base : Int) (a : Ar) : T := if a.rc = true then nestT 4 a.dom (spT (fmT b base a.sort) a.idx) else a.ty
theorem argTy_okT (b : Bl) (base : Int) {a : Ar} (h : okAr a) : okT (argTy b base a) := by
  rw [argTy]
  split
  · exact nest_okT (by omega) _ (sp_okT _ _ (fmT_ok _ _ _) h.idx.2) _ h.dom.2
  · exact h.ty
theorem argType_ok (b : Bl) (base : Int) (a : Ar) (h : okAr a) (hf : FineAr a) : Pure Try.prog n_sig_ArgType [eBl b, .int .i64 base, .agg (cAr a)] [.agg (cT (argTy b base a))] := by
  refine p_sig_ArgType rfl fun hs => ?_
  have d1 := hf.domL
  have i1 := hf.idxL
  have hF := sformer_ok b base a.sort
  have hS := spine_ok (fmT b base a.sort) a.idx (by omega) (fmT_ok _ _ _) h.idx
  have hP := pis_ok a.dom (spT (fmT b base a.sort) a.idx) (by omega) (sp_okT _ _ (fmT_ok _ _ _) h.idx.2) h.dom
  have hT := ttwin_ok a.ty h.ty
  cases hr : a.rc with
  | false =>
    have e : argTy b base a = a.ty := by rw [argTy, hr]; rfl
    rw [e]
    simp only [cT] at hT
    simp -dsimp [x_sig_ArgType, eBl, cBl, cAr, cT, hr]
    refine call_of hT ?_
    simp -dsimp
  | true =>
    have e : argTy b base a = nestT 4 a.dom (spT (fmT b base a.sort) a.idx) := by rw [argTy, hr]; rfl
    rw [e]
    generalize nestT 4 a.dom (spT (fmT b base a.sort) a.idx) = P at hP
    generalize spT (fmT b base a.sort) a.idx = Sp at hS hP
    generalize fmT b base a.sort = F at hF hS
    simp only [eBl, cBl, cT, eTs] at hF hS hP
    simp -dsimp [x_sig_ArgType, eBl, cBl, cAr, cT, eTs, hr]
    refine call_of hF ?_
    simp -dsimp [hr]
    refine call_of hS ?_
    simp -dsimp [hr]
    refine call_of hP ?_
    simp -dsimp [hr]
end Ev
end Go.Proofs.Ythopdhnbflkabaa
