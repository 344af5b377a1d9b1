/- sig: what it tells; blocks within bounds. -/
import Derived.Test.YthopdhnbflkabaaGreatH2
import Derived.Test.YthopdhnbflkabaaGreatQ2
import Derived.Test.YthopdhnbflkabaaGreatQ3
import Derived.Test.YthopdhnbflkabaaGreatRA
namespace Go.Proofs.YthopdhnbflkabaaGreat
namespace Ev
open Go
set_option maxRecDepth 100000
set_option linter.unusedSimpArgs false
set_option linter.unusedVariables false
attribute [local simp ↓] wx_skip wx_region wx_seq wx_block wx_exit wx_ret wx_cond wx_loop wo_nil wo_run wo_ask wx_draw wt_nil wt_run_t wt_run_f wt_ask_t wt_ask_f rb_mv rb_nilrow rb_pick rb_alloc rb_box rb_load rb_store rb_nilck rb_bin rb_binb rb_un rb_conv rb_mkf rb_mks rb_slice rb_faddr rb_fld rb_iaddr rb_ext rb_len rb_app rb_mm rb_build rb_bslice run_callC upd_eq upd_ne
attribute [local simp] runB_some runB_none Tch_nil Tch_cons Chk_t Cnd_t Cnd_f Ask_tt Ask_ff Ask_tf Ask_ft Ask_skip act ev_t ev_c evs sks caps2 touch_call List.cons_append List.nil_append putS binI binB int_add int_sub int_mul int_quo int_rem int_or int_eql int_neq int_lss int_leq int_gtr int_geq shiftD Ex.then Ex.inBlock Ends resL resX allD toD_d toD_fsl sk_d sk_fsl none_ loadA cut wrapA wrapD avc_d avc_agg avc_fsl avc_rsl avc_ptr avc_eptr avc_clo dc_agg dc_int dc_bool dc_str dc_sl dc_nilp dc_rp dc_clo on_int on_bool on_str on_sl on_nilp on_rp on_clo on_fsl on_rsl on_ptr on_eptr on_cloA newE elemsA elemsS storeA put frz_nil deep callee resA initS touchOp fits compat rd wr key1 buildA partsD partsK idx frz_at Body.frz lk_hit lk_miss toD6_agg toD5_agg toD4_agg toD6_clo toD5_clo toD4_clo toD6_ptr toD5_ptr toD4_ptr sk6_agg sk5_agg sk4_agg sk6_clo sk5_clo sk4_clo sk6_ptr sk5_ptr sk4_ptr toD_rsl sk_rsl resK EndsP EndsMP fitVs fitCs fitC keysV keysC keyC cellsA1 skVs skCs skC1 resO tupA valsV cellsV oneV rowsV rowsC RV.cells nk rowsH_one rowsH_two rowsH_none
theorem one_sos (l : List So) : (AV.d (eSos l)).one = true := rfl
theorem one_cos (l : List Co) : (AV.d (eCos l)).one = true := rfl
theorem one_ars (l : List Ar) : (AV.d (eArs l)).one = true := rfl
theorem one_ts (l : List T) : (AV.d (eTs l)).one = true := rfl
attribute [local simp] allD_map_d sks_map_d tk tn tks one_sos one_cos one_ars one_ts

/-! ### bounds -/
structure FineAr (a : Ar) : Prop where
  ty : nodes a.ty ≤ 9000
  domL : a.dom.length ≤ 60
  dom : (a.dom.map nodes).sum ≤ 9000
  idxL : a.idx.length ≤ 60
  idx : (a.idx.map nodes).sum ≤ 9000
def FineArs (l : List Ar) : Prop := l.length ≤ 20 ∧ ∀ a ∈ l, FineAr a
structure FineSo (s : So) : Prop where
  idx : FineArs s.idx
  dty : nodes s.dty ≤ 9000
structure FineCo (c : Co) : Prop where
  args : FineArs c.args
  idxL : c.idx.length ≤ 60
  idx : (c.idx.map nodes).sum ≤ 9000
  dec : nodes c.dec ≤ 9000
structure FineBl (b : Bl) : Prop where
  s : b.sorts.length ≤ 10
  c : b.cons.length ≤ 20
  sorts : ∀ s ∈ b.sorts, FineSo s
  cons : ∀ c ∈ b.cons, FineCo c
theorem mem_sum {xs : List D} {x : D} (h : x ∈ xs) : bulk x ≤ (xs.map bulk).sum := sum_mem (List.mem_map.2 ⟨x, h, rfl⟩)
theorem heavy_one {t : T} (hb : nodes t ≤ 1048576) (h : heavy02 [t] = false) : nodes t ≤ 9000 := by
  have := (heavy_no (l := [t]) (by simpa using hb) h).2.2
  simpa using this
theorem fine_ar {a : Ar} (hb : bulk (eAr a) ≤ 1048576) (h : pArg a = false) : FineAr a := by
  have e : bulk (eAr a) = 1 + bulk (.agg (cT a.ty)) + (bulk (eTs a.dom) + (1 + bulk (eTs a.idx))) := by
    simp only [eAr, cAr, bulk, List.map_cons, List.map_append, List.sum_cons, List.sum_append, List.map_nil, List.sum_nil, List.cons_append, cT, eTs, List.nil_append]
    omega
  simp only [pArg, Bool.or_eq_false_iff] at h
  have h1 := term_bulk a.ty
  have h2 := sum_bulk a.dom
  have h3 := sum_bulk a.idx
  obtain ⟨d1, _, d2⟩ := heavy_no (l := a.dom) (by omega) h.1.2
  obtain ⟨i1, _, i2⟩ := heavy_no (l := a.idx) (by omega) h.2
  exact ⟨heavy_one (by omega) h.1.1, d1, d2, i1, i2⟩
theorem fine_ars {l : List Ar} (hb : bulk (eArs l) ≤ 1048576) (h : heavyArgs l = false) : FineArs l := by
  simp only [heavyArgs, Bool.or_eq_false_iff, decide_eq_false_iff_not] at h
  refine ⟨by omega, fun a ha => fine_ar ?_ ?_⟩
  · have := mem_sum (List.mem_map.2 ⟨a, ha, rfl⟩ : eAr a ∈ l.map eAr)
    simp only [eArs, bulk] at hb
    omega
  · have := List.any_eq_false.1 h.2 a ha
    simpa using this
theorem fine_of {b : Bl} (hb : bulk (eBl b) ≤ 1048576) (h : heavy07 b = false) : FineBl b := by
  have hf := fit_of h
  have e : bulk (eBl b) = bulk (eSos b.sorts) + (bulk (eCos b.cons) + 1) := by simp [eBl, cBl, bulk]
  simp only [heavy07, Bool.or_eq_false_iff] at h
  refine ⟨hf.s, hf.c, fun s hs => ?_, fun c hc => ?_⟩
  · have h1 := mem_sum (List.mem_map.2 ⟨s, hs, rfl⟩ : eSo s ∈ b.sorts.map eSo)
    have h2 : bulk (eSos b.sorts) = ((b.sorts.map eSo).map bulk).sum + 1 := by simp [eSos, bulk]
    have h3 : bulk (eSo s) = bulk (eArs s.idx) + (1 + (1 + bulk (.agg (cT s.dty)))) := by
      simp only [eSo, cSo, bulk, List.map_cons, List.map_append, List.sum_cons, List.sum_append, List.map_nil, List.sum_nil, cT]
      omega
    have hp := List.any_eq_false.1 h.1.2 s hs
    simp only [pSo, Bool.not_eq_true, Bool.or_eq_false_iff] at hp
    have h4 := term_bulk s.dty
    exact ⟨fine_ars (by omega) hp.1, heavy_one (by omega) hp.2⟩
  · have h1 := mem_sum (List.mem_map.2 ⟨c, hc, rfl⟩ : eCo c ∈ b.cons.map eCo)
    have h2 : bulk (eCos b.cons) = ((b.cons.map eCo).map bulk).sum + 1 := by simp [eCos, bulk]
    have h3 : bulk (eCo c) = 1 + (bulk (eArs c.args) + (bulk (eTs c.idx) + bulk (.agg (cT c.dec)))) := by
      simp only [eCo, cCo, bulk, List.map_cons, List.map_append, List.sum_cons, List.sum_append, List.map_nil, List.sum_nil, cT]
      omega
    have hp := List.any_eq_false.1 h.2 c hc
    simp only [pCo, Bool.not_eq_true, Bool.or_eq_false_iff] at hp
    have h4 := term_bulk c.dec
    have h5 := sum_bulk c.idx
    obtain ⟨i1, _, i2⟩ := heavy_no (l := c.idx) (by omega) hp.1.2
    exact ⟨fine_ars (by omega) hp.1.1, i1, i2, heavy_one (by omega) hp.2⟩

/-! ### what sig tells -/
end Ev
end Go.Proofs.YthopdhnbflkabaaGreat
