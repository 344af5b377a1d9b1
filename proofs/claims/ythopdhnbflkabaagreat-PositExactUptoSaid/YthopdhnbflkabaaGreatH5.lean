/- sig, in plain terms: what is told of a right block is formed, and closed. -/
import Derived.Test.YthopdhnbflkabaaGreatH4
namespace Go.Proofs.YthopdhnbflkabaaGreat
namespace Ev
open Go
set_option maxRecDepth 100000
set_option linter.unusedSimpArgs false
set_option linter.unusedVariables false
attribute [local simp ↓] wx_skip wx_region wx_seq wx_block wx_exit wx_ret wx_cond wx_loop wo_nil wo_run wo_ask wx_draw wt_nil wt_run_t wt_run_f wt_ask_t wt_ask_f rb_mv rb_nilrow rb_pick rb_alloc rb_box rb_load rb_store rb_nilck rb_bin rb_binb rb_un rb_conv rb_mkf rb_mks rb_slice rb_faddr rb_fld rb_iaddr rb_ext rb_len rb_app rb_mm rb_build rb_bslice run_callC upd_eq upd_ne
attribute [local simp] runB_some runB_none Tch_nil Tch_cons Chk_t Cnd_t Cnd_f Ask_tt Ask_ff Ask_tf Ask_ft Ask_skip act ev_t ev_c evs sks caps2 touch_call List.cons_append List.nil_append putS binI binB int_add int_sub int_mul int_quo int_rem int_or int_eql int_neq int_lss int_leq int_gtr int_geq shiftD Ex.then Ex.inBlock Ends resL resX allD toD_d toD_fsl sk_d sk_fsl none_ loadA cut wrapA wrapD avc_d avc_agg avc_fsl avc_rsl avc_ptr avc_eptr avc_clo dc_agg dc_int dc_bool dc_str dc_sl dc_nilp dc_rp dc_clo on_int on_bool on_str on_sl on_nilp on_rp on_clo on_fsl on_rsl on_ptr on_eptr on_cloA newE elemsA elemsS storeA put frz_nil deep callee resA initS touchOp fits compat rd wr key1 buildA partsD partsK idx frz_at Body.frz lk_hit lk_miss toD6_agg toD5_agg toD4_agg toD6_clo toD5_clo toD4_clo toD6_ptr toD5_ptr toD4_ptr sk6_agg sk5_agg sk4_agg sk6_clo sk5_clo sk4_clo sk6_ptr sk5_ptr sk4_ptr toD_rsl sk_rsl resK EndsP EndsMP fitVs fitCs fitC keysV keysC keyC cellsA1 skVs skCs skC1 resO tupA valsV cellsV oneV rowsV rowsC RV.cells nk rowsH_one rowsH_two rowsH_none
attribute [local simp] allD_map_d sks_map_d tk tn tks one_sos one_cos one_ars one_ts

theorem argM_plain {b : Bl} {a : Ar} {i : Int} (h : argM b a i = true) (hr : a.rc = false) : inM a.ty i = true := by
  rw [argM, hr] at h
  simp only [Bool.false_eq_true, if_false] at h
  split at h
  · assumption
  · cases h
theorem argM_rec {b : Bl} {a : Ar} {i : Int} (h : argM b a i = true) (hr : a.rc = true) (h0 : 0 ≤ i) (h1 : i ≤ 1000) : noneM a.ty = true ∧ 0 ≤ a.sort ∧ a.sort < b.sorts.length ∧ a.dom.length ≤ 12 ∧
    (∃ s, b.sorts[a.sort.toNat]? = some s ∧ a.idx.length = s.idx.length) ∧ (∀ (j : Nat) (hj : j < a.dom.length), inM a.dom[j] (i + j) = true) ∧ ∀ x ∈ a.idx, inM x (i + a.dom.length) = true := by
  rw [argM, hr] at h
  simp only [if_true] at h
  split at h
  · rename_i hn
    split at h
    · cases h
    · rename_i hd
      split at h
      · cases h
      · rename_i hs
        split at h
        · cases h
        · rename_i s hs2
          split at h
          · rename_i hl
            rw [Bool.and_eq_true] at h
            have hlt := (List.getElem?_eq_some_iff.1 hs2).1
            refine ⟨hn, by omega, by omega, by omega, ⟨s, hs2, by omega⟩, fun j hj => ?_, fun x hx => ?_⟩
            · have := (allI_iff _ _ 0).1 h.1 j hj
              rw [Nat.zero_add, w64_id (by omega) (by omega)] at this
              exact this
            · have h2 := h.2
              rw [w64_id (by omega) (by omega), allM, Bool.not_eq_true', List.any_eq_false] at h2
              have := h2 x hx
              simpa using this
          · cases h
  · cases h
theorem in_facts {t : T} {v : Int} (h : inM t v = true) (h0 : 0 ≤ v) (h1 : v ≤ 60000) (hn : nodes t ≤ 1048576) : wiT t v 65536 = true ∧ formedM t = true ∧ checkM t = 0 := by
  obtain ⟨h2, h3⟩ := (scope_is2 h0 (by omega) (by omega)).1 h
  exact ⟨h3, formed_of h2, h2⟩
theorem rowM_at {b : Bl} {l : List Ar} (h : rowM b l = true) : l.length ≤ 12 ∧ ∀ (j : Nat) (hj : j < l.length), argM b l[j] j = true := by
  rw [rowM] at h
  split at h
  · cases h
  · refine ⟨by omega, fun j hj => ?_⟩
    have := (allI_iff _ _ 0).1 h j hj
    rwa [Nat.zero_add] at this
end Ev
end Go.Proofs.YthopdhnbflkabaaGreat
