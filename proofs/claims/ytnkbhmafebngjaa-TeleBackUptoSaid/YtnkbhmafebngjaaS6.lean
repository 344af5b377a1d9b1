/- slices.IndexFunc, slices.ContainsFunc; what a right term is. -/
import Derived.Test.YtnkbhmafebngjaaS5
namespace Go.Proofs.Ytnkbhmafebngjaa
namespace Ev
open Go
set_option maxRecDepth 100000
set_option linter.unusedSimpArgs false
set_option linter.unusedVariables false
attribute [local simp ↓] wx_skip wx_region wx_seq wx_block wx_exit wx_ret wx_cond wx_loop wo_nil wo_run wo_ask wx_draw wt_nil wt_run_t wt_run_f wt_ask_t wt_ask_f rb_mv rb_nilrow rb_pick rb_alloc rb_box rb_load rb_store rb_nilck rb_bin rb_binb rb_un rb_conv rb_mkf rb_mks rb_slice rb_faddr rb_fld rb_iaddr rb_ext rb_len rb_app rb_mm rb_build rb_bslice run_callC upd_eq upd_ne
attribute [local simp] runB_some runB_none Tch_nil Tch_cons Chk_t Cnd_t Cnd_f Ask_tt Ask_ff Ask_tf Ask_ft Ask_skip act ev_t ev_c evs sks caps2 touch_call List.cons_append List.nil_append putS binI binB int_add int_sub int_mul int_quo int_rem int_or int_eql int_neq int_lss int_leq int_gtr int_geq shiftD Ex.then Ex.inBlock Ends resL resX allD toD_d toD_fsl sk_d sk_fsl none_ loadA cut wrapA wrapD avc_d avc_agg avc_fsl avc_rsl avc_ptr avc_eptr avc_clo dc_agg dc_int dc_bool dc_str dc_sl dc_nilp dc_rp dc_clo on_int on_bool on_str on_sl on_nilp on_rp on_clo on_fsl on_rsl on_ptr on_eptr on_cloA newE elemsA elemsS storeA put frz_nil deep callee resA initS touchOp fits compat rd wr key1 buildA partsD partsK idx frz_at Body.frz lk_hit lk_miss toD6_agg toD5_agg toD4_agg toD6_clo toD5_clo toD4_clo toD6_ptr toD5_ptr toD4_ptr sk6_agg sk5_agg sk4_agg sk6_clo sk5_clo sk4_clo sk6_ptr sk5_ptr sk4_ptr toD_rsl sk_rsl
attribute [local simp] allD_map_d sks_map_d

theorem eT_map (l : List T) : l.map (fun t => D.agg (cT t)) = l.map eT := List.map_congr_left fun t _ => (eT_eq t).symm
@[simp] theorem eAr_cells (a : Ar) : (eAr a).cells = cAr a := rfl
@[simp] theorem eSo_cells (a : So) : (eSo a).cells = cSo a := rfl
@[simp] theorem eCo_cells (a : Co) : (eCo a).cells = cCo a := rfl

def idxF {α : Type} (l : List α) (p : α → Bool) : Int := match l.findIdx? p with
  | some i => i
  | none => -1
theorem idxF_ge {α : Type} (l : List α) (p : α → Bool) : decide (0 ≤ idxF l p) = l.any p := by
  cases h : l.findIdx? p with
  | none =>
    have h1 := List.findIdx?_eq_none_iff.1 h
    have h2 : l.any p = false := by rw [List.any_eq_false]; intro x hx; simp [h1 x hx]
    have h3 : idxF l p = -1 := by simp only [idxF, h]
    rw [h2, h3]; rfl
  | some i =>
    obtain ⟨hi, hp, _⟩ := List.findIdx?_eq_some_iff_getElem.1 h
    have h2 : l.any p = true := List.any_eq_true.2 ⟨_, List.getElem_mem hi, hp⟩
    have h3 : idxF l p = (i : Int) := by simp only [idxF, h]
    rw [h2, h3]; simp

theorem indexFunc_Term (l : List T) (g : FuncId) (caps : List D) (p : T → Bool) (hp : ∀ x ∈ l, Pure Try.prog g (.agg (cT x) :: caps) [.bool (p x)]) :
    Pure Try.prog n_slices_IndexFunc_Term [.sl 3 (l.map eT), .clo g caps] [.int .i64 (idxF l p)] := by
  refine p_slices_IndexFunc_Term rfl fun hs => ?_
  have hl := hs (.sl 3 (l.map eT)) (by simp)
  simp [small] at hl
  replace hl := hl.1
  simp -dsimp [x_slices_IndexFunc_Term]
  refine wp_upto l.length (fun i st => st.s 0 = .d (.sl 3 (l.map eT)) ∧ st.s 1 = .d (.clo g caps) ∧ st.s 7 = .d (.int .i64 l.length) ∧ st.s 8 = .d (.int .i64 i) ∧ ∀ x ∈ l.take i, p x = false) ?_ ?_
  · simp -dsimp
  · rintro i ⟨s, hp'⟩ hi ⟨h1, h2, h3, h4, h5⟩
    dsimp only at h1 h2 h3 h4 h5
    rcases Nat.lt_or_ge i l.length with hlt | hge
    · have w1 : IntKind.i64.wrap ((i : Int) + 1) = (i : Int) + 1 := wrap_id (by omega) (by omega)
      have hc : (cT l[i]).length = 3 := rfl
      simp -dsimp [h1, h2, h3, h4, hlt, hc]
      have ht : (cT l[i]).take 3 = cT l[i] := List.take_of_length_le (by omega)
      refine call_of (by rw [ht]; exact hp l[i] (List.getElem_mem _)) ?_
      simp -dsimp [h1, h2, h3, h4, hlt]
      (first | refine Ask_b ?_ ?_ | refine Cnd_b ?_ ?_) <;> intro h6 <;> (try simp only [decide_eq_true_eq, decide_eq_false_iff_not, beq_iff_eq, beq_eq_false_iff_ne, bne_iff_ne, bne_eq_false_iff_eq, Bool.not_eq_true', Bool.not_eq_false', Bool.and_eq_true, Bool.or_eq_true, Bool.and_eq_false_iff, Bool.or_eq_false_iff] at h6) <;> simp -dsimp [h6, h1, h2, h3, h4, hlt, w1]
      · have : l.findIdx? p = some i := by
          rw [List.findIdx?_eq_some_iff_getElem]
          refine ⟨hlt, h6, fun j hj => ?_⟩
          have := h5 l[j] (by rw [List.mem_take_iff_getElem]; exact ⟨j, by omega, rfl⟩)
          simpa using this
        simp only [idxF, this]
      · intro x hx
        rw [take_snoc (List.getElem?_eq_getElem hlt), List.mem_append] at hx
        rcases hx with hx | hx
        · simpa using h5 x hx
        · simp at hx; subst hx; exact h6
    · have e : i = l.length := by omega
      subst e
      rw [List.take_length] at h5
      have : l.findIdx? p = none := by
        rw [List.findIdx?_eq_none_iff]; exact h5
      simp -dsimp [h1, h2, h3, h4, idxF, this]

theorem containsFunc_Term (l : List T) (g : FuncId) (caps : List D) (p : T → Bool) (hp : ∀ x ∈ l, Pure Try.prog g (.agg (cT x) :: caps) [.bool (p x)]) :
    Pure Try.prog n_slices_ContainsFunc_Term [.sl 3 (l.map eT), .clo g caps] [.bool (l.any p)] := by
  refine p_slices_ContainsFunc_Term rfl fun hs => ?_
  simp -dsimp [x_slices_ContainsFunc_Term]
  refine call_of (indexFunc_Term l g caps p hp) ?_
  simp -dsimp [idxF_ge]

end Ev
end Go.Proofs.Ytnkbhmafebngjaa
