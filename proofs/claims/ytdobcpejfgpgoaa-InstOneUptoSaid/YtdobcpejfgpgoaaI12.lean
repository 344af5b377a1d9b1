/- InstTwice: what the law computes. -/
import Derived.Test.YtdobcpejfgpgoaaI11
import Derived.Test.YtdobcpejfgpgoaaI9
namespace Go.Proofs.Ytdobcpejfgpgoaa
namespace Ev
open Go
set_option maxRecDepth 100000
set_option linter.unusedSimpArgs false
set_option linter.unusedVariables false
attribute [local simp ↓] wx_skip wx_region wx_seq wx_block wx_exit wx_ret wx_cond wx_loop wo_nil wo_run wo_ask wx_draw wt_nil wt_run_t wt_run_f wt_ask_t wt_ask_f rb_mv rb_nilrow rb_pick rb_alloc rb_box rb_load rb_store rb_nilck rb_bin rb_binb rb_un rb_conv rb_mkf rb_mks rb_slice rb_faddr rb_fld rb_iaddr rb_ext rb_len rb_app rb_mm rb_build rb_bslice run_callC upd_eq upd_ne
attribute [local simp] runB_some runB_none Tch_nil Tch_cons Chk_t Cnd_t Cnd_f Ask_tt Ask_ff Ask_tf Ask_ft Ask_skip act ev_t ev_c evs sks caps2 touch_call List.cons_append List.nil_append putS binI binB int_add int_sub int_mul int_quo int_rem int_or int_eql int_neq int_lss int_leq int_gtr int_geq shiftD Ex.then Ex.inBlock Ends resL resX allD toD_d toD_fsl sk_d sk_fsl none_ loadA cut wrapA wrapD avc_d avc_agg avc_fsl avc_rsl avc_ptr avc_eptr avc_clo dc_agg dc_int dc_bool dc_str dc_sl dc_nilp dc_rp dc_clo on_int on_bool on_str on_sl on_nilp on_rp on_clo on_fsl on_rsl on_ptr on_eptr on_cloA newE elemsA elemsS storeA put frz_nil deep callee resA initS touchOp fits compat rd wr key1 buildA partsD partsK idx frz_at Body.frz lk_hit lk_miss toD6_agg toD5_agg toD4_agg toD6_clo toD5_clo toD4_clo toD6_ptr toD5_ptr toD4_ptr sk6_agg sk5_agg sk4_agg sk6_clo sk5_clo sk4_clo sk6_ptr sk5_ptr sk4_ptr toD_rsl sk_rsl
attribute [local simp] allD_map_d sks_map_d tk tn tks

def dT (t : T) : D := .agg [.int .i64 t.kind, .int .i64 t.num, .sl 3 (t.kids.map eT)]
theorem inst_one (t a : T) (u : Int) (ht : nodes t ≤ 1048576) (ha : nodes a ≤ 1048576) : Pure Try.prog n_subst_Inst [dT t, .sl 3 [dT a], .int .i64 u] [dT (instT t [a] u), .int .i64 (instE t [a] u)] := by
  have := inst_ok t [a] u (by omega) (by intro x hx; simp at hx; subst hx; omega) (by simp)
  simp only [eTs, List.map_cons, List.map_nil, eT_eq, cT] at this
  exact this
theorem inst_two (t a b : T) (u : Int) (ht : nodes t ≤ 1048576) (ha : nodes a ≤ 1048576) (hb : nodes b ≤ 1048576) : Pure Try.prog n_subst_Inst [dT t, .sl 3 [dT a, dT b], .int .i64 u] [dT (instT t [a, b] u), .int .i64 (instE t [a, b] u)] := by
  have := inst_ok t [a, b] u (by omega) (by intro x hx; simp at hx; rcases hx with rfl | rfl <;> omega) (by simp)
  simp only [eTs, List.map_cons, List.map_nil, eT_eq, cT] at this
  exact this
theorem heavy3 (t a b : T) : Pure Try.prog n_porismlaw02_Heavy [.sl 3 [dT t, dT a, dT b]] [.bool (heavy02 [t, a, b])] := by
  have := heavy02_ok [t, a, b]
  simp only [eTs, List.map_cons, List.map_nil, eT_eq, cT] at this
  exact this
theorem twice_law (t a b : T) (ht : nodes t ≤ 1048576) (ha : nodes a ≤ 1048576) (hb : nodes b ≤ 1048576) : Pure Try.prog n_porismlaw05_InstTwice [.agg (cT t), .agg (cT a), .agg (cT b)] [.bool true] := by
  refine p_porismlaw05_InstTwice rfl fun hs => ?_
  have s1 : ∀ x ∈ [a], nodes x ≤ 1048576 := by simpa using ha
  have s2 : ∀ x ∈ [b], nodes x ≤ 1048576 := by simpa using hb
  simp -dsimp [x_porismlaw05_InstTwice, cT]
  refine call_of (heavy3 t a b) ?_
  simp -dsimp
  (first | refine Ask_b ?_ ?_ | refine Cnd_b ?_ ?_) <;> intro h1 <;> (try simp only [decide_eq_true_eq, decide_eq_false_iff_not, beq_iff_eq, beq_eq_false_iff_ne, bne_iff_ne, bne_eq_false_iff_eq, Bool.not_eq_true', Bool.not_eq_false', Bool.and_eq_true, Bool.or_eq_true, Bool.and_eq_false_iff, Bool.or_eq_false_iff] at h1) <;> simp -dsimp [h1]
  refine call_of (inst_one t a 0 ht ha) ?_
  simp -dsimp [h1, dT]
  (first | refine Ask_b ?_ ?_ | refine Cnd_b ?_ ?_) <;> intro h2 <;> (try simp only [decide_eq_true_eq, decide_eq_false_iff_not, beq_iff_eq, beq_eq_false_iff_ne, bne_iff_ne, bne_eq_false_iff_eq, Bool.not_eq_true', Bool.not_eq_false', Bool.and_eq_true, Bool.or_eq_true, Bool.and_eq_false_iff, Bool.or_eq_false_iff] at h2) <;> simp -dsimp [h2]
  · refine call_of wakes05_ok ?_
    simp -dsimp
  obtain ⟨r1, r2, r3⟩ := inst_right ht s1 h2
  generalize hX : instT t [a] 0 = X at r1 r2 r3 ⊢
  refine call_of (inst_one X b 0 (by omega) hb) ?_
  simp -dsimp [dT]
  refine call_of (inst_one a b 0 ha hb) ?_
  simp -dsimp [dT]
  by_cases h3 : instE X [b] 0 = 0
  · have hXb : nodes X ≤ 1048576 := by omega
    generalize hY : instT X [b] 0 = Y
    by_cases h4 : instE a [b] 0 = 0
    · have hc := inst_right ha s2 h4
      subst hX
      obtain ⟨t1, t2⟩ := twice_core ht ha hb h2 h3 h4
      rw [hY] at t2
      generalize hC : instT a [b] 0 = C at hc t1 t2 ⊢
      simp -dsimp [h3, h4]
      refine call_of (inst_two t b C 0 ht hb (by omega)) ?_
      by_cases h5 : instE t [b, C] 0 = 0
      · have hZ : instT t [b, C] 0 = Y := by rw [inst_at h5, t2]
        rw [h5, hZ]
        simp -dsimp [dT]
        refine call_of (keepTerm_ok Y) ?_
        simp -dsimp
        refine call_of wakes05_ok ?_
        simp -dsimp
      · have he := inst_err t1
        have he2 : instE t [b, C] 0 = 4 ∨ instE t [b, C] 0 = 5 ∨ instE t [b, C] 0 = 6 := by omega
        generalize instT t [b, C] 0 = Z
        rcases he2 with e | e | e <;> rw [e] <;> simp -dsimp [dT] <;> refine call_of wakes05_ok ?_ <;> simp -dsimp
    · simp -dsimp [h3, h4]
      refine call_of wakes05_ok ?_
      simp -dsimp
  · simp -dsimp [h3]
    refine call_of wakes05_ok ?_
    simp -dsimp
end Ev
end Go.Proofs.Ytdobcpejfgpgoaa
