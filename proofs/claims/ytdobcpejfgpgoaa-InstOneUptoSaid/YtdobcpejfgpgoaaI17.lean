/- Shifts: what shift.Lower and shift.Shift come to. -/
import Derived.Test.YtdobcpejfgpgoaaI16
import Derived.Test.YtdobcpejfgpgoaaI14
namespace Go.Proofs.Ytdobcpejfgpgoaa
namespace Ev
open Go
set_option maxRecDepth 100000
set_option linter.unusedSimpArgs false
set_option linter.unusedVariables false
attribute [local simp ↓] wx_skip wx_region wx_seq wx_block wx_exit wx_ret wx_cond wx_loop wo_nil wo_run wo_ask wx_draw wt_nil wt_run_t wt_run_f wt_ask_t wt_ask_f rb_mv rb_nilrow rb_pick rb_alloc rb_box rb_load rb_store rb_nilck rb_bin rb_binb rb_un rb_conv rb_mkf rb_mks rb_slice rb_faddr rb_fld rb_iaddr rb_ext rb_len rb_app rb_mm rb_build rb_bslice run_callC upd_eq upd_ne
attribute [local simp] runB_some runB_none Tch_nil Tch_cons Chk_t Cnd_t Cnd_f Ask_tt Ask_ff Ask_tf Ask_ft Ask_skip act ev_t ev_c evs sks caps2 touch_call List.cons_append List.nil_append putS binI binB int_add int_sub int_mul int_quo int_rem int_or int_eql int_neq int_lss int_leq int_gtr int_geq shiftD Ex.then Ex.inBlock Ends resL resX allD toD_d toD_fsl sk_d sk_fsl none_ loadA cut wrapA wrapD avc_d avc_agg avc_fsl avc_rsl avc_ptr avc_eptr avc_clo dc_agg dc_int dc_bool dc_str dc_sl dc_nilp dc_rp dc_clo on_int on_bool on_str on_sl on_nilp on_rp on_clo on_fsl on_rsl on_ptr on_eptr on_cloA newE elemsA elemsS storeA put frz_nil deep callee resA initS touchOp fits compat rd wr key1 buildA partsD partsK idx frz_at Body.frz lk_hit lk_miss toD6_agg toD5_agg toD4_agg toD6_clo toD5_clo toD4_clo toD6_ptr toD5_ptr toD4_ptr sk6_agg sk5_agg sk4_agg sk6_clo sk5_clo sk4_clo sk6_ptr sk5_ptr sk4_ptr toD_rsl sk_rsl
attribute [local simp] allD_map_d sks_map_d tk tn tks initA EndsM

def lowF (v n b : Int) : T := .mk 1 (if v + b < n then n - 1 else n) []
theorem lower1_ok (v n b : Int) (hv : 0 ≤ v ∧ v ≤ 65535) (hn : 0 ≤ n) (hn' : n ≤ 65535) (hb : 0 ≤ b) (hb' : b ≤ 1099511627776) : Pure Try.prog n_shift_Lower_1 [.int .i64 n, .int .i64 b, .rp [.int .i64 v]] [.agg (cT (lowF v n b))] := by
  refine p_shift_Lower_1 rfl fun hs => ?_
  have w1 : IntKind.i64.wrap (v + b) = v + b := wrap_id (by omega) (by omega)
  have w2 : IntKind.i64.wrap (n - 1) = n - 1 := wrap_id (by omega) (by omega)
  simp -dsimp [x_shift_Lower_1, w1]
  (first | refine Ask_b ?_ ?_ | refine Cnd_b ?_ ?_) <;> intro h1 <;> (try simp only [decide_eq_true_eq, decide_eq_false_iff_not, beq_iff_eq, beq_eq_false_iff_ne, bne_iff_ne, bne_eq_false_iff_eq, Bool.not_eq_true', Bool.not_eq_false', Bool.and_eq_true, Bool.or_eq_true, Bool.and_eq_false_iff, Bool.or_eq_false_iff] at h1) <;> simp -dsimp [h1, w1]
  · simp -dsimp [w2]
    refine call_of (v_ok _) ?_
    simp -dsimp [lowF, h1, cT]
  · refine call_of (v_ok _) ?_
    simp -dsimp [lowF, h1, cT]
def lowB (t : T) (v : Int) : Bool := if checkM t = 0 then if inB v 0 65535 = true then decide (cntT t v 0 = 0) else false else false
def lowT (t : T) (v : Int) : T := if lowB t v = true then mapT (lowF v) t 0 else zT
theorem lower_ok (t : T) (v : Int) (ht : nodes t ≤ 1048576) : Pure Try.prog n_shift_Lower [.agg (cT t), .int .i64 v] [.agg (cT (lowT t v)), .bool (lowB t v)] := by
  refine p_shift_Lower rfl fun hs => ?_
  simp -dsimp [x_shift_Lower, cT]
  refine call_of (check_ok t) ?_
  simp -dsimp
  (first | refine Ask_b ?_ ?_ | refine Cnd_b ?_ ?_) <;> intro h1 <;> (try simp only [decide_eq_true_eq, decide_eq_false_iff_not, beq_iff_eq, beq_eq_false_iff_ne, bne_iff_ne, bne_eq_false_iff_eq, Bool.not_eq_true', Bool.not_eq_false', Bool.and_eq_true, Bool.or_eq_true, Bool.and_eq_false_iff, Bool.or_eq_false_iff] at h1) <;> simp -dsimp [h1]
  · have hB : lowB t v = false := by rw [lowB, if_neg h1]
    simp -dsimp [hB, lowT, zT, cT]
  refine call_of (may_ok v) ?_
  simp -dsimp [h1]
  (first | refine Ask_b ?_ ?_ | refine Cnd_b ?_ ?_) <;> intro h2 <;> (try simp only [decide_eq_true_eq, decide_eq_false_iff_not, beq_iff_eq, beq_eq_false_iff_ne, bne_iff_ne, bne_eq_false_iff_eq, Bool.not_eq_true', Bool.not_eq_false', Bool.and_eq_true, Bool.or_eq_true, Bool.and_eq_false_iff, Bool.or_eq_false_iff] at h2) <;> simp -dsimp [h2, h1]
  · have hB : lowB t v = false := by rw [lowB, if_pos h1, if_neg (by simp [h2])]
    simp -dsimp [hB, lowT, zT, cT]
  have hv := (inB_iff _ _ _).1 h2
  refine call_of (count_ok t v hv ht) ?_
  have hc := (cnt_le t v 0).1
  simp -dsimp [h1, h2]
  (first | refine Ask_b ?_ ?_ | refine Cnd_b ?_ ?_) <;> intro h3 <;> (try simp only [decide_eq_true_eq, decide_eq_false_iff_not, beq_iff_eq, beq_eq_false_iff_ne, bne_iff_ne, bne_eq_false_iff_eq, Bool.not_eq_true', Bool.not_eq_false', Bool.and_eq_true, Bool.or_eq_true, Bool.and_eq_false_iff, Bool.or_eq_false_iff] at h3) <;> simp -dsimp [h3, h1, h2]
  · have hB : lowB t v = false := by rw [lowB, if_pos h1, if_pos h2]; simp; omega
    simp -dsimp [hB, lowT, zT, cT]
  have hB : lowB t v = true := by rw [lowB, if_pos h1, if_pos h2]; simp; omega
  have hmap := map_ok (lowF v) n_shift_Lower_1 [.rp [.int .i64 v]] (fun n b a1 a2 a3 a4 => lower1_ok v n b hv a1 a2 a3 a4) t 0 (formed_of h1) (by omega) (by omega)
  refine call_of hmap ?_
  simp -dsimp [hB, lowT, cT]
end Ev
end Go.Proofs.Ytdobcpejfgpgoaa
