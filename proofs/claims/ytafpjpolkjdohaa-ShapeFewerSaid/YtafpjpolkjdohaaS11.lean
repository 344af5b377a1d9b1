/- ShapeNumbers: what the law computes. -/
import Derived.Test.YtafpjpolkjdohaaS10
namespace Go.Proofs.Ytafpjpolkjdohaa
namespace Ev
open Go
set_option maxRecDepth 100000
set_option linter.unusedSimpArgs false
set_option linter.unusedVariables false
attribute [local simp ↓] wx_skip wx_region wx_seq wx_block wx_exit wx_ret wx_cond wx_loop wo_nil wo_run wo_ask wx_draw wt_nil wt_run_t wt_run_f wt_ask_t wt_ask_f rb_mv rb_nilrow rb_pick rb_alloc rb_box rb_load rb_store rb_nilck rb_bin rb_binb rb_un rb_conv rb_mkf rb_mks rb_slice rb_faddr rb_fld rb_iaddr rb_ext rb_len rb_app rb_mm rb_build rb_bslice run_callC upd_eq upd_ne
attribute [local simp] runB_some runB_none Tch_nil Tch_cons Chk_t Cnd_t Cnd_f Ask_tt Ask_ff Ask_tf Ask_ft Ask_skip act ev_t ev_c evs sks caps2 touch_call List.cons_append List.nil_append putS binI binB int_add int_sub int_mul int_quo int_rem int_or int_eql int_neq int_lss int_leq int_gtr int_geq shiftD Ex.then Ex.inBlock Ends resL resX allD toD_d toD_fsl sk_d sk_fsl none_ loadA cut wrapA wrapD avc_d avc_agg avc_fsl avc_rsl avc_ptr avc_eptr avc_clo dc_agg dc_int dc_bool dc_str dc_sl dc_nilp dc_rp dc_clo on_int on_bool on_str on_sl on_nilp on_rp on_clo on_fsl on_rsl on_ptr on_eptr on_cloA newE elemsA elemsS storeA put frz_nil deep callee resA initS touchOp fits compat rd wr key1 buildA partsD partsK idx frz_at Body.frz lk_hit lk_miss toD6_agg toD5_agg toD4_agg toD6_clo toD5_clo toD4_clo toD6_ptr toD5_ptr toD4_ptr sk6_agg sk5_agg sk4_agg sk6_clo sk5_clo sk4_clo sk6_ptr sk5_ptr sk4_ptr toD_rsl sk_rsl
attribute [local simp] allD_map_d sks_map_d

theorem base_le (n : Int) : 0 ≤ IntKind.i64.wrap ((IntKind.u64.wrap n).tmod 1000) ∧ IntKind.i64.wrap ((IntKind.u64.wrap n).tmod 1000) < 1000 := by
  have h0 : 0 ≤ IntKind.u64.wrap n := by
    simp only [IntKind.wrap]
    exact Int.emod_nonneg _ (by decide)
  rw [Int.tmod_eq_emod_of_nonneg h0]
  have h1 : 0 ≤ IntKind.u64.wrap n % 1000 := Int.emod_nonneg _ (by decide)
  have h2 : IntKind.u64.wrap n % 1000 < 1000 := Int.emod_lt_of_pos _ (by decide)
  rw [wrap_id (by omega) (by omega)]
  exact ⟨h1, h2⟩

theorem numbers_ok (b : Bl) (base n : Int) (hn : is64 n) : Pure Try.prog n_porismlaw07_ShapeNumbers [eBl b, .int .i64 base, .int .i64 n] [.bool true] := by
  refine p_porismlaw07_ShapeNumbers rfl fun hs => ?_
  simp -dsimp [x_porismlaw07_ShapeNumbers, eBl, cBl, eSos, eCos]
  refine call_of (heavy07_ok b) ?_
  simp -dsimp
  (first | refine Ask_b ?_ ?_ | refine Cnd_b ?_ ?_) <;> intro h1 <;> (try simp only [decide_eq_true_eq, decide_eq_false_iff_not, beq_iff_eq, beq_eq_false_iff_ne, bne_iff_ne, bne_eq_false_iff_eq, Bool.not_eq_true', Bool.not_eq_false', Bool.and_eq_true, Bool.or_eq_true, Bool.and_eq_false_iff, Bool.or_eq_false_iff] at h1) <;> simp -dsimp [h1]
  obtain ⟨hb0, hb1⟩ := base_le base
  generalize IntKind.i64.wrap ((IntKind.u64.wrap base).tmod 1000) = B at hb0 hb1 ⊢
  refine call_of (count_ok b) ?_
  have hf := fit_of h1
  have hci := count_is hf
  have hfs := hf.s
  have hfc := hf.c
  have hdl := decs_le b.sorts
  generalize hC : (2 * b.sorts.length + decs b.sorts + b.cons.length) = C at hci
  have hci : count b = (C : Int) := by omega
  simp -dsimp [hci]
  refine wp_upto C (fun i st => st.s 1 = .d (.int .i64 B) ∧ st.s 2 = .d (.int .i64 n) ∧ st.s 3 = .ptr 3 1 0 ∧ st.h 3 = ⟨1, .box [.d (.sl 6 (b.sorts.map eSo)), .d (.sl 6 (b.cons.map eCo)), .d (.int .i64 b.elim)] false⟩ ∧
    st.s 7 = .d (.int .i64 C) ∧ st.s 8 = .d (.int .i64 i)) ?_ ?_
  · simp -dsimp
  · rintro i ⟨s, hp⟩ hi ⟨g1, g2, g3, g4, g5, g6⟩
    dsimp only at g1 g2 g3 g4 g5 g6
    rcases Nat.lt_or_ge i C with hlt | hge
    · have w1 : IntKind.i64.wrap ((i : Int) + 1) = (i : Int) + 1 := wrap_id (by omega) (by omega)
      have w2 : IntKind.i64.wrap (B + (i : Int)) = B + (i : Int) := wrap_id (by omega) (by omega)
      simp -dsimp [g1, g2, g3, g4, g5, g6, hlt, w2]
      obtain ⟨e, he, k, k1, k2, k3⟩ := of_in hf hb0 (by omega) (n := B + (i : Int)) (by omega) (by omega)
      have ho := of_ok b B (B + (i : Int))
      rw [k3] at ho
      refine call_of ho ?_
      simp only [tab, List.mem_cons, List.not_mem_nil, or_false] at he
      rcases he with rfl | rfl | rfl | rfl
      · simp only at k2
        simp -dsimp [g1, g2, g3, g4, g5, g6]
        refine call_of (former_ok b B k) ?_
        simp -dsimp [hlt, k2, w1, w2, g1, g2, g3, g4, g5, g6]
      · simp only at k2
        simp -dsimp [g1, g2, g3, g4, g5, g6]
        refine call_of (decoder_ok b B k) ?_
        simp -dsimp [hlt, k2, w1, w2, g1, g2, g3, g4, g5, g6]
      · simp only at k2
        simp -dsimp [g1, g2, g3, g4, g5, g6]
        refine call_of (constructor_ok b B k) ?_
        simp -dsimp [hlt, k2, w1, w2, g1, g2, g3, g4, g5, g6]
      · simp only at k2
        simp -dsimp [g1, g2, g3, g4, g5, g6]
        refine call_of (eliminator_ok b B k) ?_
        simp -dsimp [hlt, k2, w1, w2, g1, g2, g3, g4, g5, g6]
    · have e : i = C := by omega
      subst e
      have w2 : IntKind.i64.wrap (B + (i : Int)) = B + (i : Int) := wrap_id (by omega) (by omega)
      simp -dsimp [g1, g2, g3, g4, g5, g6, w2]
      have z0 : former b B (-1) = -1 := by rw [former_is hf hb0 (by omega), if_neg (by omega)]
      have z1 : constructor_ b B b.cons.length = -1 := by rw [constructor_is hf hb0 (by omega), if_neg (by omega)]
      have z2 : eliminator b B b.sorts.length = -1 := by rw [eliminator_is hf hb0 (by omega), if_neg (by omega)]
      (first | refine Ask_b ?_ ?_ | refine Cnd_b ?_ ?_) <;> intro h2 <;> (try simp only [decide_eq_true_eq, decide_eq_false_iff_not, beq_iff_eq, beq_eq_false_iff_ne, bne_iff_ne, bne_eq_false_iff_eq, Bool.not_eq_true', Bool.not_eq_false', Bool.and_eq_true, Bool.or_eq_true, Bool.and_eq_false_iff, Bool.or_eq_false_iff] at h2) <;> simp -dsimp [h2, g1, g2, g3, g4, g5, g6, w2, z0, z1, z2]
      · (first | refine Ask_b ?_ ?_ | refine Cnd_b ?_ ?_) <;> intro h3 <;> (try simp only [decide_eq_true_eq, decide_eq_false_iff_not, beq_iff_eq, beq_eq_false_iff_ne, bne_iff_ne, bne_eq_false_iff_eq, Bool.not_eq_true', Bool.not_eq_false', Bool.and_eq_true, Bool.or_eq_true, Bool.and_eq_false_iff, Bool.or_eq_false_iff] at h3) <;> simp -dsimp [h3, g1, g2, g3, g4, g5, g6, w2, z0, z1, z2, h2]
        · refine call_of wakes07_ok ?_
          simp -dsimp [g1, g2, g3, g4, g5, g6, w2, z0, z1, z2, h2, h3]
        · have ho := of_ok b B n
          rw [of_out hf hb0 hn (by omega)] at ho
          refine call_of ho ?_
          simp -dsimp [g1, g2, g3, g4, g5, g6, w2, z0, z1, z2, h2, h3]
          refine call_of (former_ok b B (-1)) ?_
          simp -dsimp [g1, g2, g3, g4, g5, g6, w2, z0, z1, z2, h2, h3]
          refine call_of (constructor_ok b B b.cons.length) ?_
          simp -dsimp [g1, g2, g3, g4, g5, g6, w2, z0, z1, z2, h2, h3]
          refine call_of (eliminator_ok b B b.sorts.length) ?_
          simp -dsimp [g1, g2, g3, g4, g5, g6, w2, z0, z1, z2, h2, h3]
          refine call_of wakes07_ok ?_
          simp -dsimp [g1, g2, g3, g4, g5, g6, w2, z0, z1, z2, h2, h3]
      · have ho := of_ok b B n
        rw [of_out hf hb0 hn (by omega)] at ho
        refine call_of ho ?_
        simp -dsimp [g1, g2, g3, g4, g5, g6, w2, z0, z1, z2, h2]
        refine call_of (former_ok b B (-1)) ?_
        simp -dsimp [g1, g2, g3, g4, g5, g6, w2, z0, z1, z2, h2]
        refine call_of (constructor_ok b B b.cons.length) ?_
        simp -dsimp [g1, g2, g3, g4, g5, g6, w2, z0, z1, z2, h2]
        refine call_of (eliminator_ok b B b.sorts.length) ?_
        simp -dsimp [g1, g2, g3, g4, g5, g6, w2, z0, z1, z2, h2]
        refine call_of wakes07_ok ?_
        simp -dsimp [g1, g2, g3, g4, g5, g6, w2, z0, z1, z2, h2]
end Ev
end Go.Proofs.Ytafpjpolkjdohaa
