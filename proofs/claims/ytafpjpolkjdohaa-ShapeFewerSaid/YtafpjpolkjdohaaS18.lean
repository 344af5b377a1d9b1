/- ShapeFewer: what the law computes. -/
import Derived.Test.YtafpjpolkjdohaaS17
import Derived.Test.YtafpjpolkjdohaaS14
import Derived.Test.YtafpjpolkjdohaaS13
namespace Go.Proofs.Ytafpjpolkjdohaa
namespace Ev
open Go
set_option maxRecDepth 100000
set_option linter.unusedSimpArgs false
set_option linter.unusedVariables false
attribute [local simp ↓] wx_skip wx_region wx_seq wx_block wx_exit wx_ret wx_cond wx_loop wo_nil wo_run wo_ask wx_draw wt_nil wt_run_t wt_run_f wt_ask_t wt_ask_f rb_mv rb_nilrow rb_pick rb_alloc rb_box rb_load rb_store rb_nilck rb_bin rb_binb rb_un rb_conv rb_mkf rb_mks rb_slice rb_faddr rb_fld rb_iaddr rb_ext rb_len rb_app rb_mm rb_build rb_bslice run_callC upd_eq upd_ne
attribute [local simp] runB_some runB_none Tch_nil Tch_cons Chk_t Cnd_t Cnd_f Ask_tt Ask_ff Ask_tf Ask_ft Ask_skip act ev_t ev_c evs sks caps2 touch_call List.cons_append List.nil_append putS binI binB int_add int_sub int_mul int_quo int_rem int_or int_eql int_neq int_lss int_leq int_gtr int_geq shiftD Ex.then Ex.inBlock Ends resL resX allD toD_d toD_fsl sk_d sk_fsl none_ loadA cut wrapA wrapD avc_d avc_agg avc_fsl avc_rsl avc_ptr avc_eptr avc_clo dc_agg dc_int dc_bool dc_str dc_sl dc_nilp dc_rp dc_clo on_int on_bool on_str on_sl on_nilp on_rp on_clo on_fsl on_rsl on_ptr on_eptr on_cloA newE elemsA elemsS storeA put frz_nil deep callee resA initS touchOp fits compat rd wr key1 buildA partsD partsK idx frz_at Body.frz lk_hit lk_miss toD6_agg toD5_agg toD4_agg toD6_clo toD5_clo toD4_clo toD6_ptr toD5_ptr toD4_ptr sk6_agg sk5_agg sk4_agg sk6_clo sk5_clo sk4_clo sk6_ptr sk5_ptr sk4_ptr toD_rsl sk_rsl
attribute [local simp] allD_map_d sks_map_d

theorem u64_id {n : Int} (h1 : 0 ≤ n) (h2 : n < 18446744073709551616) : IntKind.u64.wrap n = n := by
  simp only [IntKind.wrap]
  exact Int.emod_eq_of_lt h1 h2
/-- With its first constructors alone. -/
def fewB (b : Bl) (m : Nat) : Bl := ⟨b.sorts, b.cons.take m, b.elim⟩
theorem few_right {b : Bl} (h : checkB b = 0) (m : Nat) : checkB (fewB b m) = 0 := by
  obtain ⟨h1, h2, h3, h4, h5, h6⟩ := (checkB_zero b).1 h
  refine (checkB_zero (fewB b m)).2 ⟨h1, h2, ?_, h4, h5, fun c hc => h6 c (List.mem_of_mem_take hc)⟩
  simp only [fewB, List.length_take]
  omega
theorem fewer_ok (b : Bl) (ok : okBl b) (base n k : Int) : Pure Try.prog n_porismlaw07_ShapeFewer [eBl b, .int .i64 base, .int .i64 n, .int .i64 k] [.bool true] := by
  refine p_porismlaw07_ShapeFewer rfl fun hs => ?_
  simp -dsimp [x_porismlaw07_ShapeFewer, eBl, cBl, eSos, eCos]
  refine call_of (heavy07_ok b) ?_
  simp -dsimp
  (first | refine Ask_b ?_ ?_ | refine Cnd_b ?_ ?_) <;> intro h1 <;> (try simp only [decide_eq_true_eq, decide_eq_false_iff_not, beq_iff_eq, beq_eq_false_iff_ne, bne_iff_ne, bne_eq_false_iff_eq, Bool.not_eq_true', Bool.not_eq_false', Bool.and_eq_true, Bool.or_eq_true, Bool.and_eq_false_iff, Bool.or_eq_false_iff] at h1) <;> simp -dsimp [h1]
  refine call_of (shape7_ok b) ?_
  simp -dsimp [h1]
  (first | refine Ask_b ?_ ?_ | refine Cnd_b ?_ ?_) <;> intro h2 <;> (try simp only [decide_eq_true_eq, decide_eq_false_iff_not, beq_iff_eq, beq_eq_false_iff_ne, bne_iff_ne, bne_eq_false_iff_eq, Bool.not_eq_true', Bool.not_eq_false', Bool.and_eq_true, Bool.or_eq_true, Bool.and_eq_false_iff, Bool.or_eq_false_iff] at h2) <;> simp -dsimp [h2]
  have hf := fit_of h1
  have hfs := hf.s
  have hfc := hf.c
  have hz : checkB b = 0 := by simpa [shapeR] using h2
  have hz' := (checkB_zero b).1 hz
  have q1 : IntKind.u64.wrap (IntKind.i64.wrap ((b.cons.length : Int) + 1)) = (b.cons.length : Int) + 1 := by
    rw [wrap_id (by omega) (by omega), u64_id (by omega) (by omega)]
  have q2 : IntKind.u64.wrap (b.sorts.length : Int) = (b.sorts.length : Int) := u64_id (by omega) (by omega)
  have z1 : ¬((b.cons.length : Int) + 1 = 0) := by omega
  have z2 : ¬((b.sorts.length : Int) = 0) := by omega
  have z2' : ¬(b.sorts = []) := fun h => by rw [h] at hz'; simp at hz'
  simp -dsimp [h1, h2, q1, q2, z1, z2, z2']
  obtain ⟨hb0, hb1⟩ := rem_le base 1000 (by omega) (by omega)
  obtain ⟨hn0, hn1⟩ := rem_le n ((b.cons.length : Int) + 1) (by omega) (by omega)
  obtain ⟨hk0, hk1⟩ := rem_le k (b.sorts.length : Int) (by omega) (by omega)
  generalize IntKind.i64.wrap ((IntKind.u64.wrap base).tmod 1000) = B at hb0 hb1 ⊢
  generalize IntKind.i64.wrap ((IntKind.u64.wrap n).tmod ((b.cons.length : Int) + 1)) = M at hn0 hn1 ⊢
  generalize IntKind.i64.wrap ((IntKind.u64.wrap k).tmod (b.sorts.length : Int)) = K at hk0 hk1 ⊢
  refine call_of (twinBlock_ok b ok) ?_
  have hM : M ≤ (b.cons.length : Int) := by omega
  simp -dsimp [eBl, cBl, eSos, eCos, hn0, hM]
  have hf' : Fit (fewB b M.toNat) := ⟨hfs, by simp only [fewB, List.length_take]; omega⟩
  have hd := decs_le b.sorts
  have lM : (fewB b M.toNat).cons.length = M.toNat := by simp only [fewB, List.length_take]; omega
  have t1 : checkB (fewB b M.toNat) = 0 := few_right hz _
  have e1 : IntKind.i64.wrap (IntKind.i64.wrap (count b - (b.cons.length : Int)) + M) = count (fewB b M.toNat) := by
    rw [count_is hf, count_is hf', lM]
    show IntKind.i64.wrap _ = 2 * (b.sorts.length : Int) + decs b.sorts + M.toNat
    rw [wrap_id (n := 2 * (b.sorts.length : Int) + decs b.sorts + b.cons.length - b.cons.length) (by omega) (by omega), wrap_id (by omega) (by omega)]
    omega
  have e2 : IntKind.i64.wrap (IntKind.i64.wrap (eliminator b B K - (b.cons.length : Int)) + M) = eliminator (fewB b M.toNat) B K := by
    rw [eliminator_is hf hb0 (by omega), eliminator_is hf' hb0 (by omega), lM]
    show IntKind.i64.wrap _ = if 0 ≤ K ∧ K < (b.sorts.length : Int) then B + ((b.sorts.length : Int) + decs b.sorts + M.toNat) + K else -1
    rw [if_pos (by omega), if_pos (by omega), wrap_id (n := B + ((b.sorts.length : Int) + decs b.sorts + b.cons.length) + K - b.cons.length) (by omega) (by omega), wrap_id (by omega) (by omega)]
    omega
  have f1 : former (fewB b M.toNat) B K = former b B K := rfl
  have f2 : decoder (fewB b M.toNat) B K = decoder b B K := rfl
  have cv : eBl (fewB b M.toNat) = D.agg [D.sl 6 (b.sorts.map eSo), D.sl 6 ((b.cons.map eCo).take M.toNat), D.int .i64 b.elim] := by simp [eBl, cBl, eSos, eCos, fewB]
  have s1 := checkB_ok (fewB b M.toNat)
  have s2 := count_ok (fewB b M.toNat)
  have s3 := former_ok (fewB b M.toNat) B K
  have s4 := decoder_ok (fewB b M.toNat) B K
  have s5 := eliminator_ok (fewB b M.toNat) B K
  rw [cv] at s1 s2 s3 s4 s5
  refine call_of s1 ?_
  simp -dsimp [t1]
  refine call_of s2 ?_
  simp -dsimp [t1]
  refine call_of (count_ok b) ?_
  simp -dsimp [t1, e1]
  refine call_of s3 ?_
  simp -dsimp [t1, e1, f1]
  refine call_of (former_ok b B K) ?_
  simp -dsimp [t1, e1, f1]
  refine call_of s4 ?_
  simp -dsimp [t1, e1, f1, f2]
  refine call_of (decoder_ok b B K) ?_
  simp -dsimp [t1, e1, f1, f2]
  refine call_of s5 ?_
  simp -dsimp [t1, e1, f1, f2]
  refine call_of (eliminator_ok b B K) ?_
  simp -dsimp [t1, e1, f1, f2, e2]
  refine call_of wakes07_ok ?_
  simp -dsimp [t1, e1, f1, f2, e2]
end Ev
end Go.Proofs.Ytafpjpolkjdohaa
