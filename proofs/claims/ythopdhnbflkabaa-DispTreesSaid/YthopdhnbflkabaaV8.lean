/- DispTrees. -/
import Derived.Test.YthopdhnbflkabaaV7
import Derived.Test.YthopdhnbflkabaaOD
namespace Go.Proofs.Ythopdhnbflkabaa
namespace Ev
open Go
set_option maxRecDepth 100000
set_option linter.unusedSimpArgs false
set_option linter.unusedVariables false
attribute [local simp ↓] wx_skip wx_region wx_seq wx_block wx_exit wx_ret wx_cond wx_loop wo_nil wo_run wo_ask wx_draw wt_nil wt_run_t wt_run_f wt_ask_t wt_ask_f rb_mv rb_nilrow rb_pick rb_alloc rb_box rb_load rb_store rb_nilck rb_bin rb_binb rb_un rb_conv rb_mkf rb_mks rb_slice rb_faddr rb_fld rb_iaddr rb_ext rb_len rb_app rb_mm rb_build rb_bslice run_callC upd_eq upd_ne
attribute [local simp] runB_some runB_none Tch_nil Tch_cons Chk_t Cnd_t Cnd_f Ask_tt Ask_ff Ask_tf Ask_ft Ask_skip act ev_t ev_c evs sks caps2 touch_call List.cons_append List.nil_append putS binI binB int_add int_sub int_mul int_quo int_rem int_or int_eql int_neq int_lss int_leq int_gtr int_geq shiftD Ex.then Ex.inBlock Ends resL resX allD toD_d toD_fsl sk_d sk_fsl none_ loadA cut wrapA wrapD avc_d avc_agg avc_fsl avc_rsl avc_ptr avc_eptr avc_clo dc_agg dc_int dc_bool dc_str dc_sl dc_nilp dc_rp dc_clo on_int on_bool on_str on_sl on_nilp on_rp on_clo on_fsl on_rsl on_ptr on_eptr on_cloA newE elemsA elemsS storeA put frz_nil deep callee resA initS touchOp fits compat rd wr key1 buildA partsD partsK idx frz_at Body.frz lk_hit lk_miss toD6_agg toD5_agg toD4_agg toD6_clo toD5_clo toD4_clo toD6_ptr toD5_ptr toD4_ptr sk6_agg sk5_agg sk4_agg sk6_clo sk5_clo sk4_clo sk6_ptr sk5_ptr sk4_ptr toD_rsl sk_rsl resK EndsP EndsMP fitVs fitCs fitC keysV keysC keyC cellsA1 skVs skCs skC1 resO tupA valsV cellsV oneV rowsV rowsC RV.cells nk rowsH_one rowsH_two rowsH_none
section
attribute [local simp] allD_map_d sks_map_d tk tn tks initA EndsM one_sos one_cos one_ars one_ts
structure Sml (a b base : Int) : Prop where
  a0 : 0 ≤ a
  a1 : a < 100
  b0 : 0 ≤ b
  b1 : b < 100
  c0 : 200 ≤ base
  c1 : base < 300
def trX (a b : Int) : Co := ⟨0, [extA (tC a), ⟨true, zT, [.mk 6 0 [tC b, tV 0]], 0, []⟩], [], zT⟩
def trS : So := ⟨[], 0, false, zT⟩
def trW (a b base : Int) : T := tP (tC a) (tP (tP (tA (tC b) (tV 0)) (tC base)) (tP (tP (tA (tC b) (tV 1)) (tA (tV 3) (tA (tV 1) (tV 0)))) (tA (tV 3) (spT (tC (base + 1)) [tV 2, tV 1]))))
theorem tr_ok {a b base : Int} (s : Sml a b base) : okBl (treeB a b) := by
  obtain ⟨a0, a1, b0, b1, c0, c1⟩ := s
  have hz : okT zT := okT_leaf (by omega) (by omega)
  have hA : okT (tC a) := okT_leaf (by omega) (by omega)
  have hB : okT (tC b) := okT_leaf (by omega) (by omega)
  have hV : okT (tV 0) := okT_leaf (by omega) (by omega)
  have hD : okT (.mk 6 0 [tC b, tV 0]) := okT_k (by omega) hB hV (by omega)
  have hn : okTs [] := ⟨by simp, by simp⟩
  have h0 : n64 0 := ⟨by decide, by decide⟩
  refine ⟨by simp [treeB], fun s hs => ?_, by simp [treeB], fun c hc => ?_, h0⟩
  · simp only [treeB, List.mem_singleton] at hs
    subst hs
    exact ⟨⟨by simp, by simp⟩, h0, hz⟩
  · simp only [treeB, List.mem_singleton] at hc
    subst hc
    refine ⟨h0, ⟨by simp, fun x hx => ?_⟩, hn, hz⟩
    simp only [List.mem_cons, List.not_mem_nil, or_false] at hx
    rcases hx with rfl | rfl
    · exact ⟨hA, hn, h0, hn⟩
    · exact ⟨hz, ⟨by simp, fun y hy => by rw [List.mem_singleton] at hy; subst hy; exact hD⟩, h0, hn⟩
theorem tr_fine (a b : Int) : FineBl (treeB a b) := by
  refine fineBl_of ?_
  simp [fineBlB, treeB, fineArsB, extA, nodB, nodLB, tC, tV, zT]
theorem tr_shape {a b base : Int} (s : Sml a b base) : checkB (treeB a b) = 0 := by
  obtain ⟨a0, a1, b0, b1, c0, c1⟩ := s
  refine shapeC_of ?_
  have ha : (decide (0 ≤ a) && decide (a ≤ 65535)) = true := by simp; omega
  have hb : (decide (0 ≤ b) && decide (b ≤ 65535)) = true := by simp; omega
  have ha2 : a < 65536 := by omega
  have hb2 : b < 65536 := by omega
  simp [shapeC, treeB, sortsC, rowC, argsC, argC, inC, nodB, nodLB, formC, formLC, wiT, wiL, kidsM, isM, inB, levelM, maybeC, noneM, conC, domC, extA, tC, tV, zT, bindsM, a0, b0, ha2, hb2, T.kind, T.num, T.kids]
  omega
theorem tr_fit (a b : Int) : Fit (treeB a b) := ⟨by simp [treeB], by simp [treeB]⟩
theorem tr_posit {a b base : Int} (s : Sml a b base) : positE 9000 (treeB a b) base = 0 := by
  have hz := tr_shape s
  have ho := tr_ok s
  obtain ⟨a0, a1, b0, b1, c0, c1⟩ := s
  rw [positE, if_pos hz, if_neg (by omega), pos_plain ho (tr_fit a b) hz (by omega) (by omega) ?_ ?_ ?_]
  · rfl
  · intro i hi
    have h1 : ¬ a = base + i := by omega
    have h2 : ¬ b = base + i := by omega
    simp [nmB, blT, soT, coT, arTs, arT, treeB, extA, csT, csL, joinL, kI, tC, tV, zT, h1, h2]
  · intro so hs x hx
    simp only [treeB, List.mem_singleton] at hs
    subst hs
    simp at hx
  · intro x hx q hq hr
    simp only [treeB, List.mem_singleton] at hx
    subst hx
    have hq1 : q = 1 := by
      match q, hq, hr with
      | 0, _, hr => simp [extA] at hr
      | 1, _, _ => rfl
      | q + 2, hq, _ => simp at hq; omega
    subst hq1
    refine ⟨fun k hk h => ?_, fun j hj => ?_, ?_⟩
    · simp at hk; omega
    · simp at hj
    · rfl
theorem tr_met {a b base : Int} (s : Sml a b base) : metT (treeB a b) base 0 (trX a b) trS = trW a b base := by
  obtain ⟨a0, a1, b0, b1, c0, c1⟩ := s
  have hF : fmT (treeB a b) base 0 = tC base := by
    rw [fmT_is (tr_fit a b) (by omega) (by omega) (by omega) (by simp [treeB]), Int.add_zero]
  have hC : constructor_ (treeB a b) base 0 = base + 1 := by
    rw [constructor_is (tr_fit a b) (by omega) (by omega), if_pos ⟨by omega, by simp [treeB]⟩]
    simp [treeB, decs]
  have e : metT (treeB a b) base 0 (trX a b) trS = tP (tC a) (tP (tP (tA (tC b) (tV 0)) (fmT (treeB a b) base 0)) (tP (tP (tA (tC b) (tV 1)) (tA (tV 3) (tA (tV 1) (tV 0)))) (tA (tV 3) (spT (tC (constructor_ (treeB a b) base 0)) [tV 2, tV 1])))) := by kernel_rfl
  rw [e, hF, hC]
  rfl
theorem trW_ok {a b base : Int} (s : Sml a b base) : checkM (trW a b base) = 0 := by
  obtain ⟨a0, a1, b0, b1, c0, c1⟩ := s
  refine checkC ?_ ?_
  · simp [trW, tP, tA, tC, tV, spT, formC, formLC, kidsM, isM, inB]
    omega
  · simp [trW, tP, tA, tC, tV, spT, nodB, nodLB]
theorem tr_method {a b base : Int} (s : Sml a b base) : Pure Try.prog n_disp_Method [eBl (treeB a b), .int .i64 base, .int .i64 0] [.agg (cT (trW a b base)), .int .i64 0] := by
  have h := method_ok (treeB a b) (tr_ok s) (tr_fine a b) (tr_fit a b) base 0 (by have := s.c1; omega)
  obtain ⟨h1, h2⟩ := known_method (b := treeB a b) (c := 0) (tr_posit s) (by omega) rfl rfl (tr_met s) (trW_ok s)
  rw [h1, h2] at h
  exact h
set_option maxHeartbeats 4000000 in
theorem trees11_law (a b base : Int) : Pure Try.prog n_porismlaw11_DispTrees [.int .i64 a, .int .i64 b, .int .i64 base] [.bool true] := by
  refine p_porismlaw11_DispTrees rfl fun hs => ?_
  simp -dsimp [x_porismlaw11_DispTrees]
  obtain ⟨A0, A1⟩ := rem_le a 100 (by omega) (by omega)
  obtain ⟨B0, B1⟩ := rem_le b 100 (by omega) (by omega)
  obtain ⟨C0, C1⟩ := rem_le base 100 (by omega) (by omega)
  generalize IntKind.i64.wrap ((IntKind.u64.wrap a).tmod 100) = A at A0 A1 ⊢
  generalize IntKind.i64.wrap ((IntKind.u64.wrap b).tmod 100) = B at B0 B1 ⊢
  generalize IntKind.i64.wrap ((IntKind.u64.wrap base).tmod 100) = C at C0 C1 ⊢
  have w0 : IntKind.i64.wrap (200 + C) = 200 + C := wrap_id (by omega) (by omega)
  have s : Sml A B (200 + C) := ⟨A0, A1, B0, B1, by omega, by omega⟩
  have hT := tree_ok A B ⟨A0, by omega⟩ ⟨B0, by omega⟩
  have hM := tr_method s
  generalize hE : 200 + C = E at *
  have w1 : IntKind.i64.wrap (E + 1) = E + 1 := wrap_id (by omega) (by omega)
  have hS1 := rspine_ok (tC (E + 1)) [tV 2, tV 1] (by simp) (okT_leaf (by omega) (by omega)) ⟨by simp, by intro x hx; simp at hx; rcases hx with rfl | rfl <;> exact okT_leaf (by omega) (by omega)⟩
  have k1 := keepTerm_ok (trW A B E)
  have s1 : spT (tC (E + 1)) [tV 2, tV 1] = tA (tA (tC (E + 1)) (tV 2)) (tV 1) := rfl
  simp only [trW, tP, s1] at hM k1 hS1
  simp only [declC, cBl, eBl, eSos, eCos, treeB, extA, tA, tC, tV, eSo, cSo, eCo, cCo, eArs, eAr, cAr, zT, cT, eTs, List.map_cons, List.map_nil, eT_eq, tk, tn, tks, List.cons_append, List.nil_append] at hT hM k1 hS1
  refine call_of hT ?_
  simp -dsimp [w0]
  refine call_of hM ?_
  simp -dsimp [w0, w1]
  repeat ((first | refine call_of (craw _) ?_ | refine call_of (vraw _) ?_ | refine call_of (uraw _) ?_ | refine call_of (traw _ _ (by simp [maxRoom])) ?_ | refine call_of hS1 ?_ | refine call_of k1 ?_ | refine call_of wakes11_ok ?_); simp -dsimp [w0, w1])
end
end Ev
end Go.Proofs.Ythopdhnbflkabaa
