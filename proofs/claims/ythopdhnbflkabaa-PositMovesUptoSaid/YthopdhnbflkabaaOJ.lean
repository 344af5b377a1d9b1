/- PositMoves. -/
import Derived.Test.YthopdhnbflkabaaOI
namespace Go.Proofs.Ythopdhnbflkabaa
namespace Ev
open Go
set_option maxRecDepth 100000
set_option linter.unusedSimpArgs false
set_option linter.unusedVariables false
attribute [local simp ↓] wx_skip wx_region wx_seq wx_block wx_exit wx_ret wx_cond wx_loop wo_nil wo_run wo_ask wx_draw wt_nil wt_run_t wt_run_f wt_ask_t wt_ask_f rb_mv rb_nilrow rb_pick rb_alloc rb_box rb_load rb_store rb_nilck rb_bin rb_binb rb_un rb_conv rb_mkf rb_mks rb_slice rb_faddr rb_fld rb_iaddr rb_ext rb_len rb_app rb_mm rb_build rb_bslice run_callC upd_eq upd_ne
attribute [local simp] runB_some runB_none Tch_nil Tch_cons Chk_t Cnd_t Cnd_f Ask_tt Ask_ff Ask_tf Ask_ft Ask_skip act ev_t ev_c evs sks caps2 touch_call List.cons_append List.nil_append putS binI binB int_add int_sub int_mul int_quo int_rem int_or int_eql int_neq int_lss int_leq int_gtr int_geq shiftD Ex.then Ex.inBlock Ends resL resX allD toD_d toD_fsl sk_d sk_fsl none_ loadA cut wrapA wrapD avc_d avc_agg avc_fsl avc_rsl avc_ptr avc_eptr avc_clo dc_agg dc_int dc_bool dc_str dc_sl dc_nilp dc_rp dc_clo on_int on_bool on_str on_sl on_nilp on_rp on_clo on_fsl on_rsl on_ptr on_eptr on_cloA newE elemsA elemsS storeA put frz_nil deep callee resA initS touchOp fits compat rd wr key1 buildA partsD partsK idx frz_at Body.frz lk_hit lk_miss toD6_agg toD5_agg toD4_agg toD6_clo toD5_clo toD4_clo toD6_ptr toD5_ptr toD4_ptr sk6_agg sk5_agg sk4_agg sk6_clo sk5_clo sk4_clo sk6_ptr sk5_ptr sk4_ptr toD_rsl sk_rsl resK EndsP EndsMP fitVs fitCs fitC keysV keysC keyC cellsA1 skVs skCs skC1 resO tupA valsV cellsV oneV rowsV rowsC RV.cells nk rowsH_one rowsH_two rowsH_none
section
attribute [local simp] allD_map_d sks_map_d tk tn tks initA EndsM one_sos one_cos one_ars one_ts
theorem moves8_law (b : Bl) (ob : okBl b) (hb : bulk (eBl b) ≤ 1048576) (base by_ : Int) : Pure Try.prog n_porismlaw08_PositMoves [eBl b, .int .i64 base, .int .i64 by_] [.bool true] := by
  refine p_porismlaw08_PositMoves rfl fun hs => ?_
  have hH := heavy07_ok b
  simp only [eBl, cBl] at hH
  simp -dsimp [x_porismlaw08_PositMoves, eBl, cBl]
  refine call_of hH ?_
  simp -dsimp
  (first | refine Ask_b ?_ ?_ | refine Cnd_b ?_ ?_) <;> intro h1 <;> (try simp only [decide_eq_true_eq, decide_eq_false_iff_not, beq_iff_eq, beq_eq_false_iff_ne, bne_iff_ne, bne_eq_false_iff_eq, Bool.not_eq_true', Bool.not_eq_false', Bool.and_eq_true, Bool.or_eq_true, Bool.and_eq_false_iff, Bool.or_eq_false_iff] at h1) <;> simp -dsimp [h1]
  have hf := fit_of h1
  have fb := fine_of hb h1
  have hfs := hf.s
  have hfc := hf.c
  obtain ⟨B0, B1⟩ := rem_le base 500 (by omega) (by omega)
  obtain ⟨Y0, Y1⟩ := rem_le by_ 500 (by omega) (by omega)
  generalize IntKind.i64.wrap ((IntKind.u64.wrap base).tmod 500) = B at B0 B1 ⊢
  generalize IntKind.i64.wrap ((IntKind.u64.wrap by_).tmod 500) = Y at Y0 Y1 ⊢
  have hP := posit_ok 9000 (by omega) (by omega) b ob fb B
  have hP0 := hP
  simp only [eBl, cBl] at hP
  refine call_of hP ?_
  by_cases h2 : positE 9000 b B = 12
  · simp -dsimp [h2]
    refine call_of wakes08_ok ?_
    simp -dsimp
  have hz : checkB b = 0 := by
    by_cases hz : checkB b = 0
    · exact hz
    · rw [positE, if_neg hz] at h2
      rw [checkB_two] at h2 hz
      split at h2
      · rename_i h; rw [if_pos h] at hz; exact absurd rfl hz
      · exact absurd rfl h2
  obtain ⟨z1, z4, z8, zl, zs, zc⟩ := (checkB_zero b).1 hz
  have hM := moved8_ok b ob hf z1 B Y B0 (by omega) Y0 (by omega)
  simp only [eBl, cBl] at hM
  simp -dsimp [h2]
  refine call_of hM ?_
  simp -dsimp
  have hcx := count7_ok b
  have hnx := names_ok b fb
  have n64f := mv_n64 hf B0 (by omega : B ≤ 500) Y0 (by omega : Y ≤ 500)
  have hpx := posit_ok 9000 (by omega) (by omega) (mvB (mvF b B Y) b) (mvB_ok n64f ob) (mvB_fine fb) (B + Y)
  have hmv := fun h => mv_pos ob hf B0 B1 Y0 Y1 (n := 9000) h
  obtain ⟨c0, c1⟩ := count_small8 hf
  obtain ⟨c, hc⟩ : ∃ c : Nat, count b = c := ⟨(count b).toNat, by omega⟩
  rw [hc] at hcx c0 c1 hmv
  have wBY : IntKind.i64.wrap (B + Y) = B + Y := wrap_id (by omega) (by omega)
  have wBC : IntKind.i64.wrap (B + (c : Int)) = B + (c : Int) := wrap_id (by omega) (by omega)
  generalize hMB : mvB (mvF b B Y) b = M at hpx hmv ⊢
  simp only [eBl, cBl] at hcx hpx hnx
  generalize positE 9000 M (B + Y) = E at hpx hmv
  refine wp_upto c (fun i st => st.s 1 = .d (.int .i64 B) ∧ st.s 2 = .d (.int .i64 Y) ∧ (st.s 3 = .ptr 3 1 0 ∧ st.h 3 = ⟨1, .box [.d (eSos b.sorts), .d (eCos b.cons), .d (.int .i64 b.elim)] false⟩) ∧ st.s 8 = .d (.int .i64 i) ∧ (st.s 7 = .ptr 7 1 0 ∧ st.h 7 = ⟨1, .box [.d (eSos M.sorts), .d (eCos M.cons), .d (.int .i64 M.elim)] false⟩) ∧
    ∀ j : Nat, j < i → nmB b (B + Y + j) = true → B + Y + j < B + c) ?_ ?_
  · simp -dsimp
  · rintro i ⟨s, hp⟩ hi ⟨g1, g2, ⟨g3, k3⟩, g8, ⟨g7, k7⟩, g⟩
    dsimp only at g1 g2 g3 k3 g8 g7 k7
    simp -dsimp [g1, g2, g3, k3, g8, g7, k7]
    refine call_of hcx ?_
    rcases Nat.lt_or_ge i c with hlt | hge
    · have w1 : IntKind.i64.wrap ((i : Int) + 1) = (i : Int) + 1 := wrap_id (by omega) (by omega)
      have w2 : IntKind.i64.wrap (B + Y + (i : Int)) = B + Y + (i : Int) := wrap_id (by omega) (by omega)
      have hn := hnx (B + Y + i)
      have hnext : (nmB b (B + Y + i) = true → B + Y + i < B + c) → ∀ j : Nat, j < i + 1 → nmB b (B + Y + j) = true → B + Y + j < B + c := fun h j hji => by
        rcases Nat.lt_or_ge j i with h' | h'
        · exact g j h'
        · have : j = i := by omega
          subst this
          exact h
      simp -dsimp [g1, g2, g3, k3, g8, g7, k7, hlt, wBY, w2]
      refine call_of hn ?_
      cases hm : nmB b (B + Y + i) with
      | false =>
        have hx := hnext (fun h => by rw [hm] at h; cases h)
        simp -dsimp [g1, g2, g3, k3, g8, g7, k7, hlt, w1]
        exact hx
      | true =>
        simp -dsimp [g1, g2, g3, k3, g8, g7, k7, hlt, wBY, w2]
        refine call_of hcx ?_
        by_cases hlt3 : B + Y + (i : Int) < B + (c : Int)
        · have hx := hnext (fun _ => hlt3)
          have hlt4 : ¬ (B + (c : Int) ≤ B + Y + (i : Int)) := by omega
          simp -dsimp [g1, g2, g3, k3, g8, g7, k7, hlt, w1, w2, wBY, wBC, hlt3, hlt4]
          exact hx
        · have hlt4 : B + (c : Int) ≤ B + Y + (i : Int) := by omega
          simp -dsimp [g1, g2, g3, k3, g8, g7, k7, hlt, w1, w2, wBY, wBC, hlt3, hlt4]
          refine call_of wakes08_ok ?_
          simp -dsimp
    · have e : i = c := by omega
      subst e
      have hE := hmv fun j hj => g j (by omega)
      rw [hE] at hpx
      simp -dsimp [g1, g2, g3, k3, g8, g7, k7, wBY]
      refine call_of hpx ?_
      simp -dsimp [g1, g2, g3, k3, g8, g7, k7, wBY]
      refine call_of hP ?_
      simp -dsimp
      refine call_of wakes08_ok ?_
      simp -dsimp
end
end Ev
end Go.Proofs.Ythopdhnbflkabaa
