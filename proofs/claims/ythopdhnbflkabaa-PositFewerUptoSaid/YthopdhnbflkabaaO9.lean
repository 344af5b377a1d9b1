/- PositFewer. -/
import Derived.Test.YthopdhnbflkabaaO8
namespace Go.Proofs.Ythopdhnbflkabaa
namespace Ev
open Go
set_option maxRecDepth 100000
set_option linter.unusedSimpArgs false
set_option linter.unusedVariables false
attribute [local simp ↓] wx_skip wx_region wx_seq wx_block wx_exit wx_ret wx_cond wx_loop wo_nil wo_run wo_ask wx_draw wt_nil wt_run_t wt_run_f wt_ask_t wt_ask_f rb_mv rb_nilrow rb_pick rb_alloc rb_box rb_load rb_store rb_nilck rb_bin rb_binb rb_un rb_conv rb_mkf rb_mks rb_slice rb_faddr rb_fld rb_iaddr rb_ext rb_len rb_app rb_mm rb_build rb_bslice run_callC upd_eq upd_ne
attribute [local simp] runB_some runB_none Tch_nil Tch_cons Chk_t Cnd_t Cnd_f Ask_tt Ask_ff Ask_tf Ask_ft Ask_skip act ev_t ev_c evs sks caps2 touch_call List.cons_append List.nil_append putS binI binB int_add int_sub int_mul int_quo int_rem int_or int_eql int_neq int_lss int_leq int_gtr int_geq shiftD Ex.then Ex.inBlock Ends resL resX allD toD_d toD_fsl sk_d sk_fsl none_ loadA cut wrapA wrapD avc_d avc_agg avc_fsl avc_rsl avc_ptr avc_eptr avc_clo dc_agg dc_int dc_bool dc_str dc_sl dc_nilp dc_rp dc_clo on_int on_bool on_str on_sl on_nilp on_rp on_clo on_fsl on_rsl on_ptr on_eptr on_cloA newE elemsA elemsS storeA put frz_nil deep callee resA initS touchOp fits compat rd wr key1 buildA partsD partsK idx frz_at Body.frz lk_hit lk_miss toD6_agg toD5_agg toD4_agg toD6_clo toD5_clo toD4_clo toD6_ptr toD5_ptr toD4_ptr sk6_agg sk5_agg sk4_agg sk6_clo sk5_clo sk4_clo sk6_ptr sk5_ptr sk4_ptr toD_rsl sk_rsl resK EndsP EndsMP fitVs fitCs fitC keysV keysC keyC cellsA1 skVs skCs skC1 resO tupA valsV cellsV oneV rowsV rowsC RV.cells nk rowsH_one rowsH_two rowsH_none
section
attribute [local simp] allD_map_d sks_map_d tk tn tks initA EndsM one_sos one_cos one_ars one_ts
theorem few_fine {b : Bl} (fb : FineBl b) (m : Nat) : FineBl (fewB b m) :=
  ⟨fb.s, by show (b.cons.take m).length ≤ 20; have := fb.c; rw [List.length_take]; omega, fb.sorts, fun c hc => fb.cons c (List.mem_of_mem_take hc)⟩
theorem few_ok8 {b : Bl} (ob : okBl b) (m : Nat) : okBl (fewB b m) :=
  ⟨ob.sortsL, ob.sorts, by show (b.cons.take m).length * 96 ≤ _; have := ob.consL; rw [List.length_take]; omega, fun c hc => ob.cons c (List.mem_of_mem_take hc), ob.elim⟩
theorem positE_zero {n : Nat} {b : Bl} {base : Int} : positE n b base = 0 ↔ checkB b = 0 ∧ 0 ≤ base ∧ base ≤ 65535 ∧ posF n b base = true := by
  rw [positE]
  by_cases h1 : checkB b = 0
  case neg => rw [if_neg h1]; simp [h1]
  rw [if_pos h1]
  by_cases h2 : base < 0 ∨ 65535 < base
  · rw [if_pos h2]
    constructor
    · intro h; cases h
    · rintro ⟨_, h3, h4, _⟩; omega
  rw [if_neg h2]
  cases h3 : posF n b base with
  | true => simp [h1]; omega
  | false => simp
theorem count_small {b : Bl} (hf : Fit b) : 0 ≤ count b ∧ count b ≤ 100 := by
  have := count_is hf
  have := hf.s
  have := hf.c
  have := decs_le b.sorts
  omega
theorem fewer8_law (b : Bl) (ob : okBl b) (hb : bulk (eBl b) ≤ 1048576) (base n : Int) : Pure Try.prog n_porismlaw08_PositFewer [eBl b, .int .i64 base, .int .i64 n] [.bool true] := by
  refine p_porismlaw08_PositFewer rfl fun hs => ?_
  have hH := heavy07_ok b
  simp only [eBl, cBl] at hH
  simp -dsimp [x_porismlaw08_PositFewer, eBl, cBl]
  refine call_of hH ?_
  simp -dsimp
  (first | refine Ask_b ?_ ?_ | refine Cnd_b ?_ ?_) <;> intro h1 <;> (try simp only [decide_eq_true_eq, decide_eq_false_iff_not, beq_iff_eq, beq_eq_false_iff_ne, bne_iff_ne, bne_eq_false_iff_eq, Bool.not_eq_true', Bool.not_eq_false', Bool.and_eq_true, Bool.or_eq_true, Bool.and_eq_false_iff, Bool.or_eq_false_iff] at h1) <;> simp -dsimp [h1]
  have hf := fit_of h1
  have fb := fine_of hb h1
  have hfs := hf.s
  have hfc := hf.c
  obtain ⟨B0, B1⟩ := rem_le base 1000 (by omega) (by omega)
  generalize IntKind.i64.wrap ((IntKind.u64.wrap base).tmod 1000) = B at B0 B1 ⊢
  have hP := posit_ok 9000 (by omega) (by omega) b ob fb B
  simp only [eBl, cBl] at hP
  refine call_of hP ?_
  by_cases h2 : positE 9000 b B = 0
  case neg =>
    simp -dsimp [h2]
    refine call_of wakes08_ok ?_
    simp -dsimp
  obtain ⟨z1, z2, z3, z4⟩ := positE_zero.1 h2
  have q1 : IntKind.i64.wrap ((b.cons.length : Int) + 1) = (b.cons.length : Int) + 1 := wrap_id (by omega) (by omega)
  have q2 : IntKind.u64.wrap ((b.cons.length : Int) + 1) = (b.cons.length : Int) + 1 := u64_id (by omega) (by omega)
  have q3 : ¬((b.cons.length : Int) + 1 = 0) := by omega
  simp -dsimp [h2, q1, q2, q3, eCos]
  obtain ⟨K0, K1⟩ := rem_le n ((b.cons.length : Int) + 1) (by omega) (by omega)
  generalize IntKind.i64.wrap ((IntKind.u64.wrap n).tmod ((b.cons.length : Int) + 1)) = K at K0 K1 ⊢
  have hT := twinBlock_ok b ob
  simp only [eBl, cBl, eCos] at hT
  refine call_of hT ?_
  obtain ⟨k, rfl⟩ : ∃ k : Nat, K = k := ⟨K.toNat, by omega⟩
  have hk : k ≤ b.cons.length := by omega
  simp -dsimp [K0, hk, eCos]
  have hfx : Fit (fewB b k) := ⟨hf.s, by show (b.cons.take k).length ≤ 20; rw [List.length_take]; omega⟩
  have hcx := count7_ok (fewB b k)
  have hnx := names_ok (fewB b k) (few_fine fb k)
  have hofx := of7_ok (fewB b k) hfx B
  have hpx := posit_ok 9000 (by omega) (by omega) (fewB b k) (few_ok8 ob k) (few_fine fb k) B
  have hpz : positE 9000 (fewB b k) B = 0 := positE_zero.2 ⟨few_right z1 k, z2, z3, pos_few ob hf z2 z3 hk z4⟩
  rw [hpz] at hpx
  obtain ⟨c0, c1⟩ := count_small hfx
  obtain ⟨c, hc⟩ : ∃ c : Nat, count (fewB b k) = c := ⟨(count (fewB b k)).toNat, by omega⟩
  rw [hc] at hcx c0 c1
  simp only [fewB, eBl, cBl, eCos, List.map_take] at hcx hpx
  refine wp_upto c (fun i st => st.s 1 = .d (.int .i64 B) ∧ st.s 8 = .d (.int .i64 i) ∧ ∃ v, st.s 7 = .ptr 7 v 0 ∧ st.h 7 = ⟨v, .box [.d (eSos b.sorts), .d (.sl 6 ((b.cons.map eCo).take k)), .d (.int .i64 b.elim)] false⟩) ?_ ?_
  · simp -dsimp
  · rintro i ⟨s, hp⟩ hi ⟨g1, g8, v, g7, k7⟩
    dsimp only at g1 g8 g7 k7
    simp -dsimp [g1, g8, g7, k7]
    refine call_of hcx ?_
    rcases Nat.lt_or_ge i c with hlt | hge
    · have w1 : IntKind.i64.wrap ((i : Int) + 1) = (i : Int) + 1 := wrap_id (by omega) (by omega)
      have w2 : IntKind.i64.wrap (B + (i : Int)) = B + (i : Int) := wrap_id (by omega) (by omega)
      have hof := hofx (B + i) ⟨by omega, by omega⟩
      have hn := hnx (B + i)
      simp only [fewB, eBl, cBl, eCos, List.map_take] at hof hn
      generalize ofM ⟨b.sorts, b.cons.take k, b.elim⟩ B (B + i) = o at hof
      simp -dsimp [g1, g8, g7, k7, hlt, w2]
      refine call_of hof ?_
      by_cases h6 : o.1 = 6
      · simp -dsimp [g1, g8, g7, k7, hlt, w2, h6]
        refine call_of hn ?_
        cases hm : nmB ⟨b.sorts, b.cons.take k, b.elim⟩ (B + i) with
        | true =>
          simp -dsimp
          refine call_of wakes08_ok ?_
          simp -dsimp
        | false => simp -dsimp [g1, g8, g7, k7, hlt, h6, w1]
      · simp -dsimp [g1, g8, g7, k7, hlt, h6, w1]
    · have e : i = c := by omega
      subst e
      simp -dsimp [g1, g8, g7, k7]
      refine call_of hpx ?_
      simp -dsimp
      refine call_of wakes08_ok ?_
      simp -dsimp
end
end Ev
end Go.Proofs.Ythopdhnbflkabaa
