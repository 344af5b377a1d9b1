/- PositDecodes. -/
import Derived.Test.YthopdhnbflkabaaO8
namespace Go.Proofs.Ythopdhnbflkabaa
namespace Ev
open Go
set_option maxRecDepth 100000
set_option linter.unusedSimpArgs false
set_option linter.unusedVariables false
attribute [local simp ↓] wx_skip wx_region wx_seq wx_block wx_exit wx_ret wx_cond wx_loop wo_nil wo_run wo_ask wx_draw wt_nil wt_run_t wt_run_f wt_ask_t wt_ask_f rb_mv rb_nilrow rb_pick rb_alloc rb_box rb_load rb_store rb_nilck rb_bin rb_binb rb_un rb_conv rb_mkf rb_mks rb_slice rb_faddr rb_fld rb_iaddr rb_ext rb_len rb_app rb_mm rb_build rb_bslice run_callC upd_eq upd_ne
attribute [local simp] runB_some runB_none Tch_nil Tch_cons Chk_t Cnd_t Cnd_f Ask_tt Ask_ff Ask_tf Ask_ft Ask_skip act ev_t ev_c evs sks caps2 touch_call List.cons_append List.nil_append putS binI binB int_add int_sub int_mul int_quo int_rem int_or int_eql int_neq int_lss int_leq int_gtr int_geq shiftD Ex.then Ex.inBlock Ends resL resX allD toD_d toD_fsl sk_d sk_fsl none_ loadA cut wrapA wrapD avc_d avc_agg avc_fsl avc_rsl avc_ptr avc_eptr avc_clo dc_agg dc_int dc_bool dc_str dc_sl dc_nilp dc_rp dc_clo on_int on_bool on_str on_sl on_nilp on_rp on_clo on_fsl on_rsl on_ptr on_eptr on_cloA newE elemsA elemsS storeA put frz_nil deep callee resA initS touchOp fits compat rd wr key1 buildA partsD partsK idx frz_at Body.frz lk_hit lk_miss toD6_agg toD5_agg toD4_agg toD6_clo toD5_clo toD4_clo toD6_ptr toD5_ptr toD4_ptr sk6_agg sk5_agg sk4_agg sk6_clo sk5_clo sk4_clo sk6_ptr sk5_ptr sk4_ptr toD_rsl sk_rsl resK EndsP EndsMP fitVs fitCs fitC keysV keysC keyC cellsA1 skVs skCs skC1 resO tupA valsV cellsV oneV rowsV rowsC RV.cells nk rowsH_one rowsH_two rowsH_none
section
attribute [local simp] allD_map_d sks_map_d tk tn tks initA EndsM one_sos one_cos one_ars one_ts
theorem maker_ok (k : Int) (a b : T) : Pure Try.prog n_porismlaw08_maker_of [.int .i64 k, .agg (cT a), .agg (cT b)] [.agg (cT (.mk k 0 [a, b]))] := by
  refine p_porismlaw08_maker_of rfl fun hs => ?_
  have h := rt_ok k [a, b] (by simp [maxRoom])
  simp only [cT, eTs, List.map_cons, List.map_nil, eT_eq, tk, tn, tks] at h
  simp -dsimp [x_porismlaw08_maker_of, cT]
  refine call_of h ?_
  simp -dsimp [cT, eT_eq]
def codeC : Co := ⟨0, [], [], .mk 3 900 []⟩
def decB (k : Nat) (first : Ar) (dom : T) : Bl := ⟨[⟨[], 1, true, .mk 2 0 []⟩], List.replicate k codeC ++ [⟨0, [first, ⟨true, zT, [dom], 0, []⟩], [], .mk 2 0 []⟩], 0⟩
def ar0 : Ar := recA 0 []
def ar1 : Ar := ⟨false, .mk 2 0 [], [], 0, []⟩
def d0 : T := .mk 6 0 [.mk 3 11 [], .mk 1 0 []]
def d2 : T := .mk 6 0 [.mk 3 11 [], .mk 3 12 []]
def d3 : T := .mk 3 11 []
def d4 : T := .mk 6 0 [.mk 6 0 [.mk 3 11 [], .mk 1 0 []], .mk 2 0 []]
def d5 : T := .mk 1 0 []
theorem dec_posit0 : ∀ k : Nat, k < 5 → knownB (decB k ar0 d0) 10 true = true
  | 0, _ => by decide +kernel
  | 1, _ => by decide +kernel
  | 2, _ => by decide +kernel
  | 3, _ => by decide +kernel
  | 4, _ => by decide +kernel
theorem dec_posit1 : ∀ k : Nat, k < 5 → knownB (decB k ar1 d0) 10 false = true
  | 0, _ => by decide +kernel
  | 1, _ => by decide +kernel
  | 2, _ => by decide +kernel
  | 3, _ => by decide +kernel
  | 4, _ => by decide +kernel
theorem dec_posit2 : ∀ k : Nat, k < 5 → knownB (decB k ar0 d2) 10 false = true
  | 0, _ => by decide +kernel
  | 1, _ => by decide +kernel
  | 2, _ => by decide +kernel
  | 3, _ => by decide +kernel
  | 4, _ => by decide +kernel
theorem dec_posit3 : ∀ k : Nat, k < 5 → knownB (decB k ar0 d3) 10 false = true
  | 0, _ => by decide +kernel
  | 1, _ => by decide +kernel
  | 2, _ => by decide +kernel
  | 3, _ => by decide +kernel
  | 4, _ => by decide +kernel
theorem dec_posit4 : ∀ k : Nat, k < 5 → knownB (decB k ar0 d4) 10 true = true
  | 0, _ => by decide +kernel
  | 1, _ => by decide +kernel
  | 2, _ => by decide +kernel
  | 3, _ => by decide +kernel
  | 4, _ => by decide +kernel
theorem dec_posit5 : ∀ k : Nat, k < 5 → knownB (decB k ar0 d5) 10 false = true
  | 0, _ => by decide +kernel
  | 1, _ => by decide +kernel
  | 2, _ => by decide +kernel
  | 3, _ => by decide +kernel
  | 4, _ => by decide +kernel
theorem decodes8_law (codes how : Int) : Pure Try.prog n_porismlaw08_PositDecodes [.int .i64 codes, .int .i64 how] [.bool true] := by
  refine p_porismlaw08_PositDecodes rfl fun hs => ?_
  simp -dsimp [x_porismlaw08_PositDecodes]
  have hU : Pure Try.prog n_porismref01_U [.int .i64 0] [.agg (cT (.mk 2 0 []))] := ru_ok 0
  have hC9 : Pure Try.prog n_porismref01_C [.int .i64 900] [.agg (cT (.mk 3 900 []))] := rc_ok 900
  have hC11 : Pure Try.prog n_porismref01_C [.int .i64 11] [.agg (cT (.mk 3 11 []))] := rc_ok 11
  have hC12 : Pure Try.prog n_porismref01_C [.int .i64 12] [.agg (cT (.mk 3 12 []))] := rc_ok 12
  have hV : Pure Try.prog n_porismref01_V [.int .i64 0] [.agg (cT (.mk 1 0 []))] := rv_ok 0
  simp only [cT, tk, tn, tks, List.map_nil] at hU hC9 hC11 hC12 hV
  obtain ⟨K0, K1⟩ := rem_le codes 5 (by omega) (by omega)
  generalize IntKind.i64.wrap ((IntKind.u64.wrap codes).tmod 5) = K at K0 K1 ⊢
  obtain ⟨k, rfl⟩ : ∃ k : Nat, K = k := ⟨K.toNat, by omega⟩
  refine call_of hU ?_
  simp -dsimp
  refine wp_upto k (fun i st => st.s 0 = .d (.int .i64 k) ∧ st.s 1 = .d (.int .i64 how) ∧ st.s 6 = .d (.int .i64 i) ∧ st.s 5 = .ptr 5 1 0 ∧
    ∃ c, st.h 5 = ⟨1, .box [.fsl 6 [eSo ⟨[], 1, true, .mk 2 0 []⟩], c, .d (.int .i64 0)] false⟩ ∧ ((i = 0 ∧ c = .fsl 6 []) ∨ (0 < i ∧ ∃ v, c = .rsl 31 v ∧ st.h 31 = ⟨v, .row 6 (List.replicate i (D.agg [.int .i64 0, .sl 7 [], .sl 3 [], .int .i64 3, .int .i64 900, .sl 3 []])) false⟩))) ?_ ?_
  · simp -dsimp [eSos, eSo, cSo, eArs, cT]
  · rintro i ⟨s, hp⟩ hi ⟨g0, g1, g6, g5, c, k5, g31⟩
    dsimp only at g0 g1 g6 g5 k5 g31
    rcases Nat.lt_or_ge i k with hlt | hge
    · have w1 : IntKind.i64.wrap ((i : Int) + 1) = (i : Int) + 1 := wrap_id (by omega) (by omega)
      have hr : (i + 1) * 96 ≤ maxRoom := by simp only [maxRoom]; omega
      simp -dsimp [g0, g1, g6, g5, k5, hlt]
      refine call_of hC9 ?_
      rcases g31 with ⟨rfl, rfl⟩ | ⟨hi0, v, rfl, k31⟩
      · have w1' : IntKind.i64.wrap 1 = 1 := by rfl
        simp -dsimp [g0, g1, g6, g5, k5, hlt, hr, w1']
      · simp -dsimp [g0, g1, g6, g5, k5, k31, hlt, hr, w1]
        exact List.replicate_succ'.symm
    · have e : i = k := by omega
      subst e
      have hM1 := maker_ok 6 (.mk 3 11 []) (.mk 1 0 [])
      have hM2 := maker_ok 6 (.mk 3 11 []) (.mk 3 12 [])
      have hM3 := maker_ok 6 (.mk 6 0 [.mk 3 11 [], .mk 1 0 []]) (.mk 2 0 [])
      have hr : (i + 1) * 96 ≤ maxRoom := by simp only [maxRoom]; omega
      obtain ⟨H0, H1⟩ : 0 ≤ (IntKind.u64.wrap how).tmod 6 ∧ (IntKind.u64.wrap how).tmod 6 < 6 := by
        have h0 : 0 ≤ IntKind.u64.wrap how := by simp only [IntKind.wrap]; exact Int.emod_nonneg _ (by decide)
        rw [Int.tmod_eq_emod_of_nonneg h0]
        exact ⟨Int.emod_nonneg _ (by decide), Int.emod_lt_of_pos _ (by decide)⟩
      have hk0 := known_ok (dec_posit0 i (by omega))
      have hk1 := known_ok (dec_posit1 i (by omega))
      have hk2 := known_ok (dec_posit2 i (by omega))
      have hk3 := known_ok (dec_posit3 i (by omega))
      have hk4 := known_ok (dec_posit4 i (by omega))
      have hk5 := known_ok (dec_posit5 i (by omega))
      simp only [eBl, cBl, decB, eSos, eCos, eSo, cSo, eCo, cCo, codeC, ar0, ar1, d0, d2, d3, d4, d5, recA, zT, eArs, eAr, cAr, cT, eTs, eT_eq, tk, tn, tks, List.map_cons, List.map_nil, List.map_append, List.map_replicate, List.cons_append, List.nil_append, if_true, Bool.false_eq_true, if_false] at hM1 hM2 hM3 hk0 hk1 hk2 hk3 hk4 hk5
      rcases g31 with ⟨rfl, rfl⟩ | ⟨hi0, v, rfl, k31⟩
      · simp -dsimp [g0, g1, g6, g5, k5]
        refine call_of hC11 ?_
        simp -dsimp [g0, g1, g6, g5, k5]
        refine call_of hV ?_
        simp -dsimp [g0, g1, g6, g5, k5]
        refine call_of hM1 ?_
        simp -dsimp [g0, g1, g6, g5, k5]
        generalize (IntKind.u64.wrap how).tmod 6 = H at H0 H1 ⊢
        obtain rfl | rfl | rfl | rfl | rfl | rfl : H = 0 ∨ H = 1 ∨ H = 2 ∨ H = 3 ∨ H = 4 ∨ H = 5 := by omega
        · simp -dsimp [g0, g1, g6, g5, k5, hr]
          refine call_of hU ?_
          simp -dsimp [g0, g1, g6, g5, k5, hr]
          refine call_of hk0 ?_
          simp -dsimp [g0, g1, g6, g5, k5]
          refine call_of wakes08_ok ?_
          simp -dsimp
        · simp -dsimp [g0, g1, g6, g5, k5, hr]
          refine call_of hU ?_
          simp -dsimp [g0, g1, g6, g5, k5, hr]
          refine call_of hU ?_
          simp -dsimp [g0, g1, g6, g5, k5, hr]
          refine call_of hk1 ?_
          simp -dsimp [g0, g1, g6, g5, k5]
          refine call_of wakes08_ok ?_
          simp -dsimp
        · simp -dsimp [g0, g1, g6, g5, k5, hr]
          refine call_of hC12 ?_
          simp -dsimp [g0, g1, g6, g5, k5, hr]
          refine call_of hM2 ?_
          simp -dsimp [g0, g1, g6, g5, k5, hr]
          refine call_of hU ?_
          simp -dsimp [g0, g1, g6, g5, k5, hr]
          refine call_of hk2 ?_
          simp -dsimp [g0, g1, g6, g5, k5]
          refine call_of wakes08_ok ?_
          simp -dsimp
        · simp -dsimp [g0, g1, g6, g5, k5, hr]
          refine call_of hU ?_
          simp -dsimp [g0, g1, g6, g5, k5, hr]
          refine call_of hk3 ?_
          simp -dsimp [g0, g1, g6, g5, k5]
          refine call_of wakes08_ok ?_
          simp -dsimp
        · simp -dsimp [g0, g1, g6, g5, k5, hr]
          refine call_of hV ?_
          simp -dsimp [g0, g1, g6, g5, k5, hr]
          refine call_of hM1 ?_
          simp -dsimp [g0, g1, g6, g5, k5, hr]
          refine call_of hU ?_
          simp -dsimp [g0, g1, g6, g5, k5, hr]
          refine call_of hM3 ?_
          simp -dsimp [g0, g1, g6, g5, k5, hr]
          refine call_of hU ?_
          simp -dsimp [g0, g1, g6, g5, k5, hr]
          refine call_of hk4 ?_
          simp -dsimp [g0, g1, g6, g5, k5]
          refine call_of wakes08_ok ?_
          simp -dsimp
        · simp -dsimp [g0, g1, g6, g5, k5, hr]
          refine call_of hV ?_
          simp -dsimp [g0, g1, g6, g5, k5, hr]
          refine call_of hU ?_
          simp -dsimp [g0, g1, g6, g5, k5, hr]
          refine call_of hk5 ?_
          simp -dsimp [g0, g1, g6, g5, k5]
          refine call_of wakes08_ok ?_
          simp -dsimp
      · simp -dsimp [g0, g1, g6, g5, k5, k31]
        refine call_of hC11 ?_
        simp -dsimp [g0, g1, g6, g5, k5, k31]
        refine call_of hV ?_
        simp -dsimp [g0, g1, g6, g5, k5, k31]
        refine call_of hM1 ?_
        simp -dsimp [g0, g1, g6, g5, k5, k31]
        generalize (IntKind.u64.wrap how).tmod 6 = H at H0 H1 ⊢
        obtain rfl | rfl | rfl | rfl | rfl | rfl : H = 0 ∨ H = 1 ∨ H = 2 ∨ H = 3 ∨ H = 4 ∨ H = 5 := by omega
        · simp -dsimp [g0, g1, g6, g5, k5, k31, hr]
          refine call_of hU ?_
          simp -dsimp [g0, g1, g6, g5, k5, k31, hr]
          refine call_of hk0 ?_
          simp -dsimp [g0, g1, g6, g5, k5, k31]
          refine call_of wakes08_ok ?_
          simp -dsimp
        · simp -dsimp [g0, g1, g6, g5, k5, k31, hr]
          refine call_of hU ?_
          simp -dsimp [g0, g1, g6, g5, k5, k31, hr]
          refine call_of hU ?_
          simp -dsimp [g0, g1, g6, g5, k5, k31, hr]
          refine call_of hk1 ?_
          simp -dsimp [g0, g1, g6, g5, k5, k31]
          refine call_of wakes08_ok ?_
          simp -dsimp
        · simp -dsimp [g0, g1, g6, g5, k5, k31, hr]
          refine call_of hC12 ?_
          simp -dsimp [g0, g1, g6, g5, k5, k31, hr]
          refine call_of hM2 ?_
          simp -dsimp [g0, g1, g6, g5, k5, k31, hr]
          refine call_of hU ?_
          simp -dsimp [g0, g1, g6, g5, k5, k31, hr]
          refine call_of hk2 ?_
          simp -dsimp [g0, g1, g6, g5, k5, k31]
          refine call_of wakes08_ok ?_
          simp -dsimp
        · simp -dsimp [g0, g1, g6, g5, k5, k31, hr]
          refine call_of hU ?_
          simp -dsimp [g0, g1, g6, g5, k5, k31, hr]
          refine call_of hk3 ?_
          simp -dsimp [g0, g1, g6, g5, k5, k31]
          refine call_of wakes08_ok ?_
          simp -dsimp
        · simp -dsimp [g0, g1, g6, g5, k5, k31, hr]
          refine call_of hV ?_
          simp -dsimp [g0, g1, g6, g5, k5, k31, hr]
          refine call_of hM1 ?_
          simp -dsimp [g0, g1, g6, g5, k5, k31, hr]
          refine call_of hU ?_
          simp -dsimp [g0, g1, g6, g5, k5, k31, hr]
          refine call_of hM3 ?_
          simp -dsimp [g0, g1, g6, g5, k5, k31, hr]
          refine call_of hU ?_
          simp -dsimp [g0, g1, g6, g5, k5, k31, hr]
          refine call_of hk4 ?_
          simp -dsimp [g0, g1, g6, g5, k5, k31]
          refine call_of wakes08_ok ?_
          simp -dsimp
        · simp -dsimp [g0, g1, g6, g5, k5, k31, hr]
          refine call_of hV ?_
          simp -dsimp [g0, g1, g6, g5, k5, k31, hr]
          refine call_of hU ?_
          simp -dsimp [g0, g1, g6, g5, k5, k31, hr]
          refine call_of hk5 ?_
          simp -dsimp [g0, g1, g6, g5, k5, k31]
          refine call_of wakes08_ok ?_
          simp -dsimp
end
end Ev
end Go.Proofs.Ythopdhnbflkabaa
