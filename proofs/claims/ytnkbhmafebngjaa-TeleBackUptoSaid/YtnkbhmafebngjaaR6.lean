/- tele: telescopes put together and taken apart. -/
import Derived.Test.YtnkbhmafebngjaaB4
namespace Go.Proofs.Ytnkbhmafebngjaa
namespace Ev
open Go
set_option maxRecDepth 100000
set_option linter.unusedSimpArgs false
set_option linter.unusedVariables false
attribute [local simp ↓] wx_skip wx_region wx_seq wx_block wx_exit wx_ret wx_cond wx_loop wo_nil wo_run wo_ask wx_draw wt_nil wt_run_t wt_run_f wt_ask_t wt_ask_f rb_mv rb_nilrow rb_pick rb_alloc rb_box rb_load rb_store rb_nilck rb_bin rb_binb rb_un rb_conv rb_mkf rb_mks rb_slice rb_faddr rb_fld rb_iaddr rb_ext rb_len rb_app rb_mm rb_build rb_bslice run_callC upd_eq upd_ne
attribute [local simp] runB_some runB_none Tch_nil Tch_cons Chk_t Cnd_t Cnd_f Ask_tt Ask_ff Ask_tf Ask_ft Ask_skip act ev_t ev_c evs sks caps2 touch_call List.cons_append List.nil_append putS binI binB int_add int_sub int_mul int_quo int_rem int_or int_eql int_neq int_lss int_leq int_gtr int_geq shiftD Ex.then Ex.inBlock Ends resL resX allD toD_d toD_fsl sk_d sk_fsl none_ loadA cut wrapA wrapD avc_d avc_agg avc_fsl avc_rsl avc_ptr avc_eptr avc_clo dc_agg dc_int dc_bool dc_str dc_sl dc_nilp dc_rp dc_clo on_int on_bool on_str on_sl on_nilp on_rp on_clo on_fsl on_rsl on_ptr on_eptr on_cloA newE elemsA elemsS storeA put frz_nil deep callee resA initS touchOp fits compat rd wr key1 buildA partsD partsK idx frz_at Body.frz lk_hit lk_miss toD6_agg toD5_agg toD4_agg toD6_clo toD5_clo toD4_clo toD6_ptr toD5_ptr toD4_ptr sk6_agg sk5_agg sk4_agg sk6_clo sk5_clo sk4_clo sk6_ptr sk5_ptr sk4_ptr toD_rsl sk_rsl
attribute [local simp] allD_map_d sks_map_d tk tn tks

theorem nest_ok' (k : Int) (l : List T) (t : T) (hl : l.length ≤ 1000000000) (ht : okT t) (hol : okTs l) : Pure Try.prog n_tele_nest [.int .i64 k, eTs l, .agg (cT t)] [.agg (cT (nestT k l t))] := nest_ok k l t hl ht hol
theorem pis_ok (l : List T) (t : T) (hl : l.length ≤ 1000000000) (ht : okT t) (hol : okTs l) : Pure Try.prog n_tele_Pis [eTs l, .agg (cT t)] [.agg (cT (nestT 4 l t))] := by
  refine p_tele_Pis rfl fun hs => ?_
  have h := nest_ok' 4 l t hl ht hol
  simp only [cT, eTs] at h
  simp -dsimp [x_tele_Pis, cT, eTs]
  refine call_of h ?_
  simp -dsimp [cT]
theorem lams_ok (l : List T) (t : T) (hl : l.length ≤ 1000000000) (ht : okT t) (hol : okTs l) : Pure Try.prog n_tele_Lams [eTs l, .agg (cT t)] [.agg (cT (nestT 5 l t))] := by
  refine p_tele_Lams rfl fun hs => ?_
  have h := nest_ok' 5 l t hl ht hol
  simp only [cT, eTs] at h
  simp -dsimp [x_tele_Lams, cT, eTs]
  refine call_of h ?_
  simp -dsimp [cT]

theorem twoB_is {k n c : Int} {ks : List T} : twoB (.mk k n ks) c = true ↔ k = c ∧ ∃ a b, ks = [a, b] := by
  show (decide (k = c) && decide (ks.length = 2)) = true ↔ _
  rw [Bool.and_eq_true, decide_eq_true_eq, decide_eq_true_eq]
  constructor
  · rintro ⟨h1, h2⟩
    match ks, h2 with
    | [a, b], _ => exact ⟨h1, a, b, rfl⟩
  · rintro ⟨h1, a, b, rfl⟩
    exact ⟨h1, rfl⟩
/-- The domains of a term, what stands in them. -/
def piD : T → List T
  | .mk k _ ks => if k = 4 then match ks with
    | [a, b] => a :: piD b
    | _ => [] else []
def piB : T → T
  | .mk k n ks => if k = 4 then match ks with
    | [_, b] => piB b
    | _ => .mk k n ks else .mk k n ks
theorem pi_none {k n : Int} {ks : List T} (hc : ¬ (k = 4 ∧ ∃ a b, ks = [a, b])) : piD (.mk k n ks) = [] ∧ piB (.mk k n ks) = .mk k n ks := by
  match ks, hc with
  | [], _ => simp [piD, piB]
  | [_], _ => simp [piD, piB]
  | [a, b], hc =>
    have h1 : ¬ k = 4 := fun h1 => hc ⟨h1, a, b, rfl⟩
    simp [piD, piB, h1]
  | _ :: _ :: _ :: _, _ => simp [piD, piB]
theorem pi_two (n : Int) (a b : T) : piD (.mk 4 n [a, b]) = a :: piD b ∧ piB (.mk 4 n [a, b]) = piB b := by simp [piD, piB]
theorem unpis_ok (t : T) (hb : (piD t).length ≤ 1000000) (h1 : okT (piB t)) (h2 : okTs (piD t)) : Pure Try.prog n_tele_Unpis [.agg (cT t)] [eTs (piD t), .agg (cT (piB t))] := by
  refine p_tele_Unpis rfl fun hs => ?_
  simp -dsimp [x_tele_Unpis, cT]
  refine wp_upto (piD t).length (fun i st => st.s 3 = .ptr 3 1 0 ∧ st.h 3 = ⟨1, .box [.d (.int .i64 0), .d (.int .i64 0), .fsl 3 []] false⟩ ∧ st.s 1 = .ptr 1 1 0 ∧ ∃ (cur : T) (L : List T),
    st.h 1 = ⟨1, .box [.d (.int .i64 cur.kind), .d (.int .i64 cur.num), .d (.sl 3 (cur.kids.map eT))] false⟩ ∧ L ++ piD cur = piD t ∧ L.length = i ∧ piB cur = piB t ∧
    st.s 4 = .rsl 4 (1 + i) ∧ st.h 4 = ⟨1 + i, .row 3 (L.map eT) false⟩) ?_ ?_
  · simp -dsimp
    exact ⟨t, ⟨rfl, rfl, rfl⟩, [], by simp⟩
  · rintro i ⟨s, hp⟩ hi ⟨g1, g2, g3, cur, L, g4, g5, g6, g7, g8, g9⟩
    dsimp only at g1 g2 g3 g4 g8 g9
    have htw := two_ok cur 4
    obtain ⟨k, n, ks⟩ := cur
    simp only [cT, tk, tn, tks] at htw g4
    have hL : L.length ≤ (piD t).length := by rw [← g5, List.length_append]; omega
    by_cases hc : k = 4 ∧ ∃ a b, ks = [a, b]
    · have hd := twoB_is (n := n) |>.2 hc
      rw [hd] at htw
      obtain ⟨rfl, a, b, rfl⟩ := hc
      rw [(pi_two n a b).1] at g5
      rw [(pi_two n a b).2] at g7
      have hlt : i < (piD t).length := by rw [← g5, List.length_append, List.length_cons]; omega
      simp -dsimp [g1, g2, g3, g4, g8, g9]
      refine call_of htw ?_
      have hr : (L.length + 1) * 40 ≤ maxRoom := by simp only [maxRoom]; omega
      simp -dsimp [g1, g2, g3, g4, g8, g9, hr, eT_eq, cT]
      refine call_of (ttwin_ok a (h2.2 a (by rw [← g5]; simp))) ?_
      simp -dsimp [g1, g2, g3, g4, g8, g9, hr, eT_eq, cT]
      exact ⟨hlt, b, ⟨rfl, rfl, rfl⟩, L ++ [a], by simp [g5], by simp [g6], g7, by omega, by simp [eT_eq, cT]⟩
    · have hd : twoB (.mk k n ks) 4 = false := by
        cases h : twoB (.mk k n ks) 4 with
        | false => rfl
        | true => exact absurd (twoB_is.1 h) hc
      have e1 := pi_none (n := n) hc
      rw [e1.1, List.append_nil] at g5
      rw [e1.2] at g7
      subst g5
      rw [← g7] at h1
      rw [hd] at htw
      simp -dsimp [g1, g2, g3, g4, g8, g9]
      refine call_of htw ?_
      simp -dsimp [g1, g2, g3, g4, g8, g9]
      refine call_of (ttwin_ok _ h1) ?_
      simp -dsimp [g1, g2, g3, g4, g8, g9, cT, ← g7, eTs]
end Ev
end Go.Proofs.Ytnkbhmafebngjaa
