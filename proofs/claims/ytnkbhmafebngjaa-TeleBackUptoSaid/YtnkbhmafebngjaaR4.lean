/- tele: variables; TeleVars. -/
import Derived.Test.YtnkbhmafebngjaaR3
import Derived.Test.YtnkbhmafebngjaaP1
namespace Go.Proofs.Ytnkbhmafebngjaa
namespace Ev
open Go
set_option maxRecDepth 100000
set_option linter.unusedSimpArgs false
set_option linter.unusedVariables false
attribute [local simp ↓] wx_skip wx_region wx_seq wx_block wx_exit wx_ret wx_cond wx_loop wo_nil wo_run wo_ask wx_draw wt_nil wt_run_t wt_run_f wt_ask_t wt_ask_f rb_mv rb_nilrow rb_pick rb_alloc rb_box rb_load rb_store rb_nilck rb_bin rb_binb rb_un rb_conv rb_mkf rb_mks rb_slice rb_faddr rb_fld rb_iaddr rb_ext rb_len rb_app rb_mm rb_build rb_bslice run_callC upd_eq upd_ne
attribute [local simp] runB_some runB_none Tch_nil Tch_cons Chk_t Cnd_t Cnd_f Ask_tt Ask_ff Ask_tf Ask_ft Ask_skip act ev_t ev_c evs sks caps2 touch_call List.cons_append List.nil_append putS binI binB int_add int_sub int_mul int_quo int_rem int_or int_eql int_neq int_lss int_leq int_gtr int_geq shiftD Ex.then Ex.inBlock Ends resL resX allD toD_d toD_fsl sk_d sk_fsl none_ loadA cut wrapA wrapD avc_d avc_agg avc_fsl avc_rsl avc_ptr avc_eptr avc_clo dc_agg dc_int dc_bool dc_str dc_sl dc_nilp dc_rp dc_clo on_int on_bool on_str on_sl on_nilp on_rp on_clo on_fsl on_rsl on_ptr on_eptr on_cloA newE elemsA elemsS storeA put frz_nil deep callee resA initS touchOp fits compat rd wr key1 buildA partsD partsK idx frz_at Body.frz lk_hit lk_miss toD6_agg toD5_agg toD4_agg toD6_clo toD5_clo toD4_clo toD6_ptr toD5_ptr toD4_ptr sk6_agg sk5_agg sk4_agg sk6_clo sk5_clo sk4_clo sk6_ptr sk5_ptr sk4_ptr toD_rsl sk_rsl
attribute [local simp] allD_map_d sks_map_d tk tn tks

def tV (n : Int) : T := .mk 1 n []
/-- The variables from the outermost on. -/
def varsN (n : Nat) : List T := (List.range n).map fun (i : Nat) => tV ((n : Int) - 1 - (i : Int))
theorem varsN_len (n : Nat) : (varsN n).length = n := by simp [varsN]
theorem varsN_get (n i : Nat) (h : i < (varsN n).length) : (varsN n)[i] = tV ((n : Int) - 1 - i) := by simp [varsN]
def varsT (n : Int) : List T := if n < 1 ∨ 65536 < n then [] else varsN n.toNat
theorem vars_ok (n : Int) : Pure Try.prog n_tele_Vars [.int .i64 n] [eTs (varsT n)] := by
  refine p_tele_Vars rfl fun hs => ?_
  simp -dsimp [x_tele_Vars]
  (first | refine Ask_b ?_ ?_ | refine Cnd_b ?_ ?_) <;> intro h1 <;> (try simp only [decide_eq_true_eq, decide_eq_false_iff_not, beq_iff_eq, beq_eq_false_iff_ne, bne_iff_ne, bne_eq_false_iff_eq, Bool.not_eq_true', Bool.not_eq_false', Bool.and_eq_true, Bool.or_eq_true, Bool.and_eq_false_iff, Bool.or_eq_false_iff] at h1) <;> simp -dsimp [h1]
  · have : varsT n = [] := by rw [varsT, if_pos (.inl h1)]
    simp -dsimp [this, eTs]
  (first | refine Ask_b ?_ ?_ | refine Cnd_b ?_ ?_) <;> intro h2 <;> (try simp only [decide_eq_true_eq, decide_eq_false_iff_not, beq_iff_eq, beq_eq_false_iff_ne, bne_iff_ne, bne_eq_false_iff_eq, Bool.not_eq_true', Bool.not_eq_false', Bool.and_eq_true, Bool.or_eq_true, Bool.and_eq_false_iff, Bool.or_eq_false_iff] at h2) <;> simp -dsimp [h2, h1]
  · have : varsT n = [] := by rw [varsT, if_pos (.inr h2)]
    simp -dsimp [this, eTs]
  obtain ⟨m, rfl⟩ := Int.eq_ofNat_of_zero_le (show 0 ≤ n by omega)
  have hV : varsT (m : Int) = varsN m := by rw [varsT, if_neg (by omega)]; rfl
  rw [hV]
  have r1 : (m : Int) * 40 ≤ (maxRoom : Int) := by simp only [maxRoom]; omega
  have r2 : m ≤ maxRoom := by simp only [maxRoom]; omega
  have hvl := varsN_len m
  simp -dsimp [h1, h2, r1, r2]
  refine wp_upto m (fun i st => st.s 0 = .d (.int .i64 m) ∧ st.s 3 = .rsl 12 1 ∧ st.s 14 = .d (.int .i64 m) ∧ st.s 15 = .d (.int .i64 i) ∧
    st.h 12 = ⟨1, .row 3 (((varsN m).map eT).take i ++ List.replicate (m - i) (D.agg [.int .i64 0, .int .i64 0, .sl 3 []])) false⟩) ?_ ?_
  · simp -dsimp
  · rintro i ⟨s, hp⟩ hi ⟨g1, g2, g3, g4, g5⟩
    dsimp only at g1 g2 g3 g4 g5
    rcases Nat.lt_or_ge i m with hlt | hge
    · have w0 : IntKind.i64.wrap ((m : Int) - 1) = (m : Int) - 1 := wrap_id (by omega) (by omega)
      have w1 : IntKind.i64.wrap ((i : Int) + 1) = (i : Int) + 1 := wrap_id (by omega) (by omega)
      have w2 : IntKind.i64.wrap ((m : Int) - 1 - i) = (m : Int) - 1 - i := wrap_id (by omega) (by omega)
      simp -dsimp [g1, g2, g3, g4, g5, hlt, w0, w2]
      refine call_of (v_ok _) ?_
      have q1 : (i : Int) < ((min i m : Nat) : Int) + ((m - i : Nat) : Int) := by omega
      have q2 : i < min i m + (m - i) := by omega
      have hle : ((varsN m).map eT).length = m := by rw [List.length_map, hvl]
      have hfn := fill_next (l := (varsN m).map eT) (z := D.agg [.int .i64 0, .int .i64 0, .sl 3 []]) (i := i) (by rw [hle]; exact hlt)
      have hel : ((varsN m).map eT)[i]'(by rw [hle]; exact hlt) = .agg [.int .i64 1, .int .i64 ((m : Int) - 1 - i), .sl 3 []] := by
        rw [List.getElem_map, varsN_get, eT_eq]; simp [cT, tV]
      rw [hel, hle] at hfn
      simp -dsimp [g1, g2, g3, g4, g5, hlt, w0, w1, w2, q1, q2, hvl, cT, hfn]
    · have e : i = m := by omega
      subst e
      have ht : ((varsN i).map eT).take i = (varsN i).map eT := List.take_of_length_le (by rw [List.length_map, hvl]; exact Nat.le_refl _)
      rw [ht, Nat.sub_self, List.replicate_zero, List.append_nil] at g5
      simp -dsimp [g1, g2, g3, g4, g5, eTs]

theorem okT_leaf {k n : Int} (hk : 0 ≤ k ∧ k ≤ 100000) (hn : 0 ≤ n ∧ n ≤ 100000) : okT (.mk k n []) := .mk k n [] (by simp only [n64]; omega) (by simp only [n64]; omega) (by simp) (by simp)
theorem okT_two {n : Int} {a b : T} (ha : okT a) (hb : okT b) (hn : 0 ≤ n ∧ n ≤ 100000) : okT (.mk 6 n [a, b]) :=
  .mk 6 n [a, b] (by simp only [n64]; omega) (by simp only [n64]; omega) (by simp) (by intro x hx; simp at hx; rcases hx with rfl | rfl <;> assumption)
theorem wakes06_ok : Pure Try.prog n_porismlaw06_wakes [] [.bool true] := by
  refine p_porismlaw06_wakes rfl fun hs => ?_
  simp -dsimp [x_porismlaw06_wakes]
  refine call_of (rc_ok 3) ?_
  simp -dsimp
  refine call_of (rv_ok 0) ?_
  simp -dsimp
  refine call_of (ru_ok 0) ?_
  simp -dsimp [cT]
  have k1 : okT (.mk 3 3 []) := okT_leaf (by omega) (by omega)
  have k2 : okT (.mk 1 0 []) := okT_leaf (by omega) (by omega)
  have k3 : okT (.mk 2 0 []) := okT_leaf (by omega) (by omega)
  have hos : okTs [.mk 1 0 [], .mk 2 0 []] := ⟨by simp, by intro x hx; simp at hx; rcases hx with rfl | rfl <;> assumption⟩
  have hsp := spine_ok (.mk 3 3 []) [.mk 1 0 [], .mk 2 0 []] (by simp) k1 hos
  have e1 : spT (.mk 3 3 []) [.mk 1 0 [], .mk 2 0 []] = .mk 6 0 [.mk 6 0 [.mk 3 3 [], .mk 1 0 []], .mk 2 0 []] := rfl
  rw [e1] at hsp
  have e2 : (spA (.mk 6 0 [.mk 6 0 [.mk 3 3 [], .mk 1 0 []], .mk 2 0 []])).reverse = [.mk 1 0 [], .mk 2 0 []] ∧ spH (.mk 6 0 [.mk 6 0 [.mk 3 3 [], .mk 1 0 []], .mk 2 0 []]) = .mk 3 3 [] := by simp [spA, spH]
  have hun := unspine_ok (.mk 6 0 [.mk 6 0 [.mk 3 3 [], .mk 1 0 []], .mk 2 0 []]) (by simp [spA]) (by rw [e2.2]; exact k1) (by rw [e2.1]; exact hos)
  rw [e2.1, e2.2] at hun
  have hsz := tsize_ok (.mk 6 0 [.mk 6 0 [.mk 3 3 [], .mk 1 0 []], .mk 2 0 []])
  have e3 : sizeM (.mk 6 0 [.mk 6 0 [.mk 3 3 [], .mk 1 0 []], .mk 2 0 []]) = 5 := by
    rw [size_is _ (by simp [nodes])]
    simp [nodes]
  rw [e3] at hsz
  have hvs := vars_ok 2
  have e4 : varsT 2 = [tV 1, tV 0] := by rfl
  rw [e4] at hvs
  simp only [cT, eTs, List.map_cons, List.map_nil, eT_eq, tk, tn, tks] at hsp hun hsz hvs
  refine call_of hsp ?_
  simp -dsimp
  refine call_of hun ?_
  simp -dsimp
  refine call_of hsz ?_
  simp -dsimp
  refine call_of hvs ?_
  simp -dsimp
end Ev
end Go.Proofs.Ytnkbhmafebngjaa
