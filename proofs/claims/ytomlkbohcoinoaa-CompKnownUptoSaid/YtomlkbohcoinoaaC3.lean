/- comp: the laws' alarms, CompPlain. -/
import Derived.Test.YtomlkbohcoinoaaC2
namespace Go.Proofs.Ytomlkbohcoinoaa
namespace Ev
open Go
set_option maxRecDepth 100000
set_option linter.unusedSimpArgs false
set_option linter.unusedVariables false
attribute [local simp ↓] wx_skip wx_region wx_seq wx_block wx_exit wx_ret wx_cond wx_loop wo_nil wo_run wo_ask wx_draw wt_nil wt_run_t wt_run_f wt_ask_t wt_ask_f rb_mv rb_nilrow rb_pick rb_alloc rb_box rb_load rb_store rb_nilck rb_bin rb_binb rb_un rb_conv rb_mkf rb_mks rb_slice rb_faddr rb_fld rb_iaddr rb_ext rb_len rb_app rb_mm rb_build rb_bslice run_callC upd_eq upd_ne
attribute [local simp] runB_some runB_none Tch_nil Tch_cons Chk_t Cnd_t Cnd_f Ask_tt Ask_ff Ask_tf Ask_ft Ask_skip act ev_t ev_c evs sks caps2 touch_call List.cons_append List.nil_append putS binI binB int_add int_sub int_mul int_quo int_rem int_or int_eql int_neq int_lss int_leq int_gtr int_geq shiftD Ex.then Ex.inBlock Ends resL resX allD toD_d toD_fsl sk_d sk_fsl none_ loadA cut wrapA wrapD avc_d avc_agg avc_fsl avc_rsl avc_ptr avc_eptr avc_clo dc_agg dc_int dc_bool dc_str dc_sl dc_nilp dc_rp dc_clo on_int on_bool on_str on_sl on_nilp on_rp on_clo on_fsl on_rsl on_ptr on_eptr on_cloA newE elemsA elemsS storeA put frz_nil deep callee resA initS touchOp fits compat rd wr key1 buildA partsD partsK idx frz_at Body.frz lk_hit lk_miss toD6_agg toD5_agg toD4_agg toD6_clo toD5_clo toD4_clo toD6_ptr toD5_ptr toD4_ptr sk6_agg sk5_agg sk4_agg sk6_clo sk5_clo sk4_clo sk6_ptr sk5_ptr sk4_ptr toD_rsl sk_rsl resK EndsP EndsMP fitVs fitCs fitC keysV keysC keyC cellsA1 skVs skCs skC1 resO tupA valsV cellsV oneV rowsV rowsC RV.cells nk rowsH_one rowsH_two rowsH_none
section
attribute [local simp] allD_map_d sks_map_d tk tn tks initA EndsM one_sos one_cos one_ars one_ts
theorem leaf_checkM {k n : Int} (hk : k = 1 ∨ k = 2 ∨ k = 3) (h : formedM (.mk k n []) = true) : checkM (.mk k n []) = 0 := (check_iff2 (by rw [leaf_nodes]; omega)).2 ⟨by rw [leaf_nodes]; omega, by rw [leaf_depth]; omega, h⟩
theorem lf (k n : Int) (hk : kidsM k = 0) (h : 0 ≤ n ∧ n ≤ 65535) : formedM (.mk k n []) = true := by
  rw [formedM_is, hk]
  simp [inB, h.1, h.2]
theorem v_shift0 (n : Int) (h : 0 ≤ n ∧ n ≤ 65535) : shiftE (tV n) 0 0 = 0 ∧ shiftT (tV n) 0 0 = tV n := by
  have hE : shiftE (tV n) 0 0 = 0 := shift_iff.2 ⟨leaf_checkM (.inl rfl) (lf 1 n rfl h), by omega, by omega, by simp [tV, shB]; omega⟩
  exact ⟨hE, by rw [shiftT, if_pos hE]; simp [tV, mapT, shF]⟩
theorem u_shift0 : shiftE (.mk 2 0 []) 0 0 = 0 ∧ shiftT (.mk 2 0 []) 0 0 = .mk 2 0 [] := by
  have hE : shiftE (.mk 2 0 []) 0 0 = 0 := shift_iff.2 ⟨leaf_checkM (.inr (.inl rfl)) (lf 2 0 rfl (by omega)), by omega, by omega, by rfl⟩
  exact ⟨hE, by rw [shiftT, if_pos hE]; simp [mapT, mapL]⟩
def want13 : T := spT (tV 2) [tV 3, spT (tC 3) [.mk 2 0 [], tV 1, tV 2, tV 3]]
theorem want13_check : checkM want13 = 0 := by
  have hn : nodes want13 = 13 := by simp [want13, spT, nodes2, tV, tC, leaf_nodes]
  refine (check_iff2 (by omega)).2 ⟨by omega, ?_, ?_⟩
  · have := depth_le want13
    omega
  · have hk6 : kidsM 6 = 2 := rfl
    have hk1 : kidsM 1 = 0 := rfl
    have hk2 : kidsM 2 = 0 := rfl
    have hk3 : kidsM 3 = 0 := rfl
    simp [want13, spT, formedM_is, hk6, hk1, hk2, hk3, tV, tC, inB]
theorem m13 : mkL natB 0 [recA 0 []] [.mk 2 0 []] [tV 1, tV 2] [tV 3] 1 = (0, [tV 3, spT (tC 3) [.mk 2 0 [], tV 1, tV 2, tV 3]]) := by
  have h1 := v_shift0 1 (by omega)
  have h2 := v_shift0 2 (by omega)
  have h3 := v_shift0 3 (by omega)
  rw [mkL_next (a := recA 0 []) (t := tV 3) rfl rfl, if_pos ⟨rfl, rfl⟩]
  have hI : innerE (recA 0 []) [.mk 2 0 []] [tV 1, tV 2] (List.take 0 [tV 3]) (tV 3) = [0, 0, 0, 0] := by
    simp [innerE, recA, domsE, upsE, instsE, h1.1, h2.1, h3.1, u_shift0.1]
  have hT : innerT natB 0 (recA 0 []) [.mk 2 0 []] [tV 1, tV 2] (List.take 0 [tV 3]) (tV 3) = spT (tC 3) [.mk 2 0 [], tV 1, tV 2, tV 3] := by
    have hv : varsN 0 = [] := rfl
    have he : eliminator natB 0 0 = 3 := by rfl
    simp [innerT, recA, domsT, upsT, instsT, h1.2, h2.2, h3.2, u_shift0.2, nestT, hv, he]
    rfl
  rw [hI, hT]
  rfl
theorem e13 : elimE natB 0 1 [.mk 2 0 []] [tV 1, tV 2] [tV 3] = 0 ∧ elimT natB 0 1 [.mk 2 0 []] [tV 1, tV 2] [tV 3] = want13 := by
  have hb : checkB natB = 0 := by rfl
  have hco : natB.cons[(1 : Int).toNat]? = some ⟨0, [recA 0 []], [], zT⟩ := rfl
  have hF : firstE ([.mk 2 0 []] ++ ([tV 1, tV 2] ++ [tV 3])) = 0 := by
    rw [firstE_zero]
    intro t ht
    simp only [List.cons_append, List.nil_append, List.mem_cons, List.not_mem_nil, or_false] at ht
    rcases ht with rfl | rfl | rfl | rfl
    · exact leaf_checkM (.inr (.inl rfl)) (lf 2 0 rfl (by omega))
    all_goals exact leaf_checkM (.inl rfl) (lf 1 _ rfl (by omega))
  have hM : makeE natB 0 ⟨0, [recA 0 []], [], zT⟩ (tV 2) [.mk 2 0 []] [tV 1, tV 2] [tV 3] = 0 := by
    rw [makeE]
    simp only [List.length_cons, List.length_nil, Nat.zero_add, m13]
    exact want13_check
  have hE : elimE natB 0 1 [.mk 2 0 []] [tV 1, tV 2] [tV 3] = 0 := by
    rw [elimE, if_pos hb, if_neg (by omega), hco]
    simp only
    rw [if_pos ⟨rfl, rfl, rfl, by omega, by omega⟩, if_pos hF]
    exact hM
  refine ⟨hE, ?_⟩
  rw [elimT, if_pos hE, hco]
  show makeT natB 0 ⟨0, [recA 0 []], [], zT⟩ (tV 2) [.mk 2 0 []] [tV 1, tV 2] [tV 3] = want13
  rw [makeT, if_pos hM]
  simp only [List.length_cons, List.length_nil, Nat.zero_add, m13]
  rfl
theorem wakes13_ok : Pure Try.prog n_porismlaw13_wakes [] [.bool true] := by
  refine p_porismlaw13_wakes rfl fun hs => ?_
  have hleaf : ∀ k n : Int, 0 ≤ k ∧ k ≤ 100000 → 0 ≤ n ∧ n ≤ 100000 → okT (.mk k n []) := fun k n h1 h2 => okT_leaf h1 h2
  have oV : ∀ n : Int, 0 ≤ n ∧ n ≤ 100000 → okT (tV n) := fun n h => okT_leaf (by omega) h
  have oU : okT (.mk 2 0 []) := okT_leaf (by omega) (by omega)
  have nV : ∀ n : Int, nodes (tV n) ≤ 9000 := fun n => by rw [tV, leaf_nodes]; omega
  have nU : nodes (.mk 2 0 []) ≤ 9000 := by rw [leaf_nodes]; omega
  have hE := elim_ok natB natB_fine natB_ok 0 1 [.mk 2 0 []] [tV 1, tV 2] [tV 3] (by simpa using nU) (by simp) (by simp [nV]) (by simp) (by simp [nV]) (by simp)
    (by intro x hx; simp at hx; rcases hx with rfl | rfl <;> exact oV _ (by omega)) (by intro x hx; simp at hx; subst hx; exact oV _ (by omega))
  rw [e13.1, e13.2] at hE
  have hv := rv_ok
  have hu := ru_ok 0
  have hc := rc_ok 3
  have hN := nat_ok
  have o4 : okTs [.mk 2 0 [], tV 1, tV 2, tV 3] := ⟨by simp, by intro x hx; simp at hx; rcases hx with rfl | rfl | rfl | rfl <;> first | exact oU | exact oV _ (by omega)⟩
  have oC : okT (tC 3) := okT_leaf (by omega) (by omega)
  have hS := rspine_ok (tC 3) [.mk 2 0 [], tV 1, tV 2, tV 3] (by simp) oC o4
  have hR := rspine_ok (tV 2) [tV 3, spT (tC 3) [.mk 2 0 [], tV 1, tV 2, tV 3]] (by simp) (oV 2 (by omega)) ⟨by simp, by intro x hx; simp at hx; rcases hx with rfl | rfl; exact oV _ (by omega); exact sp_okT _ _ oC o4.2⟩
  have hk := keepTerm_ok want13
  have hw : spT (tV 2) [tV 3, spT (tC 3) [.mk 2 0 [], tV 1, tV 2, tV 3]] = want13 := rfl
  rw [hw] at hR
  generalize want13 = W at *
  generalize spT (tC 3) [.mk 2 0 [], tV 1, tV 2, tV 3] = X at *
  simp only [declC, cBl, eBl, cT, tC, tV, eTs, List.map_cons, List.map_nil, eT_eq, tk, tn, tks, List.cons_append, List.nil_append] at hE hv hu hc hN hS hR hk
  simp -dsimp [x_porismlaw13_wakes]
  refine call_of hN ?_
  simp -dsimp
  refine call_of hu ?_
  simp -dsimp
  refine call_of (hv 1) ?_
  simp -dsimp
  refine call_of (hv 2) ?_
  simp -dsimp
  refine call_of (hv 3) ?_
  simp -dsimp
  refine call_of hE ?_
  simp -dsimp
  refine call_of (hv 2) ?_
  simp -dsimp
  refine call_of (hv 3) ?_
  simp -dsimp
  refine call_of hc ?_
  simp -dsimp
  refine call_of (hv 1) ?_
  simp -dsimp
  refine call_of (hv 2) ?_
  simp -dsimp
  refine call_of (hv 3) ?_
  simp -dsimp
  refine call_of hS ?_
  simp -dsimp
  refine call_of hR ?_
  simp -dsimp
  refine call_of hk ?_
  simp -dsimp
end
end Ev
end Go.Proofs.Ytomlkbohcoinoaa
