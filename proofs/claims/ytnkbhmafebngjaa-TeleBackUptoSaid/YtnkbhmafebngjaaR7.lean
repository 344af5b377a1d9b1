/- TeleAgain. -/
import Derived.Test.YtnkbhmafebngjaaR6
import Derived.Test.YtnkbhmafebngjaaR5
namespace Go.Proofs.Ytnkbhmafebngjaa
namespace Ev
open Go
set_option maxRecDepth 100000
set_option linter.unusedSimpArgs false
set_option linter.unusedVariables false
attribute [local simp ↓] wx_skip wx_region wx_seq wx_block wx_exit wx_ret wx_cond wx_loop wo_nil wo_run wo_ask wx_draw wt_nil wt_run_t wt_run_f wt_ask_t wt_ask_f rb_mv rb_nilrow rb_pick rb_alloc rb_box rb_load rb_store rb_nilck rb_bin rb_binb rb_un rb_conv rb_mkf rb_mks rb_slice rb_faddr rb_fld rb_iaddr rb_ext rb_len rb_app rb_mm rb_build rb_bslice run_callC upd_eq upd_ne
attribute [local simp] runB_some runB_none Tch_nil Tch_cons Chk_t Cnd_t Cnd_f Ask_tt Ask_ff Ask_tf Ask_ft Ask_skip act ev_t ev_c evs sks caps2 touch_call List.cons_append List.nil_append putS binI binB int_add int_sub int_mul int_quo int_rem int_or int_eql int_neq int_lss int_leq int_gtr int_geq shiftD Ex.then Ex.inBlock Ends resL resX allD toD_d toD_fsl sk_d sk_fsl none_ loadA cut wrapA wrapD avc_d avc_agg avc_fsl avc_rsl avc_ptr avc_eptr avc_clo dc_agg dc_int dc_bool dc_str dc_sl dc_nilp dc_rp dc_clo on_int on_bool on_str on_sl on_nilp on_rp on_clo on_fsl on_rsl on_ptr on_eptr on_cloA newE elemsA elemsS storeA put frz_nil deep callee resA initS touchOp fits compat rd wr key1 buildA partsD partsK idx frz_at Body.frz lk_hit lk_miss toD6_agg toD5_agg toD4_agg toD6_clo toD5_clo toD4_clo toD6_ptr toD5_ptr toD4_ptr sk6_agg sk5_agg sk4_agg sk6_clo sk5_clo sk4_clo sk6_ptr sk5_ptr sk4_ptr toD_rsl sk_rsl
attribute [local simp] allD_map_d sks_map_d tk tn tks

theorem formed_two {k n : Int} {ks : List T} (hk : kidsM k = 2) (h : formedM (.mk k n ks) = true) : n = 0 ∧ ∃ a b, ks = [a, b] ∧ formedM a = true ∧ formedM b = true := by
  rw [formedM_is, hk] at h
  split at h
  · rename_i hl
    rw [if_neg (by omega)] at h
    split at h
    · rename_i h0
      match ks, hl with
      | [a, b], _ =>
        simp only [List.all_cons, List.all_nil, Bool.and_true, Bool.and_eq_true] at h
        exact ⟨h0, a, b, rfl, h⟩
      | [], hl => simp at hl
      | [_], hl => simp at hl
      | _ :: _ :: _ :: _, hl => simp at hl; omega
    · cases h
  · cases h
theorem sp_again (t : T) : formedM t = true → spT (spH t) (spA t).reverse = t ∧ (spH t).kind ≠ 6 := by
  refine T.ind (p := fun t => formedM t = true → spT (spH t) (spA t).reverse = t ∧ (spH t).kind ≠ 6) ?_ t
  intro k n ks ih hf
  by_cases hc : k = 6 ∧ ∃ a b, ks = [a, b]
  · obtain ⟨rfl, a, b, rfl⟩ := hc
    obtain ⟨rfl, a', b', e, hfa, hfb⟩ := formed_two rfl hf
    cases e
    obtain ⟨h1, h2⟩ := ih a (by simp) hfa
    rw [(sp_two 0 a b).1, (sp_two 0 a b).2, List.reverse_cons, spT, List.foldl_append]
    refine ⟨?_, h2⟩
    rw [spT] at h1
    rw [h1]
    rfl
  · rw [(sp_none hc).1, (sp_none hc).2]
    refine ⟨rfl, fun h6 => hc ?_⟩
    have h6 : k = 6 := h6
    subst h6
    obtain ⟨_, a, b, e, _⟩ := formed_two rfl hf
    exact ⟨rfl, a, b, e⟩
theorem pi_again (t : T) : formedM t = true → nestT 4 (piD t) (piB t) = t ∧ (piB t).kind ≠ 4 := by
  refine T.ind (p := fun t => formedM t = true → nestT 4 (piD t) (piB t) = t ∧ (piB t).kind ≠ 4) ?_ t
  intro k n ks ih hf
  by_cases hc : k = 4 ∧ ∃ a b, ks = [a, b]
  · obtain ⟨rfl, a, b, rfl⟩ := hc
    obtain ⟨rfl, a', b', e, hfa, hfb⟩ := formed_two rfl hf
    cases e
    obtain ⟨h1, h2⟩ := ih b (by simp) hfb
    rw [(pi_two 0 a b).1, (pi_two 0 a b).2, nestT, List.foldr_cons]
    refine ⟨?_, h2⟩
    rw [nestT] at h1
    rw [h1]
  · rw [(pi_none hc).1, (pi_none hc).2]
    refine ⟨rfl, fun h6 => hc ?_⟩
    have h6 : k = 4 := h6
    subst h6
    obtain ⟨_, a, b, e, _⟩ := formed_two rfl hf
    exact ⟨rfl, a, b, e⟩
theorem sp_parts (t : T) : okT t → okT (spH t) ∧ (∀ x ∈ spA t, okT x) ∧ (spA t).length + nodes (spH t) ≤ nodes t ∧ ∀ x ∈ spA t, nodes x ≤ nodes t := by
  refine T.ind (p := fun t => okT t → okT (spH t) ∧ (∀ x ∈ spA t, okT x) ∧ (spA t).length + nodes (spH t) ≤ nodes t ∧ ∀ x ∈ spA t, nodes x ≤ nodes t) ?_ t
  intro k n ks ih ho
  by_cases hc : k = 6 ∧ ∃ a b, ks = [a, b]
  · obtain ⟨rfl, a, b, rfl⟩ := hc
    obtain ⟨h1, h2, h3, h4⟩ := ih a (by simp) (ho.kids.2 a (by simp))
    rw [(sp_two n a b).1, (sp_two n a b).2, nodes2, List.length_cons]
    refine ⟨h1, fun x hx => ?_, by omega, fun x hx => ?_⟩
    · rcases List.mem_cons.1 hx with rfl | hx
      · exact ho.kids.2 _ (by simp)
      · exact h2 x hx
    · rcases List.mem_cons.1 hx with rfl | hx
      · omega
      · have := h4 x hx; omega
  · rw [(sp_none hc).1, (sp_none hc).2]
    exact ⟨ho, by simp, by simp, by simp⟩
theorem pi_parts (t : T) : okT t → okT (piB t) ∧ (∀ x ∈ piD t, okT x) ∧ (piD t).length + nodes (piB t) ≤ nodes t ∧ ∀ x ∈ piD t, nodes x ≤ nodes t := by
  refine T.ind (p := fun t => okT t → okT (piB t) ∧ (∀ x ∈ piD t, okT x) ∧ (piD t).length + nodes (piB t) ≤ nodes t ∧ ∀ x ∈ piD t, nodes x ≤ nodes t) ?_ t
  intro k n ks ih ho
  by_cases hc : k = 4 ∧ ∃ a b, ks = [a, b]
  · obtain ⟨rfl, a, b, rfl⟩ := hc
    obtain ⟨h1, h2, h3, h4⟩ := ih b (by simp) (ho.kids.2 b (by simp))
    rw [(pi_two n a b).1, (pi_two n a b).2, nodes2, List.length_cons]
    refine ⟨h1, fun x hx => ?_, by omega, fun x hx => ?_⟩
    · rcases List.mem_cons.1 hx with rfl | hx
      · exact ho.kids.2 _ (by simp)
      · exact h2 x hx
    · rcases List.mem_cons.1 hx with rfl | hx
      · omega
      · have := h4 x hx; omega
  · rw [(pi_none hc).1, (pi_none hc).2]
    exact ⟨ho, by simp, by simp, by simp⟩
theorem okTs_of {l : List T} (hl : l.length ≤ 1000000) (h : ∀ x ∈ l, okT x) : okTs l := ⟨by omega, h⟩
theorem unspine_is (t : T) (ho : okT t) (hn : nodes t ≤ 1000000) : Pure Try.prog n_tele_Unspine [.agg (cT t)] [.agg (cT (spH t)), eTs (spA t).reverse] := by
  obtain ⟨h1, h2, h3, h4⟩ := sp_parts t ho
  exact unspine_ok t (by omega) h1 (okTs_of (by simp; omega) (by simpa using h2))
theorem unpis_is (t : T) (ho : okT t) (hn : nodes t ≤ 1000000) : Pure Try.prog n_tele_Unpis [.agg (cT t)] [eTs (piD t), .agg (cT (piB t))] := by
  obtain ⟨h1, h2, h3, h4⟩ := pi_parts t ho
  exact unpis_ok t (by omega) h1 (okTs_of (by omega) h2)

theorem again_law (t : T) (hn : nodes t ≤ 1048576) (ho : okT t) : Pure Try.prog n_porismlaw06_TeleAgain [.agg (cT t)] [.bool true] := by
  refine p_porismlaw06_TeleAgain rfl fun hs => ?_
  have hh := heavy02_ok [t]
  simp only [eTs, List.map_cons, List.map_nil, eT_eq, cT] at hh
  simp -dsimp [x_porismlaw06_TeleAgain, cT]
  refine call_of hh ?_
  simp -dsimp
  (first | refine Ask_b ?_ ?_ | refine Cnd_b ?_ ?_) <;> intro h1 <;> (try simp only [decide_eq_true_eq, decide_eq_false_iff_not, beq_iff_eq, beq_eq_false_iff_ne, bne_iff_ne, bne_eq_false_iff_eq, Bool.not_eq_true', Bool.not_eq_false', Bool.and_eq_true, Bool.or_eq_true, Bool.and_eq_false_iff, Bool.or_eq_false_iff] at h1) <;> simp -dsimp [h1]
  refine call_of (rcheck_ok t) ?_
  simp -dsimp [h1]
  (first | refine Ask_b ?_ ?_ | refine Cnd_b ?_ ?_) <;> intro h2 <;> (try simp only [decide_eq_true_eq, decide_eq_false_iff_not, beq_iff_eq, beq_eq_false_iff_ne, bne_iff_ne, bne_eq_false_iff_eq, Bool.not_eq_true', Bool.not_eq_false', Bool.and_eq_true, Bool.or_eq_true, Bool.and_eq_false_iff, Bool.or_eq_false_iff] at h2) <;> simp -dsimp [h2, h1]
  obtain ⟨k1, k2, k3⟩ := (check_iff hn).1 h2
  have hu := unspine_is t ho (by omega)
  have hp := unpis_is t ho (by omega)
  obtain ⟨a1, a2⟩ := sp_again t k3
  obtain ⟨b1, b2⟩ := pi_again t k3
  obtain ⟨c1, c2, c3, _⟩ := sp_parts t ho
  obtain ⟨d1, d2, d3, _⟩ := pi_parts t ho
  have hS := spine_ok (spH t) (spA t).reverse (by simp; omega) c1 (okTs_of (by simp; omega) (by simpa using c2))
  have hP := pis_ok (piD t) (piB t) (by omega) d1 (okTs_of (by omega) d2)
  rw [a1] at hS
  rw [b1] at hP
  simp only [cT, eTs] at hu hp hS hP
  generalize (spA t).reverse = X at hu hS
  generalize spH t = F at hu hS a2
  generalize piD t = Dm at hp hP
  generalize piB t = B at hp hP b2
  refine call_of hu ?_
  simp -dsimp
  refine call_of hp ?_
  simp -dsimp
  refine call_of hS ?_
  simp -dsimp
  refine call_of (keepTerm_ok t) ?_
  simp -dsimp
  refine call_of hP ?_
  simp -dsimp
  refine call_of (keepTerm_ok t) ?_
  simp -dsimp [a2, b2]
  refine call_of wakes06_ok ?_
  simp -dsimp
end Ev
end Go.Proofs.Ytnkbhmafebngjaa
