/- comp: the laws' alarms, CompPlain. -/
import Derived.Test.YtomlkbohcoinoaaC2
namespace Go.Proofs.Ytomlkbohcoinoaa
namespace Ev
open Go
set_option maxRecDepth 100000
set_option linter.unusedSimpArgs false
set_option linter.unusedVariables false
attribute [local simp ↓] wx_skip wx_region wx_seq wx_block wx_exit wx_ret wx_cond wx_loop wo_nil wo_run wo_ask wx_draw wt_nil wt_run_t wt_run_f wt_ask_t wt_ask_f rb_mv rb_nilrow rb_pick rb_alloc rb_box rb_load rb_store rb_nilck rb_bin rb_binb rb_un rb_conv rb_mkf rb_mks rb_slice rb_faddr rb_fld rb_iaddr rb_ext rb_len rb_app rb_mm rb_build rb_bslice run_callC upd_eq upd_ne
attribute [local simp] runB_some runB_none Tch_nil Tch_cons Chk_t Cnd_t Cnd_f Ask_tt Ask_ff Ask_tf Ask_ft Ask_skip act ev_t ev_c evs sks caps2 touch_call List.cons_append List.nil_append putS binI binB int_add int_sub int_mul int_quo int_rem int_or int_eql int_neq int_lss int_leq int_gtr int_geq shiftD Ex.then Ex.inBlock Ends resL resX allD toD_d toD_fsl sk_d sk_fsl none_ loadA cut wrapA wrapD avc_d avc_agg avc_fsl avc_rsl avc_ptr avc_eptr avc_clo dc_agg dc_int dc_bool dc_str dc_sl dc_nilp dc_rp dc_clo on_int on_bool on_str on_sl on_nilp on_rp on_clo on_fsl on_rsl on_ptr on_eptr on_cloA newE elemsA elemsS storeA put frz_nil deep callee resA initS touchOp fits compat rd wr key1 buildA partsD partsK idx frz_at Body.frz lk_hit lk_miss toD6_agg toD5_agg toD4_agg toD6_clo toD5_clo toD4_clo toD6_ptr toD5_ptr toD4_ptr sk6_agg sk5_agg sk4_agg sk6_clo sk5_clo sk4_clo sk6_ptr sk5_ptr sk4_ptr toD_rsl sk_rsl resK EndsP EndsMP fitVs fitCs fitC keysV keysC keyC cellsA1 skVs skCs skC1 resO tupA valsV cellsV oneV rowsV rowsC RV.cells nk rowsH_one rowsH_two rowsH_none
section
attribute [local simp] allD_map_d sks_map_d tk tn tks initA EndsM one_sos one_cos one_ars one_ts
theorem leaf_checkM {k n : Int} (hk : k = 1 ∨ k = 2 ∨ k = 3) (h : formedM (.mk k n []) = true) : checkM (.mk k n []) = 0 := (check_iff2 (by rw [leaf_nodes]; omega)).2 ⟨by rw [leaf_nodes]; omega, by rw [leaf_depth]; omega, h⟩
theorem lf (k n : Int) (hk : kidsM k = 0) (h : 0 ≤ n ∧ n ≤ 65535) : formedM (.mk k n []) = true := by
  rw [formedM_is, hk]
  simp [inB, h.1, h.2]
theorem v_shift0 (n : Int) (h : 0 ≤ n ∧ n ≤ 65535) : shiftE (tV n) 0 0 = 0 ∧ shiftT (tV n) 0 0 = tV n := by
  have hE : shiftE (tV n) 0 0 = 0 := shift_iff.2 ⟨leaf_checkM (.inl rfl) (lf 1 n rfl h), by omega, by omega, by simp [tV, shB]; omega⟩
  exact ⟨hE, by rw [shiftT, if_pos hE]; simp [tV, mapT, shF]⟩
theorem u_shift0 : shiftE (.mk 2 0 []) 0 0 = 0 ∧ shiftT (.mk 2 0 []) 0 0 = .mk 2 0 [] := by
  have hE : shiftE (.mk 2 0 []) 0 0 = 0 := shift_iff.2 ⟨leaf_checkM (.inr (.inl rfl)) (lf 2 0 rfl (by omega)), by omega, by omega, by rfl⟩
  exact ⟨hE, by rw [shiftT, if_pos hE]; simp [mapT, mapL]⟩
def want13 : T := spT (tV 2) [tV 3, spT (tC 3) [.mk 2 0 [], tV 1, tV 2, tV 3]]
theorem want13_check : checkM want13 = 0 := by
  have hn : nodes want13 = 13 := by simp [want13, spT, nodes2, tV, tC, leaf_nodes]
  refine (check_iff2 (by omega)).2 ⟨by omega, ?_, ?_⟩
  · have := depth_le want13
    omega
  · have hk6 : kidsM 6 = 2 := rfl
    have hk1 : kidsM 1 = 0 := rfl
    have hk2 : kidsM 2 = 0 := rfl
    have hk3 : kidsM 3 = 0 := rfl
    simp [want13, spT, formedM_is, hk6, hk1, hk2, hk3, tV, tC, inB]
theorem m13 : mkL natB 0 [recA 0 []] [.mk 2 0 []] [tV 1, tV 2] [tV 3] 1 = (0, [tV 3, spT (tC 3) [.mk 2 0 [], tV 1, tV 2, tV 3]]) := by
  have h1 := v_shift0 1 (by omega)
  have h2 := v_shift0 2 (by omega)
  have h3 := v_shift0 3 (by omega)
  rw [mkL_next (a := recA 0 []) (t := tV 3) rfl rfl, if_pos ⟨rfl, rfl⟩]
  have hI : innerE (recA 0 []) [.mk 2 0 []] [tV 1, tV 2] (List.take 0 [tV 3]) (tV 3) = [0, 0, 0, 0] := by
    simp [innerE, recA, domsE, upsE, instsE, h1.1, h2.1, h3.1, u_shift0.1]
  have hT : innerT natB 0 (recA 0 []) [.mk 2 0 []] [tV 1, tV 2] (List.take 0 [tV 3]) (tV 3) = spT (tC 3) [.mk 2 0 [], tV 1, tV 2, tV 3] := by
    have hv : varsN 0 = [] := rfl
    have he : eliminator natB 0 0 = 3 := by rfl
    simp [innerT, recA, domsT, upsT, instsT, h1.2, h2.2, h3.2, u_shift0.2, nestT, hv, he]
    rfl
  rw [hI, hT]
  rfl
theorem e13 : elimE natB 0 1 [.mk 2 0 []] [tV 1, tV 2] [tV 3] = 0 ∧ elimT natB 0 1 [.mk 2 0 []] [tV 1, tV 2] [tV 3] = want13 := by
  have hb : checkB natB = 0 := by rfl
  have hco : natB.cons[(1 : Int).toNat]? = some ⟨0, [recA 0 []], [], zT⟩ := rfl
  have hF : firstE ([.mk 2 0 []] ++ ([tV 1, tV 2] ++ [tV 3])) = 0 := by
    rw [firstE_zero]
    intro t ht
    simp only [List.cons_append, List.nil_append, List.mem_cons, List.not_mem_nil, or_false] at ht
    rcases ht with rfl | rfl | rfl | rfl
    · exact leaf_checkM (.inr (.inl rfl)) (lf 2 0 rfl (by omega))
    all_goals exact leaf_checkM (.inl rfl) (lf 1 _ rfl (by omega))
  have hM : makeE natB 0 ⟨0, [recA 0 []], [], zT⟩ (tV 2) [.mk 2 0 []] [tV 1, tV 2] [tV 3] = 0 := by
    rw [makeE]
    simp only [List.length_cons, List.length_nil, Nat.zero_add, m13]
    exact want13_check
  have hE : elimE natB 0 1 [.mk 2 0 []] [tV 1, tV 2] [tV 3] = 0 := by
    rw [elimE, if_pos hb, if_neg (by omega), hco]
    simp only
    rw [if_pos ⟨rfl, rfl, rfl, by omega, by omega⟩, if_pos hF]
    exact hM
  refine ⟨hE, ?_⟩
  rw [elimT, if_pos hE, hco]
  show makeT natB 0 ⟨0, [recA 0 []], [], zT⟩ (tV 2) [.mk 2 0 []] [tV 1, tV 2] [tV 3] = want13
  rw [makeT, if_pos hM]
  simp only [List.length_cons, List.length_nil, Nat.zero_add, m13]
  rfl
theorem wakes13_ok : Pure Try.prog n_porismlaw13_wakes [] [.bool true] := by
  refine p_porismlaw13_wakes rfl fun hs => ?_
  have hleaf : ∀ k n : Int, 0 ≤ k ∧ k ≤ 100000 → 0 ≤ n ∧ n ≤ 100000 → okT (.mk k n []) := fun k n h1 h2 => okT_leaf h1 h2
  have oV : ∀ n : Int, 0 ≤ n ∧ n ≤ 100000 → okT (tV n) := fun n h => okT_leaf (by omega) h
  have oU : okT (.mk 2 0 []) := okT_leaf (by omega) (by omega)
  have nV : ∀ n : Int, nodes (tV n) ≤ 9000 := fun n => by rw [tV, leaf_nodes]; omega
  have nU : nodes (.mk 2 0 []) ≤ 9000 := by rw [leaf_nodes]; omega
  have hE := elim_ok natB natB_fine natB_ok 0 1 [.mk 2 0 []] [tV 1, tV 2] [tV 3] (by simpa using nU) (by simp) (by simp [nV]) (by simp) (by simp [nV]) (by simp)
    (by intro x hx; simp at hx; rcases hx with rfl | rfl <;> exact oV _ (by omega)) (by intro x hx; simp at hx; subst hx; exact oV _ (by omega))
  rw [e13.1, e13.2] at hE
  have hv := rv_ok
  have hu := ru_ok 0
  have hc := rc_ok 3
  have hN := nat_ok
  have o4 : okTs [.mk 2 0 [], tV 1, tV 2, tV 3] := ⟨by simp, by intro x hx; simp at hx; rcases hx with rfl | rfl | rfl | rfl <;> first | exact oU | exact oV _ (by omega)⟩
  have oC : okT (tC 3) := okT_leaf (by omega) (by omega)
  have hS := rspine_ok (tC 3) [.mk 2 0 [], tV 1, tV 2, tV 3] (by simp) oC o4
  have hR := rspine_ok (tV 2) [tV 3, spT (tC 3) [.mk 2 0 [], tV 1, tV 2, tV 3]] (by simp) (oV 2 (by omega)) ⟨by simp, by intro x hx; simp at hx; rcases hx with rfl | rfl; exact oV _ (by omega); exact sp_okT _ _ oC o4.2⟩
  have hk := keepTerm_ok want13
  have hw : spT (tV 2) [tV 3, spT (tC 3) [.mk 2 0 [], tV 1, tV 2, tV 3]] = want13 := rfl
  rw [hw] at hR
  generalize want13 = W at *
  generalize spT (tC 3) [.mk 2 0 [], tV 1, tV 2, tV 3] = X at *
  simp only [declC, cBl, eBl, cT, tC, tV, eTs, List.map_cons, List.map_nil, eT_eq, tk, tn, tks, List.cons_append, List.nil_append] at hE hv hu hc hN hS hR hk
  simp -dsimp [x_porismlaw13_wakes]
  refine call_of hN ?_
  simp -dsimp
  refine call_of hu ?_
  simp -dsimp
  refine call_of (hv 1) ?_
  simp -dsimp
  refine call_of (hv 2) ?_
  simp -dsimp
  refine call_of (hv 3) ?_
  simp -dsimp
  refine call_of hE ?_
  simp -dsimp
  refine call_of (hv 2) ?_
  simp -dsimp
  refine call_of (hv 3) ?_
  simp -dsimp
  refine call_of hc ?_
  simp -dsimp
  refine call_of (hv 1) ?_
  simp -dsimp
  refine call_of (hv 2) ?_
  simp -dsimp
  refine call_of (hv 3) ?_
  simp -dsimp
  refine call_of hS ?_
  simp -dsimp
  refine call_of hR ?_
  simp -dsimp
  refine call_of hk ?_
  simp -dsimp
theorem mkL_plain (b : Bl) (base : Int) (ars : List Ar) (mo me args : List T) (n : Nat) (h1 : n ≤ ars.length) (h2 : n ≤ args.length) (h : ∀ a ∈ ars.take n, a.rc = false) : mkL b base ars mo me args n = (0, args.take n) := by
  induction n with
  | zero => simp [mkL]
  | succ n ih =>
    have ha : ars[n]? = some ars[n] := List.getElem?_eq_getElem (by omega)
    have ht : args[n]? = some args[n] := List.getElem?_eq_getElem (by omega)
    have hr : ars[n].rc = false := h _ (by rw [List.take_add_one, ha]; exact List.mem_append_right _ (List.mem_singleton.2 rfl))
    rw [mkL_next ha ht, hr, if_neg (by simp), ih (by omega) (by omega) fun a hm => h a (by rw [List.take_add_one]; exact List.mem_append_left _ hm), List.take_add_one, ht]
    rfl
theorem elimE_zero {b : Bl} {base c : Int} {mo me args : List T} (h : elimE b base c mo me args = 0) : checkB b = 0 ∧ 0 ≤ c ∧ ∃ co, b.cons[c.toNat]? = some co ∧ elimB b base c co mo me args ∧ firstE (mo ++ (me ++ args)) = 0 ∧ makeE b base co (me.getD c.toNat zT) mo me args = 0 ∧
    elimT b base c mo me args = spT (me.getD c.toNat zT) (mkL b base co.args mo me args co.args.length).2 ∧ (mkL b base co.args mo me args co.args.length).1 = 0 := by
  have h0 := h
  rw [elimE] at h
  split at h
  case isFalse => rename_i h1; exact (h1 h).elim
  rename_i h1
  split at h
  case isTrue => omega
  rename_i h2
  split at h
  case h_2 => omega
  rename_i co hco
  split at h
  case isFalse => omega
  rename_i h3
  split at h
  case isFalse => rename_i h4; exact (h4 h).elim
  rename_i h4
  refine ⟨h1, by omega, co, hco, h3, h4, h, ?_, ?_⟩
  · rw [elimT, if_pos h0, hco]
    show makeT b base co (me.getD c.toNat zT) mo me args = _
    rw [makeT, if_pos h]
  · rw [makeE] at h
    split at h
    · assumption
    · rename_i hne; exact (hne h).elim
theorem list_fine {l : List T} (hb : (l.map nodes).sum ≤ 1048576) (h : heavy02 l = false) : l.length ≤ 60 ∧ ∀ x ∈ l, nodes x ≤ 9000 := by
  obtain ⟨h1, _, h2⟩ := heavy_no hb h
  exact ⟨h1, fun x hx => Nat.le_trans (sum_mem (List.mem_map.2 ⟨x, hx, rfl⟩)) h2⟩
theorem plain13_law (b : Bl) (ob : okBl b) (hb : bulk (eBl b) ≤ 1048576) (base k : Int) (mo me args : List T) (omo : okTs mo) (bmo : (mo.map nodes).sum ≤ 1048576) (ome : okTs me) (bme : (me.map nodes).sum ≤ 1048576) (oar : okTs args) (bar : (args.map nodes).sum ≤ 1048576) :
    Pure Try.prog n_porismlaw13_CompPlain [eBl b, .int .i64 base, .int .i64 k, eTs mo, eTs me, eTs args] [.bool true] := by
  refine p_porismlaw13_CompPlain rfl fun hs => ?_
  have hH := heavy07_ok b
  have hSh := shape7_ok b
  have hw := wakes13_ok
  have g1 := heavy02_ok mo
  have g2 := heavy02_ok me
  have g3 := heavy02_ok args
  simp only [eBl, cBl, eTs] at hH hSh g1 g2 g3
  simp -dsimp [x_porismlaw13_CompPlain, eBl, cBl, eTs]
  refine call_of hH ?_
  simp -dsimp
  (first | refine Ask_b ?_ ?_ | refine Cnd_b ?_ ?_) <;> intro h1 <;> (try simp only [decide_eq_true_eq, decide_eq_false_iff_not, beq_iff_eq, beq_eq_false_iff_ne, bne_iff_ne, bne_eq_false_iff_eq, Bool.not_eq_true', Bool.not_eq_false', Bool.and_eq_true, Bool.or_eq_true, Bool.and_eq_false_iff, Bool.or_eq_false_iff] at h1) <;> simp -dsimp [h1]
  refine call_of g1 ?_
  simp -dsimp [h1]
  (first | refine Ask_b ?_ ?_ | refine Cnd_b ?_ ?_) <;> intro h2 <;> (try simp only [decide_eq_true_eq, decide_eq_false_iff_not, beq_iff_eq, beq_eq_false_iff_ne, bne_iff_ne, bne_eq_false_iff_eq, Bool.not_eq_true', Bool.not_eq_false', Bool.and_eq_true, Bool.or_eq_true, Bool.and_eq_false_iff, Bool.or_eq_false_iff] at h2) <;> simp -dsimp [h2, h1]
  refine call_of g2 ?_
  simp -dsimp [h1, h2]
  (first | refine Ask_b ?_ ?_ | refine Cnd_b ?_ ?_) <;> intro h3 <;> (try simp only [decide_eq_true_eq, decide_eq_false_iff_not, beq_iff_eq, beq_eq_false_iff_ne, bne_iff_ne, bne_eq_false_iff_eq, Bool.not_eq_true', Bool.not_eq_false', Bool.and_eq_true, Bool.or_eq_true, Bool.and_eq_false_iff, Bool.or_eq_false_iff] at h3) <;> simp -dsimp [h3, h1, h2]
  refine call_of g3 ?_
  simp -dsimp [h1, h2, h3]
  (first | refine Ask_b ?_ ?_ | refine Cnd_b ?_ ?_) <;> intro h4 <;> (try simp only [decide_eq_true_eq, decide_eq_false_iff_not, beq_iff_eq, beq_eq_false_iff_ne, bne_iff_ne, bne_eq_false_iff_eq, Bool.not_eq_true', Bool.not_eq_false', Bool.and_eq_true, Bool.or_eq_true, Bool.and_eq_false_iff, Bool.or_eq_false_iff] at h4) <;> simp -dsimp [h4, h1, h2, h3]
  refine call_of hSh ?_
  simp -dsimp [h1, h2, h3, h4]
  by_cases h5 : shapeR b = true
  case neg =>
    have h5' : shapeR b = false := by simpa using h5
    simp -dsimp [h1, h2, h3, h4, h5']
  have hf := fit_of h1
  have fb := fine_of hb h1
  have hfs := hf.s
  have hfc := hf.c
  have hz : checkB b = 0 := shapeR_iff.1 h5
  obtain ⟨z1, z4, z8, zl, zs, zc⟩ := (checkB_zero b).1 hz
  obtain ⟨lmo, fmo⟩ := list_fine bmo h2
  obtain ⟨lme, fme⟩ := list_fine bme h3
  obtain ⟨lar, far⟩ := list_fine bar h4
  by_cases hn0 : b.cons = []
  case pos => simp -dsimp [h1, h2, h3, h4, h5, hn0, eCos]
  have hn1 : 0 < b.cons.length := List.length_pos_iff.2 hn0
  have q2 : IntKind.u64.wrap (b.cons.length : Int) = (b.cons.length : Int) := u64_id (by omega) (by omega)
  have z2 : ¬((b.cons.length : Int) = 0) := by omega
  simp -dsimp [h1, h2, h3, h4, h5, q2, z2, hn0, eCos]
  obtain ⟨B0, B1⟩ := rem_le base 1000 (by omega) (by omega)
  obtain ⟨K0, K1⟩ := rem_le k (b.cons.length : Int) (by omega) (by omega)
  generalize IntKind.i64.wrap ((IntKind.u64.wrap base).tmod 1000) = B at B0 B1 ⊢
  generalize IntKind.i64.wrap ((IntKind.u64.wrap k).tmod (b.cons.length : Int)) = K at K0 K1 ⊢
  have hlt : K.toNat < b.cons.length := by omega
  have hget : b.cons[K.toNat]? = some b.cons[K.toNat] := List.getElem?_eq_getElem hlt
  have hE := elim_ok b fb ob B K mo me args fmo lmo fme lme far lar ome.2 oar.2
  generalize hsx : b.cons[K.toNat] = c at *
  have hcm : c ∈ b.cons := List.mem_of_getElem? hget
  have hca := (fb.cons c hcm).args.1
  have hkt0 := keepTerm_ok zT
  simp only [eBl, cBl, eTs, cT] at hE
  refine wp_upto c.args.length (fun i st => st.s 1 = .d (.int .i64 B) ∧ st.s 2 = .d (.int .i64 K) ∧ st.s 3 = .d (eTs mo) ∧ st.s 4 = .d (eTs me) ∧ st.s 5 = .d (eTs args) ∧ st.s 6 = .ptr 6 1 0 ∧ st.s 13 = .d (.int .i64 i) ∧
    st.h 6 = ⟨1, .box [.d (eSos b.sorts), .d (eCos b.cons), .d (.int .i64 b.elim)] false⟩ ∧ ∀ a ∈ c.args.take i, a.rc = false) ?_ ?_
  · simp -dsimp [eTs, eCos]
  · rintro i ⟨s, hp⟩ hi ⟨e1, e2, e3, e4, e5, e6, e13, k6, hrc⟩
    dsimp only at e1 e2 e3 e4 e5 e6 e13 k6
    simp only [eTs] at e3 e4 e5
    rcases Nat.lt_or_ge i c.args.length with hlt | hge
    · have w1 : IntKind.i64.wrap ((i : Int) + 1) = (i : Int) + 1 := wrap_id (by omega) (by omega)
      have hnx : c.args.take (i + 1) = c.args.take i ++ [c.args[i]] := by rw [List.take_add_one, List.getElem?_eq_getElem hlt]; rfl
      generalize hAe : c.args[i] = A at *
      simp -dsimp [e1, e2, e3, e4, e5, e6, e13, k6, eCos, K0, hget, eCo, cCo, eArs, hlt, hAe, eAr, cAr, cT]
      cases hA : A.rc with
      | true => simp -dsimp [hA]
      | false =>
        simp -dsimp [e1, e2, e3, e4, e5, e6, e13, k6, eCos, K0, hget, eCo, cCo, eArs, hlt, hAe, eAr, cAr, cT, hA, w1, eTs]
        intro a ha
        rw [hnx, List.mem_append, List.mem_singleton] at ha
        rcases ha with ha | rfl
        · exact hrc a ha
        · exact hA
    · have e : i = c.args.length := by omega
      subst e
      rw [List.take_length] at hrc
      simp -dsimp [e1, e2, e3, e4, e5, e6, e13, k6, eCos, eSos, K0, hget, eCo, cCo, eArs]
      simp only [eCos, eSos] at hE
      refine call_of hE ?_
      by_cases hE0 : elimE b B K mo me args = 0
      · obtain ⟨_, _, co, hco, hB, _, _, hT, _⟩ := elimE_zero hE0
        rw [hget] at hco
        cases hco
        have hmk := mkL_plain b B c.args mo me args c.args.length (Nat.le_refl _) (by have := hB.1; omega) (by rw [List.take_length]; exact hrc)
        rw [hmk] at hT
        simp only at hT
        rw [List.take_of_length_le (by have := hB.1; omega)] at hT
        have hkl : K.toNat < me.length := by have := hB.2.2.1; omega
        have hmg : me.getD K.toNat zT = me[K.toNat] := by rw [List.getD_eq_getElem?_getD, List.getElem?_eq_getElem hkl]; rfl
        rw [hmg] at hT
        have om := ome.2 me[K.toNat] (List.getElem_mem _)
        generalize hMe : me[K.toNat] = m at *
        have hS := rspine_ok m args (by omega) om oar
        have hk := keepTerm_ok (spT m args)
        have hlt2 : K < me.length := by omega
        rw [hT]
        simp only [cT, eTs] at hS hk
        simp -dsimp [e1, e2, e3, e4, e5, e6, e13, k6, hE0, K0, hlt2, hkl, hMe, eT_eq, cT]
        refine call_of hS ?_
        simp -dsimp
        refine call_of hk ?_
        simp -dsimp
        refine call_of hw ?_
        simp -dsimp
      · have hT : elimT b B K mo me args = zT := by rw [elimT, if_neg hE0]
        rw [hT]
        simp only [cT, zT, tk, tn, tks, List.map_nil] at hkt0
        simp -dsimp [e1, e2, e3, e4, e5, e6, e13, k6, hE0, cT, zT]
        refine call_of hkt0 ?_
        simp -dsimp
        refine call_of hw ?_
        simp -dsimp
end
end Ev
end Go.Proofs.Ytomlkbohcoinoaa
