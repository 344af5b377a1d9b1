/- CompScopes. -/
import Derived.Test.YtomlkbohcoinoaaC4
namespace Go.Proofs.Ytomlkbohcoinoaa
namespace Ev
open Go
set_option maxRecDepth 100000
set_option linter.unusedSimpArgs false
set_option linter.unusedVariables false
attribute [local simp ↓] wx_skip wx_region wx_seq wx_block wx_exit wx_ret wx_cond wx_loop wo_nil wo_run wo_ask wx_draw wt_nil wt_run_t wt_run_f wt_ask_t wt_ask_f rb_mv rb_nilrow rb_pick rb_alloc rb_box rb_load rb_store rb_nilck rb_bin rb_binb rb_un rb_conv rb_mkf rb_mks rb_slice rb_faddr rb_fld rb_iaddr rb_ext rb_len rb_app rb_mm rb_build rb_bslice run_callC upd_eq upd_ne
attribute [local simp] runB_some runB_none Tch_nil Tch_cons Chk_t Cnd_t Cnd_f Ask_tt Ask_ff Ask_tf Ask_ft Ask_skip act ev_t ev_c evs sks caps2 touch_call List.cons_append List.nil_append putS binI binB int_add int_sub int_mul int_quo int_rem int_or int_eql int_neq int_lss int_leq int_gtr int_geq shiftD Ex.then Ex.inBlock Ends resL resX allD toD_d toD_fsl sk_d sk_fsl none_ loadA cut wrapA wrapD avc_d avc_agg avc_fsl avc_rsl avc_ptr avc_eptr avc_clo dc_agg dc_int dc_bool dc_str dc_sl dc_nilp dc_rp dc_clo on_int on_bool on_str on_sl on_nilp on_rp on_clo on_fsl on_rsl on_ptr on_eptr on_cloA newE elemsA elemsS storeA put frz_nil deep callee resA initS touchOp fits compat rd wr key1 buildA partsD partsK idx frz_at Body.frz lk_hit lk_miss toD6_agg toD5_agg toD4_agg toD6_clo toD5_clo toD4_clo toD6_ptr toD5_ptr toD4_ptr sk6_agg sk5_agg sk4_agg sk6_clo sk5_clo sk4_clo sk6_ptr sk5_ptr sk4_ptr toD_rsl sk_rsl resK EndsP EndsMP fitVs fitCs fitC keysV keysC keyC cellsA1 skVs skCs skC1 resO tupA valsV cellsV oneV rowsV rowsC RV.cells nk rowsH_one rowsH_two rowsH_none
section
attribute [local simp] allD_map_d sks_map_d tk tn tks initA EndsM one_sos one_cos one_ars one_ts
theorem all13_ok (l : List T) (v : Int) (hl : l.length ≤ 1000000) : Pure Try.prog n_porismlaw13_all [eTs l, .int .i64 v] [.bool (l.all fun t => rscopeM t v 65536)] := by
  refine p_porismlaw13_all rfl fun hs => ?_
  simp -dsimp [x_porismlaw13_all, eTs]
  refine wp_upto l.length (fun i st => st.s 0 = .d (eTs l) ∧ st.s 1 = .d (.int .i64 v) ∧ st.s 5 = .d (.int .i64 i) ∧ ∀ x ∈ l.take i, rscopeM x v 65536 = true) ?_ ?_
  · simp -dsimp [eTs]
  · rintro i ⟨s, hp⟩ hi ⟨g0, g1, g5, g⟩
    dsimp only at g0 g1 g5
    simp only [eTs] at g0
    rcases Nat.lt_or_ge i l.length with hlt | hge
    · have w1 : IntKind.i64.wrap ((i : Int) + 1) = (i : Int) + 1 := wrap_id (by omega) (by omega)
      have hnx : l.take (i + 1) = l.take i ++ [l[i]] := by rw [List.take_add_one, List.getElem?_eq_getElem hlt]; rfl
      have hR := rscope_ok l[i] v 65536
      have hmem := List.getElem_mem hlt
      generalize hX : l[i] = X at *
      simp only [cT] at hR
      simp -dsimp [g0, g1, g5, hlt, hX, cT]
      refine call_of hR ?_
      cases hr : rscopeM X v 65536 with
      | true =>
        simp -dsimp [g0, g1, g5, hlt, hX, cT, hr, w1, eTs]
        intro x hx
        rw [hnx, List.mem_append, List.mem_singleton] at hx
        rcases hx with hx | rfl
        · exact g x hx
        · exact hr
      | false =>
        have hz : (l.all fun t => rscopeM t v 65536) = false := List.all_eq_false.2 ⟨X, hmem, by simp [hr]⟩
        simp -dsimp [g0, g1, g5, hlt, hX, cT, hr, hz]
    · have e : i = l.length := by omega
      subst e
      rw [List.take_length] at g
      have hz : (l.all fun t => rscopeM t v 65536) = true := List.all_eq_true.2 g
      simp -dsimp [g0, g1, g5, hz]
theorem right_of {l : List T} {v : Int} (h0 : 0 ≤ v) (hv : v ≤ 100) (hn : ∀ x ∈ l, nodes x ≤ 9000) (h : (l.all fun t => rscopeM t v 65536) = true) : Right v l := by
  have hh : ∀ x ∈ l, checkM x = 0 ∧ wiT x v 65536 = true := fun x hx => by
    have := List.all_eq_true.1 h x hx
    rw [rscope_is (by omega)] at this
    exact (scope_is h0 (by omega) (by have := hn x hx; omega)).1 this
  exact ⟨fun x hx => (hh x hx).1, hn, fun x hx => (hh x hx).2⟩
theorem scopes13_law (b : Bl) (ob : okBl b) (hb : bulk (eBl b) ≤ 1048576) (base k v : Int) (mo me args : List T) (omo : okTs mo) (bmo : (mo.map nodes).sum ≤ 1048576) (ome : okTs me) (bme : (me.map nodes).sum ≤ 1048576) (oar : okTs args) (bar : (args.map nodes).sum ≤ 1048576) :
    Pure Try.prog n_porismlaw13_CompScopes [eBl b, .int .i64 base, .int .i64 k, .int .i64 v, eTs mo, eTs me, eTs args] [.bool true] := by
  refine p_porismlaw13_CompScopes rfl fun hs => ?_
  have hH := heavy07_ok b
  have hSh := shape7_ok b
  have hw := wakes13_ok
  have g1 := heavy02_ok mo
  have g2 := heavy02_ok me
  have g3 := heavy02_ok args
  simp only [eBl, cBl, eTs] at hH hSh g1 g2 g3
  simp -dsimp [x_porismlaw13_CompScopes, eBl, cBl, eTs]
  refine call_of hH ?_
  simp -dsimp
  (first | refine Ask_b ?_ ?_ | refine Cnd_b ?_ ?_) <;> intro h1 <;> (try simp only [decide_eq_true_eq, decide_eq_false_iff_not, beq_iff_eq, beq_eq_false_iff_ne, bne_iff_ne, bne_eq_false_iff_eq, Bool.not_eq_true', Bool.not_eq_false', Bool.and_eq_true, Bool.or_eq_true, Bool.and_eq_false_iff, Bool.or_eq_false_iff] at h1) <;> simp -dsimp [h1]
  refine call_of g1 ?_
  simp -dsimp [h1]
  (first | refine Ask_b ?_ ?_ | refine Cnd_b ?_ ?_) <;> intro h2 <;> (try simp only [decide_eq_true_eq, decide_eq_false_iff_not, beq_iff_eq, beq_eq_false_iff_ne, bne_iff_ne, bne_eq_false_iff_eq, Bool.not_eq_true', Bool.not_eq_false', Bool.and_eq_true, Bool.or_eq_true, Bool.and_eq_false_iff, Bool.or_eq_false_iff] at h2) <;> simp -dsimp [h2, h1]
  refine call_of g2 ?_
  simp -dsimp [h1, h2]
  (first | refine Ask_b ?_ ?_ | refine Cnd_b ?_ ?_) <;> intro h3 <;> (try simp only [decide_eq_true_eq, decide_eq_false_iff_not, beq_iff_eq, beq_eq_false_iff_ne, bne_iff_ne, bne_eq_false_iff_eq, Bool.not_eq_true', Bool.not_eq_false', Bool.and_eq_true, Bool.or_eq_true, Bool.and_eq_false_iff, Bool.or_eq_false_iff] at h3) <;> simp -dsimp [h3, h1, h2]
  refine call_of g3 ?_
  simp -dsimp [h1, h2, h3]
  (first | refine Ask_b ?_ ?_ | refine Cnd_b ?_ ?_) <;> intro h4 <;> (try simp only [decide_eq_true_eq, decide_eq_false_iff_not, beq_iff_eq, beq_eq_false_iff_ne, bne_iff_ne, bne_eq_false_iff_eq, Bool.not_eq_true', Bool.not_eq_false', Bool.and_eq_true, Bool.or_eq_true, Bool.and_eq_false_iff, Bool.or_eq_false_iff] at h4) <;> simp -dsimp [h4, h1, h2, h3]
  refine call_of hSh ?_
  simp -dsimp [h1, h2, h3, h4]
  by_cases h5 : shapeR b = true
  case neg =>
    have h5' : shapeR b = false := by simpa using h5
    simp -dsimp [h1, h2, h3, h4, h5']
  have hf := fit_of h1
  have fb := fine_of hb h1
  have hfs := hf.s
  have hfc := hf.c
  have hz : checkB b = 0 := shapeR_iff.1 h5
  obtain ⟨z1, z4, z8, zl, zs, zc⟩ := (checkB_zero b).1 hz
  obtain ⟨lmo, fmo⟩ := list_fine bmo h2
  obtain ⟨lme, fme⟩ := list_fine bme h3
  obtain ⟨lar, far⟩ := list_fine bar h4
  by_cases hn0 : b.cons = []
  case pos => simp -dsimp [h1, h2, h3, h4, h5, hn0, eCos]
  have hn1 : 0 < b.cons.length := List.length_pos_iff.2 hn0
  have q2 : IntKind.u64.wrap (b.cons.length : Int) = (b.cons.length : Int) := u64_id (by omega) (by omega)
  have z2 : ¬((b.cons.length : Int) = 0) := by omega
  simp -dsimp [h1, h2, h3, h4, h5, q2, z2, hn0, eCos]
  obtain ⟨B0, B1⟩ := rem_le base 1000 (by omega) (by omega)
  obtain ⟨V0, V1⟩ := rem_le v 20 (by omega) (by omega)
  obtain ⟨K0, K1⟩ := rem_le k (b.cons.length : Int) (by omega) (by omega)
  generalize IntKind.i64.wrap ((IntKind.u64.wrap base).tmod 1000) = B at B0 B1 ⊢
  generalize IntKind.i64.wrap ((IntKind.u64.wrap v).tmod 20) = V at V0 V1 ⊢
  generalize IntKind.i64.wrap ((IntKind.u64.wrap k).tmod (b.cons.length : Int)) = K at K0 K1 ⊢
  have hlt : K.toNat < b.cons.length := by omega
  have hget : b.cons[K.toNat]? = some b.cons[K.toNat] := List.getElem?_eq_getElem hlt
  have hE := elim_ok b fb ob B K mo me args fmo lmo fme lme far lar ome.2 oar.2
  generalize hsx : b.cons[K.toNat] = c at *
  have hcm : c ∈ b.cons := List.mem_of_getElem? hget
  have hca := (fb.cons c hcm).args.1
  by_cases a1 : (mo.length : Int) = b.sorts.length
  case neg => simp -dsimp [eSos, eCos, a1]
  by_cases a2 : (me.length : Int) = b.cons.length
  case neg => simp -dsimp [eSos, eCos, a1, a2]
  by_cases a3 : (args.length : Int) = c.args.length
  case neg => simp -dsimp [eSos, eCos, a1, a2, a3, K0, hlt, hsx, eCo, cCo, eArs]
  have k1 := all13_ok mo V (by omega)
  have k2 := all13_ok me V (by omega)
  have k3 := all13_ok args V (by omega)
  simp only [eTs] at k1 k2 k3
  simp -dsimp [eSos, eCos, a1, a2, a3, K0, hlt, hsx, eCo, cCo, eArs]
  refine call_of k1 ?_
  cases b1 : (mo.all fun t => rscopeM t V 65536) with
  | false => simp -dsimp [b1]
  | true =>
  simp -dsimp [b1]
  refine call_of k2 ?_
  cases b2 : (me.all fun t => rscopeM t V 65536) with
  | false => simp -dsimp [b2]
  | true =>
  simp -dsimp [b2]
  refine call_of k3 ?_
  cases b3 : (args.all fun t => rscopeM t V 65536) with
  | false => simp -dsimp [b3]
  | true =>
  have rmo := right_of V0 (by omega) fmo b1
  have rme := right_of V0 (by omega) fme b2
  have rar := right_of V0 (by omega) far b3
  obtain ⟨e45, eL⟩ := elim_wi fb hf hz B0 (by omega : B ≤ 60000) K0 hget (V := V) ⟨V0, by omega⟩ (by omega) (by omega) (by omega) rmo rme rar
  simp only [eBl, cBl, eTs, cT] at hE
  simp -dsimp [b3]
  simp only [eCos, eSos] at hE
  refine call_of hE ?_
  by_cases hE0 : elimE b B K mo me args = 0
  case neg =>
    rcases e45 with e | e | e
    · exact (hE0 e).elim
    · simp -dsimp [e]
      refine call_of hw ?_
      simp -dsimp
    · simp -dsimp [e]
      refine call_of hw ?_
      simp -dsimp
  obtain ⟨L, hT, lL, oL, hC, hN, hW⟩ := eL hE0
  have hkl : K.toNat < me.length := by omega
  have hmg : me.getD K.toNat zT = me[K.toNat] := by rw [List.getD_eq_getElem?_getD, List.getElem?_eq_getElem hkl]; rfl
  rw [hmg] at hT hC hN hW
  have om := ome.2 me[K.toNat] (List.getElem_mem _)
  have nm := fme me[K.toNat] (List.getElem_mem _)
  generalize hMe : me[K.toNat] = m at *
  rw [hT]
  simp -dsimp [hE0]
  have hrl := recs_le c.args
  refine wp_upto args.length (fun i st => st.s 2 = .d (.int .i64 K) ∧ st.s 3 = .d (.int .i64 V) ∧ st.s 5 = .d (eTs me) ∧ st.s 6 = .d (eTs args) ∧ st.s 7 = .ptr 7 1 0 ∧ st.s 15 = .ptr 15 1 0 ∧ st.s 17 = .d (.int .i64 (args.length + recs (c.args.take i))) ∧ st.s 18 = .d (.int .i64 i) ∧
    st.h 7 = ⟨1, .box [.d (eSos b.sorts), .d (eCos b.cons), .d (.int .i64 b.elim)] false⟩ ∧
    st.h 15 = ⟨1, .box [.d (.int .i64 (spT m L).kind), .d (.int .i64 (spT m L).num), .d (.sl 3 ((spT m L).kids.map eT))] false⟩) ?_ ?_
  · simp -dsimp [eTs, recs, eSos, eCos]
  · rintro i ⟨s, hp⟩ hi ⟨e2, e3, e5, e6, e7, e15, e17, e18, k7, k15⟩
    dsimp only at e2 e3 e5 e6 e7 e15 e17 e18 k7 k15
    simp only [eTs] at e5 e6
    have hrt := recs_le (c.args.take i)
    rw [List.length_take] at hrt
    rcases Nat.lt_or_ge i args.length with hlt2 | hge
    · have hlt3 : i < c.args.length := by omega
      have w1 : IntKind.i64.wrap ((i : Int) + 1) = (i : Int) + 1 := wrap_id (by omega) (by omega)
      have hrs := recs_snoc c.args i c.args[i] (List.getElem?_eq_getElem hlt3)
      generalize hAe : c.args[i] = A at *
      have w2 : IntKind.i64.wrap ((args.length : Int) + recs (c.args.take i) + 1) = (args.length : Int) + recs (c.args.take i) + 1 := wrap_id (by omega) (by omega)
      simp -dsimp [e2, e3, e5, e6, e7, e15, e17, e18, k7, k15, hlt2, hlt3, hAe, eCos, K0, hlt, hsx, eCo, cCo, eArs, eAr, cAr, cT]
      cases hr : A.rc with
      | true =>
        rw [hr, if_pos rfl] at hrs
        simp -dsimp [e2, e3, e5, e6, e7, e15, e17, e18, k7, k15, hlt2, hlt3, hAe, eCos, K0, hlt, hsx, eCo, cCo, eArs, eAr, cAr, cT, hr, w1, w2, hrs, eTs]
        omega
      | false =>
        rw [hr, if_neg (by simp)] at hrs
        simp -dsimp [e2, e3, e5, e6, e7, e15, e17, e18, k7, k15, hlt2, hlt3, hAe, eCos, K0, hlt, hsx, eCo, cCo, eArs, eAr, cAr, cT, hr, w1, hrs, eTs]
    · have e : i = args.length := by omega
      subst e
      rw [List.take_of_length_le (by omega)] at e17
      have oX := sp_okT L m om oL
      have lS := spA_le m
      obtain ⟨p1, p2⟩ := sp_back L m
      have hU := (runspine_own (spT m L) oX (by rw [p1]; simp; omega)).pure
      have hV' := (runspine_own m om (by omega)).pure
      rw [p1, p2, List.reverse_append, List.reverse_reverse] at hU
      have hsl : L.length = args.length + recs c.args := lL
      have okS := scope_ok (spT m L) V 65536
      have hSc : scopeM (spT m L) V 65536 = true := by
        have e : scopeM (spT m L) V 65536 = if checkM (spT m L) = 0 then withinM (spT m L) V 65536 else false := by rw [scopeM, if_neg (by omega), if_neg (by omega), if_neg (show ¬65536 < V by omega)]
        have hn6 := ((check_iff2 (by omega)).1 hC).1
        rw [e, if_pos hC, within_is 65536 _ V V0 (by omega)]
        exact hW
      rw [hSc] at okS
      have hk1 := keepTerm_ok (spH m)
      have hk2 := keepTerms_ok (spA m).reverse
      generalize hR : (spA m).reverse = R at *
      have hRl : R.length ≤ 9000 := by rw [← hR, List.length_reverse]; omega
      have w3 : IntKind.i64.wrap ((args.length : Int) + recs c.args + R.length) = (args.length : Int) + recs c.args + R.length := wrap_id (by omega) (by omega)
      have hz2 : ((R.length : Int) + L.length) = (args.length : Int) + recs c.args + R.length := by omega
      simp only [cT, eTs, RV.data, RC.data, List.map_cons, List.map_nil] at hU hV' okS hk1 hk2
      simp -dsimp [e2, e3, e5, e6, e7, e15, e17, e18, k7, k15]
      refine call_of hU ?_
      simp -dsimp [e2, e3, e5, e6, e7, e15, e17, e18, k7, k15, hMe, hkl, K0, eT_eq, cT]
      refine call_of hV' ?_
      simp -dsimp [e2, e3, e5, e6, e7, e15, e17, e18, k7, k15]
      refine call_of okS ?_
      simp -dsimp [e2, e3, e5, e6, e7, e15, e17, e18, k7, k15]
      refine call_of hk1 ?_
      have hle : (R.length : Int) ≤ (args.length : Int) + recs c.args + R.length := by omega
      simp -dsimp [e2, e3, e5, e6, e7, e15, e17, e18, k7, k15, w3, hz2, hle]
      refine call_of hk2 ?_
      simp -dsimp
      refine call_of hw ?_
      simp -dsimp
end
end Ev
end Go.Proofs.Ytomlkbohcoinoaa
