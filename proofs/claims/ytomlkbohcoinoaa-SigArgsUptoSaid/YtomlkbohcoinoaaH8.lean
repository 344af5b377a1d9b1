/- SigArgs. -/
import Derived.Test.YtomlkbohcoinoaaH7
namespace Go.Proofs.Ytomlkbohcoinoaa
namespace Ev
open Go
set_option maxRecDepth 100000
set_option linter.unusedSimpArgs false
set_option linter.unusedVariables false
attribute [local simp ↓] wx_skip wx_region wx_seq wx_block wx_exit wx_ret wx_cond wx_loop wo_nil wo_run wo_ask wx_draw wt_nil wt_run_t wt_run_f wt_ask_t wt_ask_f rb_mv rb_nilrow rb_pick rb_alloc rb_box rb_load rb_store rb_nilck rb_bin rb_binb rb_un rb_conv rb_mkf rb_mks rb_slice rb_faddr rb_fld rb_iaddr rb_ext rb_len rb_app rb_mm rb_build rb_bslice run_callC upd_eq upd_ne
attribute [local simp] runB_some runB_none Tch_nil Tch_cons Chk_t Cnd_t Cnd_f Ask_tt Ask_ff Ask_tf Ask_ft Ask_skip act ev_t ev_c evs sks caps2 touch_call List.cons_append List.nil_append putS binI binB int_add int_sub int_mul int_quo int_rem int_or int_eql int_neq int_lss int_leq int_gtr int_geq shiftD Ex.then Ex.inBlock Ends resL resX allD toD_d toD_fsl sk_d sk_fsl none_ loadA cut wrapA wrapD avc_d avc_agg avc_fsl avc_rsl avc_ptr avc_eptr avc_clo dc_agg dc_int dc_bool dc_str dc_sl dc_nilp dc_rp dc_clo on_int on_bool on_str on_sl on_nilp on_rp on_clo on_fsl on_rsl on_ptr on_eptr on_cloA newE elemsA elemsS storeA put frz_nil deep callee resA initS touchOp fits compat rd wr key1 buildA partsD partsK idx frz_at Body.frz lk_hit lk_miss toD6_agg toD5_agg toD4_agg toD6_clo toD5_clo toD4_clo toD6_ptr toD5_ptr toD4_ptr sk6_agg sk5_agg sk4_agg sk6_clo sk5_clo sk4_clo sk6_ptr sk5_ptr sk4_ptr toD_rsl sk_rsl resK EndsP fitVs fitCs fitC keysV keysC keyC cellsA1 skVs skCs skC1 resO tupA valsV cellsV oneV rowsV rowsC RV.cells nk rowsH_one rowsH_two rowsH_none
attribute [local simp] allD_map_d sks_map_d tk tn tks one_sos one_cos one_ars one_ts

theorem arg_unpis {b : Bl} (base : Int) {a : Ar} (oa : okAr a) (fa : FineAr a) (hr : a.rc = true) :
    Pure Try.prog n_porismref01_Unpis [.agg (cT (argTy b base a))] [eTs a.dom, .agg (cT (spT (fmT b base a.sort) a.idx))] := by
  have hlen := fa.domL
  have e0 : argTy b base a = nestT 4 a.dom (spT (fmT b base a.sort) a.idx) := by rw [argTy, if_pos hr]
  have e := pi_back a.dom (spT (fmT b base a.sort) a.idx)
  have e2 := pi_head (sp_kind (fmT b base a.sort) a.idx (by show (3 : Int) ≠ 4; decide))
  rw [e2.1, e2.2, List.append_nil, ← e0] at e
  have h := runpis_ok (argTy b base a) (by rw [e.1]; omega) (by rw [e.2]; exact sp_okT _ _ (fmT_ok _ _ _) oa.idx.2) (by rw [e.1]; exact oa.dom)
  rw [e.1, e.2] at h
  exact h
theorem conM_rows {b : Bl} {c : Co} (h : conM b c = true) : rowM b c.args = true := by
  rw [conM] at h
  split at h
  · cases h
  · split at h
    · assumption
    · cases h

theorem args_law (b : Bl) (ob : okBl b) (hb : bulk (eBl b) ≤ 1048576) (base k : Int) : Pure Try.prog n_porismlaw10_SigArgs [eBl b, .int .i64 base, .int .i64 k] [.bool true] := by
  refine p_porismlaw10_SigArgs rfl fun hs => ?_
  have hH := heavy07_ok b
  have hSh := shape7_ok b
  simp only [eBl, cBl] at hH hSh
  simp -dsimp [x_porismlaw10_SigArgs, eBl, cBl]
  refine call_of hH ?_
  simp -dsimp
  (first | refine Ask_b ?_ ?_ | refine Cnd_b ?_ ?_) <;> intro h1 <;> (try simp only [decide_eq_true_eq, decide_eq_false_iff_not, beq_iff_eq, beq_eq_false_iff_ne, bne_iff_ne, bne_eq_false_iff_eq, Bool.not_eq_true', Bool.not_eq_false', Bool.and_eq_true, Bool.or_eq_true, Bool.and_eq_false_iff, Bool.or_eq_false_iff] at h1) <;> simp -dsimp [h1]
  refine call_of hSh ?_
  simp -dsimp [h1]
  by_cases h2 : shapeR b = true
  case neg =>
    have h2' : shapeR b = false := by simpa using h2
    simp -dsimp [h1, h2']
  have hf := fit_of h1
  have fb := fine_of hb h1
  have hfs := hf.s
  have hfc := hf.c
  have hz : checkB b = 0 := shapeR_iff.1 h2
  obtain ⟨z1, z4, z8, zl, zs, zc⟩ := (checkB_zero b).1 hz
  by_cases hn0 : b.cons = []
  case pos => simp -dsimp [h1, h2, hn0, eCos]
  have hn1 : 0 < b.cons.length := List.length_pos_iff.2 hn0
  have q2 : IntKind.u64.wrap (b.cons.length : Int) = (b.cons.length : Int) := u64_id (by omega) (by omega)
  have z2 : ¬((b.cons.length : Int) = 0) := by omega
  simp -dsimp [h1, h2, q2, z2, hn0, eCos]
  obtain ⟨B0, B1⟩ := rem_le base 1000 (by omega) (by omega)
  obtain ⟨K0, K1⟩ := rem_le k (b.cons.length : Int) (by omega) (by omega)
  generalize IntKind.i64.wrap ((IntKind.u64.wrap base).tmod 1000) = B at B0 B1 ⊢
  generalize IntKind.i64.wrap ((IntKind.u64.wrap k).tmod (b.cons.length : Int)) = K at K0 K1 ⊢
  have hlt : K.toNat < b.cons.length := by omega
  have hget : b.cons[K.toNat]? = some b.cons[K.toNat] := List.getElem?_eq_getElem hlt
  have hm := mayE_in (b := b) hz B0 (by omega) K0 K1
  have hC := conType_ok b ob fb B K
  have hcon := zc _ (List.getElem_mem hlt)
  generalize hsx : b.cons[K.toNat] = c at *
  have hcm : c ∈ b.cons := List.mem_of_getElem? hget
  obtain ⟨u1, u2, u3, u4, u5⟩ := ct_right hf B0 (by omega : B ≤ 60000) (fb.cons _ hcm) hcon
  have eE : ctE b B K = checkM (ctT b B c) := by rw [ctE, if_pos hm, hget]
  have eR : ctR b B K = rightT (ctT b B c) := by rw [ctR, rightT, eE, hget]
  rw [eE, eR] at hC
  by_cases hk : checkM (ctT b B c) = 0
  case neg =>
    have hor := ft_err hf B0 (by omega : B ≤ 60000) u3 u2 hk
    rw [show rightT (ctT b B c) = zT by rw [rightT, if_neg hk]] at hC
    simp only [eBl, cBl, eCos, cT, zT, tk, tn, tks, List.map_nil] at hC
    rcases hor with hor | hor
    · rw [hor] at hC
      refine call_of hC ?_
      simp -dsimp
      refine call_of wakes10_ok ?_
      simp -dsimp
    · rw [hor] at hC
      refine call_of hC ?_
      simp -dsimp
      refine call_of wakes10_ok ?_
      simp -dsimp
  rw [show rightT (ctT b B c) = ctT b B c by rw [rightT, if_pos hk], hk] at hC
  have hU := ct_unpis ob fb B hcm
  obtain ⟨As, hAs⟩ : ∃ As, As = c.args.map (argTy b B) := ⟨_, rfl⟩
  rw [← hAs] at hU
  have hAl : As.length = c.args.length := by rw [hAs, List.length_map]
  have hAi : ∀ (i : Nat) (h : i < c.args.length) (h' : i < As.length), As[i] = argTy b B c.args[i] := fun i h h' => by simp only [hAs, List.getElem_map]
  clear hAs
  have hargs := (ob.cons c hcm).args
  have hfargs := (fb.cons c hcm).args
  have hrow := (rowM_at (conM_rows hcon)).2
  have h20 : c.args.length ≤ 20 := hfargs.1
  generalize ctT b B c = F at hC hU
  generalize spT (fmT b B c.sort) c.idx = Sp at hU
  simp only [eBl, cBl, eCos, cT, eTs, tk, tn, tks, List.map_nil] at hC hU
  refine call_of hC ?_
  simp -dsimp
  refine call_of hU ?_
  simp -dsimp [K0, hget, eCo, cCo, eArs, cT, hAl]
  refine wp_upto c.args.length (fun i st => st.s 3 = .ptr 3 1 0 ∧ st.h 3 = ⟨1, .box [.d (eSos b.sorts), .d (.sl 6 (b.cons.map eCo)), .d (.int .i64 b.elim)] false⟩ ∧ st.s 1 = .d (.int .i64 B) ∧ st.s 2 = .d (.int .i64 K) ∧ st.s 9 = .d (.sl 3 (As.map eT)) ∧ st.s 11 = .d (.int .i64 i)) ?_ ?_
  · simp -dsimp
  · rintro i ⟨sl, hp⟩ hi ⟨g1, g2, g3, g4, g5, g6⟩
    dsimp only at g1 g2 g3 g4 g5 g6
    rcases Nat.lt_or_ge i c.args.length with hlt' | hge
    · have w1 : IntKind.i64.wrap ((i : Int) + 1) = (i : Int) + 1 := wrap_id (by omega) (by omega)
      have hlt2 : i < As.length := by omega
      have oa := hargs.2 _ (List.getElem_mem hlt')
      have fa := hfargs.2 _ (List.getElem_mem hlt')
      have ha := argType_ok b B c.args[i] oa fa
      have hkA := keepTerm_ok As[i]
      have hU2 : c.args[i].rc = true → Pure Try.prog n_porismref01_Unpis [.agg (cT As[i])] [eTs c.args[i].dom, .agg (cT (spT (fmT b B c.args[i].sort) c.args[i].idx))] := fun hr => by
        rw [hAi i hlt' hlt2]
        exact arg_unpis B oa fa hr
      have e0 : c.args[i].rc = false → As[i] = c.args[i].ty := fun hr => by rw [hAi i hlt' hlt2, argTy, hr]; rfl
      have hrec := fun hr => argM_rec (hrow i hlt') hr (by omega) (by omega)
      rw [← hAi i hlt' hlt2] at ha
      generalize hAe : As[i] = A at ha hkA hU2 e0
      generalize hae : c.args[i] = a at *
      simp only [eBl, cBl, eCos, cAr, cT, eTs, List.cons_append, List.nil_append] at ha hkA hU2
      simp -dsimp [g1, g2, g3, g4, g5, g6, hlt', hAl, hAe, hae, K0, hget, eCo, cCo, eArs, eAr, cAr, cT, eTs]
      refine call_of ha ?_
      simp -dsimp [g1, g2, g3, g4, g5, g6, hlt', hAl, hAe, hae, hlt2, cT]
      refine call_of hkA ?_
      by_cases hr : a.rc = true
      · obtain ⟨_, s0, s1, _, _, _, _⟩ := hrec hr
        have hU3 := hU2 hr
        have hUs := sp_unspine (fmT b B a.sort) a.idx (by show (3 : Int) ≠ 6; decide) (fmT_ok _ _ _) oa.idx (by have := fa.idxL; omega)
        rw [fmT_is hf B0 (by omega : B ≤ 60000) s0 s1] at hU3 hUs
        have wB : IntKind.i64.wrap (B + a.sort) = B + a.sort := wrap_id (by omega) (by omega)
        have k1 := keepTerms_ok a.dom
        have k2 := keepTerms_ok a.idx
        generalize spT (tC (B + a.sort)) a.idx = Sp2 at hU3 hUs
        simp only [cT, eTs, tC, tk, tn, tks, List.map_nil] at hU3 hUs k1 k2
        simp -dsimp [g1, g2, g3, g4, g5, g6, hlt', hAl, hAe, hae, hr]
        refine call_of hU3 ?_
        simp -dsimp [g1, g2, g3, g4, g5, g6, hlt', hAl, hAe, hae, hr]
        refine callO_of hUs (by simp [rowsV, rowsC, RV.cells]) ?_
        simp -dsimp [g1, g2, g3, g4, g5, g6, hlt', hAl, hAe, hae, hr]
        refine call_of k1 ?_
        simp -dsimp [g1, g2, g3, g4, g5, g6, hlt', hAl, hAe, hae, hr, wB]
        refine call_of k2 ?_
        simp -dsimp [g1, g2, g3, g4, g5, g6, hlt', hAl, hAe, hae, hr, w1]
      · have hr' : a.rc = false := by simpa using hr
        have e1 := e0 hr'
        subst e1
        simp -dsimp [g1, g2, g3, g4, g5, g6, hlt', hAl, hAe, hae, hr']
        refine call_of hkA ?_
        simp -dsimp [g1, g2, g3, g4, g5, g6, hlt', hAl, hAe, hae, hr', w1]
    · have e : i = c.args.length := by omega
      subst e
      simp -dsimp [g1, g2, g3, g4, g5, g6, hAl]
      refine call_of wakes10_ok ?_
      simp -dsimp
end Ev
end Go.Proofs.Ytomlkbohcoinoaa
