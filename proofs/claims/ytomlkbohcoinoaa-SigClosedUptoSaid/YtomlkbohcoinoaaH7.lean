/- SigClosed. -/
import Derived.Test.YtomlkbohcoinoaaH6
namespace Go.Proofs.Ytomlkbohcoinoaa
namespace Ev
open Go
set_option maxRecDepth 100000
set_option linter.unusedSimpArgs false
set_option linter.unusedVariables false
attribute [local simp ↓] wx_skip wx_region wx_seq wx_block wx_exit wx_ret wx_cond wx_loop wo_nil wo_run wo_ask wx_draw wt_nil wt_run_t wt_run_f wt_ask_t wt_ask_f rb_mv rb_nilrow rb_pick rb_alloc rb_box rb_load rb_store rb_nilck rb_bin rb_binb rb_un rb_conv rb_mkf rb_mks rb_slice rb_faddr rb_fld rb_iaddr rb_ext rb_len rb_app rb_mm rb_build rb_bslice run_callC upd_eq upd_ne
attribute [local simp] runB_some runB_none Tch_nil Tch_cons Chk_t Cnd_t Cnd_f Ask_tt Ask_ff Ask_tf Ask_ft Ask_skip act ev_t ev_c evs sks caps2 touch_call List.cons_append List.nil_append putS binI binB int_add int_sub int_mul int_quo int_rem int_or int_eql int_neq int_lss int_leq int_gtr int_geq shiftD Ex.then Ex.inBlock Ends resL resX allD toD_d toD_fsl sk_d sk_fsl none_ loadA cut wrapA wrapD avc_d avc_agg avc_fsl avc_rsl avc_ptr avc_eptr avc_clo dc_agg dc_int dc_bool dc_str dc_sl dc_nilp dc_rp dc_clo on_int on_bool on_str on_sl on_nilp on_rp on_clo on_fsl on_rsl on_ptr on_eptr on_cloA newE elemsA elemsS storeA put frz_nil deep callee resA initS touchOp fits compat rd wr key1 buildA partsD partsK idx frz_at Body.frz lk_hit lk_miss toD6_agg toD5_agg toD4_agg toD6_clo toD5_clo toD4_clo toD6_ptr toD5_ptr toD4_ptr sk6_agg sk5_agg sk4_agg sk6_clo sk5_clo sk4_clo sk6_ptr sk5_ptr sk4_ptr toD_rsl sk_rsl resK EndsP fitVs fitCs fitC keysV keysC keyC cellsA1 skVs skCs skC1 resO tupA valsV cellsV oneV rowsV rowsC RV.cells nk rowsH_one rowsH_two rowsH_none
attribute [local simp] allD_map_d sks_map_d tk tn tks one_sos one_cos one_ars one_ts

theorem sp_kind (f : T) (l : List T) (h : f.kind ≠ 4) : (spT f l).kind ≠ 4 := by
  induction l generalizing f with
  | nil => exact h
  | cons a l ih => exact ih (.mk 6 0 [f, a]) (by show (6 : Int) ≠ 4; decide)
theorem okT_level {n : Int} (h : 0 ≤ n ∧ n ≤ 6) : okT (.mk 2 n []) := okT_leaf (by omega) (by omega)
/-- What comes of a former's type. -/
theorem ft_unpis {b : Bl} (ob : okBl b) (fb : FineBl b) (base : Int) {s : So} (hs : s ∈ b.sorts) (hl : levelM s.level = true) :
    Pure Try.prog n_porismref01_Unpis [.agg (cT (ftT b base s))] [eTs (s.idx.map (argTy b base)), .agg (cT (.mk 2 s.level []))] := by
  have hlen := (fb.sorts s hs).idx.1
  have e := pi_back (s.idx.map (argTy b base)) (.mk 2 s.level [])
  have e2 : piD (.mk 2 s.level []) = [] ∧ piB (.mk 2 s.level []) = .mk 2 s.level [] := pi_head (by show (2 : Int) ≠ 4; decide)
  rw [e2.1, e2.2, List.append_nil] at e
  have h := runpis_ok (ftT b base s) (by rw [ftT, e.1]; simp; omega) (by rw [ftT, e.2]; exact okT_level (level_is hl)) (by rw [ftT, e.1]; exact args_okTs b base (ob.sorts s hs).idx (fb.sorts s hs).idx)
  rw [show piD (ftT b base s) = s.idx.map (argTy b base) from e.1, show piB (ftT b base s) = .mk 2 s.level [] from e.2] at h
  exact h
theorem ct_unpis {b : Bl} (ob : okBl b) (fb : FineBl b) (base : Int) {c : Co} (hc : c ∈ b.cons) :
    Pure Try.prog n_porismref01_Unpis [.agg (cT (ctT b base c))] [eTs (c.args.map (argTy b base)), .agg (cT (spT (fmT b base c.sort) c.idx))] := by
  have hlen := (fb.cons c hc).args.1
  have e := pi_back (c.args.map (argTy b base)) (spT (fmT b base c.sort) c.idx)
  have e2 := pi_head (sp_kind (fmT b base c.sort) c.idx (by show (3 : Int) ≠ 4; decide))
  rw [e2.1, e2.2, List.append_nil] at e
  have h := runpis_ok (ctT b base c) (by rw [ctT, e.1]; simp; omega) (by rw [ctT, e.2]; exact sp_okT _ _ (fmT_ok _ _ _) (ob.cons c hc).idx.2) (by rw [ctT, e.1]; exact args_okTs b base (ob.cons c hc).args (fb.cons c hc).args)
  rw [show piD (ctT b base c) = c.args.map (argTy b base) from e.1, show piB (ctT b base c) = spT (fmT b base c.sort) c.idx from e.2] at h
  exact h
theorem sp_unspine (f : T) (l : List T) (h6 : f.kind ≠ 6) (hf : okT f) (hl : okTs l) (hb : l.length ≤ 1000) :
    OwnC Try.prog n_porismref01_Unspine [.agg (cT (spT f l))] [.agg [.d (.int .i64 f.kind), .d (.int .i64 f.num), .d (.sl 3 (f.kids.map eT))], .one (.row 3 (l.map eT) false)] := by
  have e := sp_back l f
  rw [(sp_head h6).1, (sp_head h6).2, List.append_nil] at e
  have h := runspine_own (spT f l) (sp_okT l f hf hl.2) (by rw [e.1]; simp; omega)
  rw [e.1, e.2, List.reverse_reverse] at h
  exact h
theorem mayE_in {b : Bl} {base k many : Int} (h : checkB b = 0) (h0 : 0 ≤ base) (h1 : base ≤ 60000) (k0 : 0 ≤ k) (k1 : k < many) : mayE b base k many = 0 := by
  rw [mayE, if_pos h, if_neg (by omega)]

theorem closed_law (b : Bl) (ob : okBl b) (hb : bulk (eBl b) ≤ 1048576) (base k : Int) : Pure Try.prog n_porismlaw10_SigClosed [eBl b, .int .i64 base, .int .i64 k] [.bool true] := by
  refine p_porismlaw10_SigClosed rfl fun hs => ?_
  have hH := heavy07_ok b
  have hSh := shape7_ok b
  simp only [eBl, cBl] at hH hSh
  simp -dsimp [x_porismlaw10_SigClosed, eBl, cBl]
  refine call_of hH ?_
  simp -dsimp
  (first | refine Ask_b ?_ ?_ | refine Cnd_b ?_ ?_) <;> intro h1 <;> (try simp only [decide_eq_true_eq, decide_eq_false_iff_not, beq_iff_eq, beq_eq_false_iff_ne, bne_iff_ne, bne_eq_false_iff_eq, Bool.not_eq_true', Bool.not_eq_false', Bool.and_eq_true, Bool.or_eq_true, Bool.and_eq_false_iff, Bool.or_eq_false_iff] at h1) <;> simp -dsimp [h1]
  refine call_of hSh ?_
  simp -dsimp [h1]
  by_cases h2 : shapeR b = true
  case neg =>
    have h2' : shapeR b = false := by simpa using h2
    simp -dsimp [h1, h2']
  have hf := fit_of h1
  have fb := fine_of hb h1
  have hfs := hf.s
  have hfc := hf.c
  have hz : checkB b = 0 := shapeR_iff.1 h2
  obtain ⟨z1, z4, z8, zl, zs, zc⟩ := (checkB_zero b).1 hz
  have q2 : IntKind.u64.wrap (b.sorts.length : Int) = (b.sorts.length : Int) := u64_id (by omega) (by omega)
  have z2 : ¬((b.sorts.length : Int) = 0) := by omega
  have z2' : ¬(b.sorts = []) := fun h => by rw [h] at z1; simp at z1
  simp -dsimp [h1, h2, q2, z2, z2', eSos]
  obtain ⟨B0, B1⟩ := rem_le base 1000 (by omega) (by omega)
  obtain ⟨K0, K1⟩ := rem_le k (b.sorts.length : Int) (by omega) (by omega)
  generalize IntKind.i64.wrap ((IntKind.u64.wrap base).tmod 1000) = B at B0 B1 ⊢
  generalize IntKind.i64.wrap ((IntKind.u64.wrap k).tmod (b.sorts.length : Int)) = K at K0 K1 ⊢
  have hlt : K.toNat < b.sorts.length := by omega
  have hget : b.sorts[K.toNat]? = some b.sorts[K.toNat] := List.getElem?_eq_getElem hlt
  have hm := mayE_in (b := b) hz B0 (by omega) K0 K1
  have hF := formerType_ok b ob fb B K
  have hD := decoderType_ok b ob fb B K
  have hSort := zs _ hlt
  generalize hsx : b.sorts[K.toNat] = s at *
  have hsm : s ∈ b.sorts := List.mem_of_getElem? hget
  obtain ⟨y1, y2, y3, y4⟩ := (sortM_true b K.toNat s).1 hSort
  obtain ⟨x1, x2, x3⟩ := ft_right hf B0 (by omega : B ≤ 60000) (fb.sorts s hsm) y1 y2
  have eE : ftE b B K = checkM (ftT b B s) := by rw [ftE, if_pos hm, hget]
  have eR : ftR b B K = rightT (ftT b B s) := by rw [ftR, rightT, eE, hget]
  rw [eE, eR] at hF
  by_cases hk : checkM (ftT b B s) = 0
  case neg =>
    have hor := ft_err hf B0 (by omega : B ≤ 60000) x3 x2 hk
    rw [show rightT (ftT b B s) = zT by rw [rightT, if_neg hk]] at hF
    simp only [eBl, cBl, eSos, cT, zT, tk, tn, tks, List.map_nil] at hF
    rcases hor with hor | hor
    · rw [hor] at hF
      refine call_of hF ?_
      simp -dsimp
      refine call_of wakes10_ok ?_
      simp -dsimp
    · rw [hor] at hF
      refine call_of hF ?_
      simp -dsimp
      refine call_of wakes10_ok ?_
      simp -dsimp
  rw [show rightT (ftT b B s) = ftT b B s by rw [rightT, if_pos hk], hk] at hF
  have hU := ft_unpis ob fb B hsm y2
  have hSc := scope_ok (ftT b B s) 0 65536
  rw [(scope_is2 (t := ftT b B s) (v := 0) (by omega) (by omega) (by omega)).2 ⟨hk, x1⟩] at hSc
  have hAl : (s.idx.map (argTy b B)).length = s.idx.length := List.length_map ..
  generalize ftT b B s = F at hF hU hSc
  generalize s.idx.map (argTy b B) = As at hU hAl
  simp only [eBl, cBl, eSos, cT, eTs, tk, tn, tks, List.map_nil] at hF hU hSc
  refine call_of hF ?_
  simp -dsimp
  refine call_of hU ?_
  simp -dsimp
  refine call_of hSc ?_
  simp -dsimp [K0, hget, eSo, cSo, eArs, cT, hAl]
  -- the constructors
  refine wp_upto b.cons.length (fun i st => st.s 3 = .ptr 3 1 0 ∧ st.h 3 = ⟨1, .box [.d (.sl 6 (b.sorts.map eSo)), .d (eCos b.cons), .d (.int .i64 b.elim)] false⟩ ∧ st.s 1 = .d (.int .i64 B) ∧ st.s 2 = .d (.int .i64 K) ∧ st.s 11 = .d (.int .i64 i)) ?_ ?_
  · simp -dsimp
  · rintro i ⟨sl, hp⟩ hi ⟨g1, g2, g3, g4, g5⟩
    dsimp only at g1 g2 g3 g4 g5
    rcases Nat.lt_or_ge i b.cons.length with hlt' | hge
    · have w1 : IntKind.i64.wrap ((i : Int) + 1) = (i : Int) + 1 := wrap_id (by omega) (by omega)
      have hC := conType_ok b ob fb B i
      have hmc := mayE_in (b := b) hz B0 (by omega) (show (0 : Int) ≤ (i : Int) by omega) (show (i : Int) < b.cons.length by omega)
      have hgc : b.cons[i]? = some b.cons[i] := List.getElem?_eq_getElem hlt'
      have hcm : b.cons[i] ∈ b.cons := List.getElem_mem _
      have hcon := zc _ hcm
      have eEc : ctE b B i = checkM (ctT b B b.cons[i]) := by rw [ctE, if_pos hmc, Int.toNat_natCast, hgc]
      have eRc : ctR b B i = rightT (ctT b B b.cons[i]) := by rw [ctR, rightT, eEc, Int.toNat_natCast, hgc]
      rw [eEc, eRc] at hC
      obtain ⟨u1, u2, u3, u4, u5⟩ := ct_right hf B0 (by omega : B ≤ 60000) (fb.cons _ hcm) hcon
      by_cases hkc : checkM (ctT b B b.cons[i]) = 0
      case neg =>
        rw [show rightT (ctT b B b.cons[i]) = zT by rw [rightT, if_neg hkc]] at hC
        simp only [eBl, cBl, eSos, cT, zT, tk, tn, tks, List.map_nil] at hC
        simp -dsimp [g1, g2, g3, g4, g5, hlt', eCos] at hC ⊢
        refine call_of hC ?_
        simp -dsimp [g1, g2, g3, g4, g5, hlt', hkc, w1]
      rw [show rightT (ctT b B b.cons[i]) = ctT b B b.cons[i] by rw [rightT, if_pos hkc], hkc] at hC
      have hUc := ct_unpis ob fb B hcm
      have hUs := sp_unspine (fmT b B b.cons[i].sort) b.cons[i].idx (by show (3 : Int) ≠ 6; decide) (fmT_ok _ _ _) (ob.cons _ hcm).idx (by have := (fb.cons _ hcm).idxL; omega)
      rw [fmT_is hf B0 (by omega : B ≤ 60000) u4 u5] at hUc hUs
      have hScc := scope_ok (ctT b B b.cons[i]) 0 65536
      rw [(scope_is2 (t := ctT b B b.cons[i]) (v := 0) (by omega) (by omega) (by omega)).2 ⟨hkc, u1⟩] at hScc
      have hAl : (b.cons[i].args.map (argTy b B)).length = b.cons[i].args.length := List.length_map ..
      have hKT := keepTerms_ok b.cons[i].idx
      have wB : IntKind.i64.wrap (B + b.cons[i].sort) = B + b.cons[i].sort := wrap_id (by omega) (by omega)
      generalize ctT b B b.cons[i] = F at hC hUc hScc
      generalize b.cons[i].args.map (argTy b B) = As at hUc hAl
      generalize spT (tC (B + b.cons[i].sort)) b.cons[i].idx = Sp at hUc hUs
      simp only [eBl, cBl, eSos, cT, eTs, tk, tn, tks, List.map_nil, tC] at hC hUc hUs hScc hKT
      simp -dsimp [g1, g2, g3, g4, g5, hlt', eCos] at hC ⊢
      refine call_of hC ?_
      simp -dsimp [g1, g2, g3, g4, g5, hlt']
      refine call_of hUc ?_
      simp -dsimp [g1, g2, g3, g4, g5, hlt']
      refine callO_of hUs (by simp [rowsV, rowsC, RV.cells]) ?_
      simp -dsimp [g1, g2, g3, g4, g5, hlt']
      refine call_of hScc ?_
      simp -dsimp [g1, g2, g3, g4, g5, hlt', eCo, cCo, eArs, eCos, hAl, wB]
      refine call_of hKT ?_
      simp -dsimp [g1, g2, g3, g4, g5, hlt', w1, eCos]
    · have e : i = b.cons.length := by omega
      subst e
      have hm0 : maybeM s.dec s.dty s.idx.length = true := y3
      simp -dsimp [g1, g2, g3, g4, g5, K0, hget, eSo, cSo, eCos]
      by_cases hd : s.dec = true
      case neg =>
        have hd' : s.dec = false := by simpa using hd
        simp -dsimp [g1, g2, g3, g4, g5, hd']
        refine call_of wakes10_ok ?_
        simp -dsimp
      have hin : inM s.dty s.idx.length = true := by rw [maybeM, if_pos hd] at hm0; exact hm0
      have eEd : dtE b B K = if shiftE s.dty 1 0 = 0 then checkM (dtT b B K s) else shiftE s.dty 1 0 := by rw [dtE, if_pos hm, hget]; simp only [hd, if_true]
      have hSd := scope_ok (dtR b B K) 0 65536
      simp only [eBl, cBl, eSos, eCos] at hD
      by_cases hed : dtE b B K = 0
      · rw [eEd] at hed
        have hsh : shiftE s.dty 1 0 = 0 := by
          by_cases h : shiftE s.dty 1 0 = 0
          · exact h
          · rw [if_neg h] at hed; exact absurd hed h
        rw [if_pos hsh] at hed
        obtain ⟨d1, d2⟩ := dt_right hf B0 (by omega : B ≤ 60000) (fb.sorts s hsm) K0 K1 y1 hin hsh
        have eRd : dtR b B K = dtT b B K s := by rw [dtR, if_pos (by rw [eEd, if_pos hsh]; exact hed), hget]
        rw [eRd] at hD hSd
        rw [(scope_is2 (t := dtT b B K s) (v := 0) (by omega) (by omega) (by omega)).2 ⟨hed, d1⟩] at hSd
        rw [eEd, if_pos hsh, hed] at hD
        generalize dtT b B K s = F at hD hSd
        simp only [cT] at hD hSd
        simp -dsimp [g1, g2, g3, g4, g5, hd]
        refine call_of hD ?_
        simp -dsimp
        refine call_of hSd ?_
        simp -dsimp
        refine call_of wakes10_ok ?_
        simp -dsimp
      · generalize dtR b B K = F at hD
        simp only [cT] at hD
        simp -dsimp [g1, g2, g3, g4, g5, hd]
        refine call_of hD ?_
        simp -dsimp [hed]
        refine call_of wakes10_ok ?_
        simp -dsimp
end Ev
end Go.Proofs.Ytomlkbohcoinoaa
