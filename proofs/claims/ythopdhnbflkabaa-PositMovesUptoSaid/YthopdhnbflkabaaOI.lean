/- PositMoves: the walk. -/
import Derived.Test.YthopdhnbflkabaaOH
namespace Go.Proofs.Ythopdhnbflkabaa
namespace Ev
open Go
set_option maxRecDepth 100000
set_option linter.unusedSimpArgs false
set_option linter.unusedVariables false
attribute [local simp ↓] wx_skip wx_region wx_seq wx_block wx_exit wx_ret wx_cond wx_loop wo_nil wo_run wo_ask wx_draw wt_nil wt_run_t wt_run_f wt_ask_t wt_ask_f rb_mv rb_nilrow rb_pick rb_alloc rb_box rb_load rb_store rb_nilck rb_bin rb_binb rb_un rb_conv rb_mkf rb_mks rb_slice rb_faddr rb_fld rb_iaddr rb_ext rb_len rb_app rb_mm rb_build rb_bslice run_callC upd_eq upd_ne
attribute [local simp] runB_some runB_none Tch_nil Tch_cons Chk_t Cnd_t Cnd_f Ask_tt Ask_ff Ask_tf Ask_ft Ask_skip act ev_t ev_c evs sks caps2 touch_call List.cons_append List.nil_append putS binI binB int_add int_sub int_mul int_quo int_rem int_or int_eql int_neq int_lss int_leq int_gtr int_geq shiftD Ex.then Ex.inBlock Ends resL resX allD toD_d toD_fsl sk_d sk_fsl none_ loadA cut wrapA wrapD avc_d avc_agg avc_fsl avc_rsl avc_ptr avc_eptr avc_clo dc_agg dc_int dc_bool dc_str dc_sl dc_nilp dc_rp dc_clo on_int on_bool on_str on_sl on_nilp on_rp on_clo on_fsl on_rsl on_ptr on_eptr on_cloA newE elemsA elemsS storeA put frz_nil deep callee resA initS touchOp fits compat rd wr key1 buildA partsD partsK idx frz_at Body.frz lk_hit lk_miss toD6_agg toD5_agg toD4_agg toD6_clo toD5_clo toD4_clo toD6_ptr toD5_ptr toD4_ptr sk6_agg sk5_agg sk4_agg sk6_clo sk5_clo sk4_clo sk6_ptr sk5_ptr sk4_ptr toD_rsl sk_rsl resK EndsP EndsMP fitVs fitCs fitC keysV keysC keyC cellsA1 skVs skCs skC1 resO tupA valsV cellsV oneV rowsV rowsC RV.cells nk rowsH_one rowsH_two rowsH_none
section
attribute [local simp] allD_map_d sks_map_d tk tn tks initA EndsM one_sos one_cos one_ars one_ts
theorem renamed_ok (b : Bl) (hf : Fit b) (base by_ : Int) (h0 : 0 ≤ base) (h1 : base ≤ 500) (b0 : 0 ≤ by_) (b1 : by_ ≤ 500) (t : T) : okT t → Pure Try.prog n_porismlaw08_renamed [.agg (cT t), eBl b, .int .i64 base, .int .i64 by_] [.agg (cT (rnT (mvF b base by_) t))] := by
  refine T.ind (p := fun t => okT t → Pure Try.prog n_porismlaw08_renamed [.agg (cT t), eBl b, .int .i64 base, .int .i64 by_] [.agg (cT (rnT (mvF b base by_) t))]) ?_ t
  intro k m ks ih ho
  refine p_porismlaw08_renamed rfl fun hs => ?_
  have hl := ho.kids.1
  have hO := of7_ok b hf base m ho.num64
  have hF : mvF b base by_ m = if (ofM b base m).1 ≠ 0 then m + by_ else m := rfl
  have hr := fun h => of_range hf h0 (by omega : base ≤ 65535) m h
  have hcs := count_small8 hf
  rw [rn_mk]
  generalize hE : (if k = 3 then mvF b base by_ m else m) = E
  generalize ofM b base m = o at hO hF hr
  simp only [eBl, cBl] at hO
  simp -dsimp [x_porismlaw08_renamed, cT, eBl, cBl]
  refine call_of hO ?_
  by_cases h3 : k = 3
  · have hE3 : E = mvF b base by_ m := by rw [← hE, if_pos h3]
    by_cases hz : o.1 = 0
    · have hEm : m = E := by rw [hE3, hF, if_neg (by simpa using hz)]
      simp -dsimp [h3, hz]
      refine wp_upto ks.length (fun i st => st.s 2 = .d (.int .i64 base) ∧ st.s 3 = .d (.int .i64 by_) ∧ (st.s 4 = .ptr 4 1 0 ∧ st.h 4 = ⟨1, .box [.d (.int .i64 k), .d (.int .i64 m), .d (.sl 3 (ks.map eT))] false⟩) ∧
        (st.s 5 = .ptr 5 1 0 ∧ st.h 5 = ⟨1, .box [.d (eSos b.sorts), .d (eCos b.cons), .d (.int .i64 b.elim)] false⟩) ∧ (st.s 8 = .ptr 8 1 0 ∧ st.h 8 = ⟨1, .box [.d (.int .i64 0), .d (.int .i64 0), .fsl 3 []] false⟩) ∧ st.s 12 = .d (.int .i64 i) ∧
        st.s 9 = .ptr 9 1 0 ∧ ∃ c, st.h 9 = ⟨1, .box [.d (.int .i64 k), .d (.int .i64 E), c] false⟩ ∧ ((i = 0 ∧ c = .fsl 3 []) ∨ (0 < i ∧ ∃ v, c = .rsl 57 v ∧ st.h 57 = ⟨v, .row 3 (((ks.map (rnT (mvF b base by_))).take i).map eT) false⟩))) ?_ ?_
      · simp -dsimp [h3, hEm]
        try omega
      · rintro i ⟨s, hp⟩ hi ⟨g2, g3, ⟨g4, k4⟩, ⟨g5, k5⟩, ⟨g8, k8⟩, g12, g9, c, k9, k57⟩
        dsimp only at g2 g3 g4 k4 g5 k5 g8 k8 g12 g9 k9 k57
        rcases Nat.lt_or_ge i ks.length with hlt | hge
        · have w1 : IntKind.i64.wrap ((i : Int) + 1) = (i : Int) + 1 := wrap_id (by omega) (by omega)
          have hI := ih ks[i] (List.getElem_mem _) (ho.kids.2 _ (List.getElem_mem _))
          have hn : ((ks.map (rnT (mvF b base by_))).take (i + 1)).map eT = ((ks.map (rnT (mvF b base by_))).take i).map eT ++ [.agg (cT (rnT (mvF b base by_) ks[i]))] := by
            rw [take_snoc (List.getElem?_eq_getElem (by simpa using hlt)), List.map_append]
            simp [eT_eq]
          have hn0 : ((ks.map (rnT (mvF b base by_))).take i).map eT = ((ks.map (rnT (mvF b base by_))).map eT).take i := List.map_take
          generalize hX : rnT (mvF b base by_) ks[i] = X at *
          have hq1 : i < (ks.map (rnT (mvF b base by_))).length := by simpa using hlt
          simp only [eBl, cBl, cT] at hI hn
          generalize hM : ks.map (rnT (mvF b base by_)) = M at *
          have hMl : M.length = ks.length := by rw [← hM, List.length_map]
          have hr : (min i M.length + 1) * 40 ≤ maxRoom := by simp only [maxRoom]; omega
          simp -dsimp [g2, g3, g4, k4, g5, k5, g8, k8, g12, g9, k9, hlt, cT]
          refine call_of hI ?_
          rcases k57 with ⟨rfl, rfl⟩ | ⟨hi0, v, rfl, k57⟩
          · have w1' : IntKind.i64.wrap 1 = 1 := by rfl
            simp only [List.take_zero, List.map_nil, List.nil_append] at hn
            simp -dsimp only [Nat.zero_add] at hn
            simp -dsimp [g2, g3, g4, k4, g5, k5, g8, k8, g12, g9, k9, hlt, hr, w1', hn, (by decide : 40 ≤ maxRoom)]
            try exact hlt
          · simp -dsimp [g2, g3, g4, k4, g5, k5, g8, k8, g12, g9, k9, k57, hlt, hr, w1, hn]
            try exact hlt
        · have e : i = ks.length := by omega
          subst e
          rcases k57 with ⟨hz0, rfl⟩ | ⟨hi0, v, rfl, k57⟩
          · have hk0 : ks = [] := List.length_eq_zero_iff.1 hz0
            subst hk0
            simp -dsimp [g2, g3, g4, k4, g5, k5, g8, k8, g12, g9, k9]
          · rw [List.take_of_length_le (by simp)] at k57
            simp -dsimp [g2, g3, g4, k4, g5, k5, g8, k8, g12, g9, k9, k57]
    · have hEm : m + by_ = E := by rw [hE3, hF, if_pos hz]
      have hrr := hr hz
      have w0 : IntKind.i64.wrap (m + by_) = E := by rw [← hEm]; exact wrap_id (by omega) (by omega)
      simp -dsimp [h3, hz, w0]
      refine wp_upto ks.length (fun i st => st.s 2 = .d (.int .i64 base) ∧ st.s 3 = .d (.int .i64 by_) ∧ (st.s 4 = .ptr 4 1 0 ∧ st.h 4 = ⟨1, .box [.d (.int .i64 k), .d (.int .i64 m), .d (.sl 3 (ks.map eT))] false⟩) ∧
        (st.s 5 = .ptr 5 1 0 ∧ st.h 5 = ⟨1, .box [.d (eSos b.sorts), .d (eCos b.cons), .d (.int .i64 b.elim)] false⟩) ∧ (st.s 8 = .ptr 8 1 0 ∧ st.h 8 = ⟨1, .box [.d (.int .i64 0), .d (.int .i64 0), .fsl 3 []] false⟩) ∧ st.s 12 = .d (.int .i64 i) ∧
        st.s 9 = .ptr 9 1 0 ∧ ∃ c, st.h 9 = ⟨1, .box [.d (.int .i64 k), .d (.int .i64 E), c] false⟩ ∧ ((i = 0 ∧ c = .fsl 3 []) ∨ (0 < i ∧ ∃ v, c = .rsl 57 v ∧ st.h 57 = ⟨v, .row 3 (((ks.map (rnT (mvF b base by_))).take i).map eT) false⟩))) ?_ ?_
      · simp -dsimp [h3]
        try omega
      · rintro i ⟨s, hp⟩ hi ⟨g2, g3, ⟨g4, k4⟩, ⟨g5, k5⟩, ⟨g8, k8⟩, g12, g9, c, k9, k57⟩
        dsimp only at g2 g3 g4 k4 g5 k5 g8 k8 g12 g9 k9 k57
        rcases Nat.lt_or_ge i ks.length with hlt | hge
        · have w1 : IntKind.i64.wrap ((i : Int) + 1) = (i : Int) + 1 := wrap_id (by omega) (by omega)
          have hI := ih ks[i] (List.getElem_mem _) (ho.kids.2 _ (List.getElem_mem _))
          have hn : ((ks.map (rnT (mvF b base by_))).take (i + 1)).map eT = ((ks.map (rnT (mvF b base by_))).take i).map eT ++ [.agg (cT (rnT (mvF b base by_) ks[i]))] := by
            rw [take_snoc (List.getElem?_eq_getElem (by simpa using hlt)), List.map_append]
            simp [eT_eq]
          have hn0 : ((ks.map (rnT (mvF b base by_))).take i).map eT = ((ks.map (rnT (mvF b base by_))).map eT).take i := List.map_take
          generalize hX : rnT (mvF b base by_) ks[i] = X at *
          have hq1 : i < (ks.map (rnT (mvF b base by_))).length := by simpa using hlt
          simp only [eBl, cBl, cT] at hI hn
          generalize hM : ks.map (rnT (mvF b base by_)) = M at *
          have hMl : M.length = ks.length := by rw [← hM, List.length_map]
          have hr : (min i M.length + 1) * 40 ≤ maxRoom := by simp only [maxRoom]; omega
          simp -dsimp [g2, g3, g4, k4, g5, k5, g8, k8, g12, g9, k9, hlt, cT]
          refine call_of hI ?_
          rcases k57 with ⟨rfl, rfl⟩ | ⟨hi0, v, rfl, k57⟩
          · have w1' : IntKind.i64.wrap 1 = 1 := by rfl
            simp only [List.take_zero, List.map_nil, List.nil_append] at hn
            simp -dsimp only [Nat.zero_add] at hn
            simp -dsimp [g2, g3, g4, k4, g5, k5, g8, k8, g12, g9, k9, hlt, hr, w1', hn, (by decide : 40 ≤ maxRoom)]
            try exact hlt
          · simp -dsimp [g2, g3, g4, k4, g5, k5, g8, k8, g12, g9, k9, k57, hlt, hr, w1, hn]
            try exact hlt
        · have e : i = ks.length := by omega
          subst e
          rcases k57 with ⟨hz0, rfl⟩ | ⟨hi0, v, rfl, k57⟩
          · have hk0 : ks = [] := List.length_eq_zero_iff.1 hz0
            subst hk0
            simp -dsimp [g2, g3, g4, k4, g5, k5, g8, k8, g12, g9, k9]
          · rw [List.take_of_length_le (by simp)] at k57
            simp -dsimp [g2, g3, g4, k4, g5, k5, g8, k8, g12, g9, k9, k57]
  · have hEm : m = E := by rw [← hE, if_neg h3]
    simp -dsimp [h3]
    refine wp_upto ks.length (fun i st => st.s 2 = .d (.int .i64 base) ∧ st.s 3 = .d (.int .i64 by_) ∧ (st.s 4 = .ptr 4 1 0 ∧ st.h 4 = ⟨1, .box [.d (.int .i64 k), .d (.int .i64 m), .d (.sl 3 (ks.map eT))] false⟩) ∧
      (st.s 5 = .ptr 5 1 0 ∧ st.h 5 = ⟨1, .box [.d (eSos b.sorts), .d (eCos b.cons), .d (.int .i64 b.elim)] false⟩) ∧ (st.s 8 = .ptr 8 1 0 ∧ st.h 8 = ⟨1, .box [.d (.int .i64 0), .d (.int .i64 0), .fsl 3 []] false⟩) ∧ st.s 12 = .d (.int .i64 i) ∧
      st.s 9 = .ptr 9 1 0 ∧ ∃ c, st.h 9 = ⟨1, .box [.d (.int .i64 k), .d (.int .i64 E), c] false⟩ ∧ ((i = 0 ∧ c = .fsl 3 []) ∨ (0 < i ∧ ∃ v, c = .rsl 57 v ∧ st.h 57 = ⟨v, .row 3 (((ks.map (rnT (mvF b base by_))).take i).map eT) false⟩))) ?_ ?_
    · simp -dsimp [h3, hEm]
      try omega
    · rintro i ⟨s, hp⟩ hi ⟨g2, g3, ⟨g4, k4⟩, ⟨g5, k5⟩, ⟨g8, k8⟩, g12, g9, c, k9, k57⟩
      dsimp only at g2 g3 g4 k4 g5 k5 g8 k8 g12 g9 k9 k57
      rcases Nat.lt_or_ge i ks.length with hlt | hge
      · have w1 : IntKind.i64.wrap ((i : Int) + 1) = (i : Int) + 1 := wrap_id (by omega) (by omega)
        have hI := ih ks[i] (List.getElem_mem _) (ho.kids.2 _ (List.getElem_mem _))
        have hn : ((ks.map (rnT (mvF b base by_))).take (i + 1)).map eT = ((ks.map (rnT (mvF b base by_))).take i).map eT ++ [.agg (cT (rnT (mvF b base by_) ks[i]))] := by
          rw [take_snoc (List.getElem?_eq_getElem (by simpa using hlt)), List.map_append]
          simp [eT_eq]
        have hn0 : ((ks.map (rnT (mvF b base by_))).take i).map eT = ((ks.map (rnT (mvF b base by_))).map eT).take i := List.map_take
        generalize hX : rnT (mvF b base by_) ks[i] = X at *
        have hq1 : i < (ks.map (rnT (mvF b base by_))).length := by simpa using hlt
        simp only [eBl, cBl, cT] at hI hn
        generalize hM : ks.map (rnT (mvF b base by_)) = M at *
        have hMl : M.length = ks.length := by rw [← hM, List.length_map]
        have hr : (min i M.length + 1) * 40 ≤ maxRoom := by simp only [maxRoom]; omega
        simp -dsimp [g2, g3, g4, k4, g5, k5, g8, k8, g12, g9, k9, hlt, cT]
        refine call_of hI ?_
        rcases k57 with ⟨rfl, rfl⟩ | ⟨hi0, v, rfl, k57⟩
        · have w1' : IntKind.i64.wrap 1 = 1 := by rfl
          simp only [List.take_zero, List.map_nil, List.nil_append] at hn
          simp -dsimp only [Nat.zero_add] at hn
          simp -dsimp [g2, g3, g4, k4, g5, k5, g8, k8, g12, g9, k9, hlt, hr, w1', hn, (by decide : 40 ≤ maxRoom)]
          try exact hlt
        · simp -dsimp [g2, g3, g4, k4, g5, k5, g8, k8, g12, g9, k9, k57, hlt, hr, w1, hn]
          try exact hlt
      · have e : i = ks.length := by omega
        subst e
        rcases k57 with ⟨hz0, rfl⟩ | ⟨hi0, v, rfl, k57⟩
        · have hk0 : ks = [] := List.length_eq_zero_iff.1 hz0
          subst hk0
          simp -dsimp [g2, g3, g4, k4, g5, k5, g8, k8, g12, g9, k9]
        · rw [List.take_of_length_le (by simp)] at k57
          simp -dsimp [g2, g3, g4, k4, g5, k5, g8, k8, g12, g9, k9, k57]
theorem renames_ok (b : Bl) (hf : Fit b) (base by_ : Int) (h0 : 0 ≤ base) (h1 : base ≤ 500) (b0 : 0 ≤ by_) (b1 : by_ ≤ 500) (l : List T) (ho : okTs l) : Pure Try.prog n_porismlaw08_renames [eTs l, eBl b, .int .i64 base, .int .i64 by_] [eTs (l.map (rnT (mvF b base by_)))] := by
  refine p_porismlaw08_renames rfl fun hs => ?_
  have hl := ho.1
  simp -dsimp [x_porismlaw08_renames, eTs, eBl, cBl]
  refine wp_upto l.length (fun i st => st.s 0 = .d (eTs l) ∧ st.s 2 = .d (.int .i64 base) ∧ st.s 3 = .d (.int .i64 by_) ∧ (st.s 5 = .ptr 5 1 0 ∧ st.h 5 = ⟨1, .box [.d (eSos b.sorts), .d (eCos b.cons), .d (.int .i64 b.elim)] false⟩) ∧ (st.s 8 = .rsl 8 1 ∧ st.h 8 = ⟨1, .row 3 [] false⟩) ∧
    st.s 10 = .d (.int .i64 i) ∧ ∃ v, st.s 9 = .rsl 9 v ∧ st.h 9 = ⟨v, .row 3 (((l.map (rnT (mvF b base by_))).take i).map eT) false⟩) ?_ ?_
  · simp -dsimp [eTs]
  · rintro i ⟨s, hp⟩ hi ⟨g0, g2, g3, ⟨g5, k5⟩, ⟨g8, k8⟩, g10, v, g9, k9⟩
    dsimp only at g0 g2 g3 g5 k5 g8 k8 g10 g9 k9
    simp only [eTs] at g0
    rcases Nat.lt_or_ge i l.length with hlt | hge
    · have w1 : IntKind.i64.wrap ((i : Int) + 1) = (i : Int) + 1 := wrap_id (by omega) (by omega)
      have hI := renamed_ok b hf base by_ h0 h1 b0 b1 l[i] (ho.2 _ (List.getElem_mem _))
      have hn : ((l.map (rnT (mvF b base by_))).take (i + 1)).map eT = ((l.map (rnT (mvF b base by_))).take i).map eT ++ [.agg (cT (rnT (mvF b base by_) l[i]))] := by
        rw [take_snoc (List.getElem?_eq_getElem (by simpa using hlt)), List.map_append]
        simp [eT_eq]
      generalize hX : rnT (mvF b base by_) l[i] = X at *
      simp only [eBl, cBl, cT] at hI hn
      generalize hM : l.map (rnT (mvF b base by_)) = M at *
      have hMl : M.length = l.length := by rw [← hM, List.length_map]
      have hr : (min i M.length + 1) * 40 ≤ maxRoom := by simp only [maxRoom]; omega
      rw [hn]
      simp -dsimp [g0, g2, g3, g5, k5, g8, k8, g10, g9, k9, hlt, cT]
      refine call_of hI ?_
      simp -dsimp [g0, g2, g3, g5, k5, g8, k8, g10, g9, k9, hlt, hr, w1, eTs]
      try exact hlt
    · have e : i = l.length := by omega
      subst e
      rw [List.take_of_length_le (by simp)] at k9
      simp -dsimp [g0, g2, g3, g5, k5, g8, k8, g10, g9, k9]
theorem movedArgs_ok (b : Bl) (hf : Fit b) (base by_ : Int) (h0 : 0 ≤ base) (h1 : base ≤ 500) (b0 : 0 ≤ by_) (b1 : by_ ≤ 500) (l : List Ar) (ho : okArs l) : Pure Try.prog n_porismlaw08_movedArgs [eArs l, eBl b, .int .i64 base, .int .i64 by_] [eArs (l.map (mvA (mvF b base by_)))] := by
  refine p_porismlaw08_movedArgs rfl fun hs => ?_
  have hl := ho.1
  simp -dsimp [x_porismlaw08_movedArgs, eArs, eBl, cBl]
  refine wp_upto l.length (fun i st => st.s 0 = .d (eArs l) ∧ st.s 2 = .d (.int .i64 base) ∧ st.s 3 = .d (.int .i64 by_) ∧ (st.s 5 = .ptr 5 1 0 ∧ st.h 5 = ⟨1, .box [.d (eSos b.sorts), .d (eCos b.cons), .d (.int .i64 b.elim)] false⟩) ∧ (st.s 8 = .rsl 8 1 ∧ st.h 8 = ⟨1, .row 7 [] false⟩) ∧
    st.s 10 = .d (.int .i64 i) ∧ ∃ v, st.s 9 = .rsl 9 v ∧ st.h 9 = ⟨v, .row 7 (((l.map (mvA (mvF b base by_))).take i).map eAr) false⟩) ?_ ?_
  · simp -dsimp [eArs]
  · rintro i ⟨s, hp⟩ hi ⟨g0, g2, g3, ⟨g5, k5⟩, ⟨g8, k8⟩, g10, v, g9, k9⟩
    dsimp only at g0 g2 g3 g5 k5 g8 k8 g10 g9 k9
    simp only [eArs] at g0
    rcases Nat.lt_or_ge i l.length with hlt | hge
    · have w1 : IntKind.i64.wrap ((i : Int) + 1) = (i : Int) + 1 := wrap_id (by omega) (by omega)
      have oa := ho.2 _ (List.getElem_mem hlt)
      have hI := renamed_ok b hf base by_ h0 h1 b0 b1 l[i].ty oa.ty
      have hD := renames_ok b hf base by_ h0 h1 b0 b1 l[i].dom oa.dom
      have hX := renames_ok b hf base by_ h0 h1 b0 b1 l[i].idx oa.idx
      have hn : ((l.map (mvA (mvF b base by_))).take (i + 1)).map eAr = ((l.map (mvA (mvF b base by_))).take i).map eAr ++ [.agg (cAr (mvA (mvF b base by_) l[i]))] := by
        rw [take_snoc (List.getElem?_eq_getElem (by simpa using hlt)), List.map_append]
        simp [eAr]
      generalize hA : l[i] = A at *
      simp only [mvA] at hn
      generalize hM : l.map (mvA (mvF b base by_)) = M at *
      have hMl : M.length = l.length := by rw [← hM, List.length_map]
      generalize rnT (mvF b base by_) A.ty = R at *
      generalize A.dom.map (rnT (mvF b base by_)) = Rd at *
      generalize A.idx.map (rnT (mvF b base by_)) = Ri at *
      simp only [eBl, cBl, cT, eTs, cAr, List.cons_append, List.nil_append] at hI hD hX hn
      have hr : (min i M.length + 1) * 104 ≤ maxRoom := by simp only [maxRoom]; omega
      rw [hn]
      simp -dsimp [g0, g2, g3, g5, k5, g8, k8, g10, g9, k9, hlt, hA, eAr, cAr, cT, eTs]
      refine call_of hI ?_
      simp -dsimp [g0, g2, g3, g5, k5, g8, k8, g10, g9, k9, hlt, hA, eAr, cAr, cT, eTs]
      refine call_of hD ?_
      simp -dsimp [g0, g2, g3, g5, k5, g8, k8, g10, g9, k9, hlt, hA, eAr, cAr, cT, eTs]
      refine call_of hX ?_
      simp -dsimp [g0, g2, g3, g5, k5, g8, k8, g10, g9, k9, hlt, hA, eAr, cAr, cT, eTs, eArs, hr, w1]
      try exact hlt
    · have e : i = l.length := by omega
      subst e
      rw [List.take_of_length_le (by simp)] at k9
      simp -dsimp [g0, g2, g3, g5, k5, g8, k8, g10, g9, k9]
theorem moved8_ok (b : Bl) (ob : okBl b) (hf : Fit b) (hz1 : 1 ≤ b.sorts.length) (base by_ : Int) (h0 : 0 ≤ base) (h1 : base ≤ 500) (b0 : 0 ≤ by_) (b1 : by_ ≤ 500) : Pure Try.prog n_porismlaw08_moved [eBl b, .int .i64 base, .int .i64 by_] [eBl (mvB (mvF b base by_) b)] := by
  refine p_porismlaw08_moved rfl fun hs => ?_
  have hT := twinBlock_own b ob
  simp only [eBl, cBl] at hT
  simp -dsimp [x_porismlaw08_moved, eBl, cBl]
  have hS : b.sorts ≠ [] := fun h => by rw [h] at hz1; simp at hz1
  rw [rcS, if_neg hS] at hT
  have hfs := hf.s
  have hfc := hf.c
  by_cases hK : b.cons = []
  · rw [rcK, if_pos hK] at hT
    refine callO_of hT (by simp [rowsV, rowsC, RV.cells]) ?_
    simp -dsimp
    refine wp_upto b.sorts.length (fun i st => st.s 1 = .d (.int .i64 base) ∧ st.s 2 = .d (.int .i64 by_) ∧ (st.s 3 = .ptr 3 1 0 ∧ st.h 3 = ⟨1, .box [.d (eSos b.sorts), .d (eCos b.cons), .d (.int .i64 b.elim)] false⟩) ∧ (st.s 6 = .ptr 6 1 0 ∧ st.h 6 = ⟨1, .box [.fsl 6 [], .fsl 6 [], .d (.int .i64 0)] false⟩) ∧ (∃ v R, st.s 7 = .ptr 7 1 0 ∧ st.h 7 = ⟨1, .box [.rsl 13 v, .d (.sl 6 []), .d (.int .i64 b.elim)] false⟩ ∧ True ∧ st.h 13 = ⟨v, .row 6 R false⟩ ∧ R.length = b.sorts.length ∧ ∀ (j : Nat) (hj : j < b.sorts.length), R[j]? = some (if j < i then eSo (mvS (mvF b base by_) b.sorts[j]) else eSo b.sorts[j])) ∧ st.s 8 = .d (.int .i64 i)) ?_ ?_
    · simp -dsimp
      intro j hj
      exact ⟨_, List.getElem?_eq_getElem hj, rfl⟩
    · rintro i ⟨s, hp⟩ hi ⟨g1, g2, ⟨g3, k3⟩, ⟨g6, k6⟩, ⟨v, R, g7, k7, kK, k13, hRl, hRi⟩, g8⟩
      dsimp only at g1 g2 g3 k3 g6 k6 g7 k7 kK k13 g8
      rcases Nat.lt_or_ge i b.sorts.length with hlt | hge
      · have w1 : IntKind.i64.wrap ((i : Int) + 1) = (i : Int) + 1 := wrap_id (by omega) (by omega)
        have os := ob.sorts _ (List.getElem_mem hlt)
        have hMA := movedArgs_ok b hf base by_ h0 h1 b0 b1 b.sorts[i].idx os.idx
        have hMT := renamed_ok b hf base by_ h0 h1 b0 b1 b.sorts[i].dty os.dty
        have hR1 := hRi i hlt
        rw [if_neg (by omega)] at hR1
        have hltR : i < R.length := by omega
        have hR2 : R[i] = eSo b.sorts[i] := (List.getElem?_eq_some_iff.1 hR1).2
        have hnew : ∀ (j : Nat) (hj : j < b.sorts.length), (R.set i (eSo (mvS (mvF b base by_) b.sorts[i])))[j]? = some (if j < i + 1 then eSo (mvS (mvF b base by_) b.sorts[j]) else eSo b.sorts[j]) := fun j hj => by
          rw [List.getElem?_set]
          by_cases hij : i = j
          · subst hij; rw [if_pos rfl, if_pos hltR, if_pos (by omega)]
          · rw [if_neg hij, hRi j hj]; by_cases hji : j < i
            · rw [if_pos hji, if_pos (by omega)]
            · rw [if_neg hji, if_neg (by omega)]
        generalize hX : eSo (mvS (mvF b base by_) b.sorts[i]) = X at hnew
        generalize hS2 : b.sorts[i] = S at hR1 hR2 hMA hMT hX
        simp only [mvS, eSo, cSo] at hX
        simp only [eSo, cSo] at hR1 hR2
        generalize rnT (mvF b base by_) S.dty = Y at hMT hX
        generalize S.idx.map (mvA (mvF b base by_)) = Z at hMA hX
        simp only [eBl, cBl, cT, eArs, List.cons_append, List.nil_append] at hMA hMT hR1 hR2 hX
        simp -dsimp [g1, g2, g3, k3, g6, k6, g7, k7, k13, g8, hlt, hRl, hltR, hR1, hR2]
        refine call_of hMA ?_
        simp -dsimp [g1, g2, g3, k3, g6, k6, g7, k7, k13, g8, hlt, hRl, hltR, hR1, hR2]
        refine call_of hMT ?_
        simp -dsimp [g1, g2, g3, k3, g6, k6, g7, k7, k13, g8, hlt, hRl, hltR, hR1, hR2, w1]
        rw [hX]
        exact hnew
      · have e : i = b.sorts.length := by omega
        subst e
        have hRe : R = (b.sorts.map (mvS (mvF b base by_))).map eSo := by
          apply List.ext_getElem?
          intro j
          by_cases hj : j < b.sorts.length
          · rw [hRi j hj, if_pos hj]; simp [hj]
          · rw [List.getElem?_eq_none (by omega), List.getElem?_eq_none (by simp; omega)]
        subst hRe
        clear hRi hRl
        have hC0 : (mvB (mvF b base by_) b).cons = [] := by simp [mvB, hK]
        simp -dsimp [g1, g2, g3, k3, g6, k6, g7, k7, k13, g8]
        clear g8 hi hge
        refine wp_upto 0 (fun i st => (st.s 6 = .ptr 6 1 0 ∧ st.h 6 = ⟨1, .box [.fsl 6 [], .fsl 6 [], .d (.int .i64 0)] false⟩) ∧ (st.s 7 = .ptr 7 1 0 ∧ st.h 7 = ⟨1, .box [.rsl 13 v, .d (.sl 6 []), .d (.int .i64 b.elim)] false⟩ ∧ st.h 13 = ⟨v, .row 6 ((b.sorts.map (mvS (mvF b base by_))).map eSo) false⟩) ∧ st.s 10 = .d (.int .i64 i)) ?_ ?_
        · simp -dsimp [g6, k6, g7, k7, k13]
        · clear g1 g2 g3 k3 g6 k6 g7 k7 k13
          rintro i ⟨s, hp⟩ hi ⟨⟨g6, k6⟩, ⟨g7, k7, k13⟩, g10⟩
          dsimp only at g6 k6 g7 k7 k13 g10
          have e : i = 0 := by omega
          subst e
          simp -dsimp [g6, k6, g7, k7, k13, g10, hC0, hK, eSos, eCos, mvB]
          done
  · rw [rcK, if_neg hK] at hT
    refine callO_of hT (by simp [rowsV, rowsC, RV.cells]) ?_
    simp -dsimp
    refine wp_upto b.sorts.length (fun i st => st.s 1 = .d (.int .i64 base) ∧ st.s 2 = .d (.int .i64 by_) ∧ (st.s 3 = .ptr 3 1 0 ∧ st.h 3 = ⟨1, .box [.d (eSos b.sorts), .d (eCos b.cons), .d (.int .i64 b.elim)] false⟩) ∧ (st.s 6 = .ptr 6 1 0 ∧ st.h 6 = ⟨1, .box [.fsl 6 [], .fsl 6 [], .d (.int .i64 0)] false⟩) ∧ (∃ v R, st.s 7 = .ptr 7 1 0 ∧ st.h 7 = ⟨1, .box [.rsl 13 v, .rsl 1013 1, .d (.int .i64 b.elim)] false⟩ ∧ st.h 1013 = ⟨1, .row 6 (b.cons.map eCo) false⟩ ∧ st.h 13 = ⟨v, .row 6 R false⟩ ∧ R.length = b.sorts.length ∧ ∀ (j : Nat) (hj : j < b.sorts.length), R[j]? = some (if j < i then eSo (mvS (mvF b base by_) b.sorts[j]) else eSo b.sorts[j])) ∧ st.s 8 = .d (.int .i64 i)) ?_ ?_
    · simp -dsimp
      intro j hj
      exact ⟨_, List.getElem?_eq_getElem hj, rfl⟩
    · rintro i ⟨s, hp⟩ hi ⟨g1, g2, ⟨g3, k3⟩, ⟨g6, k6⟩, ⟨v, R, g7, k7, kK, k13, hRl, hRi⟩, g8⟩
      dsimp only at g1 g2 g3 k3 g6 k6 g7 k7 kK k13 g8
      rcases Nat.lt_or_ge i b.sorts.length with hlt | hge
      · have w1 : IntKind.i64.wrap ((i : Int) + 1) = (i : Int) + 1 := wrap_id (by omega) (by omega)
        have os := ob.sorts _ (List.getElem_mem hlt)
        have hMA := movedArgs_ok b hf base by_ h0 h1 b0 b1 b.sorts[i].idx os.idx
        have hMT := renamed_ok b hf base by_ h0 h1 b0 b1 b.sorts[i].dty os.dty
        have hR1 := hRi i hlt
        rw [if_neg (by omega)] at hR1
        have hltR : i < R.length := by omega
        have hR2 : R[i] = eSo b.sorts[i] := (List.getElem?_eq_some_iff.1 hR1).2
        have hnew : ∀ (j : Nat) (hj : j < b.sorts.length), (R.set i (eSo (mvS (mvF b base by_) b.sorts[i])))[j]? = some (if j < i + 1 then eSo (mvS (mvF b base by_) b.sorts[j]) else eSo b.sorts[j]) := fun j hj => by
          rw [List.getElem?_set]
          by_cases hij : i = j
          · subst hij; rw [if_pos rfl, if_pos hltR, if_pos (by omega)]
          · rw [if_neg hij, hRi j hj]; by_cases hji : j < i
            · rw [if_pos hji, if_pos (by omega)]
            · rw [if_neg hji, if_neg (by omega)]
        generalize hX : eSo (mvS (mvF b base by_) b.sorts[i]) = X at hnew
        generalize hS2 : b.sorts[i] = S at hR1 hR2 hMA hMT hX
        simp only [mvS, eSo, cSo] at hX
        simp only [eSo, cSo] at hR1 hR2
        generalize rnT (mvF b base by_) S.dty = Y at hMT hX
        generalize S.idx.map (mvA (mvF b base by_)) = Z at hMA hX
        simp only [eBl, cBl, cT, eArs, List.cons_append, List.nil_append] at hMA hMT hR1 hR2 hX
        simp -dsimp [g1, g2, g3, k3, g6, k6, g7, k7, k13, kK, g8, hlt, hRl, hltR, hR1, hR2]
        refine call_of hMA ?_
        simp -dsimp [g1, g2, g3, k3, g6, k6, g7, k7, k13, kK, g8, hlt, hRl, hltR, hR1, hR2]
        refine call_of hMT ?_
        simp -dsimp [g1, g2, g3, k3, g6, k6, g7, k7, k13, kK, g8, hlt, hRl, hltR, hR1, hR2, w1]
        rw [hX]
        exact hnew
      · have e : i = b.sorts.length := by omega
        subst e
        have hRe : R = (b.sorts.map (mvS (mvF b base by_))).map eSo := by
          apply List.ext_getElem?
          intro j
          by_cases hj : j < b.sorts.length
          · rw [hRi j hj, if_pos hj]; simp [hj]
          · rw [List.getElem?_eq_none (by omega), List.getElem?_eq_none (by simp; omega)]
        subst hRe
        clear hRi hRl
        simp -dsimp [g1, g2, g3, k3, g6, k6, g7, k7, k13, kK, g8]
        clear g8 hi hge
        refine wp_upto b.cons.length (fun i st => st.s 1 = .d (.int .i64 base) ∧ st.s 2 = .d (.int .i64 by_) ∧ (st.s 3 = .ptr 3 1 0 ∧ st.h 3 = ⟨1, .box [.d (eSos b.sorts), .d (eCos b.cons), .d (.int .i64 b.elim)] false⟩) ∧ (st.s 6 = .ptr 6 1 0 ∧ st.h 6 = ⟨1, .box [.fsl 6 [], .fsl 6 [], .d (.int .i64 0)] false⟩) ∧ (∃ u R, st.s 7 = .ptr 7 1 0 ∧ st.h 7 = ⟨1, .box [.rsl 13 v, .rsl 1013 u, .d (.int .i64 b.elim)] false⟩ ∧ st.h 13 = ⟨v, .row 6 ((b.sorts.map (mvS (mvF b base by_))).map eSo) false⟩ ∧ st.h 1013 = ⟨u, .row 6 R false⟩ ∧ R.length = b.cons.length ∧ ∀ (j : Nat) (hj : j < b.cons.length), R[j]? = some (if j < i then eCo (mvC (mvF b base by_) b.cons[j]) else eCo b.cons[j])) ∧ st.s 10 = .d (.int .i64 i)) ?_ ?_
        · simp -dsimp [g1, g2, g3, k3, g6, k6, g7, k7, k13, kK]
          intro j hj
          exact ⟨_, List.getElem?_eq_getElem hj, rfl⟩
        · clear g1 g2 g3 k3 g6 k6 g7 k7 k13 kK
          rintro i ⟨s, hp⟩ hi ⟨g1, g2, ⟨g3, k3⟩, ⟨g6, k6⟩, ⟨u, R, g7, k7, k13, kK, hRl, hRi⟩, g8⟩
          dsimp only at g1 g2 g3 k3 g6 k6 g7 k7 kK k13 g8
          rcases Nat.lt_or_ge i b.cons.length with hlt | hge
          · have w1 : IntKind.i64.wrap ((i : Int) + 1) = (i : Int) + 1 := wrap_id (by omega) (by omega)
            have os := ob.cons _ (List.getElem_mem hlt)
            have hMA := movedArgs_ok b hf base by_ h0 h1 b0 b1 b.cons[i].args os.args
            have hMI := renames_ok b hf base by_ h0 h1 b0 b1 b.cons[i].idx os.idx
            have hMT := renamed_ok b hf base by_ h0 h1 b0 b1 b.cons[i].dec os.dec
            have hR1 := hRi i hlt
            rw [if_neg (by omega)] at hR1
            have hltR : i < R.length := by omega
            have hR2 : R[i] = eCo b.cons[i] := (List.getElem?_eq_some_iff.1 hR1).2
            have hnew : ∀ (j : Nat) (hj : j < b.cons.length), (R.set i (eCo (mvC (mvF b base by_) b.cons[i])))[j]? = some (if j < i + 1 then eCo (mvC (mvF b base by_) b.cons[j]) else eCo b.cons[j]) := fun j hj => by
              rw [List.getElem?_set]
              by_cases hij : i = j
              · subst hij; rw [if_pos rfl, if_pos hltR, if_pos (by omega)]
              · rw [if_neg hij, hRi j hj]; by_cases hji : j < i
                · rw [if_pos hji, if_pos (by omega)]
                · rw [if_neg hji, if_neg (by omega)]
            generalize hX : eCo (mvC (mvF b base by_) b.cons[i]) = X at hnew
            generalize hS2 : b.cons[i] = S at hR1 hR2 hMA hMI hMT hX
            simp only [mvC, eCo, cCo] at hX
            simp only [eCo, cCo] at hR1 hR2
            generalize rnT (mvF b base by_) S.dec = Y at hMT hX
            generalize S.args.map (mvA (mvF b base by_)) = Z at hMA hX
            generalize S.idx.map (rnT (mvF b base by_)) = W at hMI hX
            simp only [eBl, cBl, cT, eArs, eTs, List.cons_append, List.nil_append] at hMA hMI hMT hR1 hR2 hX
            simp -dsimp [g1, g2, g3, k3, g6, k6, g7, k7, k13, kK, g8, hlt, hRl, hltR, hR1, hR2]
            refine call_of hMA ?_
            simp -dsimp [g1, g2, g3, k3, g6, k6, g7, k7, k13, kK, g8, hlt, hRl, hltR, hR1, hR2]
            refine call_of hMI ?_
            simp -dsimp [g1, g2, g3, k3, g6, k6, g7, k7, k13, kK, g8, hlt, hRl, hltR, hR1, hR2]
            refine call_of hMT ?_
            simp -dsimp [g1, g2, g3, k3, g6, k6, g7, k7, k13, kK, g8, hlt, hRl, hltR, hR1, hR2, w1]
            rw [hX]
            exact hnew
          · have e : i = b.cons.length := by omega
            subst e
            have hRe : R = (b.cons.map (mvC (mvF b base by_))).map eCo := by
              apply List.ext_getElem?
              intro j
              by_cases hj : j < b.cons.length
              · rw [hRi j hj, if_pos hj]; simp [hj]
              · rw [List.getElem?_eq_none (by omega), List.getElem?_eq_none (by simp; omega)]
            subst hRe
            clear hRi hRl
            simp -dsimp [g1, g2, g3, k3, g6, k6, g7, k7, k13, kK, g8, eSos, eCos, mvB]
end
end Ev
end Go.Proofs.Ythopdhnbflkabaa
