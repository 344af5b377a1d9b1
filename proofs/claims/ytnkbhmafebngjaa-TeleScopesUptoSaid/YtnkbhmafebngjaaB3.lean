/- tele.nest: what each part does. -/
import Derived.Test.YtnkbhmafebngjaaB2
import Derived.Test.YtnkbhmafebngjaaR3
import Derived.Test.YtnkbhmafebngjaaXb
namespace Go.Proofs.Ytnkbhmafebngjaa
namespace Ev
open Go
set_option maxRecDepth 100000
set_option linter.unusedSimpArgs false
set_option linter.unusedVariables false
attribute [local simp ↓] wx_skip wx_region wx_seq wx_block wx_exit wx_ret wx_cond wx_loop wo_nil wo_run wo_ask wx_draw wt_nil wt_run_t wt_run_f wt_ask_t wt_ask_f rb_mv rb_nilrow rb_pick rb_alloc rb_box rb_load rb_store rb_nilck rb_bin rb_binb rb_un rb_conv rb_mkf rb_mks rb_slice rb_faddr rb_fld rb_iaddr rb_ext rb_len rb_app rb_mm rb_build rb_bslice run_callC upd_eq upd_ne
attribute [local simp] runB_some runB_none Tch_nil Tch_cons Chk_t Cnd_t Cnd_f Ask_tt Ask_ff Ask_tf Ask_ft Ask_skip act ev_t ev_c evs sks caps2 touch_call List.cons_append List.nil_append putS binI binB int_add int_sub int_mul int_quo int_rem int_or int_eql int_neq int_lss int_leq int_gtr int_geq shiftD Ex.then Ex.inBlock Ends resL resX allD toD_d toD_fsl sk_d sk_fsl none_ loadA cut wrapA wrapD avc_d avc_agg avc_fsl avc_rsl avc_ptr avc_eptr avc_clo dc_agg dc_int dc_bool dc_str dc_sl dc_nilp dc_rp dc_clo on_int on_bool on_str on_sl on_nilp on_rp on_clo on_fsl on_rsl on_ptr on_eptr on_cloA newE elemsA elemsS storeA put frz_nil deep callee resA initS touchOp fits compat rd wr key1 buildA partsD partsK idx frz_at Body.frz lk_hit lk_miss toD6_agg toD5_agg toD4_agg toD6_clo toD5_clo toD4_clo toD6_ptr toD5_ptr toD4_ptr sk6_agg sk5_agg sk4_agg sk6_clo sk5_clo sk4_clo sk6_ptr sk5_ptr sk4_ptr toD_rsl sk_rsl
attribute [local simp] allD_map_d sks_map_d tk tn tks

/-- What the boxes hold: the kind, the result's place, the term so far. -/
def PH (k : Int) (o : T) (h : Nat → Ent) : Prop := h 3 = ⟨1, .box [.d (.int .i64 k)] false⟩ ∧ h 6 = ⟨1, .box [.d (.int .i64 0), .d (.int .i64 0), .fsl 3 []] false⟩ ∧
  ∃ cs, h 7 = ⟨1, .box [.d (.int .i64 o.kind), .d (.int .i64 o.num), cs] false⟩ ∧ (cs = .d (.sl 3 (o.kids.map eT)) ∨ cs = .fsl 3 (o.kids.map eT))
def PS (l : List T) (s : Nat → AV) : Prop := s 3 = .ptr 3 1 0 ∧ s 6 = .ptr 6 1 0 ∧ s 7 = .ptr 7 1 0 ∧ s 13 = .d (.clo 119 [.rp [eTs l]])
theorem back_ok (l : List T) : Pure Try.prog n_slices_Backward_Term [eTs l] [.clo 119 [.rp [eTs l]]] := by
  refine p_slices_Backward_Term rfl fun hs => ?_
  simp -dsimp [x_slices_Backward_Term, eTs]
theorem nest_first (k : Int) (l : List T) (t : T) (ht : okT t) : wpX Try.prog y0 (fun e st => e = .normal ∧ wpX Try.prog y1 (fun e st => e = .normal ∧ wpX Try.prog y2 (fun e st => e = .normal ∧ PS l st.s ∧ PH k t st.h) st) st) ⟨initS [.int .i64 k, eTs l, .agg (cT t)], none_⟩ := by
  have h1 := ttwin_ok t ht
  have h2 := back_ok l
  simp only [cT] at h1
  simp only [eTs] at h2
  simp -dsimp [y0, y1, y2, cT, eTs]
  refine call_of h1 ?_
  simp -dsimp
  refine call_of h2 ?_
  simp -dsimp [PS, PH, eTs]
theorem nest_round (k : Int) (o a : T) (ha : okT a) (s : Nat → AV) (h : Nat → Ent) (l : List T) (hs : PS l s) (h15 : s 15 = .d (.agg (cT a))) (hh : PH k o h) :
    wpX Try.prog y3 (fun e st => e = .normal ∧ PH k o st.h ∧ wpX Try.prog y4 (fun e st => e = .normal ∧ PH k (.mk k 0 [a, o]) st.h) st) ⟨s, h⟩ := by
  obtain ⟨s1, s2, s3, s4⟩ := hs
  obtain ⟨e1, e2, cs, e3, e4⟩ := hh
  have h1 := ttwin_ok a ha
  have h2 := node_ok k [a, o]
  simp only [cT] at h1
  simp only [List.map_cons, List.map_nil, eT_eq, cT] at h2
  rcases e4 with rfl | rfl
  all_goals
    simp -dsimp [y3, y4, cT, s1, s2, s3, s4, h15, e1, e2, e3]
    refine ⟨?_, ?_⟩
    · simp [PH, e1, e2, e3]
    refine call_of h1 ?_
    simp -dsimp [s1, s2, s3, s4, h15, e1, e2, e3]
    refine call_of h2 ?_
    simp -dsimp [s1, s2, s3, s4, h15, e1, e2, e3, PH, eT_eq, cT]
theorem nest_last (k : Int) (o : T) (s : Nat → AV) (h : Nat → Ent) (l : List T) (hs : PS l s) (hh : PH k o h) : wpX Try.prog y5 (Ends [.cell 6 3 true] [.agg (cT o)]) ⟨s, h⟩ := by
  obtain ⟨s1, s2, s3, s4⟩ := hs
  obtain ⟨e1, e2, cs, e3, e4⟩ := hh
  rcases e4 with rfl | rfl
  all_goals simp -dsimp [y5, cT, s1, s2, s3, s4, e1, e2, e3]
end Ev
end Go.Proofs.Ytnkbhmafebngjaa
