/- The block of numbers, and what it says of layer 7. -/
import Derived.Test.YtafpjpolkjdohaaS8
import Derived.Test.YtafpjpolkjdohaaS4
namespace Go.Proofs.Ytafpjpolkjdohaa
namespace Ev
open Go
set_option maxRecDepth 100000
set_option linter.unusedSimpArgs false
set_option linter.unusedVariables false
attribute [local simp ↓] wx_skip wx_region wx_seq wx_block wx_exit wx_ret wx_cond wx_loop wo_nil wo_run wo_ask wx_draw wt_nil wt_run_t wt_run_f wt_ask_t wt_ask_f rb_mv rb_nilrow rb_pick rb_alloc rb_box rb_load rb_store rb_nilck rb_bin rb_binb rb_un rb_conv rb_mkf rb_mks rb_slice rb_faddr rb_fld rb_iaddr rb_ext rb_len rb_app rb_mm rb_build rb_bslice run_callC upd_eq upd_ne
attribute [local simp] runB_some runB_none Tch_nil Tch_cons Chk_t Cnd_t Cnd_f Ask_tt Ask_ff Ask_tf Ask_ft Ask_skip act ev_t ev_c evs sks caps2 touch_call List.cons_append List.nil_append putS binI binB int_add int_sub int_mul int_quo int_rem int_or int_eql int_neq int_lss int_leq int_gtr int_geq shiftD Ex.then Ex.inBlock Ends resL resX allD toD_d toD_fsl sk_d sk_fsl none_ loadA cut wrapA wrapD avc_d avc_agg avc_fsl avc_rsl avc_ptr avc_eptr avc_clo dc_agg dc_int dc_bool dc_str dc_sl dc_nilp dc_rp dc_clo on_int on_bool on_str on_sl on_nilp on_rp on_clo on_fsl on_rsl on_ptr on_eptr on_cloA newE elemsA elemsS storeA put frz_nil deep callee resA initS touchOp fits compat rd wr key1 buildA partsD partsK idx frz_at Body.frz lk_hit lk_miss toD6_agg toD5_agg toD4_agg toD6_clo toD5_clo toD4_clo toD6_ptr toD5_ptr toD4_ptr sk6_agg sk5_agg sk4_agg sk6_clo sk5_clo sk4_clo sk6_ptr sk5_ptr sk4_ptr toD_rsl sk_rsl
attribute [local simp] allD_map_d sks_map_d w64

def zT : T := .mk 0 0 []
def recA (n : Int) (l : List T) : Ar := ⟨true, zT, [], n, l⟩
theorem rec_ok (n : Int) (l : List T) (hl : l.length * 40 ≤ maxRoom) : Pure Try.prog n_porismref20_rec [.int .i64 n, eTs l] [.agg (cAr (recA n l))] := by
  refine p_porismref20_rec rfl fun hs => ?_
  simp -dsimp [hl, x_porismref20_rec, eTs, cAr, recA, zT, cT, T.kind, T.num, T.kids]
def declC (b : Bl) : List D := [.int .i64 3, .int .i64 0, .int .i64 0, .sl 3 [], .int .i64 0, .int .i64 0, .sl 3 []] ++ cBl b
theorem decl_ok (b : Bl) : Pure Try.prog n_porismref20_decl [eBl b] [.agg (declC b)] := by
  refine p_porismref20_decl rfl fun hs => ?_
  simp -dsimp [x_porismref20_decl, eBl, cBl, eSos, eCos, declC]
def natB : Bl := ⟨[⟨[], 0, false, zT⟩], [⟨0, [], [], zT⟩, ⟨0, [recA 0 []], [], zT⟩], 0⟩
theorem nat_ok : Pure Try.prog n_porismref20_Nat [] [.agg (declC natB)] := by
  refine p_porismref20_Nat rfl fun hs => ?_
  simp -dsimp [x_porismref20_Nat]
  refine call_of (rec_ok 0 [] (by decide)) ?_
  simp -dsimp [cAr, recA, zT, cT, T.kind, T.num, T.kids, eTs]
  refine call_of (decl_ok natB) ?_
  simp -dsimp [declC, cBl, eSos, eCos]
theorem wakes07_ok : Pure Try.prog n_porismlaw07_wakes [] [.bool true] := by
  refine p_porismlaw07_wakes rfl fun hs => ?_
  simp -dsimp [x_porismlaw07_wakes]
  refine call_of nat_ok ?_
  have h1 : checkB natB = 0 := by rfl
  simp -dsimp [declC, cBl, eSos, eCos]
  refine call_of (checkB_ok natB) ?_
  simp -dsimp [h1]
  refine call_of (count_ok natB) ?_
  have h2 : count natB = 4 := by rfl
  simp -dsimp [h1, h2]
  refine call_of (former_ok natB 5 0) ?_
  have h3 : former natB 5 0 = 5 := by rfl
  simp -dsimp [h1, h2, h3]
  refine call_of (constructor_ok natB 5 1) ?_
  have h4 : constructor_ natB 5 1 = 7 := by rfl
  simp -dsimp [h1, h2, h3, h4]
  refine call_of (eliminator_ok natB 5 0) ?_
  have h5 : eliminator natB 5 0 = 8 := by rfl
  simp -dsimp [h1, h2, h3, h4, h5]
end Ev
end Go.Proofs.Ytafpjpolkjdohaa
