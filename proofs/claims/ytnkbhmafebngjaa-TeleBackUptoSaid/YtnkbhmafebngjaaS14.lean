/- Twins are what they are twins of. -/
import Derived.Test.YtnkbhmafebngjaaS12
import Derived.Test.YtnkbhmafebngjaaS7
namespace Go.Proofs.Ytnkbhmafebngjaa
namespace Ev
open Go
set_option maxRecDepth 100000
set_option linter.unusedSimpArgs false
set_option linter.unusedVariables false
attribute [local simp ↓] wx_skip wx_region wx_seq wx_block wx_exit wx_ret wx_cond wx_loop wo_nil wo_run wo_ask wx_draw wt_nil wt_run_t wt_run_f wt_ask_t wt_ask_f rb_mv rb_nilrow rb_pick rb_alloc rb_box rb_load rb_store rb_nilck rb_bin rb_binb rb_un rb_conv rb_mkf rb_mks rb_slice rb_faddr rb_fld rb_iaddr rb_ext rb_len rb_app rb_mm rb_build rb_bslice run_callC upd_eq upd_ne
attribute [local simp] runB_some runB_none Tch_nil Tch_cons Chk_t Cnd_t Cnd_f Ask_tt Ask_ff Ask_tf Ask_ft Ask_skip act ev_t ev_c evs sks caps2 touch_call List.cons_append List.nil_append putS binI binB int_add int_sub int_mul int_quo int_rem int_or int_eql int_neq int_lss int_leq int_gtr int_geq shiftD Ex.then Ex.inBlock Ends resL resX allD toD_d toD_fsl sk_d sk_fsl none_ loadA cut wrapA wrapD avc_d avc_agg avc_fsl avc_rsl avc_ptr avc_eptr avc_clo dc_agg dc_int dc_bool dc_str dc_sl dc_nilp dc_rp dc_clo on_int on_bool on_str on_sl on_nilp on_rp on_clo on_fsl on_rsl on_ptr on_eptr on_cloA newE elemsA elemsS storeA put frz_nil deep callee resA initS touchOp fits compat rd wr key1 buildA partsD partsK idx frz_at Body.frz lk_hit lk_miss toD6_agg toD5_agg toD4_agg toD6_clo toD5_clo toD4_clo toD6_ptr toD5_ptr toD4_ptr sk6_agg sk5_agg sk4_agg sk6_clo sk5_clo sk4_clo sk6_ptr sk5_ptr sk4_ptr toD_rsl sk_rsl
attribute [local simp] allD_map_d sks_map_d

theorem take_next {α : Type} (f : α → D) (g : α → List D) (hg : ∀ a, f a = .agg (g a)) (l : List α) (i : Nat) (h : i < l.length) : (l.map f).take i ++ [.agg (g l[i])] = (l.map f).take (i + 1) := by
  rw [List.take_add_one, List.getElem?_eq_getElem (by simpa using h)]
  simp [hg]
theorem twins_of (l : List T) (hl : l.length * 40 ≤ 140737488351232) (h : ∀ x ∈ l, Pure Try.prog n_porismkeep_Twin [.agg (cT x)] [.agg (cT x)]) : Pure Try.prog n_porismkeep_Twins [eTs l] [eTs l] := by
  refine p_porismkeep_Twins rfl fun hs => ?_
  simp -dsimp [x_porismkeep_Twins, eTs]
  refine wp_upto l.length (fun i st => st.s 0 = .d (.sl 3 (l.map eT)) ∧ st.s 4 = .d (.int .i64 i) ∧ ∃ v, st.s 3 = .rsl 3 v ∧ st.h 3 = ⟨v, .row 3 ((l.map eT).take i) false⟩) ?_ ?_
  · simp -dsimp
  · rintro i ⟨s, hp⟩ hi ⟨g1, g2, v, g3, g4⟩
    dsimp only at g1 g2 g3 g4
    rcases Nat.lt_or_ge i l.length with hlt | hge
    · have w1 : IntKind.i64.wrap ((i : Int) + 1) = (i : Int) + 1 := wrap_id (by omega) (by omega)
      simp -dsimp [g1, g2, g3, g4, hlt, cT]
      refine call_of (h l[i] (List.getElem_mem _)) ?_
      have hr : (min i l.length + 1) * 40 ≤ maxRoom := by simp only [maxRoom]; omega
      have hn := take_next eT cT eT_eq l i hlt
      simp only [cT] at hn
      simp -dsimp [g1, g2, g3, g4, hlt, cT, hr, hn, w1]
    · have e : i = l.length := by omega
      subst e
      simp -dsimp [g1, g2, g3, g4]
      exact List.take_of_length_le (by simp)
theorem twin_ok (t : T) : okT t → Pure Try.prog n_porismkeep_Twin [.agg (cT t)] [.agg (cT t)] := by
  refine T.ind (p := fun t => okT t → Pure Try.prog n_porismkeep_Twin [.agg (cT t)] [.agg (cT t)]) ?_ t
  intro k n ks ih h
  obtain ⟨h1, h2⟩ := h.kids
  refine p_porismkeep_Twin rfl fun hs => ?_
  simp -dsimp [x_porismkeep_Twin, cT, T.kind, T.num, T.kids]
  refine call_of (twins_of ks h1 fun x hx => ih x hx (h2 x hx)) ?_
  simp -dsimp [eTs]
theorem twins_ok (l : List T) (h : okTs l) : Pure Try.prog n_porismkeep_Twins [eTs l] [eTs l] := twins_of l h.1 fun x hx => twin_ok x (h.2 x hx)
end Ev
end Go.Proofs.Ytnkbhmafebngjaa
