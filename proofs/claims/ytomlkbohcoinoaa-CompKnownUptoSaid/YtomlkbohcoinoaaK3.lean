/- CompKnown. -/
import Derived.Test.YtomlkbohcoinoaaK2
namespace Go.Proofs.Ytomlkbohcoinoaa
namespace Ev
open Go
set_option maxRecDepth 100000
set_option linter.unusedSimpArgs false
set_option linter.unusedVariables false
attribute [local simp ↓] wx_skip wx_region wx_seq wx_block wx_exit wx_ret wx_cond wx_loop wo_nil wo_run wo_ask wx_draw wt_nil wt_run_t wt_run_f wt_ask_t wt_ask_f rb_mv rb_nilrow rb_pick rb_alloc rb_box rb_load rb_store rb_nilck rb_bin rb_binb rb_un rb_conv rb_mkf rb_mks rb_slice rb_faddr rb_fld rb_iaddr rb_ext rb_len rb_app rb_mm rb_build rb_bslice run_callC upd_eq upd_ne
attribute [local simp] runB_some runB_none Tch_nil Tch_cons Chk_t Cnd_t Cnd_f Ask_tt Ask_ff Ask_tf Ask_ft Ask_skip act ev_t ev_c evs sks caps2 touch_call List.cons_append List.nil_append putS binI binB int_add int_sub int_mul int_quo int_rem int_or int_eql int_neq int_lss int_leq int_gtr int_geq shiftD Ex.then Ex.inBlock Ends resL resX allD toD_d toD_fsl sk_d sk_fsl none_ loadA cut wrapA wrapD avc_d avc_agg avc_fsl avc_rsl avc_ptr avc_eptr avc_clo dc_agg dc_int dc_bool dc_str dc_sl dc_nilp dc_rp dc_clo on_int on_bool on_str on_sl on_nilp on_rp on_clo on_fsl on_rsl on_ptr on_eptr on_cloA newE elemsA elemsS storeA put frz_nil deep callee resA initS touchOp fits compat rd wr key1 buildA partsD partsK idx frz_at Body.frz lk_hit lk_miss toD6_agg toD5_agg toD4_agg toD6_clo toD5_clo toD4_clo toD6_ptr toD5_ptr toD4_ptr sk6_agg sk5_agg sk4_agg sk6_clo sk5_clo sk4_clo sk6_ptr sk5_ptr sk4_ptr toD_rsl sk_rsl resK EndsP EndsMP fitVs fitCs fitC keysV keysC keyC cellsA1 skVs skCs skC1 resO tupA valsV cellsV oneV rowsV rowsC RV.cells nk rowsH_one rowsH_two rowsH_none
section
attribute [local simp] allD_map_d sks_map_d tk tn tks initA EndsM one_sos one_cos one_ars one_ts
theorem treeB_ok : okBl (treeB 3 4) := by
  have hz : okT zT := okT_zT
  have h3 : okT (tC 3) := okT_leaf (by omega) (by omega)
  have hd : okT (.mk 6 0 [tC 4, tV 0]) := okT_k (by omega) (okT_leaf (by omega) (by omega)) (okT_leaf (by omega) (by omega)) (by omega)
  have h1 : okAr (extA (tC 3)) := ⟨h3, okTs_nil, ⟨by decide, by decide⟩, okTs_nil⟩
  have h2 : okAr treeA := ⟨hz, ⟨by simp [treeA], by simpa [treeA] using hd⟩, ⟨by decide, by decide⟩, okTs_nil⟩
  refine ⟨by simp [treeB], fun s hs => ?_, by simp [treeB], fun c hc => ?_, ⟨by decide, by decide⟩⟩
  · simp only [treeB, List.mem_singleton] at hs
    subst hs
    exact ⟨⟨by simp, by simp⟩, ⟨by decide, by decide⟩, hz⟩
  · simp only [treeB, List.mem_singleton] at hc
    subst hc
    exact ⟨⟨by decide, by decide⟩, ⟨by simp, fun x hx => by simp at hx; rcases hx with rfl | rfl; exact h1; exact h2⟩, okTs_nil, hz⟩
theorem treeB_fine : FineBl (treeB 3 4) := by
  have hz : nodes zT ≤ 9000 := by rw [zT, leaf_nodes]; omega
  have h3 : nodes (tC 3) ≤ 9000 := by rw [tC, leaf_nodes]; omega
  have hd : nodes (.mk 6 0 [tC 4, tV 0]) ≤ 9000 := by rw [nodes2, tC, tV, leaf_nodes, leaf_nodes]; omega
  have h1 : FineAr (extA (tC 3)) := ⟨h3, by simp [extA], by simp [extA], by simp [extA], by simp [extA]⟩
  have h2 : FineAr treeA := ⟨hz, by simp [treeA], by simpa [treeA] using hd, by simp [treeA], by simp [treeA]⟩
  refine ⟨by simp [treeB], by simp [treeB], fun s hs => ?_, fun c hc => ?_⟩
  · simp only [treeB, List.mem_singleton] at hs
    subst hs
    exact ⟨⟨by simp, by simp⟩, hz⟩
  · simp only [treeB, List.mem_singleton] at hc
    subst hc
    exact ⟨⟨by simp, fun x hx => by simp at hx; rcases hx with rfl | rfl; exact h1; exact h2⟩, by simp, by simp, hz⟩
theorem pi20_okT : okT (pi20 21) := okT_of_formed (pi20_facts 21 (by omega)).1
def tarA : Ar := ⟨true, zT, [.mk 6 0 [tC (20 + 1), tV 0]], 0, []⟩
theorem tarskiB_ok : okBl (tarskiB 20) := by
  have hz : okT zT := okT_zT
  have hU : okT (.mk 2 0 []) := okT_leaf (by omega) (by omega)
  have hd : okT (.mk 6 0 [tC (20 + 1), tV 0]) := okT_k (by omega) (okT_leaf (by omega) (by omega)) (okT_leaf (by omega) (by omega)) (by omega)
  have h1 : okAr (recA 0 []) := ⟨hz, okTs_nil, ⟨by decide, by decide⟩, okTs_nil⟩
  have h2 : okAr tarA := ⟨hz, ⟨by simp [tarA], by simpa [tarA] using hd⟩, ⟨by decide, by decide⟩, okTs_nil⟩
  refine ⟨by simp [tarskiB], fun s hs => ?_, by simp [tarskiB], fun c hc => ?_, ⟨by decide, by decide⟩⟩
  · simp only [tarskiB, List.mem_singleton] at hs
    subst hs
    exact ⟨⟨by simp, by simp⟩, ⟨by decide, by decide⟩, hU⟩
  · simp only [tarskiB, List.mem_singleton] at hc
    subst hc
    exact ⟨⟨by decide, by decide⟩, ⟨by simp, fun x hx => by simp at hx; rcases hx with rfl | rfl; exact h1; exact h2⟩, okTs_nil, pi20_okT⟩
theorem tarskiB_fine : FineBl (tarskiB 20) := by
  have hz : nodes zT ≤ 9000 := by rw [zT, leaf_nodes]; omega
  have hU : nodes (.mk 2 0 []) ≤ 9000 := by rw [leaf_nodes]; omega
  have hd : nodes (.mk 6 0 [tC (20 + 1), tV 0]) ≤ 9000 := by rw [nodes2, tC, tV, leaf_nodes, leaf_nodes]; omega
  have h1 : FineAr (recA 0 []) := ⟨hz, by simp [recA], by simp [recA], by simp [recA], by simp [recA]⟩
  have h2 : FineAr tarA := ⟨hz, by simp [tarA], by simpa [tarA] using hd, by simp [tarA], by simp [tarA]⟩
  refine ⟨by simp [tarskiB], by simp [tarskiB], fun s hs => ?_, fun c hc => ?_⟩
  · simp only [tarskiB, List.mem_singleton] at hs
    subst hs
    exact ⟨⟨by simp, by simp⟩, hU⟩
  · simp only [tarskiB, List.mem_singleton] at hc
    subst hc
    exact ⟨⟨by simp, fun x hx => by simp at hx; rcases hx with rfl | rfl; exact h1; exact h2⟩, by simp, by simp, by have := (pi20_facts 21 (by omega)).2.1; show nodes (pi20 21) ≤ 9000; omega⟩
def ovB (em es ef : Int) (i : Nat) : Bool := (decide (0 < i) && !decide (em = 0)) || (decide (1 < i) && !decide (es = 0)) || (decide (3 < i) && !decide (ef = 0))
theorem known13_law (a f m st : T) (oa : okT a) (of : okT f) (om : okT m) (os : okT st) (na : nodes a ≤ 1048576) (nf : nodes f ≤ 1048576) (nm : nodes m ≤ 1048576) (ns : nodes st ≤ 1048576) (hall : nodes a + nodes f + nodes m + nodes st ≤ 1048576) :
    Pure Try.prog n_porismlaw13_CompKnown [.agg (cT a), .agg (cT f), .agg (cT m), .agg (cT st)] [.bool true] := by
  refine p_porismlaw13_CompKnown rfl fun hs => ?_
  have hw := wakes13_ok
  have hH := heavy02_ok [a, f, m, st]
  have k1 := rcheck_ok a
  have k2 := rcheck_ok f
  have k3 := rcheck_ok m
  have k4 := rcheck_ok st
  have z1 := size_ok a
  have z2 := size_ok f
  have z3 := size_ok m
  have z4 := size_ok st
  have y1 := depth_ok a
  have y2 := depth_ok f
  have y3 := depth_ok m
  have y4 := depth_ok st
  rw [size_is _ (by omega)] at z1 z2 z3 z4
  rw [depth_is _ (by omega)] at y1 y2 y3 y4
  simp only [eTs, List.map_cons, List.map_nil, eT_eq, cT] at hH k1 k2 k3 k4 z1 z2 z3 z4 y1 y2 y3 y4
  simp -dsimp [x_porismlaw13_CompKnown, cT]
  refine call_of hH ?_
  simp -dsimp
  (first | refine Ask_b ?_ ?_ | refine Cnd_b ?_ ?_) <;> intro h0 <;> (try simp only [decide_eq_true_eq, decide_eq_false_iff_not, beq_iff_eq, beq_eq_false_iff_ne, bne_iff_ne, bne_eq_false_iff_eq, Bool.not_eq_true', Bool.not_eq_false', Bool.and_eq_true, Bool.or_eq_true, Bool.and_eq_false_iff, Bool.or_eq_false_iff] at h0) <;> simp -dsimp [h0]
  refine call_of k1 ?_
  by_cases c1 : checkM a = 0
  case neg => simp -dsimp [h0, c1]
  simp -dsimp [h0, c1]
  refine call_of k2 ?_
  by_cases c2 : checkM f = 0
  case neg => simp -dsimp [h0, c2]
  simp -dsimp [h0, c2]
  refine call_of k3 ?_
  by_cases c3 : checkM m = 0
  case neg => simp -dsimp [h0, c3]
  simp -dsimp [h0, c3]
  refine call_of k4 ?_
  by_cases c4 : checkM st = 0
  case neg => simp -dsimp [h0, c4]
  have d1 := depth_le a
  have d2 := depth_le f
  have d3 := depth_le m
  have d4 := depth_le st
  have w1 : IntKind.i64.wrap ((nodes a : Int) + nodes f) = (nodes a : Int) + nodes f := wrap_id (by omega) (by omega)
  have w2 : IntKind.i64.wrap ((nodes a : Int) + nodes f + nodes m) = (nodes a : Int) + nodes f + nodes m := wrap_id (by omega) (by omega)
  have w3 : IntKind.i64.wrap ((nodes a : Int) + nodes f + nodes m + nodes st) = (nodes a : Int) + nodes f + nodes m + nodes st := wrap_id (by omega) (by omega)
  have v1 : IntKind.i64.wrap ((depthN a : Int) + depthN f) = (depthN a : Int) + depthN f := wrap_id (by omega) (by omega)
  have v2 : IntKind.i64.wrap ((depthN a : Int) + depthN f + depthN m) = (depthN a : Int) + depthN f + depthN m := wrap_id (by omega) (by omega)
  have v3 : IntKind.i64.wrap ((depthN a : Int) + depthN f + depthN m + depthN st) = (depthN a : Int) + depthN f + depthN m + depthN st := wrap_id (by omega) (by omega)
  simp -dsimp [h0, c4]
  refine call_of z1 ?_
  simp -dsimp
  refine call_of z2 ?_
  simp -dsimp [w1]
  refine call_of z3 ?_
  simp -dsimp [w1, w2]
  refine call_of z4 ?_
  simp -dsimp [w1, w2, w3]
  by_cases q1 : (500 : Int) < (nodes a : Int) + nodes f + nodes m + nodes st
  · simp -dsimp [q1]
  simp -dsimp [q1]
  refine call_of y1 ?_
  simp -dsimp [q1]
  refine call_of y2 ?_
  simp -dsimp [q1, v1]
  refine call_of y3 ?_
  simp -dsimp [q1, v1, v2]
  refine call_of y4 ?_
  simp -dsimp [q1, v1, v2, v3]
  by_cases q2 : (60 : Int) < (depthN a : Int) + depthN f + depthN m + depthN st
  · simp -dsimp [q1, q2]
  simp -dsimp [q1, q2]
  have ta : Tiny a := ⟨c1, by omega, by omega⟩
  have tf : Tiny f := ⟨c2, by omega, by omega⟩
  have tm : Tiny m := ⟨c3, by omega, by omega⟩
  have ts : Tiny st := ⟨c4, by omega, by omega⟩
  have hTree := tree_ok 3 4 (by omega) (by omega)
  have hEl := elim_ok (treeB 3 4) treeB_fine treeB_ok 20 0 [m] [st] [a, f] (by simp; omega) (by simp) (by simp; omega) (by simp) (by simp; omega) (by simp) (by simpa using os) (by simp; exact ⟨oa, of⟩)
  obtain ⟨t1, t2⟩ := tree_elim ta tf tm ts (by omega) (by omega)
  have r1 := rshift_ok m 1 0 (by omega)
  have r2 := rshift_ok st 1 0 (by omega)
  have r3 := rshift_ok a 1 0 (by omega)
  have r4 := rshift_ok f 1 0 (by omega)
  simp only [cT] at r1 r2 r3 r4
  simp only [declC, cBl, eBl, cT, eTs, List.map_cons, List.map_nil, eT_eq, List.cons_append, List.nil_append] at hTree hEl
  refine call_of hTree ?_
  simp -dsimp
  refine call_of hEl ?_
  generalize hE : elimE (treeB 3 4) 20 0 [m] [st] [a, f] = E at *
  generalize hX : elimT (treeB 3 4) 20 0 [m] [st] [a, f] = X at *
  simp -dsimp
  refine wp_upto 4 (fun i st' => st'.s 4 = .ptr 4 1 0 ∧ st'.s 5 = .ptr 5 1 0 ∧ st'.s 6 = .ptr 6 1 0 ∧ st'.s 7 = .ptr 7 1 0 ∧ st'.s 9 = .d (.clo n_porismref01_T []) ∧ st'.s 10 = .d (.clo n_porismref01_C []) ∧ st'.s 11 = .d (.clo n_porismref01_V []) ∧ st'.s 12 = .ptr 12 1 0 ∧ st'.s 13 = .d (.int .i64 E) ∧
    st'.s 14 = .d (.bool (ovB (shiftE m 1 0) (shiftE st 1 0) (shiftE f 1 0) i)) ∧ st'.s 15 = .fsl 3 [eT m, eT st, eT a, eT f] ∧ st'.s 16 = .d (.int .i64 i) ∧
    st'.h 4 = ⟨1, .box [.d (.int .i64 a.kind), .d (.int .i64 a.num), .d (.sl 3 (a.kids.map eT))] false⟩ ∧
    st'.h 5 = ⟨1, .box [.d (.int .i64 f.kind), .d (.int .i64 f.num), .d (.sl 3 (f.kids.map eT))] false⟩ ∧
    st'.h 6 = ⟨1, .box [.d (.int .i64 m.kind), .d (.int .i64 m.num), .d (.sl 3 (m.kids.map eT))] false⟩ ∧
    st'.h 7 = ⟨1, .box [.d (.int .i64 st.kind), .d (.int .i64 st.num), .d (.sl 3 (st.kids.map eT))] false⟩ ∧
    st'.h 12 = ⟨1, .box [.d (.int .i64 X.kind), .d (.int .i64 X.num), .d (.sl 3 (X.kids.map eT))] false⟩) ?_ ?_
  · simp -dsimp [ovB, eT_eq, cT]
  · rintro i ⟨s, hp⟩ hi ⟨e4, e5, e6, e7, e9, e10, e11, e12, e13, e14, e15, e16, g4, g5, g6, g7, g12⟩
    dsimp only at e4 e5 e6 e7 e9 e10 e11 e12 e13 e14 e15 e16 g4 g5 g6 g7 g12
    simp only [eT_eq, cT] at e15
    have x1 : IntKind.i64.wrap 1 = 1 := wrap_id (by omega) (by omega)
    have x2 : IntKind.i64.wrap 2 = 2 := wrap_id (by omega) (by omega)
    have x3 : IntKind.i64.wrap 3 = 3 := wrap_id (by omega) (by omega)
    have x4 : IntKind.i64.wrap 4 = 4 := wrap_id (by omega) (by omega)
    have hcase : i = 0 ∨ i = 1 ∨ i = 2 ∨ i = 3 ∨ i = 4 := by omega
    rcases hcase with rfl | rfl | rfl | rfl | rfl
    · simp -dsimp [e4, e5, e6, e7, e9, e10, e11, e12, e13, e14, e15, e16, g4, g5, g6, g7, g12, ovB]
      refine call_of r1 ?_
      by_cases hm : shiftE m 1 0 = 0 <;> simp -dsimp [e4, e5, e6, e7, e9, e10, e11, e12, e13, e14, e15, e16, g4, g5, g6, g7, g12, ovB, hm, x1, eT_eq, cT]
    · simp -dsimp [e4, e5, e6, e7, e9, e10, e11, e12, e13, e14, e15, e16, g4, g5, g6, g7, g12, ovB]
      refine call_of r2 ?_
      by_cases hm : shiftE m 1 0 = 0 <;> by_cases hs' : shiftE st 1 0 = 0 <;> simp -dsimp [e4, e5, e6, e7, e9, e10, e11, e12, e13, e14, e15, e16, g4, g5, g6, g7, g12, ovB, hm, hs', x2, eT_eq, cT]
    · simp -dsimp [e4, e5, e6, e7, e9, e10, e11, e12, e13, e14, e15, e16, g4, g5, g6, g7, g12, ovB]
      refine call_of r3 ?_
      by_cases hm : shiftE m 1 0 = 0 <;> by_cases hs' : shiftE st 1 0 = 0 <;> by_cases ha' : shiftE a 1 0 = 0 <;> simp -dsimp [e4, e5, e6, e7, e9, e10, e11, e12, e13, e14, e15, e16, g4, g5, g6, g7, g12, ovB, hm, hs', ha', x3, eT_eq, cT]
    · simp -dsimp [e4, e5, e6, e7, e9, e10, e11, e12, e13, e14, e15, e16, g4, g5, g6, g7, g12, ovB]
      refine call_of r4 ?_
      by_cases hm : shiftE m 1 0 = 0 <;> by_cases hs' : shiftE st 1 0 = 0 <;> by_cases hf' : shiftE f 1 0 = 0 <;> simp -dsimp [e4, e5, e6, e7, e9, e10, e11, e12, e13, e14, e15, e16, g4, g5, g6, g7, g12, ovB, hm, hs', hf', x4, eT_eq, cT]
    · by_cases hov : shiftE m 1 0 = 0 ∧ shiftE st 1 0 = 0 ∧ shiftE f 1 0 = 0
      case neg =>
        have hb : ovB (shiftE m 1 0) (shiftE st 1 0) (shiftE f 1 0) 4 = true := by
          simp only [ovB]
          by_cases hm : shiftE m 1 0 = 0 <;> by_cases hs' : shiftE st 1 0 = 0 <;> by_cases hf' : shiftE f 1 0 = 0 <;> simp [hm, hs', hf'] at hov ⊢
        rw [hb] at e14
        obtain ⟨p1, p2⟩ := t1 hov
        have hk := keepTerm_ok zT
        simp only [cT, zT, tk, tn, tks, List.map_nil] at hk
        rw [p1] at e13
        rw [p2] at g12
        simp only [zT, tk, tn, tks, List.map_nil] at g12
        simp -dsimp [e4, e5, e6, e7, e9, e10, e11, e12, e13, e14, e15, e16, g4, g5, g6, g7, g12]
        refine call_of hk ?_
        simp -dsimp
        refine call_of hw ?_
        simp -dsimp
      obtain ⟨hm, hs', hf'⟩ := hov
      have hb : ovB (shiftE m 1 0) (shiftE st 1 0) (shiftE f 1 0) 4 = false := by simp [ovB, hm, hs', hf']
      rw [hb] at e14
      obtain ⟨p1, p2⟩ := t2 hm hs' hf'
      rw [p1] at e13
      have hc := rc_ok
      have hv := rv_ok 0
      have hT1 := rt_ok 6 [tC 4, a] (by simp [maxRoom])
      have u1 := up_ok m 1 (by omega) tm.f (by omega)
      have u2 := up_ok st 1 (by omega) ts.f (by omega)
      have u3 := up_ok f 1 (by omega) tf.f (by omega)
      rw [show mapT (shF 0 1) m 0 = sT 1 m from rfl] at u1
      rw [show mapT (shF 0 1) st 0 = sT 1 st from rfl] at u2
      rw [show mapT (shF 0 1) f 0 = sT 1 f from rfl] at u3
      have hT2 := rt_ok 6 [sT 1 f, tV 0] (by simp [maxRoom])
      have fm := (shift_right (by omega) hm).2.1
      have fs := (shift_right (by omega) hs').2.1
      have ff := (shift_right (by omega) hf').2.1
      rw [shift_sT hm] at fm
      rw [shift_sT hs'] at fs
      rw [shift_sT hf'] at ff
      have om' := okT_of_formed fm
      have os' := okT_of_formed fs
      have of' := okT_of_formed ff
      have oV : okT (tV 0) := okT_leaf (by omega) (by omega)
      have oA : okT (.mk 6 0 [sT 1 f, tV 0]) := okT_k (by omega) of' oV (by omega)
      have oC : ∀ n : Int, 0 ≤ n ∧ n ≤ 100000 → okT (tC n) := fun n h => okT_leaf (by omega) h
      have hS := rspine_ok (tC 22) [sT 1 m, sT 1 st, .mk 6 0 [sT 1 f, tV 0]] (by simp) (oC 22 (by omega)) ⟨by simp, by intro x hx; simp at hx; rcases hx with rfl | rfl | rfl; exact om'; exact os'; exact oA⟩
      have hT3 := rt_ok 5 [.mk 6 0 [tC 4, a], spT (tC 22) [sT 1 m, sT 1 st, .mk 6 0 [sT 1 f, tV 0]]] (by simp [maxRoom])
      have oQ := sp_okT [sT 1 m, sT 1 st, .mk 6 0 [sT 1 f, tV 0]] _ (oC 22 (by omega)) (by intro x hx; simp at hx; rcases hx with rfl | rfl | rfl; exact om'; exact os'; exact oA)
      have oE : okT (eachT a f m st) := okT_k (by omega) (okT_k (by omega) (oC 4 (by omega)) oa (by omega)) oQ (by omega)
      have hS2 := rspine_ok st [a, f, eachT a f m st] (by simp) os ⟨by simp, by intro x hx; simp at hx; rcases hx with rfl | rfl | rfl; exact oa; exact of; exact oE⟩
      have hk := keepTerm_ok (spT st [a, f, eachT a f m st])
      rw [show T.mk 5 0 [.mk 6 0 [tC 4, a], spT (tC 22) [sT 1 m, sT 1 st, .mk 6 0 [sT 1 f, tV 0]]] = eachT a f m st from rfl] at hT3
      rw [p2] at g12
      generalize spT st [a, f, eachT a f m st] = W at *
      generalize spT (tC 22) [sT 1 m, sT 1 st, .mk 6 0 [sT 1 f, tV 0]] = S1 at *
      generalize eachT a f m st = E1 at *
      simp only [cT, tC, tV, eTs, List.map_cons, List.map_nil, eT_eq, tk, tn, tks] at hc hv hT1 u1 u2 u3 hT2 hS hT3 hS2 hk
      simp -dsimp [e4, e5, e6, e7, e9, e10, e11, e12, e13, e14, e15, e16, g4, g5, g6, g7, g12]
      refine call_of (hc 4) ?_
      simp -dsimp [e4, e5, e6, e7, e9, e10, e11, e12, e13, e14, e15, e16, g4, g5, g6, g7, g12]
      refine call_of hT1 ?_
      simp -dsimp [e4, e5, e6, e7, e9, e10, e11, e12, e13, e14, e15, e16, g4, g5, g6, g7, g12]
      refine call_of (hc 22) ?_
      simp -dsimp [e4, e5, e6, e7, e9, e10, e11, e12, e13, e14, e15, e16, g4, g5, g6, g7, g12]
      refine call_of u1 ?_
      simp -dsimp [e4, e5, e6, e7, e9, e10, e11, e12, e13, e14, e15, e16, g4, g5, g6, g7, g12]
      refine call_of u2 ?_
      simp -dsimp [e4, e5, e6, e7, e9, e10, e11, e12, e13, e14, e15, e16, g4, g5, g6, g7, g12]
      refine call_of u3 ?_
      simp -dsimp [e4, e5, e6, e7, e9, e10, e11, e12, e13, e14, e15, e16, g4, g5, g6, g7, g12]
      refine call_of hv ?_
      simp -dsimp [e4, e5, e6, e7, e9, e10, e11, e12, e13, e14, e15, e16, g4, g5, g6, g7, g12]
      refine call_of hT2 ?_
      simp -dsimp [e4, e5, e6, e7, e9, e10, e11, e12, e13, e14, e15, e16, g4, g5, g6, g7, g12]
      refine call_of hS ?_
      simp -dsimp [e4, e5, e6, e7, e9, e10, e11, e12, e13, e14, e15, e16, g4, g5, g6, g7, g12]
      refine call_of hT3 ?_
      simp -dsimp [e4, e5, e6, e7, e9, e10, e11, e12, e13, e14, e15, e16, g4, g5, g6, g7, g12]
      refine call_of hS2 ?_
      simp -dsimp [e4, e5, e6, e7, e9, e10, e11, e12, e13, e14, e15, e16, g4, g5, g6, g7, g12]
      refine call_of hk ?_
      simp -dsimp [e4, e5, e6, e7, e9, e10, e11, e12, e13, e14, e15, e16, g4, g5, g6, g7, g12]
      have hTa := tarski_ok 20 (by omega)
      have hDe := decode_ok (tarskiB 20) tarskiB_fine tarskiB_ok 0 [a, f] (by simp; omega) (by simp) (by simp; exact ⟨oa, of⟩)
      obtain ⟨i1, i2⟩ := pi_inst ta tf hf' (by omega) (by omega)
      have hFa : firstE [a, f] = 0 := by simp [firstE, c1, c2]
      have hDE : decodeE (tarskiB 20) 0 [a, f] = 0 := by
        rw [decodeE, if_pos tarski_check, if_neg (by omega)]
        show (if [a, f].length = 2 then _ else _) = 0
        rw [if_pos (show [a, f].length = 2 from rfl)]
        show (if true = true then (if firstE [a, f] = 0 then instE (pi20 21) [a, f] 0 else firstE [a, f]) else 1) = 0
        rw [if_pos (show true = true from rfl), if_pos hFa]
        exact i1
      have hDT : decodeT (tarskiB 20) 0 [a, f] = .mk 4 0 [.mk 6 0 [tC 21, a], .mk 6 0 [tC 21, .mk 6 0 [sT 1 f, tV 0]]] := by
        rw [decodeT, if_pos hDE]
        exact i2
      rw [hDE, hDT] at hDe
      have hX1 := rt_ok 6 [tC 21, a] (by simp [maxRoom])
      have hX2 := rt_ok 6 [tC 21, .mk 6 0 [sT 1 f, tV 0]] (by simp [maxRoom])
      have hX3 := rt_ok 4 [.mk 6 0 [tC 21, a], .mk 6 0 [tC 21, .mk 6 0 [sT 1 f, tV 0]]] (by simp [maxRoom])
      have hK2 := keepTerm_ok (.mk 4 0 [.mk 6 0 [tC 21, a], .mk 6 0 [tC 21, .mk 6 0 [sT 1 f, tV 0]]])
      simp only [declC, cBl, eBl, cT, tC, tV, eTs, List.map_cons, List.map_nil, eT_eq, tk, tn, tks, List.cons_append, List.nil_append] at hTa hDe hX1 hX2 hX3 hK2
      refine call_of hTa ?_
      simp -dsimp [e4, e5, e6, e7, e9, e10, e11, e12, e13, e14, e15, e16, g4, g5, g6, g7, g12]
      refine call_of hDe ?_
      simp -dsimp [e4, e5, e6, e7, e9, e10, e11, e12, e13, e14, e15, e16, g4, g5, g6, g7, g12]
      refine call_of (hc 21) ?_
      simp -dsimp [e4, e5, e6, e7, e9, e10, e11, e12, e13, e14, e15, e16, g4, g5, g6, g7, g12]
      refine call_of hX1 ?_
      simp -dsimp [e4, e5, e6, e7, e9, e10, e11, e12, e13, e14, e15, e16, g4, g5, g6, g7, g12]
      refine call_of (hc 21) ?_
      simp -dsimp [e4, e5, e6, e7, e9, e10, e11, e12, e13, e14, e15, e16, g4, g5, g6, g7, g12]
      refine call_of u3 ?_
      simp -dsimp [e4, e5, e6, e7, e9, e10, e11, e12, e13, e14, e15, e16, g4, g5, g6, g7, g12]
      refine call_of hv ?_
      simp -dsimp [e4, e5, e6, e7, e9, e10, e11, e12, e13, e14, e15, e16, g4, g5, g6, g7, g12]
      refine call_of hT2 ?_
      simp -dsimp [e4, e5, e6, e7, e9, e10, e11, e12, e13, e14, e15, e16, g4, g5, g6, g7, g12]
      refine call_of hX2 ?_
      simp -dsimp [e4, e5, e6, e7, e9, e10, e11, e12, e13, e14, e15, e16, g4, g5, g6, g7, g12]
      refine call_of hX3 ?_
      simp -dsimp [e4, e5, e6, e7, e9, e10, e11, e12, e13, e14, e15, e16, g4, g5, g6, g7, g12]
      refine call_of hK2 ?_
      simp -dsimp [e4, e5, e6, e7, e9, e10, e11, e12, e13, e14, e15, e16, g4, g5, g6, g7, g12]
      refine call_of hw ?_
      simp -dsimp
end
end Ev
end Go.Proofs.Ytomlkbohcoinoaa
