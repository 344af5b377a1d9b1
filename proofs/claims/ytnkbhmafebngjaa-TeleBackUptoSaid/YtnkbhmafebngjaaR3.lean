/- tele: spines taken apart. -/
import Derived.Test.YtnkbhmafebngjaaR2
namespace Go.Proofs.Ytnkbhmafebngjaa
namespace Ev
open Go
set_option maxRecDepth 100000
set_option linter.unusedSimpArgs false
set_option linter.unusedVariables false
attribute [local simp ↓] wx_skip wx_region wx_seq wx_block wx_exit wx_ret wx_cond wx_loop wo_nil wo_run wo_ask wx_draw wt_nil wt_run_t wt_run_f wt_ask_t wt_ask_f rb_mv rb_nilrow rb_pick rb_alloc rb_box rb_load rb_store rb_nilck rb_bin rb_binb rb_un rb_conv rb_mkf rb_mks rb_slice rb_faddr rb_fld rb_iaddr rb_ext rb_len rb_app rb_mm rb_build rb_bslice run_callC upd_eq upd_ne
attribute [local simp] runB_some runB_none Tch_nil Tch_cons Chk_t Cnd_t Cnd_f Ask_tt Ask_ff Ask_tf Ask_ft Ask_skip act ev_t ev_c evs sks caps2 touch_call List.cons_append List.nil_append putS binI binB int_add int_sub int_mul int_quo int_rem int_or int_eql int_neq int_lss int_leq int_gtr int_geq shiftD Ex.then Ex.inBlock Ends resL resX allD toD_d toD_fsl sk_d sk_fsl none_ loadA cut wrapA wrapD avc_d avc_agg avc_fsl avc_rsl avc_ptr avc_eptr avc_clo dc_agg dc_int dc_bool dc_str dc_sl dc_nilp dc_rp dc_clo on_int on_bool on_str on_sl on_nilp on_rp on_clo on_fsl on_rsl on_ptr on_eptr on_cloA newE elemsA elemsS storeA put frz_nil deep callee resA initS touchOp fits compat rd wr key1 buildA partsD partsK idx frz_at Body.frz lk_hit lk_miss toD6_agg toD5_agg toD4_agg toD6_clo toD5_clo toD4_clo toD6_ptr toD5_ptr toD4_ptr sk6_agg sk5_agg sk4_agg sk6_clo sk5_clo sk4_clo sk6_ptr sk5_ptr sk4_ptr toD_rsl sk_rsl
attribute [local simp] allD_map_d sks_map_d tk tn tks

theorem split_ok (t : T) (hb : (spA t).length ≤ 1000000) : Pure Try.prog n_tele_Split [.agg (cT t)] [.agg (cT (spH t)), eTs (spA t).reverse] := by
  refine p_tele_Split rfl fun hs => ?_
  simp -dsimp [x_tele_Split, cT]
  refine wp_upto (spA t).length (fun i st => st.s 2 = .ptr 2 1 0 ∧ st.h 2 = ⟨1, .box [.d (.int .i64 0), .d (.int .i64 0), .fsl 3 []] false⟩ ∧ st.s 1 = .ptr 1 1 0 ∧ ∃ (cur : T) (L : List T),
    st.h 1 = ⟨1, .box [.d (.int .i64 cur.kind), .d (.int .i64 cur.num), .d (.sl 3 (cur.kids.map eT))] false⟩ ∧ L ++ spA cur = spA t ∧ L.length = i ∧ spH cur = spH t ∧
    st.s 4 = .rsl 4 (1 + i) ∧ st.h 4 = ⟨1 + i, .row 3 (L.map eT) false⟩) ?_ ?_
  · simp -dsimp
    exact ⟨t, ⟨rfl, rfl, rfl⟩, [], by simp⟩
  · rintro i ⟨s, hp⟩ hi ⟨g1, g2, g3, cur, L, g4, g5, g6, g7, g8, g9⟩
    dsimp only at g1 g2 g3 g4 g8 g9
    have htw := two_ok cur 6
    obtain ⟨k, n, ks⟩ := cur
    simp only [cT, tk, tn, tks] at htw g4
    have hL : L.length ≤ (spA t).length := by rw [← g5, List.length_append]; omega
    by_cases hc : k = 6 ∧ ∃ a b, ks = [a, b]
    · have hd := twoB_yes (n := n) |>.2 hc
      rw [hd] at htw
      obtain ⟨rfl, a, b, rfl⟩ := hc
      rw [(sp_two n a b).1] at g5
      rw [(sp_two n a b).2] at g7
      have hlt : i < (spA t).length := by rw [← g5, List.length_append, List.length_cons]; omega
      simp -dsimp [g1, g2, g3, g4, g8, g9]
      refine call_of htw ?_
      have hr : (L.length + 1) * 40 ≤ maxRoom := by simp only [maxRoom]; omega
      simp -dsimp [g1, g2, g3, g4, g8, g9, hr, eT_eq, cT]
      exact ⟨hlt, a, ⟨rfl, rfl, rfl⟩, L ++ [b], by simp [g5], by simp [g6], g7, by omega, by simp [eT_eq, cT]⟩
    · have hd : twoB (.mk k n ks) 6 = false := by
        cases h : twoB (.mk k n ks) 6 with
        | false => rfl
        | true => exact absurd (twoB_yes.1 h) hc
      have e1 := sp_none (n := n) hc
      rw [e1.1, List.append_nil] at g5
      rw [e1.2] at g7
      subst g5
      rw [hd] at htw
      simp -dsimp [g1, g2, g3, g4, g8, g9]
      refine call_of htw ?_
      simp -dsimp [g1, g2, g3, g4, g8, g9]
      refine callM_of (reverse_mut 4 (1 + i) (spA t) (by omega)) ?_ ?_
      · simp [revH, g9]
      simp -dsimp [mergeK_cons, mergeK_nil, revH, g1, g2, g3, g4, g8, g9, ← g7]
      simp [eTs, List.map_reverse]
theorem unspine_ok (t : T) (hb : (spA t).length ≤ 1000000) (h1 : okT (spH t)) (h2 : okTs (spA t).reverse) : Pure Try.prog n_tele_Unspine [.agg (cT t)] [.agg (cT (spH t)), eTs (spA t).reverse] := by
  refine p_tele_Unspine rfl fun hs => ?_
  have hsp := split_ok t hb
  generalize (spA t).reverse = R at hsp h2 ⊢
  simp -dsimp [x_tele_Unspine, cT]
  refine call_of hsp ?_
  simp -dsimp [cT, eTs]
  refine call_of (ttwin_ok _ h1) ?_
  simp -dsimp [cT, eTs]
  refine call_of (ttwins_ok _ h2) ?_
  simp -dsimp [cT, eTs]

/-- A term applied to others. -/
def spT (f : T) (l : List T) : T := l.foldl (fun o a => .mk 6 0 [o, a]) f
theorem rc_ok (n : Int) : Pure Try.prog n_porismref01_C [.int .i64 n] [.agg (cT (.mk 3 n []))] := by
  refine p_porismref01_C rfl fun hs => ?_
  simp -dsimp [x_porismref01_C, cT]
theorem rv_ok (n : Int) : Pure Try.prog n_porismref01_V [.int .i64 n] [.agg (cT (.mk 1 n []))] := by
  refine p_porismref01_V rfl fun hs => ?_
  simp -dsimp [x_porismref01_V, cT]
theorem ru_ok (n : Int) : Pure Try.prog n_porismref01_U [.int .i64 n] [.agg (cT (.mk 2 n []))] := by
  refine p_porismref01_U rfl fun hs => ?_
  simp -dsimp [x_porismref01_U, cT]
theorem v_ok (n : Int) : Pure Try.prog n_term_V [.int .i64 n] [.agg (cT (.mk 1 n []))] := by
  refine p_term_V rfl fun hs => ?_
  simp -dsimp [x_term_V, cT]
theorem node_ok (k : Int) (l : List T) : Pure Try.prog n_term_Node [.int .i64 k, .sl 3 (l.map eT)] [.agg [.int .i64 k, .int .i64 0, .sl 3 (l.map eT)]] := by
  refine p_term_Node rfl fun hs => ?_
  simp -dsimp [x_term_Node, cT]
theorem spine_ok (f : T) (l : List T) (hl : l.length ≤ 100000000) (hf : okT f) (ho : okTs l) : Pure Try.prog n_tele_Spine [.agg (cT f), eTs l] [.agg (cT (spT f l))] := by
  refine p_tele_Spine rfl fun hs => ?_
  simp -dsimp [x_tele_Spine, cT, eTs]
  refine call_of (ttwin_ok f hf) ?_
  simp -dsimp [cT]
  refine wp_upto l.length (fun i st => st.s 4 = .ptr 4 1 0 ∧ st.h 4 = ⟨1, .box [.d (.int .i64 0), .d (.int .i64 0), .fsl 3 []] false⟩ ∧ st.s 10 = .d (.sl 3 (l.map eT)) ∧ st.s 11 = .d (.int .i64 l.length) ∧ st.s 12 = .d (.int .i64 i) ∧
    st.s 5 = .ptr 5 1 0 ∧ ∃ cs, st.h 5 = ⟨1, .box [.d (.int .i64 (spT f (l.take i)).kind), .d (.int .i64 (spT f (l.take i)).num), cs] false⟩ ∧ (cs = .d (.sl 3 ((spT f (l.take i)).kids.map eT)) ∨ cs = .fsl 3 ((spT f (l.take i)).kids.map eT))) ?_ ?_
  · simp -dsimp [spT]
  · rintro i ⟨s, hp⟩ hi ⟨g1, g2, g3, g4, g5, g6, cs, g7, g8⟩
    dsimp only at g1 g2 g3 g4 g5 g6 g7
    rcases Nat.lt_or_ge i l.length with hlt | hge
    · have w1 : IntKind.i64.wrap ((i : Int) + 1) = (i : Int) + 1 := wrap_id (by omega) (by omega)
      have hnx : spT f (l.take (i + 1)) = .mk 6 0 [spT f (l.take i), l[i]] := by
        have e : l.take (i + 1) = l.take i ++ [l[i]] := by rw [List.take_add_one, List.getElem?_eq_getElem hlt]; rfl
        rw [spT, e, List.foldl_append]
        rfl
      rw [hnx]
      generalize spT f (l.take i) = Y at g7 g8
      have hnode := node_ok 6 [Y, l[i]]
      simp only [List.map_cons, List.map_nil, eT_eq, cT] at hnode
      rcases g8 with rfl | rfl
      · simp -dsimp [g1, g2, g3, g4, g5, g6, g7, hlt, cT]
        refine call_of (ttwin_ok l[i] (ho.2 _ (List.getElem_mem _))) ?_
        simp -dsimp [g1, g2, g3, g4, g5, g6, g7, hlt, cT]
        refine call_of hnode ?_
        simp -dsimp [g1, g2, g3, g4, g5, g6, g7, hlt, w1, eT_eq, cT]
      · simp -dsimp [g1, g2, g3, g4, g5, g6, g7, hlt, cT]
        refine call_of (ttwin_ok l[i] (ho.2 _ (List.getElem_mem _))) ?_
        simp -dsimp [g1, g2, g3, g4, g5, g6, g7, hlt, cT]
        refine call_of hnode ?_
        simp -dsimp [g1, g2, g3, g4, g5, g6, g7, hlt, w1, eT_eq, cT]
    · have e : i = l.length := by omega
      subst e
      rw [List.take_length] at g7 g8
      rcases g8 with rfl | rfl
      · simp -dsimp [g1, g2, g3, g4, g5, g6, g7]
      · simp -dsimp [g1, g2, g3, g4, g5, g6, g7]
end Ev
end Go.Proofs.Ytnkbhmafebngjaa
