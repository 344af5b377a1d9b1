/- The document's answers for layer 6: spines, telescopes. -/
import Derived.Test.YtomlkbohcoinoaaQ1
import Derived.Test.YtomlkbohcoinoaaRA
namespace Go.Proofs.Ytomlkbohcoinoaa
namespace Ev
open Go
set_option maxRecDepth 100000
set_option linter.unusedSimpArgs false
set_option linter.unusedVariables false
attribute [local simp ↓] wx_skip wx_region wx_seq wx_block wx_exit wx_ret wx_cond wx_loop wo_nil wo_run wo_ask wx_draw wt_nil wt_run_t wt_run_f wt_ask_t wt_ask_f rb_mv rb_nilrow rb_pick rb_alloc rb_box rb_load rb_store rb_nilck rb_bin rb_binb rb_un rb_conv rb_mkf rb_mks rb_slice rb_faddr rb_fld rb_iaddr rb_ext rb_len rb_app rb_mm rb_build rb_bslice run_callC upd_eq upd_ne
attribute [local simp] runB_some runB_none Tch_nil Tch_cons Chk_t Cnd_t Cnd_f Ask_tt Ask_ff Ask_tf Ask_ft Ask_skip act ev_t ev_c evs sks caps2 touch_call List.cons_append List.nil_append putS binI binB int_add int_sub int_mul int_quo int_rem int_or int_eql int_neq int_lss int_leq int_gtr int_geq shiftD Ex.then Ex.inBlock Ends resL resX allD toD_d toD_fsl sk_d sk_fsl none_ loadA cut wrapA wrapD avc_d avc_agg avc_fsl avc_rsl avc_ptr avc_eptr avc_clo dc_agg dc_int dc_bool dc_str dc_sl dc_nilp dc_rp dc_clo on_int on_bool on_str on_sl on_nilp on_rp on_clo on_fsl on_rsl on_ptr on_eptr on_cloA newE elemsA elemsS storeA put frz_nil deep callee resA initS touchOp fits compat rd wr key1 buildA partsD partsK idx frz_at Body.frz lk_hit lk_miss toD6_agg toD5_agg toD4_agg toD6_clo toD5_clo toD4_clo toD6_ptr toD5_ptr toD4_ptr sk6_agg sk5_agg sk4_agg sk6_clo sk5_clo sk4_clo sk6_ptr sk5_ptr sk4_ptr toD_rsl sk_rsl resK EndsP EndsMP fitVs fitCs fitC keysV keysC keyC cellsA1 skVs skCs skC1 resO tupA valsV cellsV oneV rowsV rowsC RV.cells nk rowsH_one rowsH_two rowsH_none
attribute [local simp] allD_map_d sks_map_d tk tn tks

theorem rspine_ok (f : T) (l : List T) (hl : l.length ≤ 100000000) (hf : okT f) (ho : okTs l) : Pure Try.prog n_porismref01_Spine [.agg (cT f), eTs l] [.agg (cT (spT f l))] := by
  refine p_porismref01_Spine rfl fun hs => ?_
  simp -dsimp [x_porismref01_Spine, cT, eTs]
  refine call_of (twin_ok f hf) ?_
  simp -dsimp [cT]
  refine wp_upto l.length (fun i st => st.s 4 = .ptr 4 1 0 ∧ st.h 4 = ⟨1, .box [.d (.int .i64 0), .d (.int .i64 0), .fsl 3 []] false⟩ ∧ st.s 1 = .d (.sl 3 (l.map eT)) ∧ st.s 6 = .d (.int .i64 i) ∧
    st.s 5 = .ptr 5 1 0 ∧ ∃ cs, st.h 5 = ⟨1, .box [.d (.int .i64 (spT f (l.take i)).kind), .d (.int .i64 (spT f (l.take i)).num), cs] false⟩ ∧ (cs = .d (.sl 3 ((spT f (l.take i)).kids.map eT)) ∨ cs = .fsl 3 ((spT f (l.take i)).kids.map eT))) ?_ ?_
  · simp -dsimp [spT]
  · rintro i ⟨s, hp⟩ hi ⟨g1, g2, g3, g4, g5, cs, g6, g7⟩
    dsimp only at g1 g2 g3 g4 g5 g6
    rcases Nat.lt_or_ge i l.length with hlt | hge
    · have w1 : IntKind.i64.wrap ((i : Int) + 1) = (i : Int) + 1 := wrap_id (by omega) (by omega)
      have hnx : spT f (l.take (i + 1)) = .mk 6 0 [spT f (l.take i), l[i]] := by
        have e : l.take (i + 1) = l.take i ++ [l[i]] := by rw [List.take_add_one, List.getElem?_eq_getElem hlt]; rfl
        rw [spT, e, List.foldl_append]
        rfl
      rw [hnx]
      generalize spT f (l.take i) = Y at g6 g7
      have hnode := rt_ok 6 [Y, l[i]] (by simp [maxRoom])
      simp only [eTs, List.map_cons, List.map_nil, eT_eq, cT, tk, tn, tks] at hnode
      rcases g7 with rfl | rfl
      all_goals
        simp -dsimp [g1, g2, g3, g4, g5, g6, hlt, cT]
        refine call_of (twin_ok l[i] (ho.2 _ (List.getElem_mem _))) ?_
        simp -dsimp [g1, g2, g3, g4, g5, g6, hlt, cT]
        refine call_of hnode ?_
        simp -dsimp [g1, g2, g3, g4, g5, g6, hlt, w1, eT_eq, cT]
    · have e : i = l.length := by omega
      subst e
      rw [List.take_length] at g6 g7
      rcases g7 with rfl | rfl
      · simp -dsimp [g1, g2, g3, g4, g5, g6]
      · simp -dsimp [g1, g2, g3, g4, g5, g6]
theorem runspine_own (t : T) : okT t → (spA t).length ≤ 1000000 → OwnC Try.prog n_porismref01_Unspine [.agg (cT t)] [.agg [.d (.int .i64 (spH t).kind), .d (.int .i64 (spH t).num), .d (.sl 3 ((spH t).kids.map eT))], .one (.row 3 ((spA t).reverse.map eT) false)] := by
  refine T.ind (p := fun t => okT t → (spA t).length ≤ 1000000 → OwnC Try.prog n_porismref01_Unspine [.agg (cT t)] [.agg [.d (.int .i64 (spH t).kind), .d (.int .i64 (spH t).num), .d (.sl 3 ((spH t).kids.map eT))], .one (.row 3 ((spA t).reverse.map eT) false)]) ?_ t
  intro k n ks ih ho hb
  refine o_porismref01_Unspine rfl fun hs => ?_
  by_cases hc : k = 6 ∧ ∃ a b, ks = [a, b]
  · obtain ⟨rfl, a, b, rfl⟩ := hc
    rw [(sp_two n a b).1, (sp_two n a b).2]
    rw [(sp_two n a b).1, List.length_cons] at hb
    have h := ih a (by simp) (ho.kids.2 a (by simp)) (by omega)
    have hb' := twin_ok b (ho.kids.2 b (by simp))
    have hr : ((spA a).length + 1) * 40 ≤ maxRoom := by simp only [maxRoom]; omega
    simp only [cT] at h hb'
    simp -dsimp [x_porismref01_Unspine, cT, eT_eq]
    refine callO_of h (by simp [rowsV, rowsC, RV.cells]) ?_
    simp -dsimp [cT, eT_eq]
    refine call_of hb' ?_
    simp -dsimp [cT, eT_eq, hr]
  · rw [(sp_none hc).1, (sp_none hc).2]
    have htw := twin_ok (.mk k n ks) ho
    simp only [cT, tk, tn, tks] at htw
    simp -dsimp [x_porismref01_Unspine, cT]
    by_cases h6 : k = 6
    · have h2 : ¬ (ks.length : Int) = 2 := fun h => hc ⟨h6, by
        match ks, h with
        | [a, b], _ => exact ⟨a, b, rfl⟩
        | [], h => simp at h
        | [_], h => simp at h
        | _ :: _ :: _ :: _, h => simp at h; omega⟩
      simp -dsimp [h6, h2]
      rw [h6] at htw
      refine call_of htw ?_
      simp -dsimp [cT, h6]
    · simp -dsimp [h6]
      refine call_of htw ?_
      simp -dsimp [cT]
theorem runpis_ok (t : T) (hb : (piD t).length ≤ 1000000) (h1 : okT (piB t)) (h2 : okTs (piD t)) : Pure Try.prog n_porismref01_Unpis [.agg (cT t)] [eTs (piD t), .agg (cT (piB t))] := by
  refine p_porismref01_Unpis rfl fun hs => ?_
  simp -dsimp [x_porismref01_Unpis, cT]
  refine wp_upto (piD t).length (fun i st => st.s 3 = .ptr 3 1 0 ∧ st.h 3 = ⟨1, .box [.d (.int .i64 0), .d (.int .i64 0), .fsl 3 []] false⟩ ∧ st.s 1 = .ptr 1 1 0 ∧ ∃ (cur : T) (L : List T),
    st.h 1 = ⟨1, .box [.d (.int .i64 cur.kind), .d (.int .i64 cur.num), .d (.sl 3 (cur.kids.map eT))] false⟩ ∧ L ++ piD cur = piD t ∧ L.length = i ∧ piB cur = piB t ∧
    st.s 4 = .rsl 4 (1 + i) ∧ st.h 4 = ⟨1 + i, .row 3 (L.map eT) false⟩) ?_ ?_
  · simp -dsimp
    exact ⟨t, ⟨rfl, rfl, rfl⟩, [], by simp⟩
  · rintro i ⟨s, hp⟩ hi ⟨g1, g2, g3, cur, L, g4, g5, g6, g7, g8, g9⟩
    dsimp only at g1 g2 g3 g4 g8 g9
    obtain ⟨k, n, ks⟩ := cur
    simp only [tk, tn, tks] at g4
    have hL : L.length ≤ (piD t).length := by rw [← g5, List.length_append]; omega
    by_cases hc : k = 4 ∧ ∃ a b, ks = [a, b]
    · obtain ⟨rfl, a, b, rfl⟩ := hc
      rw [(pi_two n a b).1] at g5
      rw [(pi_two n a b).2] at g7
      have hlt : i < (piD t).length := by rw [← g5, List.length_append, List.length_cons]; omega
      have hr : (L.length + 1) * 40 ≤ maxRoom := by simp only [maxRoom]; omega
      simp -dsimp [g1, g2, g3, g4, g8, g9, hr, eT_eq, cT]
      refine call_of (twin_ok a (h2.2 a (by rw [← g5]; simp))) ?_
      simp -dsimp [g1, g2, g3, g4, g8, g9, hr, eT_eq, cT]
      exact ⟨hlt, b, ⟨rfl, rfl, rfl⟩, L ++ [a], by simp [g5], by simp [g6], g7, by omega, by simp [eT_eq, cT]⟩
    · have e1 := pi_none (n := n) hc
      rw [e1.1, List.append_nil] at g5
      rw [e1.2] at g7
      subst g5
      rw [← g7] at h1
      have htw := twin_ok _ h1
      simp only [cT, tk, tn, tks] at htw
      by_cases h4 : k = 4
      · have h2' : ¬ (ks.length : Int) = 2 := fun h => hc ⟨h4, by
          match ks, h with
          | [a, b], _ => exact ⟨a, b, rfl⟩
          | [], h => simp at h
          | [_], h => simp at h
          | _ :: _ :: _ :: _, h => simp at h; omega⟩
        rw [h4] at htw g4 g7
        simp -dsimp [g1, g2, g3, g4, g8, g9, h4, h2']
        refine call_of htw ?_
        simp -dsimp [g1, g2, g3, g4, g8, g9, cT, ← g7, eTs]
      · simp -dsimp [g1, g2, g3, g4, g8, g9, h4]
        refine call_of htw ?_
        simp -dsimp [g1, g2, g3, g4, g8, g9, cT, ← g7, eTs]
end Ev
end Go.Proofs.Ytomlkbohcoinoaa
