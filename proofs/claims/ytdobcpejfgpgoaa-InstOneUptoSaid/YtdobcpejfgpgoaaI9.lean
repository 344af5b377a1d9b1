/- InstKids: what the law computes. -/
import Derived.Test.YtdobcpejfgpgoaaI8
namespace Go.Proofs.Ytdobcpejfgpgoaa
namespace Ev
open Go
set_option maxRecDepth 100000
set_option linter.unusedSimpArgs false
set_option linter.unusedVariables false
attribute [local simp ↓] wx_skip wx_region wx_seq wx_block wx_exit wx_ret wx_cond wx_loop wo_nil wo_run wo_ask wx_draw wt_nil wt_run_t wt_run_f wt_ask_t wt_ask_f rb_mv rb_nilrow rb_pick rb_alloc rb_box rb_load rb_store rb_nilck rb_bin rb_binb rb_un rb_conv rb_mkf rb_mks rb_slice rb_faddr rb_fld rb_iaddr rb_ext rb_len rb_app rb_mm rb_build rb_bslice run_callC upd_eq upd_ne
attribute [local simp] runB_some runB_none Tch_nil Tch_cons Chk_t Cnd_t Cnd_f Ask_tt Ask_ff Ask_tf Ask_ft Ask_skip act ev_t ev_c evs sks caps2 touch_call List.cons_append List.nil_append putS binI binB int_add int_sub int_mul int_quo int_rem int_or int_eql int_neq int_lss int_leq int_gtr int_geq shiftD Ex.then Ex.inBlock Ends resL resX allD toD_d toD_fsl sk_d sk_fsl none_ loadA cut wrapA wrapD avc_d avc_agg avc_fsl avc_rsl avc_ptr avc_eptr avc_clo dc_agg dc_int dc_bool dc_str dc_sl dc_nilp dc_rp dc_clo on_int on_bool on_str on_sl on_nilp on_rp on_clo on_fsl on_rsl on_ptr on_eptr on_cloA newE elemsA elemsS storeA put frz_nil deep callee resA initS touchOp fits compat rd wr key1 buildA partsD partsK idx frz_at Body.frz lk_hit lk_miss toD6_agg toD5_agg toD4_agg toD6_clo toD5_clo toD4_clo toD6_ptr toD5_ptr toD4_ptr sk6_agg sk5_agg sk4_agg sk6_clo sk5_clo sk4_clo sk6_ptr sk5_ptr sk4_ptr toD_rsl sk_rsl
attribute [local simp] allD_map_d sks_map_d tk tn tks

theorem heavy1 (t : T) : Pure Try.prog n_porismlaw02_Heavy [.sl 3 [.agg [.int .i64 t.kind, .int .i64 t.num, .sl 3 (t.kids.map eT)]]] [.bool (heavy02 [t])] := by
  have := heavy02_ok [t]
  simp only [eTs, List.map_cons, List.map_nil, eT_eq, cT] at this
  exact this
theorem rem_le (n m : Int) (h : 0 < m) (h' : m ≤ 1000000) : 0 ≤ IntKind.i64.wrap ((IntKind.u64.wrap n).tmod m) ∧ IntKind.i64.wrap ((IntKind.u64.wrap n).tmod m) < m := by
  have h0 : 0 ≤ IntKind.u64.wrap n := by
    simp only [IntKind.wrap]
    exact Int.emod_nonneg _ (by decide)
  rw [Int.tmod_eq_emod_of_nonneg h0]
  have h1 : 0 ≤ IntKind.u64.wrap n % m := Int.emod_nonneg _ (by omega)
  have h2 : IntKind.u64.wrap n % m < m := Int.emod_lt_of_pos _ (by omega)
  rw [wrap_id (by omega) (by omega)]
  exact ⟨h1, h2⟩
theorem kids_law (t : T) (l : List T) (u : Int) (ht : nodes t ≤ 1048576) (hl : ∀ x ∈ l, nodes x ≤ 1048576) (hn : l.length ≤ 1048576) :
    Pure Try.prog n_porismlaw05_InstKids [.agg (cT t), eTs l, .int .i64 u] [.bool true] := by
  obtain ⟨k, n, ks⟩ := t
  refine p_porismlaw05_InstKids rfl fun hs => ?_
  simp -dsimp [x_porismlaw05_InstKids, cT, eTs]
  refine call_of (heavy1 (.mk k n ks)) ?_
  simp -dsimp
  (first | refine Ask_b ?_ ?_ | refine Cnd_b ?_ ?_) <;> intro h1 <;> (try simp only [decide_eq_true_eq, decide_eq_false_iff_not, beq_iff_eq, beq_eq_false_iff_ne, bne_iff_ne, bne_eq_false_iff_eq, Bool.not_eq_true', Bool.not_eq_false', Bool.and_eq_true, Bool.or_eq_true, Bool.and_eq_false_iff, Bool.or_eq_false_iff] at h1) <;> simp -dsimp [h1]
  refine call_of (heavy02_ok l) ?_
  simp -dsimp [h1]
  (first | refine Ask_b ?_ ?_ | refine Cnd_b ?_ ?_) <;> intro h2 <;> (try simp only [decide_eq_true_eq, decide_eq_false_iff_not, beq_iff_eq, beq_eq_false_iff_ne, bne_iff_ne, bne_eq_false_iff_eq, Bool.not_eq_true', Bool.not_eq_false', Bool.and_eq_true, Bool.or_eq_true, Bool.and_eq_false_iff, Bool.or_eq_false_iff] at h2) <;> simp -dsimp [h2, h1]
  refine call_of (rcheck_ok (.mk k n ks)) ?_
  simp -dsimp [h1, h2]
  (first | refine Ask_b ?_ ?_ | refine Cnd_b ?_ ?_) <;> intro h3 <;> (try simp only [decide_eq_true_eq, decide_eq_false_iff_not, beq_iff_eq, beq_eq_false_iff_ne, bne_iff_ne, bne_eq_false_iff_eq, Bool.not_eq_true', Bool.not_eq_false', Bool.and_eq_true, Bool.or_eq_true, Bool.and_eq_false_iff, Bool.or_eq_false_iff] at h3) <;> simp -dsimp [h3, h1, h2]
  by_cases hz : ks = []
  · simp -dsimp [h1, h2, h3, hz]
  simp -dsimp [h1, h2, h3, hz]
  obtain ⟨hu0, hu1⟩ := rem_le u 20 (by omega) (by omega)
  generalize IntKind.i64.wrap ((IntKind.u64.wrap u).tmod 20) = U at hu0 hu1 ⊢
  have hk : k ≠ 1 := fun e => hz (var_leaf e (formed_of h3))
  have hkl := (slim_of _ (formed_of h3)).kids.1
  refine call_of (inst_ok (.mk k n ks) l U (by omega) (fun x hx => by have := hl x hx; omega) (by omega)) ?_
  simp -dsimp
  by_cases h4 : instE (.mk k n ks) l U = 0
  · have hT := instT_kind rfl hk h4
    have hkid : ∀ (i : Nat) (hi : i < ks.length), instE ks[i] l (U + bindsM k i) = 0 ∧ (mapL (instF l U) k 0 0 ks)[i]? = some (instT ks[i] l (U + bindsM k i)) := fun i hi => by
      obtain ⟨a1, a2⟩ := inst_kid hk ht hl (by omega) h4 i hi
      exact ⟨a1, by rw [a2]; exact List.getElem?_eq_getElem _⟩
    have hml := mapL_len (instF l U) k 0 ks 0
    rw [hT, h4]
    generalize mapL (instF l U) k 0 0 ks = ys at hT hkid hml ⊢
    simp -dsimp [cT, hml]
    refine wp_upto ks.length (fun i st => st.s 1 = .d (.sl 3 (l.map eT)) ∧ st.s 2 = .d (.int .i64 U) ∧ st.s 3 = .ptr 3 1 0 ∧ st.h 3 = ⟨1, .box [.d (.int .i64 k), .d (.int .i64 n), .d (.sl 3 (ks.map eT))] false⟩ ∧
      st.s 7 = .ptr 7 1 0 ∧ st.h 7 = ⟨1, .box [.d (.int .i64 k), .d (.int .i64 n), .d (.sl 3 (ys.map eT))] false⟩ ∧ st.s 9 = .d (.int .i64 i)) ?_ ?_
    · simp -dsimp
    · rintro i ⟨s, hp⟩ hi ⟨g1, g2, g3, g4, g5, g6, g7⟩
      dsimp only at g1 g2 g3 g4 g5 g6 g7
      rcases Nat.lt_or_ge i ks.length with hlt | hge
      · have w1 : IntKind.i64.wrap ((i : Int) + 1) = (i : Int) + 1 := wrap_id (by omega) (by omega)
        have hbl := binds_le k i
        have w2 : IntKind.i64.wrap (U + bindsM k i) = U + bindsM k i := wrap_id (by omega) (by omega)
        obtain ⟨k1, k2⟩ := hkid i hlt
        have hyl : i < ys.length := by omega
        have hy : ys[i] = instT ks[i] l (U + bindsM k i) := by
          rw [List.getElem?_eq_getElem hyl] at k2
          exact Option.some.inj k2
        have hkn := nodes_kid (k := k) (n := n) (List.getElem_mem hlt)
        simp -dsimp [g1, g2, g3, g4, g5, g6, g7, hlt, cT]
        refine call_of (rbinds_ok k i) ?_
        simp -dsimp [g1, g2, g3, g4, g5, g6, g7, hlt, w2]
        have hin := inst_ok ks[i] l (U + bindsM k i) (by omega) (fun x hx => by have := hl x hx; omega) (by omega)
        rw [k1] at hin
        refine call_of hin ?_
        generalize instT ks[i] l (U + bindsM k i) = Y at hy
        simp -dsimp [g1, g2, g3, g4, g5, g6, g7, hlt, hyl, hy, cT]
        refine call_of (keepTerm_ok Y) ?_
        simp -dsimp [g1, g2, g3, g4, g5, g6, g7, hlt, w1]
      · have e : i = ks.length := by omega
        subst e
        simp -dsimp [g1, g2, g3, g4, g5, g6, g7]
        refine call_of wakes05_ok ?_
        simp -dsimp
  · have hT : instT (.mk k n ks) l U = zT := by rw [instT, if_neg h4]
    rw [hT]
    simp -dsimp [h4, cT, zT]
    refine call_of wakes05_ok ?_
    simp -dsimp
end Ev
end Go.Proofs.Ytdobcpejfgpgoaa
