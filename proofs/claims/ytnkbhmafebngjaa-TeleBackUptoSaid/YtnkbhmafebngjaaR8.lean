/- TeleScopes. -/
import Derived.Test.YtnkbhmafebngjaaR7
namespace Go.Proofs.Ytnkbhmafebngjaa
namespace Ev
open Go
set_option maxRecDepth 100000
set_option linter.unusedSimpArgs false
set_option linter.unusedVariables false
attribute [local simp ↓] wx_skip wx_region wx_seq wx_block wx_exit wx_ret wx_cond wx_loop wo_nil wo_run wo_ask wx_draw wt_nil wt_run_t wt_run_f wt_ask_t wt_ask_f rb_mv rb_nilrow rb_pick rb_alloc rb_box rb_load rb_store rb_nilck rb_bin rb_binb rb_un rb_conv rb_mkf rb_mks rb_slice rb_faddr rb_fld rb_iaddr rb_ext rb_len rb_app rb_mm rb_build rb_bslice run_callC upd_eq upd_ne
attribute [local simp] runB_some runB_none Tch_nil Tch_cons Chk_t Cnd_t Cnd_f Ask_tt Ask_ff Ask_tf Ask_ft Ask_skip act ev_t ev_c evs sks caps2 touch_call List.cons_append List.nil_append putS binI binB int_add int_sub int_mul int_quo int_rem int_or int_eql int_neq int_lss int_leq int_gtr int_geq shiftD Ex.then Ex.inBlock Ends resL resX allD toD_d toD_fsl sk_d sk_fsl none_ loadA cut wrapA wrapD avc_d avc_agg avc_fsl avc_rsl avc_ptr avc_eptr avc_clo dc_agg dc_int dc_bool dc_str dc_sl dc_nilp dc_rp dc_clo on_int on_bool on_str on_sl on_nilp on_rp on_clo on_fsl on_rsl on_ptr on_eptr on_cloA newE elemsA elemsS storeA put frz_nil deep callee resA initS touchOp fits compat rd wr key1 buildA partsD partsK idx frz_at Body.frz lk_hit lk_miss toD6_agg toD5_agg toD4_agg toD6_clo toD5_clo toD4_clo toD6_ptr toD5_ptr toD4_ptr sk6_agg sk5_agg sk4_agg sk6_clo sk5_clo sk4_clo sk6_ptr sk5_ptr sk4_ptr toD_rsl sk_rsl
attribute [local simp] allD_map_d sks_map_d tk tn tks

theorem check_iff2 {t : T} (h : nodes t ≤ 1099511627776) : checkM t = 0 ↔ nodes t ≤ 6000 ∧ depthN t ≤ 200 ∧ formedM t = true := by
  rw [checkM, size_is _ h, depth_is _ h]
  by_cases h1 : (6000 : Int) < nodes t
  · rw [if_pos h1]
    constructor
    · intro h; cases h
    · omega
  · rw [if_neg h1]
    by_cases h2 : (200 : Int) < depthN t
    · rw [if_pos h2]
      constructor
      · intro h; cases h
      · omega
    · rw [if_neg h2]
      cases formedM t
      · simp
      · simp; omega
theorem scope_is2 {t : T} {v : Int} (h0 : 0 ≤ v) (h1 : v ≤ 65536) (hn : nodes t ≤ 4000000) : scopeM t v 65536 = true ↔ checkM t = 0 ∧ wiT t v 65536 = true := by
  rw [scopeM, if_neg (by omega), if_neg (by omega), if_neg (show ¬65536 < v by omega), within_is 65536 t v h0 (by omega)]
  by_cases h : checkM t = 0
  · rw [if_pos h]; simp [h]
  · rw [if_neg h]; simp [h]
theorem sum_bulk (l : List T) : (l.map nodes).sum ≤ bulk (eTs l) := by
  have go : ∀ l : List T, (l.map nodes).sum ≤ (l.map (bulk ∘ eT)).sum := by
    intro l
    induction l with
    | nil => simp
    | cons x xs ih =>
      have := nodes_bulk x
      simp only [List.map_cons, List.sum_cons, Function.comp] at ih ⊢
      omega
  have := go l
  simp only [eTs, bulk, List.map_map]
  omega
theorem nest_nodes (k : Int) (l : List T) (t : T) : nodes (nestT k l t) = (l.map nodes).sum + l.length + nodes t := by
  induction l with
  | nil => simp [nestT]
  | cons a l ih =>
    show nodes (.mk k 0 [a, nestT k l t]) = _
    rw [nodes2, ih, List.map_cons, List.sum_cons, List.length_cons]
    omega
theorem nest_depth (k k' : Int) (l : List T) (t : T) : depthN (nestT k l t) = depthN (nestT k' l t) := by
  induction l with
  | nil => rfl
  | cons a l ih =>
    show depthN (.mk k 0 [a, nestT k l t]) = depthN (.mk k' 0 [a, nestT k' l t])
    rw [depthN, depthN]
    simp [ih]
theorem nest_formed {k k' : Int} (h : kidsM k = 2) (h' : kidsM k' = 2) (l : List T) (t : T) : formedM (nestT k l t) = formedM (nestT k' l t) := by
  induction l with
  | nil => rfl
  | cons a l ih =>
    show formedM (.mk k 0 [a, nestT k l t]) = formedM (.mk k' 0 [a, nestT k' l t])
    rw [formedM_is, formedM_is, h, h']
    simp [ih]
theorem nest_wi {k c : Int} (hk : k = 4 ∨ k = 5) : ∀ (l : List T) (t : T) (v : Int), (∀ (i : Nat) (h : i < l.length), wiT l[i] (v + i) c = true) → wiT t (v + l.length) c = true → wiT (nestT k l t) v c = true
  | [], t, v, _, h => by simpa [nestT] using h
  | a :: l, t, v, h1, h2 => by
    show wiT (.mk k 0 [a, nestT k l t]) v c = true
    have b0 : bindsM k 0 = 0 := by rcases hk with rfl | rfl <;> rfl
    have b1 : bindsM k 1 = 1 := by rcases hk with rfl | rfl <;> rfl
    have ha := h1 0 (by simp)
    have hr := nest_wi hk l t (v + 1) (fun i hi => by
      have := h1 (i + 1) (by simpa using hi)
      simp only [List.getElem_cons_succ] at this
      rw [← this]
      congr 1
      omega) (by
      rw [List.length_cons] at h2
      rw [← h2]
      congr 1
      omega)
    simp only [List.getElem_cons_zero] at ha
    have ha' : wiT a v c = true := by rw [← ha]; congr 1; omega
    rw [wiT, if_neg (by omega), if_neg (by omega), if_neg (by omega)]
    simp only [wiL, Bool.and_true, Bool.and_eq_true]
    refine ⟨?_, ?_⟩
    · show wiT a (v + bindsM k 0) c = true
      rw [b0]
      simpa using ha'
    · show wiT (nestT k l t) (v + bindsM k 1) c = true
      rw [b1]
      exact hr
theorem check_same {t u : T} (hn : nodes t ≤ 1099511627776) (h1 : nodes t = nodes u) (h2 : depthN t = depthN u) (h3 : formedM t = formedM u) : checkM t = checkM u := by
  rw [checkM, checkM, size_is _ hn, depth_is _ hn, size_is u (by omega), depth_is u (by omega), h1, h2, h3]

theorem scopes_law (l : List T) (t : T) (hn : nodes t ≤ 1048576) (hs : (l.map nodes).sum ≤ 1048576) (ho : okT t) (hl : okTs l) : Pure Try.prog n_porismlaw06_TeleScopes [eTs l, .agg (cT t)] [.bool true] := by
  refine p_porismlaw06_TeleScopes rfl fun hs => ?_
  have hh := heavy02_ok [t]
  have hh2 := heavy02_ok l
  simp only [eTs, List.map_cons, List.map_nil, eT_eq, cT] at hh
  simp only [eTs] at hh2
  simp -dsimp [x_porismlaw06_TeleScopes, cT, eTs]
  refine call_of hh ?_
  simp -dsimp
  (first | refine Ask_b ?_ ?_ | refine Cnd_b ?_ ?_) <;> intro h1 <;> (try simp only [decide_eq_true_eq, decide_eq_false_iff_not, beq_iff_eq, beq_eq_false_iff_ne, bne_iff_ne, bne_eq_false_iff_eq, Bool.not_eq_true', Bool.not_eq_false', Bool.and_eq_true, Bool.or_eq_true, Bool.and_eq_false_iff, Bool.or_eq_false_iff] at h1) <;> simp -dsimp [h1]
  refine call_of hh2 ?_
  simp -dsimp [h1]
  (first | refine Ask_b ?_ ?_ | refine Cnd_b ?_ ?_) <;> intro h2 <;> (try simp only [decide_eq_true_eq, decide_eq_false_iff_not, beq_iff_eq, beq_eq_false_iff_ne, bne_iff_ne, bne_eq_false_iff_eq, Bool.not_eq_true', Bool.not_eq_false', Bool.and_eq_true, Bool.or_eq_true, Bool.and_eq_false_iff, Bool.or_eq_false_iff] at h2) <;> simp -dsimp [h2, h1]
  have hlen : l.length ≤ 60 := by
    rw [heavy02, Bool.or_eq_false_iff, Bool.or_eq_false_iff] at h2
    have := h2.1.1
    simp at this
    omega
  refine wp_upto l.length (fun i st => st.s 0 = .d (.sl 3 (l.map eT)) ∧ st.s 3 = .ptr 3 1 0 ∧ st.h 3 = ⟨1, .box [.d (.int .i64 t.kind), .d (.int .i64 t.num), .d (.sl 3 (t.kids.map eT))] false⟩ ∧ st.s 5 = .d (.int .i64 i) ∧
    ∀ (j : Nat) (hj : j < l.length), j < i → scopeM l[j] j 65536 = true) ?_ ?_
  · simp -dsimp
  · rintro i ⟨s, hp⟩ hi ⟨g1, g2, g3, g4, g5⟩
    dsimp only at g1 g2 g3 g4
    rcases Nat.lt_or_ge i l.length with hlt | hge
    · have w1 : IntKind.i64.wrap ((i : Int) + 1) = (i : Int) + 1 := wrap_id (by omega) (by omega)
      simp -dsimp [g1, g2, g3, g4, hlt, cT]
      refine call_of (scope_ok l[i] i 65536) ?_
      simp -dsimp [g1, g2, g3, g4, hlt]
      (first | refine Ask_b ?_ ?_ | refine Cnd_b ?_ ?_) <;> intro h3 <;> (try simp only [decide_eq_true_eq, decide_eq_false_iff_not, beq_iff_eq, beq_eq_false_iff_ne, bne_iff_ne, bne_eq_false_iff_eq, Bool.not_eq_true', Bool.not_eq_false', Bool.and_eq_true, Bool.or_eq_true, Bool.and_eq_false_iff, Bool.or_eq_false_iff] at h3) <;> simp -dsimp [h3, g1, g2, g3, g4, hlt, w1]
      · refine call_of wakes06_ok ?_
        simp -dsimp
      · intro j hj hji
        rcases Nat.lt_or_ge j i with h' | h'
        · exact g5 j hj h'
        · have : j = i := by omega
          subst this
          exact h3
    · have e : i = l.length := by omega
      subst e
      simp -dsimp [g1, g2, g3, g4]
      refine call_of (scope_ok t l.length 65536) ?_
      simp -dsimp [g1, g2, g3, g4]
      have wk : ∀ (x : T) (v : Int), 0 ≤ v → v ≤ 60 → nodes x ≤ 1048576 → scopeM x v 65536 = true → wiT x v 65536 = true := fun x v h0 h1 hx h => ((scope_is2 h0 (by omega) (by omega)).1 h).2
      have hel : ∀ (i : Nat) (h : i < l.length), wiT l[i] (0 + i) 65536 = true := fun i h => by
        rw [Int.zero_add]
        exact wk _ _ (by omega) (by omega) (by have := sum_mem (List.mem_map.2 ⟨l[i], List.getElem_mem h, rfl⟩ : nodes l[i] ∈ l.map nodes); omega) (g5 i h h)
      (first | refine Ask_b ?_ ?_ | refine Cnd_b ?_ ?_) <;> intro h3 <;> (try simp only [decide_eq_true_eq, decide_eq_false_iff_not, beq_iff_eq, beq_eq_false_iff_ne, bne_iff_ne, bne_eq_false_iff_eq, Bool.not_eq_true', Bool.not_eq_false', Bool.and_eq_true, Bool.or_eq_true, Bool.and_eq_false_iff, Bool.or_eq_false_iff] at h3) <;> simp -dsimp [h3, g1, g2, g3, g4]
      · refine call_of wakes06_ok ?_
        simp -dsimp
      · have het : wiT t (0 + l.length) 65536 = true := by
          rw [Int.zero_add]
          exact wk _ _ (by omega) (by omega) hn h3
        have n4 := nest_nodes 4 l t
        have n5 := nest_nodes 5 l t
        have c4 := check_same (t := nestT 4 l t) (u := nestT 5 l t) (by omega) (by omega) (nest_depth _ _ _ _) (nest_formed rfl rfl _ _)
        have s4 := scope_is2 (t := nestT 4 l t) (v := 0) (by omega) (by omega) (by omega)
        have s5 := scope_is2 (t := nestT 5 l t) (v := 0) (by omega) (by omega) (by omega)
        have w4 := nest_wi (.inl rfl) l t 0 hel het
        have w5 := nest_wi (.inr rfl) l t 0 hel het
        have hP := pis_ok l t (by omega) ho hl
        have hL := lams_ok l t (by omega) ho hl
        generalize nestT 4 l t = P at n4 c4 s4 w4 hP
        generalize nestT 5 l t = L at n5 c4 s5 w5 hL
        have k1 := check_ok P
        have k2 := check_ok L
        have k3 := scope_ok P 0 65536
        have k4 := scope_ok L 0 65536
        simp only [cT, eTs] at hP hL
        refine call_of hP ?_
        simp -dsimp [g1, g2, g3, g4]
        refine call_of hL ?_
        simp -dsimp [g1, g2, g3, g4]
        refine call_of k1 ?_
        simp -dsimp [g1, g2, g3, g4]
        by_cases h4 : checkM P = 0
        · rw [s4.2 ⟨h4, w4⟩] at k3
          rw [s5.2 ⟨by omega, w5⟩] at k4
          simp -dsimp [g1, g2, g3, g4, h4]
          refine call_of k3 ?_
          simp -dsimp [g1, g2, g3, g4, h4]
          refine call_of k4 ?_
          simp -dsimp [g1, g2, g3, g4, h4]
          refine call_of wakes06_ok ?_
          simp -dsimp
        · simp -dsimp [g1, g2, g3, g4, h4]
          refine call_of k1 ?_
          simp -dsimp [g1, g2, g3, g4, h4]
          refine call_of k2 ?_
          simp -dsimp [g1, g2, g3, g4, h4, c4]
          refine call_of wakes06_ok ?_
          simp -dsimp
end Ev
end Go.Proofs.Ytnkbhmafebngjaa
