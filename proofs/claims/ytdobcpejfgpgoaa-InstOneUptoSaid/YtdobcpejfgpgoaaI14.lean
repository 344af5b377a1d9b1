/- InstCounts. -/
import Derived.Test.YtdobcpejfgpgoaaI13
namespace Go.Proofs.Ytdobcpejfgpgoaa
namespace Ev
open Go
set_option maxRecDepth 100000
set_option linter.unusedSimpArgs false
set_option linter.unusedVariables false
attribute [local simp ↓] wx_skip wx_region wx_seq wx_block wx_exit wx_ret wx_cond wx_loop wo_nil wo_run wo_ask wx_draw wt_nil wt_run_t wt_run_f wt_ask_t wt_ask_f rb_mv rb_nilrow rb_pick rb_alloc rb_box rb_load rb_store rb_nilck rb_bin rb_binb rb_un rb_conv rb_mkf rb_mks rb_slice rb_faddr rb_fld rb_iaddr rb_ext rb_len rb_app rb_mm rb_build rb_bslice run_callC upd_eq upd_ne
attribute [local simp] runB_some runB_none Tch_nil Tch_cons Chk_t Cnd_t Cnd_f Ask_tt Ask_ff Ask_tf Ask_ft Ask_skip act ev_t ev_c evs sks caps2 touch_call List.cons_append List.nil_append putS binI binB int_add int_sub int_mul int_quo int_rem int_or int_eql int_neq int_lss int_leq int_gtr int_geq shiftD Ex.then Ex.inBlock Ends resL resX allD toD_d toD_fsl sk_d sk_fsl none_ loadA cut wrapA wrapD avc_d avc_agg avc_fsl avc_rsl avc_ptr avc_eptr avc_clo dc_agg dc_int dc_bool dc_str dc_sl dc_nilp dc_rp dc_clo on_int on_bool on_str on_sl on_nilp on_rp on_clo on_fsl on_rsl on_ptr on_eptr on_cloA newE elemsA elemsS storeA put frz_nil deep callee resA initS touchOp fits compat rd wr key1 buildA partsD partsK idx frz_at Body.frz lk_hit lk_miss toD6_agg toD5_agg toD4_agg toD6_clo toD5_clo toD4_clo toD6_ptr toD5_ptr toD4_ptr sk6_agg sk5_agg sk4_agg sk6_clo sk5_clo sk4_clo sk6_ptr sk5_ptr sk4_ptr toD_rsl sk_rsl
attribute [local simp] allD_map_d sks_map_d tk tn tks

theorem cntL_zip (k n b : Int) (f : T → Int → Int) (g : T → Int) : ∀ (l : List T) (i : Nat), True := fun _ _ => trivial
theorem cnt_leaf (m n b : Int) : cntT (.mk 1 m []) n b = if m = n + b then 1 else 0 := by
  rw [cntT, cntL]
  by_cases h : m = n + b
  · rw [if_pos ⟨rfl, h⟩, if_pos h]
  · rw [if_neg fun h' => h h'.2, if_neg h]
theorem cnt_node {k m n b : Int} {ks : List T} (h : k ≠ 1) : cntT (.mk k m ks) n b = cntL k n b 0 0 ks := by rw [cntT, if_neg fun h' => h h'.1]
/-- What is moved is counted as it was. -/
theorem cnt_moved (t : T) : ∀ n y c : Int, formedM t = true → 0 ≤ n → 0 ≤ y → y ≤ 4194304 → 0 ≤ c → cntT (mapT (mv y) t c) n (c + y) = cntT t n c := by
  refine T.ind (p := fun t => ∀ n y c : Int, formedM t = true → 0 ≤ n → 0 ≤ y → y ≤ 4194304 → 0 ≤ c → cntT (mapT (mv y) t c) n (c + y) = cntT t n c) ?_ t
  intro k m ks ih n y c hfm hn hy hy' hc
  rw [mapT]
  by_cases h1 : k = 1
  · have hm := var_formed h1 hfm
    have hks := var_leaf h1 hfm
    subst h1 hks
    rw [if_pos rfl, cnt_leaf]
    by_cases h2 : m < c
    · rw [mv_lo h2, cnt_leaf, if_neg (by omega), if_neg (by omega)]
    · rw [mv_hi (by omega) hm.1 (by omega) hy (by omega), cnt_leaf]
      by_cases h3 : m = n + c
      · rw [if_pos h3, if_pos (by omega)]
      · rw [if_neg h3, if_neg (by omega)]
  · rw [if_neg h1, cnt_node h1, cnt_node h1]
    have go : ∀ (l : List T) (i : Nat) (a : Int), (∀ x ∈ l, x ∈ ks) → cntL k n (c + y) i a (mapL (mv y) k c i l) = cntL k n c i a l := by
      intro l
      induction l with
      | nil => intro i a _; simp [mapL, cntL]
      | cons x xs ihx =>
        intro i a hmem
        have hbl := binds_le k i
        have e : c + y + bindsM k i = c + bindsM k i + y := by omega
        rw [mapL, cntL, cntL, e, ih x (hmem x (by simp)) n y _ (kids_formed hfm x (hmem x (by simp))) hn hy hy' (by omega), ihx (i + 1) _ fun z hz => hmem z (by simp [hz])]
    exact go ks 0 0 fun x hx => hx
/-- Counted in what comes of it. -/
theorem cnt_inst (a : T) (ha : formedM a = true) (t : T) : ∀ n b : Int, formedM t = true → 0 ≤ n → n ≤ 65535 → 0 ≤ b → b + nodes t ≤ 2097152 →
    cntT (mapT (instF [a] 0) t b) n b = cntT t (n + 1) b + cntT t 0 b * cntT a n 0 ∧ (nodes (mapT (instF [a] 0) t b) : Int) = nodes t + cntT t 0 b * (nodes a - 1) := by
  refine T.ind (p := fun t => ∀ n b : Int, formedM t = true → 0 ≤ n → n ≤ 65535 → 0 ≤ b → b + nodes t ≤ 2097152 →
    cntT (mapT (instF [a] 0) t b) n b = cntT t (n + 1) b + cntT t 0 b * cntT a n 0 ∧ (nodes (mapT (instF [a] 0) t b) : Int) = nodes t + cntT t 0 b * (nodes a - 1)) ?_ t
  intro k m ks ih n b hfm hn hn' hb hbn
  rw [mapT]
  by_cases h1 : k = 1
  · have hm := var_formed h1 hfm
    have hks := var_leaf h1 hfm
    subst h1 hks
    rw [if_pos rfl, cnt_leaf, cnt_leaf, leaf_nodes]
    rcases Int.lt_trichotomy m b with h2 | h2 | h2
    · rw [one_lo h2, cnt_leaf, leaf_nodes, if_neg (by omega), if_neg (by omega), if_neg (by omega)]
      omega
    · subst h2
      have := cnt_moved a n m 0 ha hn hb (by omega) (by omega)
      rw [Int.zero_add] at this
      rw [one_at hb (by omega), this, if_neg (by omega), if_pos (by omega)]
      have hnm := same_nodes (mv m) (fun _ _ => leaf_nodes _ _) a ha 0
      rw [hnm]
      omega
    · rw [one_hi h2 (by omega) hb, cnt_leaf, leaf_nodes, if_neg (c := m = 0 + b) (by omega)]
      by_cases h3 : m = n + 1 + b
      · rw [if_pos h3, if_pos (by omega)]; omega
      · rw [if_neg h3, if_neg (by omega)]; omega
  · rw [if_neg h1, cnt_node h1, cnt_node h1, cnt_node h1, nodes, nodes]
    have hks := kids_formed hfm
    have go : ∀ (l : List T) (i : Nat), (∀ x ∈ l, x ∈ ks) →
        cntL k n b i 0 (mapL (instF [a] 0) k b i l) = cntL k (n + 1) b i 0 l + cntL k 0 b i 0 l * cntT a n 0 ∧ (((mapL (instF [a] 0) k b i l).map nodes).sum : Int) = (l.map nodes).sum + cntL k 0 b i 0 l * (nodes a - 1) := by
      intro l
      induction l with
      | nil => intro i _; simp [mapL, cntL]
      | cons x xs ihx =>
        intro i hmem
        have hx := hmem x (by simp)
        have hxn := nodes_kid (k := k) (n := m) hx
        have hbl := binds_le k i
        obtain ⟨i1, i2⟩ := ih x hx n (b + bindsM k i) (hks x hx) hn hn' (by omega) (by omega)
        obtain ⟨j1, j2⟩ := ihx (i + 1) fun z hz => hmem z (by simp [hz])
        rw [mapL, cntL, cntL, cntL, cntL_add k n b _ (i + 1), cntL_add k (n + 1) b _ (i + 1), cntL_add k 0 b _ (i + 1), j1, i1]
        simp only [List.map_cons, List.sum_cons, Int.zero_add]
        refine ⟨?_, ?_⟩
        · rw [Int.add_mul]; omega
        · rw [Int.add_mul]
          omega
    obtain ⟨g1, g2⟩ := go ks 0 fun x hx => hx
    refine ⟨g1, ?_⟩
    omega
theorem counts_law (t a : T) (u : Int) (ht : nodes t ≤ 1048576) (ha : nodes a ≤ 1048576) : Pure Try.prog n_porismlaw05_InstCounts [.agg (cT t), .agg (cT a), .int .i64 u] [.bool true] := by
  refine p_porismlaw05_InstCounts rfl fun hs => ?_
  have s1 : ∀ x ∈ [a], nodes x ≤ 1048576 := by simpa using ha
  have hh : Pure Try.prog n_porismlaw02_Heavy [.sl 3 [dT t, dT a]] [.bool (heavy02 [t, a])] := by
    have := heavy02_ok [t, a]
    simp only [eTs, List.map_cons, List.map_nil, eT_eq, cT] at this
    exact this
  simp -dsimp [x_porismlaw05_InstCounts, cT]
  refine call_of hh ?_
  simp -dsimp
  (first | refine Ask_b ?_ ?_ | refine Cnd_b ?_ ?_) <;> intro h1 <;> (try simp only [decide_eq_true_eq, decide_eq_false_iff_not, beq_iff_eq, beq_eq_false_iff_ne, bne_iff_ne, bne_eq_false_iff_eq, Bool.not_eq_true', Bool.not_eq_false', Bool.and_eq_true, Bool.or_eq_true, Bool.and_eq_false_iff, Bool.or_eq_false_iff] at h1) <;> simp -dsimp [h1]
  obtain ⟨hu0, hu1⟩ := rem_le u 20 (by omega) (by omega)
  generalize IntKind.i64.wrap ((IntKind.u64.wrap u).tmod 20) = U at hu0 hu1 ⊢
  refine call_of (inst_one t a 0 ht ha) ?_
  simp -dsimp [h1, dT]
  (first | refine Ask_b ?_ ?_ | refine Cnd_b ?_ ?_) <;> intro h2 <;> (try simp only [decide_eq_true_eq, decide_eq_false_iff_not, beq_iff_eq, beq_eq_false_iff_ne, bne_iff_ne, bne_eq_false_iff_eq, Bool.not_eq_true', Bool.not_eq_false', Bool.and_eq_true, Bool.or_eq_true, Bool.and_eq_false_iff, Bool.or_eq_false_iff] at h2) <;> simp -dsimp [h2]
  · refine call_of wakes05_ok ?_
    simp -dsimp
  obtain ⟨r1, r2, r3⟩ := inst_right ht s1 h2
  obtain ⟨p1, p2, p3, p4⟩ := (inst_iff ht s1).1 h2
  obtain ⟨q1, q2, q3⟩ := (openE_iff _ _ _).1 p1
  obtain ⟨k1, k2⟩ := cnt_inst a (formed_of (q2 a (by simp))) t U 0 (formed_of q1) hu0 (by omega) (by omega) (by omega)
  rw [← inst_at h2] at k1 k2
  generalize hX : instT t [a] 0 = X at r1 r2 r3 k1 k2 ⊢
  have b1 := cnt_le t (U + 1) 0
  have b2 := cnt_le t 0 0
  have b3 := cnt_le a U 0
  have w1 : IntKind.i64.wrap (U + 1) = U + 1 := wrap_id (by omega) (by omega)
  have P0 : 0 ≤ cntT t 0 0 * cntT a U 0 := Int.mul_nonneg b2.1 b3.1
  have bX := cnt_le X U 0
  have na : (1 : Int) ≤ nodes a := by cases a; rw [nodes]; omega
  have Q0 : 0 ≤ cntT t 0 0 * ((nodes a : Int) - 1) := Int.mul_nonneg b2.1 (by omega)
  generalize hP : cntT t 0 0 * cntT a U 0 = P at P0 k1
  generalize hQ : cntT t 0 0 * ((nodes a : Int) - 1) = Q at Q0 k2
  have w2 : IntKind.i64.wrap P = P := wrap_id (by omega) (by omega)
  have w3 : IntKind.i64.wrap (cntT t (U + 1) 0 + P) = cntT X U 0 := by rw [← k1]; exact wrap_id (by omega) (by omega)
  have w4 : IntKind.i64.wrap ((nodes a : Int) - 1) = (nodes a : Int) - 1 := wrap_id (by omega) (by omega)
  have w5 : IntKind.i64.wrap Q = Q := wrap_id (by omega) (by omega)
  have w6 : IntKind.i64.wrap ((nodes t : Int) + Q) = nodes X := by rw [← k2]; exact wrap_id (by omega) (by omega)
  have z1 := size_is X (by omega)
  have z2 := size_is t (by omega)
  have z3 := size_is a (by omega)
  have f1 := tsize_ok X
  have f2 := tsize_ok t
  have f3 := tsize_ok a
  rw [z1] at f1
  rw [z2] at f2
  rw [z3] at f3
  refine call_of (count_ok X U ⟨hu0, by omega⟩ (by omega)) ?_
  simp -dsimp [w1]
  refine call_of (count_ok t (U + 1) ⟨by omega, by omega⟩ (by omega)) ?_
  simp -dsimp [w1]
  refine call_of (count_ok t 0 ⟨by omega, by omega⟩ (by omega)) ?_
  simp -dsimp [w1]
  refine call_of (count_ok a U ⟨by omega, by omega⟩ (by omega)) ?_
  simp -dsimp [w1, hP, w2, w3]
  refine call_of f1 ?_
  simp -dsimp [w1, hP, w2, w3]
  refine call_of f2 ?_
  simp -dsimp [w1, hP, w2, w3]
  refine call_of (count_ok t 0 ⟨by omega, by omega⟩ (by omega)) ?_
  simp -dsimp [w1, hP, w2, w3]
  refine call_of f3 ?_
  simp -dsimp [w1, hP, w2, w3, w4, hQ, w5, w6]
  refine call_of wakes05_ok ?_
  simp -dsimp [w1, hP, w2, w3, w4, hQ, w5, w6]
end Ev
end Go.Proofs.Ytdobcpejfgpgoaa
