/- TeleVars. -/
import Derived.Test.YtnkbhmafebngjaaR4
namespace Go.Proofs.Ytnkbhmafebngjaa
namespace Ev
open Go
set_option maxRecDepth 100000
set_option linter.unusedSimpArgs false
set_option linter.unusedVariables false
attribute [local simp ↓] wx_skip wx_region wx_seq wx_block wx_exit wx_ret wx_cond wx_loop wo_nil wo_run wo_ask wx_draw wt_nil wt_run_t wt_run_f wt_ask_t wt_ask_f rb_mv rb_nilrow rb_pick rb_alloc rb_box rb_load rb_store rb_nilck rb_bin rb_binb rb_un rb_conv rb_mkf rb_mks rb_slice rb_faddr rb_fld rb_iaddr rb_ext rb_len rb_app rb_mm rb_build rb_bslice run_callC upd_eq upd_ne
attribute [local simp] runB_some runB_none Tch_nil Tch_cons Chk_t Cnd_t Cnd_f Ask_tt Ask_ff Ask_tf Ask_ft Ask_skip act ev_t ev_c evs sks caps2 touch_call List.cons_append List.nil_append putS binI binB int_add int_sub int_mul int_quo int_rem int_or int_eql int_neq int_lss int_leq int_gtr int_geq shiftD Ex.then Ex.inBlock Ends resL resX allD toD_d toD_fsl sk_d sk_fsl none_ loadA cut wrapA wrapD avc_d avc_agg avc_fsl avc_rsl avc_ptr avc_eptr avc_clo dc_agg dc_int dc_bool dc_str dc_sl dc_nilp dc_rp dc_clo on_int on_bool on_str on_sl on_nilp on_rp on_clo on_fsl on_rsl on_ptr on_eptr on_cloA newE elemsA elemsS storeA put frz_nil deep callee resA initS touchOp fits compat rd wr key1 buildA partsD partsK idx frz_at Body.frz lk_hit lk_miss toD6_agg toD5_agg toD4_agg toD6_clo toD5_clo toD4_clo toD6_ptr toD5_ptr toD4_ptr sk6_agg sk5_agg sk4_agg sk6_clo sk5_clo sk4_clo sk6_ptr sk5_ptr sk4_ptr toD_rsl sk_rsl
attribute [local simp] allD_map_d sks_map_d tk tn tks

theorem rem_le (n m : Int) (h : 0 < m) (h' : m ≤ 1000000) : 0 ≤ IntKind.i64.wrap ((IntKind.u64.wrap n).tmod m) ∧ IntKind.i64.wrap ((IntKind.u64.wrap n).tmod m) < m := by
  have h0 : 0 ≤ IntKind.u64.wrap n := by
    simp only [IntKind.wrap]
    exact Int.emod_nonneg _ (by decide)
  rw [Int.tmod_eq_emod_of_nonneg h0]
  have h1 : 0 ≤ IntKind.u64.wrap n % m := Int.emod_nonneg _ (by omega)
  have h2 : IntKind.u64.wrap n % m < m := Int.emod_lt_of_pos _ (by omega)
  rw [wrap_id (by omega) (by omega)]
  exact ⟨h1, h2⟩
theorem scope_gen {t : T} {v c : Int} (h0 : 0 ≤ v) (h1 : v ≤ 65536) (hc : 0 ≤ c) (hn : nodes t ≤ 1048576) (hk : checkM t = 0) : scopeM t v c = wiT t v c := by
  rw [scopeM, if_neg (by omega), if_neg (by omega), if_neg (show ¬65536 < v by omega), within_is c t v h0 (by omega), if_pos hk]
theorem binds6 (i : Int) : bindsM 6 i = 0 := by simp [bindsM]
theorem sp_nodes : ∀ (l : List T) (f : T), (∀ x ∈ l, nodes x = 1) → nodes (spT f l) = nodes f + 2 * l.length
  | [], f, _ => by simp [spT]
  | a :: l, f, h => by
    have := sp_nodes l (.mk 6 0 [f, a]) fun x hx => h x (by simp [hx])
    have ha := h a (by simp)
    rw [nodes2] at this
    show nodes (spT (.mk 6 0 [f, a]) l) = _
    rw [this, List.length_cons]
    omega
theorem sp_depth : ∀ (l : List T) (f : T), (∀ x ∈ l, depthN x = 1) → depthN (spT f l) ≤ depthN f + l.length + 1
  | [], f, _ => by simp [spT] <;> omega
  | a :: l, f, h => by
    have ha := h a (by simp)
    have go : ∀ (l : List T) (f : T), 2 ≤ depthN f → (∀ x ∈ l, depthN x = 1) → depthN (spT f l) ≤ depthN f + l.length := by
      intro l
      induction l with
      | nil => intro f _ _; simp [spT]
      | cons a l ih =>
        intro f h2 h
        have hd : depthN (.mk 6 0 [f, a]) = max (depthN f) (depthN a) + 1 := by rw [depthN]; simp [dmax]
        have ha := h a (by simp)
        have := ih (.mk 6 0 [f, a]) (by omega) fun x hx => h x (by simp [hx])
        show depthN (spT (.mk 6 0 [f, a]) l) ≤ _
        rw [List.length_cons]
        omega
    have hd : depthN (.mk 6 0 [f, a]) = max (depthN f) (depthN a) + 1 := by rw [depthN]; simp [dmax]
    have hf : 1 ≤ depthN f := by cases f; rw [depthN]; omega
    have := go l (.mk 6 0 [f, a]) (by omega) fun x hx => h x (by simp [hx])
    show depthN (spT (.mk 6 0 [f, a]) l) ≤ _
    rw [List.length_cons]
    omega
theorem formed6 {a b : T} (ha : formedM a = true) (hb : formedM b = true) : formedM (.mk 6 0 [a, b]) = true := by
  have h0 : kidsM 6 = 2 := rfl
  rw [formedM_is, h0]
  simp [ha, hb]
theorem sp_formed : ∀ (l : List T) (f : T), formedM f = true → (∀ x ∈ l, formedM x = true) → formedM (spT f l) = true
  | [], f, hf, _ => by simpa [spT] using hf
  | a :: l, f, hf, h => sp_formed l (.mk 6 0 [f, a]) (formed6 hf (h a (by simp))) fun x hx => h x (by simp [hx])
theorem sp_wi (v c : Int) : ∀ (l : List T) (f : T), wiT (spT f l) v c = (wiT f v c && l.all fun x => wiT x v c)
  | [], f => by simp [spT]
  | a :: l, f => by
    have := sp_wi v c l (.mk 6 0 [f, a])
    show wiT (spT (.mk 6 0 [f, a]) l) v c = _
    rw [this, wiT]
    simp [wiL, binds6, Bool.and_assoc]
theorem leaf_formed {k n : Int} (hk : k = 1 ∨ k = 3) (h : 0 ≤ n ∧ n ≤ 65535) : formedM (.mk k n []) = true := by
  rcases hk with rfl | rfl <;> simp [formedM_is, kidsM, (inB_iff n 0 65535).2 h]
theorem varsN_mem {n : Nat} {x : T} (h : x ∈ varsN n) : ∃ i : Nat, i < n ∧ x = tV ((n : Int) - 1 - i) := by
  rw [varsN] at h
  obtain ⟨i, hi, rfl⟩ := List.mem_map.1 h
  exact ⟨i, List.mem_range.1 hi, rfl⟩
/-- The spine on the variables: right, and in scope of just so many. -/
theorem vars_spine (n c : Nat) (hn : n < 60) (hc : c < 100) : checkM (spT (.mk 3 c []) (varsN n)) = 0 ∧
    ∀ v k : Int, 0 ≤ v → v ≤ 100 → 0 ≤ k → scopeM (spT (.mk 3 c []) (varsN n)) v k = (decide ((c : Int) < k) && decide ((n : Int) ≤ v)) := by
  have h1 := sp_nodes (varsN n) (.mk 3 c []) fun x hx => by obtain ⟨i, _, rfl⟩ := varsN_mem hx; exact leaf_nodes _ _
  have h2 := sp_depth (varsN n) (.mk 3 c []) fun x hx => by obtain ⟨i, _, rfl⟩ := varsN_mem hx; exact leaf_depth _ _
  have h3 := sp_formed (varsN n) (.mk 3 c []) (leaf_formed (.inr rfl) (by omega)) fun x hx => by obtain ⟨i, hi, rfl⟩ := varsN_mem hx; exact leaf_formed (.inl rfl) (by omega)
  rw [leaf_nodes, varsN_len] at h1
  rw [leaf_depth, varsN_len] at h2
  have hk : checkM (spT (.mk 3 c []) (varsN n)) = 0 := (check_iff (by omega)).2 ⟨by omega, by omega, h3⟩
  refine ⟨hk, fun v k hv hv' hkk => ?_⟩
  rw [scope_gen hv (by omega) hkk (by omega) hk, sp_wi]
  have e1 : wiT (.mk 3 c []) v k = decide ((c : Int) < k) := by simp [wiT]
  rw [e1]
  congr 1
  rw [Bool.eq_iff_iff, List.all_eq_true, decide_eq_true_eq]
  constructor
  · intro h
    rcases Nat.eq_zero_or_pos n with h0 | h0
    · omega
    · have hm : tV ((n : Int) - 1 - (0 : Nat)) ∈ varsN n := by
        rw [varsN]
        exact List.mem_map.2 ⟨0, List.mem_range.2 h0, rfl⟩
      have := h _ hm
      simp [wiT, tV] at this
      omega
  · intro h x hx
    obtain ⟨i, hi, rfl⟩ := varsN_mem hx
    simp [wiT, tV]
    omega

theorem televars_law (n c : Int) : Pure Try.prog n_porismlaw06_TeleVars [.int .i64 n, .int .i64 c] [.bool true] := by
  refine p_porismlaw06_TeleVars rfl fun hs => ?_
  simp -dsimp [x_porismlaw06_TeleVars]
  obtain ⟨n0, n1⟩ := rem_le n 60 (by omega) (by omega)
  obtain ⟨c0, c1⟩ := rem_le c 100 (by omega) (by omega)
  obtain ⟨m, hm⟩ := Int.eq_ofNat_of_zero_le n0
  obtain ⟨d, hd⟩ := Int.eq_ofNat_of_zero_le c0
  rw [hm] at n0 n1 ⊢
  rw [hd] at c0 c1 ⊢
  have hvs := vars_ok (m : Int)
  have hV : varsT (m : Int) = varsN m := by
    rw [varsT]
    split
    · have : m = 0 := by omega
      subst this
      rfl
    · rfl
  rw [hV] at hvs
  refine call_of hvs ?_
  have hneg : IntKind.i64.wrap (-(m : Int)) = -(m : Int) := wrap_id (by omega) (by omega)
  have hvl := varsN_len m
  simp -dsimp [eTs, hvl, hneg]
  have hv2 := vars_ok (-(m : Int))
  have hV2 : varsT (-(m : Int)) = [] := by rw [varsT, if_pos (.inl (by omega))]
  rw [hV2] at hv2
  refine call_of hv2 ?_
  simp -dsimp [eTs, hvl]
  have hv3 := vars_ok 65537
  have hV3 : varsT 65537 = [] := by rw [varsT, if_pos (.inr (by omega))]
  rw [hV3] at hv3
  refine call_of hv3 ?_
  simp -dsimp [eTs, hvl]
  refine wp_upto m (fun i st => st.s 0 = .d (.int .i64 m) ∧ st.s 1 = .d (.int .i64 d) ∧ st.s 5 = .d (.sl 3 ((varsN m).map eT)) ∧ st.s 6 = .d (.int .i64 i)) ?_ ?_
  · simp -dsimp
  · rintro i ⟨s, hp⟩ hi ⟨g1, g2, g3, g4⟩
    dsimp only at g1 g2 g3 g4
    rcases Nat.lt_or_ge i m with hlt | hge
    · have w1 : IntKind.i64.wrap ((i : Int) + 1) = (i : Int) + 1 := wrap_id (by omega) (by omega)
      have w2 : IntKind.i64.wrap ((m : Int) - 1) = (m : Int) - 1 := wrap_id (by omega) (by omega)
      have w3 : IntKind.i64.wrap ((m : Int) - 1 - i) = (m : Int) - 1 - i := wrap_id (by omega) (by omega)
      have hlt' : i < (varsN m).length := by omega
      have hg := varsN_get m i hlt'
      simp -dsimp [g1, g2, g3, g4, hlt, hlt', hvl, hg, w1, w2, w3, cT, tV]
    · have e : i = m := by omega
      subst e
      obtain ⟨k1, k2⟩ := vars_spine i d (by omega) (by omega)
      simp -dsimp [g1, g2, g3, g4]
      refine call_of (rc_ok d) ?_
      simp -dsimp [g1, g2, g3, g4]
      have hos : okTs (varsN i) := ⟨by rw [varsN_len]; omega, fun x hx => by obtain ⟨q, hq, rfl⟩ := varsN_mem hx; exact okT_leaf (by omega) (by omega)⟩
      have hsp := spine_ok (.mk 3 d []) (varsN i) (by rw [varsN_len]; omega) (okT_leaf (by omega) (by omega)) hos
      have z1 := k2 i (d + 1) (by omega) (by omega) (by omega)
      have z2 := k2 i d (by omega) (by omega) (by omega)
      have z3 : 0 < i → scopeM (spT (.mk 3 d []) (varsN i)) ((i : Int) - 1) (d + 1) = false := fun h => by
        rw [k2 _ _ (by omega) (by omega) (by omega)]
        simp <;> omega
      have z1' : scopeM (spT (.mk 3 d []) (varsN i)) i (d + 1) = true := by rw [z1]; simp <;> omega
      have z2' : scopeM (spT (.mk 3 d []) (varsN i)) i d = false := by rw [z2]; simp
      clear z1 z2 k1 k2
      generalize spT (.mk 3 d []) (varsN i) = S at hsp z1' z2' z3
      have f1 := scope_ok S i (d + 1)
      have f2 := scope_ok S i d
      have f3 := scope_ok S ((i : Int) - 1) (d + 1)
      rw [z1'] at f1
      rw [z2'] at f2
      have w1 : IntKind.i64.wrap ((d : Int) + 1) = (d : Int) + 1 := wrap_id (by omega) (by omega)
      have w2 : IntKind.i64.wrap ((i : Int) - 1) = (i : Int) - 1 := wrap_id (by omega) (by omega)
      simp only [cT, eTs, tk, tn, tks, List.map_nil] at hsp
      simp -dsimp [cT]
      refine call_of hsp ?_
      simp -dsimp [g1, g2, g3, g4, w1]
      refine call_of f1 ?_
      simp -dsimp [g1, g2, g3, g4, w1, w2]
      by_cases h0 : i = 0
      · simp -dsimp [g1, g2, g3, g4, w1, w2, h0]
        subst h0
        refine call_of f2 ?_
        simp -dsimp
        refine call_of wakes06_ok ?_
        simp -dsimp
      · rw [z3 (by omega)] at f3
        simp -dsimp [g1, g2, g3, g4, w1, w2, h0]
        refine call_of f3 ?_
        simp -dsimp [g1, g2, g3, g4, w1, w2, h0]
        refine call_of f2 ?_
        simp -dsimp
        refine call_of wakes06_ok ?_
        simp -dsimp
end Ev
end Go.Proofs.Ytnkbhmafebngjaa
