/- TeleBack. -/
import Derived.Test.YtnkbhmafebngjaaR8
namespace Go.Proofs.Ytnkbhmafebngjaa
namespace Ev
open Go
set_option maxRecDepth 100000
set_option linter.unusedSimpArgs false
set_option linter.unusedVariables false
attribute [local simp ↓] wx_skip wx_region wx_seq wx_block wx_exit wx_ret wx_cond wx_loop wo_nil wo_run wo_ask wx_draw wt_nil wt_run_t wt_run_f wt_ask_t wt_ask_f rb_mv rb_nilrow rb_pick rb_alloc rb_box rb_load rb_store rb_nilck rb_bin rb_binb rb_un rb_conv rb_mkf rb_mks rb_slice rb_faddr rb_fld rb_iaddr rb_ext rb_len rb_app rb_mm rb_build rb_bslice run_callC upd_eq upd_ne
attribute [local simp] runB_some runB_none Tch_nil Tch_cons Chk_t Cnd_t Cnd_f Ask_tt Ask_ff Ask_tf Ask_ft Ask_skip act ev_t ev_c evs sks caps2 touch_call List.cons_append List.nil_append putS binI binB int_add int_sub int_mul int_quo int_rem int_or int_eql int_neq int_lss int_leq int_gtr int_geq shiftD Ex.then Ex.inBlock Ends resL resX allD toD_d toD_fsl sk_d sk_fsl none_ loadA cut wrapA wrapD avc_d avc_agg avc_fsl avc_rsl avc_ptr avc_eptr avc_clo dc_agg dc_int dc_bool dc_str dc_sl dc_nilp dc_rp dc_clo on_int on_bool on_str on_sl on_nilp on_rp on_clo on_fsl on_rsl on_ptr on_eptr on_cloA newE elemsA elemsS storeA put frz_nil deep callee resA initS touchOp fits compat rd wr key1 buildA partsD partsK idx frz_at Body.frz lk_hit lk_miss toD6_agg toD5_agg toD4_agg toD6_clo toD5_clo toD4_clo toD6_ptr toD5_ptr toD4_ptr sk6_agg sk5_agg sk4_agg sk6_clo sk5_clo sk4_clo sk6_ptr sk5_ptr sk4_ptr toD_rsl sk_rsl
attribute [local simp] allD_map_d sks_map_d tk tn tks

theorem sp_back (l : List T) : ∀ t : T, spA (spT t l) = l.reverse ++ spA t ∧ spH (spT t l) = spH t := by
  induction l with
  | nil => intro t; simp [spT]
  | cons a l ih =>
    intro t
    have h := ih (.mk 6 0 [t, a])
    show spA (spT (.mk 6 0 [t, a]) l) = _ ∧ spH (spT (.mk 6 0 [t, a]) l) = _
    rw [h.1, h.2, (sp_two 0 t a).1, (sp_two 0 t a).2]
    simp
theorem pi_back (l : List T) (t : T) : piD (nestT 4 l t) = l ++ piD t ∧ piB (nestT 4 l t) = piB t := by
  induction l with
  | nil => simp [nestT]
  | cons a l ih =>
    show piD (.mk 4 0 [a, nestT 4 l t]) = _ ∧ piB (.mk 4 0 [a, nestT 4 l t]) = _
    rw [(pi_two _ _ _).1, (pi_two _ _ _).2, ih.1, ih.2]
    simp
theorem sp_head {t : T} (h : t.kind ≠ 6) : spA t = [] ∧ spH t = t := by
  obtain ⟨k, n, ks⟩ := t
  exact sp_none fun hc => h hc.1
theorem pi_head {t : T} (h : t.kind ≠ 4) : piD t = [] ∧ piB t = t := by
  obtain ⟨k, n, ks⟩ := t
  exact pi_none fun hc => h hc.1
theorem sp_okT : ∀ (l : List T) (t : T), okT t → (∀ x ∈ l, okT x) → okT (spT t l)
  | [], t, ht, _ => ht
  | a :: l, t, ht, h => sp_okT l (.mk 6 0 [t, a]) (okT_two ht (h a (by simp)) (by omega)) fun x hx => h x (by simp [hx])
theorem okT_k {k n : Int} {a b : T} (hk : 0 ≤ k ∧ k ≤ 100000) (ha : okT a) (hb : okT b) (hn : 0 ≤ n ∧ n ≤ 100000) : okT (.mk k n [a, b]) :=
  .mk k n [a, b] (by simp only [n64]; omega) (by simp only [n64]; omega) (by simp) (by intro x hx; simp at hx; rcases hx with rfl | rfl <;> assumption)
theorem nest_okT {k : Int} (hk : 0 ≤ k ∧ k ≤ 100000) (t : T) (ht : okT t) : ∀ l : List T, (∀ x ∈ l, okT x) → okT (nestT k l t)
  | [], _ => ht
  | a :: l, h => okT_k hk (h a (by simp)) (nest_okT hk t ht l fun x hx => h x (by simp [hx])) (by omega)
theorem sp_nodes' (l : List T) : ∀ t : T, nodes (spT t l) = (l.map nodes).sum + l.length + nodes t := by
  induction l with
  | nil => intro t; simp [spT]
  | cons a l ih =>
    intro t
    have h := ih (.mk 6 0 [t, a])
    show nodes (spT (.mk 6 0 [t, a]) l) = _
    rw [h, nodes2, List.map_cons, List.sum_cons, List.length_cons]
    omega

theorem heavy_no {l : List T} (hb : (l.map nodes).sum ≤ 1048576) (h : heavy02 l = false) : l.length ≤ 60 ∧ (∀ x ∈ l, depthN x ≤ 300) ∧ (l.map nodes).sum ≤ 9000 := by
  have hm : ∀ x ∈ l, nodes x ≤ (l.map nodes).sum := fun x hx => sum_mem (List.mem_map.2 ⟨x, hx, rfl⟩)
  rw [heavy02, Bool.or_eq_false_iff, Bool.or_eq_false_iff] at h
  obtain ⟨⟨h1, h2⟩, h3⟩ := h
  rw [foldl_sum l 0 (by omega) (by omega) fun x hx => size_is x (by have := hm x hx; omega)] at h3
  refine ⟨by simp at h1; omega, fun x hx => ?_, by simp at h3; omega⟩
  have := List.any_eq_false.1 h2 x hx
  rw [depth_is x (by have := hm x hx; omega)] at this
  simp at this
  omega
theorem sum_take (l : List T) (i : Nat) (h : i < l.length) : ((l.take (i + 1)).map nodes).sum = ((l.take i).map nodes).sum + nodes l[i] := by
  rw [take_snoc (List.getElem?_eq_getElem h), List.map_append, List.sum_append]
  simp

theorem back_law (l : List T) (t : T) (hn : nodes t ≤ 1048576) (hsm : (l.map nodes).sum ≤ 1048576) (ho : okT t) (hl : okTs l) : Pure Try.prog n_porismlaw06_TeleBack [eTs l, .agg (cT t)] [.bool true] := by
  refine p_porismlaw06_TeleBack rfl fun hs => ?_
  have hh := heavy02_ok [t]
  have hh2 := heavy02_ok l
  simp only [eTs, List.map_cons, List.map_nil, eT_eq, cT] at hh
  simp only [eTs] at hh2
  simp -dsimp [x_porismlaw06_TeleBack, cT, eTs]
  refine call_of hh ?_
  simp -dsimp
  (first | refine Ask_b ?_ ?_ | refine Cnd_b ?_ ?_) <;> intro h1 <;> (try simp only [decide_eq_true_eq, decide_eq_false_iff_not, beq_iff_eq, beq_eq_false_iff_ne, bne_iff_ne, bne_eq_false_iff_eq, Bool.not_eq_true', Bool.not_eq_false', Bool.and_eq_true, Bool.or_eq_true, Bool.and_eq_false_iff, Bool.or_eq_false_iff] at h1) <;> simp -dsimp [h1]
  refine call_of hh2 ?_
  simp -dsimp [h1]
  (first | refine Ask_b ?_ ?_ | refine Cnd_b ?_ ?_) <;> intro h2 <;> (try simp only [decide_eq_true_eq, decide_eq_false_iff_not, beq_iff_eq, beq_eq_false_iff_ne, bne_iff_ne, bne_eq_false_iff_eq, Bool.not_eq_true', Bool.not_eq_false', Bool.and_eq_true, Bool.or_eq_true, Bool.and_eq_false_iff, Bool.or_eq_false_iff] at h2) <;> simp -dsimp [h2, h1]
  obtain ⟨_, _, t3⟩ := heavy_no (l := [t]) (by simpa using hn) h1
  obtain ⟨l1, _, l3⟩ := heavy_no hsm h2
  simp only [List.map_cons, List.map_nil, List.sum_cons, List.sum_nil] at t3
  have hm : ∀ x ∈ l, nodes x ≤ (l.map nodes).sum := fun x hx => sum_mem (List.mem_map.2 ⟨x, hx, rfl⟩)
  have kt := tsize_ok t
  rw [size_is t (by omega)] at kt
  refine call_of kt ?_
  simp -dsimp
  refine wp_upto l.length (fun i st => st.s 0 = .d (.sl 3 (l.map eT)) ∧ st.s 3 = .ptr 3 1 0 ∧ st.h 3 = ⟨1, .box [.d (.int .i64 t.kind), .d (.int .i64 t.num), .d (.sl 3 (t.kids.map eT))] false⟩ ∧ st.s 6 = .d (.int .i64 i) ∧
    st.s 5 = .d (.int .i64 ((nodes t + ((l.take i).map nodes).sum + i : Nat) : Int))) ?_ ?_
  · simp -dsimp
  · rintro i ⟨s, hp⟩ hi ⟨g1, g2, g3, g4, g5⟩
    dsimp only at g1 g2 g3 g4 g5
    rcases Nat.lt_or_ge i l.length with hlt | hge
    · have w1 : IntKind.i64.wrap ((i : Int) + 1) = (i : Int) + 1 := wrap_id (by omega) (by omega)
      have hx := hm l[i] (List.getElem_mem _)
      have ks := tsize_ok l[i]
      rw [size_is _ (by omega)] at ks
      have hle : ((l.take i).map nodes).sum ≤ 9000 := by
        have e : (l.map nodes).sum = ((l.take i).map nodes).sum + ((l.drop i).map nodes).sum := by rw [← List.sum_append, ← List.map_append, List.take_append_drop]
        omega
      have hst := sum_take l i hlt
      have w2 : IntKind.i64.wrap (((nodes t + ((l.take i).map nodes).sum + i : Nat) : Int) + (nodes l[i] : Nat)) = ((nodes t + ((l.take i).map nodes).sum + i : Nat) : Int) + (nodes l[i] : Nat) := wrap_id (by omega) (by omega)
      have w3 : IntKind.i64.wrap (((nodes t + ((l.take i).map nodes).sum + i : Nat) : Int) + (nodes l[i] : Nat) + 1) = ((nodes t + ((l.take (i + 1)).map nodes).sum + (i + 1) : Nat) : Int) := by rw [wrap_id (by omega) (by omega)]; omega
      generalize nodes t + ((l.take (i + 1)).map nodes).sum + (i + 1) = z1 at w3
      generalize nodes t + ((l.take i).map nodes).sum + i = z0 at g5 w2 w3
      simp -dsimp [g1, g2, g3, g4, g5, hlt, cT]
      refine call_of ks ?_
      simp -dsimp [g1, g2, g3, g4, g5, hlt, w1, w2, w3]
    · have e : i = l.length := by omega
      subst e
      rw [List.take_length] at g5
      have hS := spine_ok t l (by omega) ho hl
      have hP := pis_ok l t (by omega) ho hl
      have hL := lams_ok l t (by omega) ho hl
      have zS := sp_nodes' l t
      have zP := nest_nodes 4 l t
      have zL := nest_nodes 5 l t
      have oS := sp_okT l t ho hl.2
      have oP := nest_okT (k := 4) (by omega) t ho l hl.2
      have uS := unspine_is (spT t l) oS (by omega)
      have uP := unpis_is (nestT 4 l t) oP (by omega)
      rw [(sp_back l t).1, (sp_back l t).2] at uS
      rw [(pi_back l t).1, (pi_back l t).2] at uP
      have kS := tsize_ok (spT t l)
      have kP := tsize_ok (nestT 4 l t)
      have kL := tsize_ok (nestT 5 l t)
      have hN : nodes t + (l.map nodes).sum + l.length = (l.map nodes).sum + l.length + nodes t := by omega
      rw [size_is _ (by omega), zS] at kS
      rw [size_is _ (by omega), zP] at kP
      rw [size_is _ (by omega), zL] at kL
      rw [hN] at g5
      generalize (l.map nodes).sum + l.length + nodes t = Z at kS kP kL g5
      clear zS zP zL
      generalize spT t l = S at *
      generalize nestT 4 l t = P at *
      generalize nestT 5 l t = L at *
      simp only [cT, eTs] at hS hP hL uS uP
      simp -dsimp [g1, g2, g3, g4]
      refine call_of hS ?_
      simp -dsimp [g1, g2, g3, g4]
      refine call_of hP ?_
      simp -dsimp [g1, g2, g3, g4]
      refine call_of kS ?_
      simp -dsimp [g1, g2, g3, g4, g5]
      refine call_of kP ?_
      simp -dsimp [g1, g2, g3, g4, g5]
      refine call_of hL ?_
      simp -dsimp [g1, g2, g3, g4, g5]
      refine call_of kL ?_
      simp -dsimp [g1, g2, g3, g4, g5]
      rw [List.reverse_append, List.reverse_reverse] at uS
      have hlx := hl
      have keepL := keepTerms_ok l
      simp only [eTs] at keepL
      have keepT := keepTerm_ok t
      simp only [cT] at keepT
      have hX : t.kind ≠ 6 → (spA t).reverse = [] ∧ spH t = t := fun h => ⟨by rw [(sp_head h).1]; rfl, (sp_head h).2⟩
      have hD : t.kind ≠ 4 → piD t = [] ∧ piB t = t := pi_head
      have oX := (sp_parts t ho).2.2.1
      have oD := (pi_parts t ho).2.2.1
      rw [← List.length_reverse] at oX
      generalize (spA t).reverse = X at uS hX oX
      generalize spH t = F at uS hX
      generalize piD t = Dm at uP hD oD
      generalize piB t = B at uP hD
      have v1 : IntKind.i64.wrap (X.length : Int) = (X.length : Int) := wrap_id (by omega) (by omega)
      have v2 : (X.length : Int) ≤ (X.length : Int) + (l.length : Int) := by omega
      have v3 : (l.length : Int) ≤ (l.length : Int) + (Dm.length : Int) := by omega
      have v7 : IntKind.i64.wrap 0 = 0 := wrap_id (by omega) (by omega)
      have v8 : List.take l.length (l.map eT) = l.map eT := List.take_of_length_le (by simp)
      have v6 : (l.length : Int) ≤ (X.length : Int) + (l.length : Int) := by omega
      have v4 : List.drop X.length (List.take (X.length + l.length) (X.map eT ++ l.map eT)) = l.map eT := by
        rw [List.take_of_length_le (by simp)]
        exact List.drop_left' (by simp)
      have v5 : List.take l.length (l.map eT ++ Dm.map eT) = l.map eT := List.take_left' (by simp)
      refine call_of uS ?_
      simp -dsimp [g1, g2, g3, g4, g5]
      refine call_of uP ?_
      by_cases h6 : t.kind = 6
      · have h4 : ¬ t.kind = 4 := by omega
        obtain ⟨rfl, rfl⟩ := hD h4
        simp only [h6] at keepT
        simp -dsimp [g1, g2, g3, g4, g5, h6, h4]
        refine call_of keepT ?_
        simp -dsimp [g1, g2, g3, g4, g5, h6, h4]
        refine call_of keepL ?_
        simp -dsimp [g1, g2, g3, g4, g5, h6, h4, v1, v2, v3, v4, v5, v6, v7, v8]
        refine call_of keepL ?_
        simp -dsimp [g1, g2, g3, g4, g5, h6, h4, v1, v2, v3, v4, v5, v6, v7, v8]
        refine call_of keepL ?_
        simp -dsimp [g1, g2, g3, g4, g5, h6, h4, v1, v2, v3, v4, v5, v6, v7, v8]
        refine call_of wakes06_ok ?_
        simp -dsimp
      · obtain ⟨rfl, rfl⟩ := hX h6
        by_cases h4 : F.kind = 4
        · simp only [h4] at keepT
          simp -dsimp [g1, g2, g3, g4, g5, h4]
          refine call_of keepT ?_
          simp -dsimp [g1, g2, g3, g4, g5, h4]
          refine call_of keepL ?_
          simp -dsimp [g1, g2, g3, g4, g5, h4, v1, v2, v3, v4, v5, v6, v7, v8]
          refine call_of keepL ?_
          simp -dsimp [g1, g2, g3, g4, g5, h4, v1, v2, v3, v4, v5, v6, v7, v8]
          refine call_of keepL ?_
          simp -dsimp [g1, g2, g3, g4, g5, h4, v1, v2, v3, v4, v5, v6, v7, v8]
          refine call_of wakes06_ok ?_
          simp -dsimp
        · obtain ⟨rfl, rfl⟩ := hD h4
          simp -dsimp [g1, g2, g3, g4, g5, h6, h4]
          refine call_of keepT ?_
          simp -dsimp [g1, g2, g3, g4, g5, h6, h4]
          refine call_of keepL ?_
          simp -dsimp [g1, g2, g3, g4, g5, h6, h4]
          refine call_of keepT ?_
          simp -dsimp [g1, g2, g3, g4, g5, h6, h4]
          refine call_of keepL ?_
          simp -dsimp [g1, g2, g3, g4, g5, h6, h4, v1, v2, v3, v4, v5, v6, v7, v8]
          refine call_of keepL ?_
          simp -dsimp [g1, g2, g3, g4, g5, h6, h4, v1, v2, v3, v4, v5, v6, v7, v8]
          refine call_of keepL ?_
          simp -dsimp [g1, g2, g3, g4, g5, h6, h4, v1, v2, v3, v4, v5, v6, v7, v8]
          refine call_of wakes06_ok ?_
          simp -dsimp
end Ev
end Go.Proofs.Ytnkbhmafebngjaa
