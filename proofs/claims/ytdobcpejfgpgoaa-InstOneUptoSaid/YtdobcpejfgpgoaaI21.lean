/- InstNone. -/
import Derived.Test.YtdobcpejfgpgoaaI20
namespace Go.Proofs.Ytdobcpejfgpgoaa
namespace Ev
open Go
set_option maxRecDepth 100000
set_option linter.unusedSimpArgs false
set_option linter.unusedVariables false
attribute [local simp ↓] wx_skip wx_region wx_seq wx_block wx_exit wx_ret wx_cond wx_loop wo_nil wo_run wo_ask wx_draw wt_nil wt_run_t wt_run_f wt_ask_t wt_ask_f rb_mv rb_nilrow rb_pick rb_alloc rb_box rb_load rb_store rb_nilck rb_bin rb_binb rb_un rb_conv rb_mkf rb_mks rb_slice rb_faddr rb_fld rb_iaddr rb_ext rb_len rb_app rb_mm rb_build rb_bslice run_callC upd_eq upd_ne
attribute [local simp] runB_some runB_none Tch_nil Tch_cons Chk_t Cnd_t Cnd_f Ask_tt Ask_ff Ask_tf Ask_ft Ask_skip act ev_t ev_c evs sks caps2 touch_call List.cons_append List.nil_append putS binI binB int_add int_sub int_mul int_quo int_rem int_or int_eql int_neq int_lss int_leq int_gtr int_geq shiftD Ex.then Ex.inBlock Ends resL resX allD toD_d toD_fsl sk_d sk_fsl none_ loadA cut wrapA wrapD avc_d avc_agg avc_fsl avc_rsl avc_ptr avc_eptr avc_clo dc_agg dc_int dc_bool dc_str dc_sl dc_nilp dc_rp dc_clo on_int on_bool on_str on_sl on_nilp on_rp on_clo on_fsl on_rsl on_ptr on_eptr on_cloA newE elemsA elemsS storeA put frz_nil deep callee resA initS touchOp fits compat rd wr key1 buildA partsD partsK idx frz_at Body.frz lk_hit lk_miss toD6_agg toD5_agg toD4_agg toD6_clo toD5_clo toD4_clo toD6_ptr toD5_ptr toD4_ptr sk6_agg sk5_agg sk4_agg sk6_clo sk5_clo sk4_clo sk6_ptr sk5_ptr sk4_ptr toD_rsl sk_rsl
attribute [local simp] allD_map_d sks_map_d tk tn tks

theorem mapL_at_eq (f g : Int → Int → T) (k b c : Int) (l : List T) (h : ∀ (j : Nat) (hj : j < l.length), mapT f l[j] (b + bindsM k j) = mapT g l[j] (c + bindsM k j)) : mapL f k b 0 l = mapL g k c 0 l := by
  apply List.ext_getElem
  · rw [mapL_len, mapL_len]
  intro j h1 h2
  rw [mapL_len] at h1
  rw [mapL_get f k b l 0 j h1, mapL_get g k c l 0 j h1, Nat.zero_add]
  exact h j h1
theorem mapL_id (f : Int → Int → T) (k b : Int) (l : List T) (h : ∀ (j : Nat) (hj : j < l.length), mapT f l[j] (b + bindsM k j) = l[j]) : mapL f k b 0 l = l := by
  apply List.ext_getElem
  · rw [mapL_len]
  intro j h1 h2
  rw [mapL_get f k b l 0 j h2, Nat.zero_add]
  exact h j h2
theorem scL_false (l : List T) (u k b : Int) : ∀ (xs : List T) (i : Nat), (∀ (j : Nat) (hj : j < xs.length), scI l u xs[j] (b + bindsM k (i + j : Nat)) = false) → scL l u k b i xs = false
  | [], i, _ => rfl
  | x :: xs, i, h => by
    rw [scL, Bool.or_eq_false_iff]
    refine ⟨by have := h 0 (by simp); simpa only [List.getElem_cons_zero, Nat.add_zero] using this, scL_false l u k b xs (i + 1) fun j hj => ?_⟩
    have := h (j + 1) (by simpa using hj)
    simp only [List.getElem_cons_succ] at this
    rw [show i + 1 + j = i + (j + 1) by omega]
    exact this
theorem map_id (f : Int → Int → T) (h : ∀ n b : Int, 0 ≤ n → n ≤ 65535 → 0 ≤ b → b ≤ 4194304 → f n b = .mk 1 n []) (t : T) : ∀ b : Int, formedM t = true → 0 ≤ b → b + nodes t ≤ 4194304 → mapT f t b = t := by
  refine T.ind (p := fun t => ∀ b : Int, formedM t = true → 0 ≤ b → b + nodes t ≤ 4194304 → mapT f t b = t) ?_ t
  intro k n ks ih b hfm h0 hb
  rw [mapT]
  by_cases h1 : k = 1
  · have hn := var_formed h1 hfm
    have hks := var_leaf h1 hfm
    subst h1 hks
    rw [if_pos rfl, h n b hn.1 hn.2 h0 (by omega)]
  · rw [if_neg h1]
    congr 1
    refine mapL_id f k b ks fun j hj => ?_
    have hbl := binds_le k j
    have hnk := nodes_kid (k := k) (n := n) (List.getElem_mem hj : ks[j] ∈ ks)
    exact ih ks[j] (List.getElem_mem _) _ (kids_formed hfm _ (List.getElem_mem _)) (by omega) (by omega)
theorem which_lo {len : Nat} {u n b : Int} (h : n < u + b) : whichT len u n b = -1 := by rw [whichT, if_pos (.inl h)]
theorem which_hi {len : Nat} {u n b : Int} (h : u + b + len ≤ n) : whichT len u n b = -1 := by rw [whichT, if_pos (.inr (by omega))]
theorem instF_lo {l : List T} {u n b : Int} (h : n < u + b) : instF l u n b = .mk 1 n [] := by
  rw [instF, which_lo h, if_neg (by omega), if_neg (by omega)]
theorem instF_hi {l : List T} {u n b : Int} (h : u + b + l.length ≤ n) (h0 : 0 ≤ u + b) (hn : n ≤ 10000000) : instF l u n b = .mk 1 (n - l.length) [] := by
  rw [instF, which_hi h, if_neg (by omega), if_pos (by omega), w64_id (by omega) (by omega)]
/-- What is shifted by as many has none of these variables. -/
theorem sc_shifted (l : List T) (u : Int) (hu : 0 ≤ u) (t : T) : ∀ b : Int, formedM t = true → 0 ≤ b → scI l u (mapT (shF u l.length) t b) b = false := by
  refine T.ind (p := fun t => ∀ b : Int, formedM t = true → 0 ≤ b → scI l u (mapT (shF u l.length) t b) b = false) ?_ t
  intro k n ks ih b hfm h0
  rw [mapT]
  by_cases h1 : k = 1
  · rw [if_pos h1]
    by_cases h2 : n < u + b
    · rw [sh_lo h2, scI, if_pos rfl, which_lo h2, if_neg (by omega)]
    · rw [sh_hi (by omega), scI, if_pos rfl, which_hi (by omega), if_neg (by omega)]
  · rw [if_neg h1, scI, if_neg h1]
    refine scL_false l u k b _ 0 fun j hj => ?_
    rw [mapL_len] at hj
    have hbl := binds_le k j
    have := ih ks[j] (List.getElem_mem hj) (b + bindsM k j) (kids_formed hfm _ (List.getElem_mem hj)) (by omega)
    rw [mapL_get _ k b ks 0 j hj, Nat.zero_add]
    exact this
theorem shifted_back (l : List T) (u : Int) (hu : 0 ≤ u) (hu' : u ≤ 65535) (hl : l.length ≤ 65535) (t : T) (hf : formedM t = true) (ht : nodes t ≤ 1048576) : mapT (instF l u) (mapT (shF u l.length) t 0) 0 = t := by
  have h1 := map_map (instF l u) (shF u l.length) (fun n _ => .mk 1 n []) 0 (fun n b h1 h2 h3 h4 => by
    rw [Int.add_zero]
    by_cases c : n < u + b
    · rw [sh_lo c, map_var, instF_lo c]
    · rw [sh_hi (by omega), map_var, instF_hi (by omega) (by omega) (by omega)]
      congr 1
      omega) t 0 hf (by omega) (by omega)
  rw [Int.add_zero] at h1
  rw [h1]
  exact map_id _ (fun _ _ _ _ _ _ => rfl) t 0 hf (by omega) (by omega)
theorem none_back {t : T} {l : List T} {u : Int} (ht : nodes t ≤ 1048576) (hl : ∀ x ∈ l, checkM x = 0 ∧ nodes x ≤ 1048576) (hn : l.length ≤ 10) (hu : 0 ≤ u ∧ u < 20) (h : shiftE t l.length u = 0) :
    instE (shiftT t l.length u) l u = 0 ∧ instT (shiftT t l.length u) l u = t := by
  obtain ⟨v1, v2, v3⟩ := shift_right ht h
  obtain ⟨c1, c2, c3, c4⟩ := shift_iff.1 h
  have hf := formed_of c1
  have hb := shifted_back l u hu.1 (by omega) (by omega) t hf ht
  have hs := sc_shifted l u hu.1 t 0 hf (by omega)
  rw [← shift_at h] at hb hs
  have hc := (check_iff ht).1 c1
  have hE : instE (shiftT t l.length u) l u = 0 := (inst_iff (by omega) fun x hx => (hl x hx).2).2 ⟨(openE_iff _ _ _).2 ⟨v1, fun x hx => (hl x hx).1, by omega⟩, hs, by rw [hb]; omega, by rw [hb]; omega⟩
  exact ⟨hE, by rw [inst_at hE, hb]⟩

theorem cntL_zero (k n b : Int) : ∀ (l : List T) (i : Nat), cntL k n b i 0 l = 0 → ∀ (j : Nat) (hj : j < l.length), cntT l[j] n (b + bindsM k (i + j : Nat)) = 0
  | x :: xs, i, h, 0, hj => by
    rw [cntL, cntL_add] at h
    have h1 := (cnt_le x n (b + bindsM k i)).1
    have h2 : 0 ≤ cntL k n b (i + 1) 0 xs := by
      have := (cnt_le (.mk 0 0 xs) n b).1
      clear h
      have go : ∀ (l : List T) (i : Nat), 0 ≤ cntL k n b i 0 l := by
        intro l
        induction l with
        | nil => intro i; simp [cntL]
        | cons x xs ihx =>
          intro i
          rw [cntL, cntL_add]
          have := (cnt_le x n (b + bindsM k i)).1
          have := ihx (i + 1)
          omega
      exact go xs (i + 1)
    simp only [List.getElem_cons_zero, Nat.add_zero]
    omega
  | x :: xs, i, h, j + 1, hj => by
    have h0 := cntL_zero k n b (x :: xs) i h 0 (by simp)
    simp only [List.getElem_cons_zero, Nat.add_zero] at h0
    rw [cntL, h0, Int.add_zero] at h
    have := cntL_zero k n b xs (i + 1) h j (by simpa using hj)
    simp only [List.getElem_cons_succ]
    rw [show i + (j + 1) = i + 1 + j by omega]
    exact this
/-- What has no such variable is lowered, whatever is put for it. -/
theorem none_low (a : T) (u : Int) (hu : 0 ≤ u ∧ u ≤ 65535) (t : T) : ∀ b : Int, formedM t = true → 0 ≤ b → cntT t u b = 0 → mapT (instF [a] u) t b = mapT (lowF u) t b ∧ scI [a] u t b = false := by
  refine T.ind (p := fun t => ∀ b : Int, formedM t = true → 0 ≤ b → cntT t u b = 0 → mapT (instF [a] u) t b = mapT (lowF u) t b ∧ scI [a] u t b = false) ?_ t
  intro k n ks ih b hfm h0 hc
  rw [mapT, mapT, scI]
  by_cases h1 : k = 1
  · have hn := var_formed h1 hfm
    have hks := var_leaf h1 hfm
    subst h1 hks
    rw [cnt_leaf] at hc
    have hne : n ≠ u + b := fun e => by rw [if_pos e] at hc; cases hc
    rw [if_pos rfl, if_pos rfl, if_pos rfl, lowF]
    by_cases h2 : n < u + b
    · rw [instF_lo h2, if_neg (by omega), List.length_singleton, which_lo h2, if_neg (by omega)]
      exact ⟨rfl, rfl⟩
    · have h3 : u + b + ([a] : List T).length ≤ n := by rw [List.length_singleton]; omega
      rw [instF_hi h3 (by omega) (by omega), if_pos (by omega), which_hi h3, if_neg (by omega)]
      exact ⟨by simp, rfl⟩
  · rw [cnt_node h1] at hc
    rw [if_neg h1, if_neg h1, if_neg h1]
    have hz := cntL_zero k u b ks 0 hc
    have hk : ∀ (j : Nat) (hj : j < ks.length), mapT (instF [a] u) ks[j] (b + bindsM k j) = mapT (lowF u) ks[j] (b + bindsM k j) ∧ scI [a] u ks[j] (b + bindsM k j) = false := fun j hj => by
      have hbl := binds_le k j
      have := hz j hj
      rw [Nat.zero_add] at this
      exact ih ks[j] (List.getElem_mem hj) _ (kids_formed hfm _ (List.getElem_mem hj)) (by omega) this
    refine ⟨by rw [mapL_at_eq _ (lowF u) k b b ks fun j hj => (hk j hj).1], scL_false _ u k b ks 0 fun j hj => ?_⟩
    rw [Nat.zero_add]
    exact (hk j hj).2
theorem none_lower {t a : T} {u : Int} (ht : nodes t ≤ 1048576) (ha : checkM a = 0 ∧ nodes a ≤ 1048576) (h : lowB t u = true) : instE t [a] u = 0 ∧ instT t [a] u = lowT t u := by
  have h' := h
  rw [lowB] at h'
  by_cases h1 : checkM t = 0
  case neg => rw [if_neg h1] at h'; cases h'
  rw [if_pos h1] at h'
  by_cases h2 : inB u 0 65535 = true
  case neg => rw [if_neg h2] at h'; cases h'
  rw [if_pos h2] at h'
  have hc : cntT t u 0 = 0 := by simpa using h'
  have hu := (inB_iff _ _ _).1 h2
  have hf := formed_of h1
  obtain ⟨e1, e2⟩ := none_low a u hu t 0 hf (by omega) hc
  have hk := (check_iff ht).1 h1
  have n1 := same_nodes (lowF u) (fun _ _ => leaf_nodes _ _) t hf 0
  have n2 := same_depth (lowF u) (fun _ _ => leaf_depth _ _) t hf 0
  have hE : instE t [a] u = 0 := (inst_iff ht (by simpa using ha.2)).2 ⟨(openE_iff _ _ _).2 ⟨h1, by simpa using ha.1, by omega⟩, e2, by rw [e1]; omega, by rw [e1]; omega⟩
  exact ⟨hE, by rw [inst_at hE, e1, lowT, if_pos h]⟩

theorem lower_d (t : T) (v : Int) (ht : nodes t ≤ 1048576) : Pure Try.prog n_shift_Lower [dT t, .int .i64 v] [dT (lowT t v), .bool (lowB t v)] := lower_ok t v ht
theorem inst_d (t : T) (l : List T) (u : Int) (ht : nodes t ≤ 1048576) (hl : ∀ x ∈ l, nodes x ≤ 1048576) (hn : l.length ≤ 1048576) : Pure Try.prog n_subst_Inst [dT t, .sl 3 (l.map eT), .int .i64 u] [dT (instT t l u), .int .i64 (instE t l u)] :=
  inst_ok t l u (by omega) (fun x hx => by have := hl x hx; omega) (by omega)
theorem none_law (t : T) (l : List T) (v : Int) (ht : nodes t ≤ 1048576) (hl : ∀ x ∈ l, nodes x ≤ 1048576) (hn : l.length ≤ 1048576) :
    Pure Try.prog n_porismlaw05_InstNone [.agg (cT t), eTs l, .int .i64 v] [.bool true] := by
  refine p_porismlaw05_InstNone rfl fun hs => ?_
  simp -dsimp [x_porismlaw05_InstNone, cT, eTs]
  refine call_of (heavy1 t) ?_
  simp -dsimp
  (first | refine Ask_b ?_ ?_ | refine Cnd_b ?_ ?_) <;> intro h1 <;> (try simp only [decide_eq_true_eq, decide_eq_false_iff_not, beq_iff_eq, beq_eq_false_iff_ne, bne_iff_ne, bne_eq_false_iff_eq, Bool.not_eq_true', Bool.not_eq_false', Bool.and_eq_true, Bool.or_eq_true, Bool.and_eq_false_iff, Bool.or_eq_false_iff] at h1) <;> simp -dsimp [h1]
  refine call_of (heavy02_ok l) ?_
  simp -dsimp [h1]
  (first | refine Ask_b ?_ ?_ | refine Cnd_b ?_ ?_) <;> intro h2 <;> (try simp only [decide_eq_true_eq, decide_eq_false_iff_not, beq_iff_eq, beq_eq_false_iff_ne, bne_iff_ne, bne_eq_false_iff_eq, Bool.not_eq_true', Bool.not_eq_false', Bool.and_eq_true, Bool.or_eq_true, Bool.and_eq_false_iff, Bool.or_eq_false_iff] at h2) <;> simp -dsimp [h2, h1]
  (first | refine Ask_b ?_ ?_ | refine Cnd_b ?_ ?_) <;> intro h3 <;> (try simp only [decide_eq_true_eq, decide_eq_false_iff_not, beq_iff_eq, beq_eq_false_iff_ne, bne_iff_ne, bne_eq_false_iff_eq, Bool.not_eq_true', Bool.not_eq_false', Bool.and_eq_true, Bool.or_eq_true, Bool.and_eq_false_iff, Bool.or_eq_false_iff] at h3) <;> simp -dsimp [h3, h1, h2]
  obtain ⟨hv0, hv1⟩ := rem_le v 20 (by omega) (by omega)
  generalize IntKind.i64.wrap ((IntKind.u64.wrap v).tmod 20) = V at hv0 hv1 ⊢
  have hlen : (l.length : Int) ≤ 10 := by omega
  refine wp_upto l.length (fun i st => st.s 1 = .d (.sl 3 (l.map eT)) ∧ st.s 2 = .d (.int .i64 V) ∧ st.s 3 = .ptr 3 1 0 ∧ st.h 3 = ⟨1, .box [.d (.int .i64 t.kind), .d (.int .i64 t.num), .d (.sl 3 (t.kids.map eT))] false⟩ ∧ st.s 7 = .d (.int .i64 i) ∧
    ∀ (j : Nat) (hj : j < l.length), j < i → checkM l[j] = 0) ?_ ?_
  · simp -dsimp
  · rintro i ⟨s, hp⟩ hi ⟨g1, g2, g3, g4, g5, g6⟩
    dsimp only at g1 g2 g3 g4 g5
    rcases Nat.lt_or_ge i l.length with hlt | hge
    · have w1 : IntKind.i64.wrap ((i : Int) + 1) = (i : Int) + 1 := wrap_id (by omega) (by omega)
      simp -dsimp [g1, g2, g3, g4, g5, hlt, cT]
      refine call_of (check_ok l[i]) ?_
      simp -dsimp [g1, g2, g3, g4, g5, hlt]
      (first | refine Ask_b ?_ ?_ | refine Cnd_b ?_ ?_) <;> intro h4 <;> (try simp only [decide_eq_true_eq, decide_eq_false_iff_not, beq_iff_eq, beq_eq_false_iff_ne, bne_iff_ne, bne_eq_false_iff_eq, Bool.not_eq_true', Bool.not_eq_false', Bool.and_eq_true, Bool.or_eq_true, Bool.and_eq_false_iff, Bool.or_eq_false_iff] at h4) <;> simp -dsimp [h4, g1, g2, g3, g4, g5, hlt, w1]
      · refine call_of wakes05_ok ?_
        simp -dsimp
      · intro j hj hji
        rcases Nat.lt_or_ge j i with h | h
        · exact g6 j hj h
        · have : j = i := by omega
          subst this
          exact h4
    · have e : i = l.length := by omega
      subst e
      have hc : ∀ x ∈ l, checkM x = 0 ∧ nodes x ≤ 1048576 := fun x hx => by
        obtain ⟨j, hj, rfl⟩ := List.mem_iff_getElem.1 hx
        exact ⟨g6 j hj hj, hl _ hx⟩
      simp -dsimp [g1, g2, g3, g4, g5]
      refine call_of (shift_d t l.length V ht) ?_
      simp -dsimp [g1, g2, g3, g4, g5, dT]
      by_cases h5 : shiftE t l.length V = 0
      case neg =>
        simp -dsimp [h5]
        refine call_of wakes05_ok ?_
        simp -dsimp
      obtain ⟨v1, v2, v3⟩ := shift_right ht h5
      obtain ⟨b1, b2⟩ := none_back ht hc (by omega) ⟨hv0, by omega⟩ h5
      have hi2 := inst_d (shiftT t l.length V) l V (by omega) hl (by omega)
      rw [b1, b2] at hi2
      generalize shiftT t l.length V = X at hi2 ⊢
      simp -dsimp [g1, g2, g3, g4, g5, h5]
      refine call_of hi2 ?_
      simp -dsimp [dT, g1, g2, g3, g4, g5, h5]
      refine call_of (keepTerm_ok t) ?_
      simp -dsimp [g1, g2, g3, g4, g5, h5]
      (first | refine Ask_b ?_ ?_ | refine Cnd_b ?_ ?_) <;> intro h6 <;> (try simp only [decide_eq_true_eq, decide_eq_false_iff_not, beq_iff_eq, beq_eq_false_iff_ne, bne_iff_ne, bne_eq_false_iff_eq, Bool.not_eq_true', Bool.not_eq_false', Bool.and_eq_true, Bool.or_eq_true, Bool.and_eq_false_iff, Bool.or_eq_false_iff] at h6) <;> simp -dsimp [h6, g1, g2, g3, g4, g5, h5]
      · refine call_of wakes05_ok ?_
        simp -dsimp
      refine call_of (lower_d t V ht) ?_
      simp -dsimp [dT, g1, g2, g3, g4, g5, h5]
      cases h7 : lowB t V with
      | false =>
        simp -dsimp [h7]
        refine call_of wakes05_ok ?_
        simp -dsimp
      | true =>
        have hp1 : 0 < l.length := by
          rcases Nat.eq_zero_or_pos l.length with h | h
          · exact absurd (List.length_eq_zero_iff.1 h) h6
          · exact h
        have hq1 : (1 : Int) ≤ l.length := by omega
        have ht1 : (l.map eT).take 1 = [.agg [.int .i64 l[0].kind, .int .i64 l[0].num, .sl 3 (l[0].kids.map eT)]] := by
          cases l with
          | nil => cases hp1
          | cons a xs => simp [eT_eq, cT]
        have hca := hc l[0] (List.getElem_mem _)
        generalize l[0] = a at ht1 hca
        obtain ⟨d1, d2⟩ := none_lower ht hca h7
        have hi3 := inst_one t a V ht hca.2
        rw [d1, d2] at hi3
        generalize lowT t V = Z at hi3 ⊢
        simp -dsimp [g1, g2, g3, g4, g5, h7, hq1, ht1]
        refine call_of hi3 ?_
        simp -dsimp [dT, g1, g2, g3, g4, g5, h7]
        refine call_of (keepTerm_ok Z) ?_
        simp -dsimp [dT, g1, g2, g3, g4, g5, h7]
        refine call_of wakes05_ok ?_
        simp -dsimp
end Ev
end Go.Proofs.Ytdobcpejfgpgoaa
