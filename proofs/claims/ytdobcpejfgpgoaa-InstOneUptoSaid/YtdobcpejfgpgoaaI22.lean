/- InstVars. -/
import Derived.Test.YtdobcpejfgpgoaaI21
namespace Go.Proofs.Ytdobcpejfgpgoaa
namespace Ev
open Go
set_option maxRecDepth 100000
set_option linter.unusedSimpArgs false
set_option linter.unusedVariables false
attribute [local simp ↓] wx_skip wx_region wx_seq wx_block wx_exit wx_ret wx_cond wx_loop wo_nil wo_run wo_ask wx_draw wt_nil wt_run_t wt_run_f wt_ask_t wt_ask_f rb_mv rb_nilrow rb_pick rb_alloc rb_box rb_load rb_store rb_nilck rb_bin rb_binb rb_un rb_conv rb_mkf rb_mks rb_slice rb_faddr rb_fld rb_iaddr rb_ext rb_len rb_app rb_mm rb_build rb_bslice run_callC upd_eq upd_ne
attribute [local simp] runB_some runB_none Tch_nil Tch_cons Chk_t Cnd_t Cnd_f Ask_tt Ask_ff Ask_tf Ask_ft Ask_skip act ev_t ev_c evs sks caps2 touch_call List.cons_append List.nil_append putS binI binB int_add int_sub int_mul int_quo int_rem int_or int_eql int_neq int_lss int_leq int_gtr int_geq shiftD Ex.then Ex.inBlock Ends resL resX allD toD_d toD_fsl sk_d sk_fsl none_ loadA cut wrapA wrapD avc_d avc_agg avc_fsl avc_rsl avc_ptr avc_eptr avc_clo dc_agg dc_int dc_bool dc_str dc_sl dc_nilp dc_rp dc_clo on_int on_bool on_str on_sl on_nilp on_rp on_clo on_fsl on_rsl on_ptr on_eptr on_cloA newE elemsA elemsS storeA put frz_nil deep callee resA initS touchOp fits compat rd wr key1 buildA partsD partsK idx frz_at Body.frz lk_hit lk_miss toD6_agg toD5_agg toD4_agg toD6_clo toD5_clo toD4_clo toD6_ptr toD5_ptr toD4_ptr sk6_agg sk5_agg sk4_agg sk6_clo sk5_clo sk4_clo sk6_ptr sk5_ptr sk4_ptr toD_rsl sk_rsl
attribute [local simp] allD_map_d sks_map_d tk tn tks

/-- The variables from the last on. -/
def vars (n : Nat) : List T := (List.range n).map fun (i : Nat) => tV ((n : Int) - 1 - (i : Int))
theorem vars_len (n : Nat) : (vars n).length = n := by simp [vars]
theorem vars_get (n i : Nat) (h : i < n) : (vars n)[i]? = some (tV ((n : Int) - 1 - i)) := by
  rw [vars, List.getElem?_map, List.getElem?_range h]
  rfl
theorem vars_mem {n : Nat} (hn : n ≤ 10) {x : T} (h : x ∈ vars n) : checkM x = 0 ∧ nodes x ≤ 1048576 := by
  rw [vars] at h
  obtain ⟨i, hi, rfl⟩ := List.mem_map.1 h
  rw [List.mem_range] at hi
  obtain ⟨a1, a2, a3⟩ := nV ((n : Int) - 1 - i)
  exact ⟨(check_iff (by omega)).2 ⟨by omega, by omega, a3 (by omega)⟩, by omega⟩
theorem instF_vars {n : Nat} {m b : Int} (h1 : b ≤ m) (h2 : m < b + n) (h0 : 0 ≤ b) (hm : m ≤ 10000000) : instF (vars n) 0 m b = .mk 1 m [] := by
  have hw : whichT (vars n).length 0 m b = n - 1 - (m - b) := by
    rw [vars_len, whichT, if_neg (by omega)]
    omega
  rw [instF, hw, if_pos (by omega), vars_get n _ (by omega)]
  simp only [tV]
  rw [moved_is, map_var, mv, if_pos (by omega), w64_id (n := 0 + b) (by omega) (by omega), w64_id (by omega) (by omega)]
  congr 1
  omega
theorem sc_vars (n : Nat) (t : T) : ∀ b : Int, formedM t = true → 0 ≤ b → scI (vars n) 0 t b = false := by
  refine T.ind (p := fun t => ∀ b : Int, formedM t = true → 0 ≤ b → scI (vars n) 0 t b = false) ?_ t
  intro k m ks ih b hfm h0
  rw [scI]
  by_cases h1 : k = 1
  · have hm := var_formed h1 hfm
    rw [if_pos h1]
    by_cases h2 : m < b
    · rw [which_lo (by omega), if_neg (by omega)]
    · by_cases h3 : m < b + n
      · have hw : whichT (vars n).length 0 m b = n - 1 - (m - b) := by
          rw [vars_len, whichT, if_neg (by omega)]
          omega
        rw [hw, if_pos (by omega), vars_get n _ (by omega)]
        simp only [overB, tV, freeT, freeL]
        simp
        omega
      · rw [which_hi (by rw [vars_len]; omega), if_neg (by omega)]
  · rw [if_neg h1]
    refine scL_false _ 0 k b ks 0 fun j hj => ?_
    have hbl := binds_le k j
    rw [Nat.zero_add]
    exact ih ks[j] (List.getElem_mem hj) _ (kids_formed hfm _ (List.getElem_mem hj)) (by omega)
theorem vars_back (n : Nat) (hn : n ≤ 10) (t : T) (hf : formedM t = true) (ht : nodes t ≤ 1048576) : mapT (instF (vars n) 0) (mapT (shF n n) t 0) 0 = t := by
  have h1 := map_map (instF (vars n) 0) (shF n n) (fun n _ => .mk 1 n []) 0 (fun m b h1 h2 h3 h4 => by
    rw [Int.add_zero]
    by_cases c : m < n + b
    · rw [sh_lo c, map_var]
      by_cases c2 : m < b
      · rw [instF_lo (by omega)]
      · rw [instF_vars (by omega) (by omega) h3 (by omega)]
    · rw [sh_hi (by omega), map_var, instF_hi (by rw [vars_len]; omega) (by omega) (by omega), vars_len]
      congr 1
      omega) t 0 hf (by omega) (by omega)
  rw [Int.add_zero] at h1
  rw [h1]
  exact map_id _ (fun _ _ _ _ _ _ => rfl) t 0 hf (by omega) (by omega)
theorem vars_all {t : T} {n : Nat} (ht : nodes t ≤ 1048576) (hn : n ≤ 10) (h : shiftE t n n = 0) : instE (shiftT t n n) (vars n) 0 = 0 ∧ instT (shiftT t n n) (vars n) 0 = t := by
  obtain ⟨v1, v2, v3⟩ := shift_right ht h
  obtain ⟨c1, c2, c3, c4⟩ := shift_iff.1 h
  have hf := formed_of c1
  have hb := vars_back n hn t hf ht
  rw [← shift_at h] at hb
  have hs := sc_vars n (shiftT t n n) 0 v2 (by omega)
  have hc := (check_iff ht).1 c1
  have hE : instE (shiftT t n n) (vars n) 0 = 0 := (inst_iff (by omega) fun x hx => (vars_mem hn hx).2).2 ⟨(openE_iff _ _ _).2 ⟨v1, fun x hx => (vars_mem hn hx).1, by omega⟩, hs, by rw [hb]; omega, by rw [hb]; omega⟩
  exact ⟨hE, by rw [inst_at hE, hb]⟩
/-- What is closed stays. -/
theorem closed_stays (l : List T) (t : T) : ∀ b : Int, formedM t = true → 0 ≤ b → wiT t b 65536 = true → mapT (instF l 0) t b = t ∧ scI l 0 t b = false := by
  refine T.ind (p := fun t => ∀ b : Int, formedM t = true → 0 ≤ b → wiT t b 65536 = true → mapT (instF l 0) t b = t ∧ scI l 0 t b = false) ?_ t
  intro k n ks ih b hfm h0 hw
  rw [mapT, scI]
  rw [wiT] at hw
  by_cases h1 : k = 1
  · have hks := var_leaf h1 hfm
    subst h1 hks
    rw [if_pos rfl] at hw
    have hlt : n < b := by simpa using hw
    rw [if_pos rfl, if_pos rfl, instF_lo (by omega), which_lo (by omega), if_neg (by omega)]
    exact ⟨rfl, rfl⟩
  · rw [if_neg h1, if_neg h1]
    rw [if_neg h1] at hw
    by_cases h2 : k = 2 ∨ k = 3
    · have hks : ks = [] := by
        have h0 : kidsM k = 0 := by rcases h2 with rfl | rfl <;> rfl
        rw [formedM_is, h0] at hfm
        split at hfm
        · exact List.length_eq_zero_iff.1 (by omega)
        · cases hfm
      subst hks
      exact ⟨by rw [mapL], rfl⟩
    · rw [if_neg fun e => h2 (.inl e), if_neg fun e => h2 (.inr e)] at hw
      have hz := (wiL_at k b 65536 ks 0).1 hw
      have hk : ∀ (j : Nat) (hj : j < ks.length), mapT (instF l 0) ks[j] (b + bindsM k j) = ks[j] ∧ scI l 0 ks[j] (b + bindsM k j) = false := fun j hj => by
        have hbl := binds_le k j
        have := hz j hj
        rw [Nat.zero_add] at this
        exact ih ks[j] (List.getElem_mem hj) _ (kids_formed hfm _ (List.getElem_mem hj)) (by omega) this
      refine ⟨by rw [mapL_id _ k b ks fun j hj => (hk j hj).1], scL_false _ 0 k b ks 0 fun j hj => ?_⟩
      rw [Nat.zero_add]
      exact (hk j hj).2
theorem vars_take (n i : Nat) (h : i < n) : ((vars n).map eT).take i ++ [D.agg [.int .i64 1, .int .i64 ((n : Int) - 1 - i), .sl 3 []]] = ((vars n).map eT).take (i + 1) := by
  have hi : i < ((vars n).map eT).length := by rw [List.length_map, vars_len]; exact h
  rw [List.take_add_one, List.getElem?_eq_getElem hi]
  have : ((vars n).map eT)[i]'hi = D.agg [.int .i64 1, .int .i64 ((n : Int) - 1 - i), .sl 3 []] := by
    simp [vars, eT_eq, cT, tV]
  rw [this]
  rfl
theorem closed_all {t : T} {l : List T} (ht : nodes t ≤ 1048576) (hl : ∀ x ∈ l, checkM x = 0 ∧ nodes x ≤ 1048576) (h1 : checkM t = 0) (h2 : wiT t 0 65536 = true) : instE t l 0 = 0 ∧ instT t l 0 = t := by
  have hf := formed_of h1
  obtain ⟨e1, e2⟩ := closed_stays l t 0 hf (by omega) h2
  have hc := (check_iff ht).1 h1
  have hE : instE t l 0 = 0 := (inst_iff ht fun x hx => (hl x hx).2).2 ⟨(openE_iff _ _ _).2 ⟨h1, fun x hx => (hl x hx).1, by omega⟩, e2, by rw [e1]; omega, by rw [e1]; omega⟩
  exact ⟨hE, by rw [inst_at hE, e1]⟩
theorem vars_law (t : T) (v : Int) (l : List T) (ht : nodes t ≤ 1048576) (hl : ∀ x ∈ l, nodes x ≤ 1048576) (hn : l.length ≤ 1048576) :
    Pure Try.prog n_porismlaw05_InstVars [.agg (cT t), .int .i64 v, eTs l] [.bool true] := by
  refine p_porismlaw05_InstVars rfl fun hs => ?_
  simp -dsimp [x_porismlaw05_InstVars, cT, eTs]
  refine call_of (heavy1 t) ?_
  simp -dsimp
  (first | refine Ask_b ?_ ?_ | refine Cnd_b ?_ ?_) <;> intro h1 <;> (try simp only [decide_eq_true_eq, decide_eq_false_iff_not, beq_iff_eq, beq_eq_false_iff_ne, bne_iff_ne, bne_eq_false_iff_eq, Bool.not_eq_true', Bool.not_eq_false', Bool.and_eq_true, Bool.or_eq_true, Bool.and_eq_false_iff, Bool.or_eq_false_iff] at h1) <;> simp -dsimp [h1]
  refine call_of (heavy02_ok l) ?_
  simp -dsimp [h1]
  (first | refine Ask_b ?_ ?_ | refine Cnd_b ?_ ?_) <;> intro h2 <;> (try simp only [decide_eq_true_eq, decide_eq_false_iff_not, beq_iff_eq, beq_eq_false_iff_ne, bne_iff_ne, bne_eq_false_iff_eq, Bool.not_eq_true', Bool.not_eq_false', Bool.and_eq_true, Bool.or_eq_true, Bool.and_eq_false_iff, Bool.or_eq_false_iff] at h2) <;> simp -dsimp [h2, h1]
  obtain ⟨hv0, hv1⟩ := rem_le v 10 (by omega) (by omega)
  obtain ⟨n, hV⟩ := Int.eq_ofNat_of_zero_le hv0
  rw [hV] at hv0 hv1 ⊢
  have hn10 : n ≤ 10 := by omega
  refine call_of (rcheck_ok t) ?_
  simp -dsimp [h1, h2]
  (first | refine Ask_b ?_ ?_ | refine Cnd_b ?_ ?_) <;> intro h3 <;> (try simp only [decide_eq_true_eq, decide_eq_false_iff_not, beq_iff_eq, beq_eq_false_iff_ne, bne_iff_ne, bne_eq_false_iff_eq, Bool.not_eq_true', Bool.not_eq_false', Bool.and_eq_true, Bool.or_eq_true, Bool.and_eq_false_iff, Bool.or_eq_false_iff] at h3) <;> simp -dsimp [h3, h1, h2]
  refine call_of (shift_d t n n ht) ?_
  simp -dsimp [h1, h2, h3, dT]
  (first | refine Ask_b ?_ ?_ | refine Cnd_b ?_ ?_) <;> intro h4 <;> (try simp only [decide_eq_true_eq, decide_eq_false_iff_not, beq_iff_eq, beq_eq_false_iff_ne, bne_iff_ne, bne_eq_false_iff_eq, Bool.not_eq_true', Bool.not_eq_false', Bool.and_eq_true, Bool.or_eq_true, Bool.and_eq_false_iff, Bool.or_eq_false_iff] at h4) <;> simp -dsimp [h4, h1, h2, h3]
  · refine call_of wakes05_ok ?_
    simp -dsimp
  obtain ⟨v1, v2, v3⟩ := shift_right ht h4
  obtain ⟨b1, b2⟩ := vars_all ht hn10 h4
  have hi2 := inst_d (shiftT t n n) (vars n) 0 (by omega) (fun x hx => (vars_mem hn10 hx).2) (by rw [vars_len]; omega)
  rw [b1, b2] at hi2
  generalize shiftT t n n = X at hi2 ⊢
  have w0 : IntKind.i64.wrap ((n : Int) - 1) = (n : Int) - 1 := wrap_id (by omega) (by omega)
  simp -dsimp [w0]
  refine wp_upto n (fun i st => st.s 2 = .d (.sl 3 (l.map eT)) ∧ st.s 3 = .ptr 3 1 0 ∧ st.h 3 = ⟨1, .box [.d (.int .i64 t.kind), .d (.int .i64 t.num), .d (.sl 3 (t.kids.map eT))] false⟩ ∧
    st.s 7 = .ptr 7 1 0 ∧ st.h 7 = ⟨1, .box [.d (.int .i64 X.kind), .d (.int .i64 X.num), .d (.sl 3 (X.kids.map eT))] false⟩ ∧
    st.s 9 = .rsl 9 (1 + i) ∧ st.h 9 = ⟨1 + i, .row 3 (((vars n).map eT).take i) true⟩ ∧ st.s 10 = .d (.int .i64 ((n : Int) - 1 - i))) ?_ ?_
  · simp -dsimp
  · rintro i ⟨s, hp⟩ hi ⟨g1, g2, g3, g4, g5, g6, g7, g8⟩
    dsimp only at g1 g2 g3 g4 g5 g6 g7 g8
    rcases Nat.lt_or_ge i n with hlt | hge
    · have w1 : IntKind.i64.wrap ((n : Int) - 1 - i - 1) = (n : Int) - 1 - ((i : Int) + 1) := by rw [wrap_id (by omega) (by omega)]; omega
      have c1 : (i : Int) ≤ (n : Int) - 1 := by omega
      simp -dsimp [g1, g2, g3, g4, g5, g6, g7, g8, c1]
      refine call_of (rv_ok ((n : Int) - 1 - i)) ?_
      have hr : (min i n + 1) * 40 ≤ maxRoom := by simp only [maxRoom]; omega
      have hsn := vars_take n i hlt
      have hvl := vars_len n
      simp -dsimp [g1, g2, g3, g4, g5, g6, g7, g8, c1, w1, cT, hr, hsn, hvl]
      omega
    · have e : i = n := by omega
      subst e
      have c1 : ¬ (i : Int) ≤ (i : Int) - 1 := by omega
      rw [List.take_of_length_le (by rw [List.length_map, vars_len]; exact Nat.le_refl _)] at g7
      simp -dsimp [g1, g2, g3, g4, g5, g6, g7, g8, c1]
      refine call_of hi2 ?_
      simp -dsimp [dT, g1, g2, g3, g4, g5, g6, g7, g8]
      refine call_of (keepTerm_ok t) ?_
      simp -dsimp [dT, g1, g2, g3, g4, g5, g6, g7, g8]
      have hsx := scope_ok t 0 65536
      refine call_of hsx ?_
      simp -dsimp [dT, g1, g2, g3, g4, g5, g6, g7, g8]
      (first | refine Ask_b ?_ ?_ | refine Cnd_b ?_ ?_) <;> intro h5 <;> (try simp only [decide_eq_true_eq, decide_eq_false_iff_not, beq_iff_eq, beq_eq_false_iff_ne, bne_iff_ne, bne_eq_false_iff_eq, Bool.not_eq_true', Bool.not_eq_false', Bool.and_eq_true, Bool.or_eq_true, Bool.and_eq_false_iff, Bool.or_eq_false_iff] at h5) <;> simp -dsimp [h5, g1, g2, g3, g4, g5, g6, g7, g8]
      · refine call_of wakes05_ok ?_
        simp -dsimp
      obtain ⟨t1, t2⟩ := (scope_is (by omega) (by omega) ht).1 h5
      refine call_of (inst_d t l 0 ht hl hn) ?_
      simp -dsimp [dT, g1, g2, g3, g4, g5, g6, g7, g8]
      refine wp_upto l.length (fun i st => st.s 2 = .d (.sl 3 (l.map eT)) ∧ st.s 3 = .ptr 3 1 0 ∧ st.h 3 = ⟨1, .box [.d (.int .i64 t.kind), .d (.int .i64 t.num), .d (.sl 3 (t.kids.map eT))] false⟩ ∧
        (∃ v, st.s 12 = .ptr 12 v 0 ∧ st.h 12 = ⟨v, .box [.d (.int .i64 (instT t l 0).kind), .d (.int .i64 (instT t l 0).num), .d (.sl 3 ((instT t l 0).kids.map eT))] false⟩) ∧
        st.s 8 = .d (.int .i64 (instE t l 0)) ∧ st.s 13 = .d (.int .i64 i) ∧ ∀ (j : Nat) (hj : j < l.length), j < i → checkM l[j] = 0) ?_ ?_
      · simp -dsimp [g1, g2, g3]
      · clear g1 g2 g3 g4 g5 g6 g7 g8 hs c1 hi2
        rintro i ⟨s, hp⟩ hi ⟨g1, g2, g3, ⟨v12, g4, g5⟩, g6, g7, g8⟩
        dsimp only at g1 g2 g3 g4 g5 g6 g7
        rcases Nat.lt_or_ge i l.length with hlt | hge
        · have w1 : IntKind.i64.wrap ((i : Int) + 1) = (i : Int) + 1 := wrap_id (by omega) (by omega)
          simp -dsimp [g1, g2, g3, g4, g5, g6, g7, hlt, cT]
          refine call_of (check_ok l[i]) ?_
          simp -dsimp [g1, g2, g3, g4, g5, g6, g7, hlt]
          (first | refine Ask_b ?_ ?_ | refine Cnd_b ?_ ?_) <;> intro h6 <;> (try simp only [decide_eq_true_eq, decide_eq_false_iff_not, beq_iff_eq, beq_eq_false_iff_ne, bne_iff_ne, bne_eq_false_iff_eq, Bool.not_eq_true', Bool.not_eq_false', Bool.and_eq_true, Bool.or_eq_true, Bool.and_eq_false_iff, Bool.or_eq_false_iff] at h6) <;> simp -dsimp [h6, g1, g2, g3, g4, g5, g6, g7, hlt, w1]
          · have hA := argsE_at l i hlt g8 h6
            have hE : instE t l 0 = checkM l[i] := by
              have hO : openE t l 0 = checkM l[i] := by rw [openE, if_pos t1, if_neg (by rw [hA]; exact h6), hA]
              rw [instE, if_neg (by rw [hO]; exact h6), hO]
            simp -dsimp [hE]
            refine call_of wakes05_ok ?_
            simp -dsimp [hE]
          · intro j hj hji
            rcases Nat.lt_or_ge j i with h | h
            · exact g8 j hj h
            · have : j = i := by omega
              subst this
              exact h6
        · have e : i = l.length := by omega
          subst e
          obtain ⟨d1, d2⟩ := closed_all ht (fun x hx => by
            obtain ⟨j, hj, rfl⟩ := List.mem_iff_getElem.1 hx
            exact ⟨g8 j hj hj, hl _ hx⟩) t1 t2
          rw [d1] at g6
          rw [d2] at g5
          simp -dsimp [g1, g2, g3, g4, g5, g6, g7, dT]
          refine call_of (keepTerm_ok t) ?_
          simp -dsimp [g1, g2, g3, g4, g5, g6, g7, dT]
          refine call_of wakes05_ok ?_
          simp -dsimp
end Ev
end Go.Proofs.Ytdobcpejfgpgoaa
