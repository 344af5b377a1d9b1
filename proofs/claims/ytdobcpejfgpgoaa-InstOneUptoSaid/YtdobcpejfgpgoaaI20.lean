/- InstShifts. -/
import Derived.Test.YtdobcpejfgpgoaaI19
namespace Go.Proofs.Ytdobcpejfgpgoaa
namespace Ev
open Go
set_option maxRecDepth 100000
set_option linter.unusedSimpArgs false
set_option linter.unusedVariables false
attribute [local simp ↓] wx_skip wx_region wx_seq wx_block wx_exit wx_ret wx_cond wx_loop wo_nil wo_run wo_ask wx_draw wt_nil wt_run_t wt_run_f wt_ask_t wt_ask_f rb_mv rb_nilrow rb_pick rb_alloc rb_box rb_load rb_store rb_nilck rb_bin rb_binb rb_un rb_conv rb_mkf rb_mks rb_slice rb_faddr rb_fld rb_iaddr rb_ext rb_len rb_app rb_mm rb_build rb_bslice run_callC upd_eq upd_ne
attribute [local simp] runB_some runB_none Tch_nil Tch_cons Chk_t Cnd_t Cnd_f Ask_tt Ask_ff Ask_tf Ask_ft Ask_skip act ev_t ev_c evs sks caps2 touch_call List.cons_append List.nil_append putS binI binB int_add int_sub int_mul int_quo int_rem int_or int_eql int_neq int_lss int_leq int_gtr int_geq shiftD Ex.then Ex.inBlock Ends resL resX allD toD_d toD_fsl sk_d sk_fsl none_ loadA cut wrapA wrapD avc_d avc_agg avc_fsl avc_rsl avc_ptr avc_eptr avc_clo dc_agg dc_int dc_bool dc_str dc_sl dc_nilp dc_rp dc_clo on_int on_bool on_str on_sl on_nilp on_rp on_clo on_fsl on_rsl on_ptr on_eptr on_cloA newE elemsA elemsS storeA put frz_nil deep callee resA initS touchOp fits compat rd wr key1 buildA partsD partsK idx frz_at Body.frz lk_hit lk_miss toD6_agg toD5_agg toD4_agg toD6_clo toD5_clo toD4_clo toD6_ptr toD5_ptr toD4_ptr sk6_agg sk5_agg sk4_agg sk6_clo sk5_clo sk4_clo sk6_ptr sk5_ptr sk4_ptr toD_rsl sk_rsl
attribute [local simp] allD_map_d sks_map_d tk tn tks

/-- Moved and moved again, at the same place. -/
theorem mv_mv0 (t : T) (hf : formedM t = true) (j k i : Int) (hj : 0 ≤ j) (hj' : j ≤ 4194304) (hk : 0 ≤ k) (hk' : k ≤ 4194304) (hi : 0 ≤ i) (hi' : i + nodes t ≤ 4194304) : mapT (mv k) (mapT (mv j) t i) i = mapT (mv (j + k)) t i := by
  have := map_map (mv k) (mv j) (mv (j + k)) 0 (fun n b h1 h2 h3 h4 => by
    rw [Int.add_zero]
    by_cases c : n < b
    · rw [mv_lo c, map_var, mv_lo c, mv_lo c]
    · rw [mv_hi (by omega) h1 (by omega) hj (by omega), map_var, mv_hi (by omega) (by omega) (by omega) hk (by omega), mv_hi (by omega) h1 (by omega) (by omega) (by omega)]
      congr 1
      omega) t i hf hi (by omega)
  rwa [Int.add_zero] at this
theorem sh_mv {y : Int} (hy : 0 ≤ y) (hy' : y ≤ 65535) (t : T) (hf : formedM t = true) (b : Int) (hb : 0 ≤ b) (hb' : b + nodes t ≤ 4194304) : mapT (shF 0 y) t b = mapT (mv y) t b :=
  map_congr (shF 0 y) (mv y) (fun n b h1 h2 h3 h4 => by
    by_cases c : n < b
    · rw [mv_lo c, sh_lo (by omega)]
    · rw [mv_hi (by omega) h1 (by omega) hy (by omega), sh_hi (by omega)]) t b hf hb hb'
/-- The same moved down by what is put in further out. -/
theorem shifts_core (a t : T) (ha : formedM a = true) (hf : formedM t = true) (y : Int) (hy : 0 ≤ y) (hy' : y ≤ 65535) (ht : nodes t ≤ 1048576) (han : nodes a ≤ 1048576) :
    mapT (instF [mapT (shF 0 y) a 0] 0) (mapT (shF 1 y) t 0) 0 = mapT (shF 0 y) (mapT (instF [a] 0) t 0) 0 := by
  have h1 := map_map (instF [mapT (shF 0 y) a 0] 0) (shF 1 y) (fun n b => mapT (instF [mapT (shF 0 y) a 0] 0) (shF 1 y n b) (b + 0)) 0 (fun _ _ _ _ _ _ => rfl) t 0 hf (by omega) (by omega)
  have h2 := map_map (shF 0 y) (instF [a] 0) (fun n b => mapT (shF 0 y) (instF [a] 0 n b) (b + 0)) 0 (fun _ _ _ _ _ _ => rfl) t 0 hf (by omega) (by omega)
  rw [Int.add_zero] at h1 h2
  rw [h1, h2]
  have go : ∀ (t : T) (b : Int), formedM t = true → 0 ≤ b → b + nodes t ≤ 1048576 → mapT (fun n b => mapT (instF [mapT (shF 0 y) a 0] 0) (shF 1 y n b) (b + 0)) t b = mapT (fun n b => mapT (shF 0 y) (instF [a] 0 n b) (b + 0)) t b := by
    intro t
    refine T.ind (p := fun t => ∀ b : Int, formedM t = true → 0 ≤ b → b + nodes t ≤ 1048576 → mapT (fun n b => mapT (instF [mapT (shF 0 y) a 0] 0) (shF 1 y n b) (b + 0)) t b = mapT (fun n b => mapT (shF 0 y) (instF [a] 0 n b) (b + 0)) t b) ?_ t
    intro kd n ks ih b hfm h0 hb
    rw [mapT, mapT]
    by_cases c1 : kd = 1
    · have hn := var_formed c1 hfm
      rw [if_pos c1, if_pos c1, Int.add_zero]
      rcases Int.lt_trichotomy n b with c | c | c
      · rw [sh_lo (by omega), map_var, one_lo c, one_lo c, map_var, sh_lo (by omega)]
      · subst c
        have hm := moved_nodes ha n
        rw [moved_is] at hm
        rw [sh_lo (by omega), map_var, one_at (by omega) (by omega), one_at (by omega) (by omega), sh_mv hy hy' a ha 0 (by omega) (by omega)]
        have e1 := mv_mv0 a ha y n 0 hy (by omega) hn.1 (by omega) (by omega) (by omega)
        have e2 := mv_mv a ha n y 0 hn.1 (by omega) hy (by omega) (by omega) (by omega)
        have e3 : mapT (shF 0 y) (mapT (mv n) a 0) n = mapT (mv y) (mapT (mv n) a 0) n := by
          have q := map_map (shF 0 y) (mv n) (mv (n + y)) n (fun m b h1 h2 h3 h4 => by
            by_cases c : m < b
            · rw [mv_lo c, map_var, sh_lo (by omega), mv_lo c]
            · rw [mv_hi (by omega) h1 (by omega) hn.1 (by omega), map_var, sh_hi (by omega), mv_hi (by omega) h1 (by omega) (by omega) (by omega)]
              congr 1
              omega) a 0 ha (by omega) (by omega)
          rw [Int.zero_add] at q e2
          rw [q, e2]
        rw [Int.zero_add] at e2
        rw [e1, e3, e2, Int.add_comm y n]
      · rw [sh_hi (by omega), map_var, one_hi (by omega) (by omega) (by omega), one_hi c (by omega) h0, map_var, sh_hi (by omega)]
        congr 1
        omega
    · rw [if_neg c1, if_neg c1]
      congr 1
      have go2 : ∀ (xs : List T) (i : Nat), (∀ x ∈ xs, x ∈ ks) → mapL (fun n b => mapT (instF [mapT (shF 0 y) a 0] 0) (shF 1 y n b) (b + 0)) kd b i xs = mapL (fun n b => mapT (shF 0 y) (instF [a] 0 n b) (b + 0)) kd b i xs := by
        intro xs
        induction xs with
        | nil => intro i _; simp [mapL]
        | cons x xs ihx =>
          intro i hm
          have hbl := binds_le kd i
          have hnk := nodes_kid (k := kd) (n := n) (hm x (by simp))
          rw [mapL, mapL, ih x (hm x (by simp)) _ (kids_formed hfm x (hm x (by simp))) (by omega) (by omega), ihx (i + 1) fun z hz => hm z (by simp [hz])]
      exact go2 ks 0 fun x hx => hx
  exact go t 0 hf (by omega) (by omega)

theorem shift_d (t : T) (y fr : Int) (ht : nodes t ≤ 1048576) : Pure Try.prog n_shift_Shift [dT t, .int .i64 y, .int .i64 fr] [dT (shiftT t y fr), .int .i64 (shiftE t y fr)] := shift_ok t y fr ht
theorem shifts_law (t a : T) (u : Int) (ht : nodes t ≤ 1048576) (ha : nodes a ≤ 1048576) : Pure Try.prog n_porismlaw05_InstShifts [.agg (cT t), .agg (cT a), .int .i64 u] [.bool true] := by
  refine p_porismlaw05_InstShifts rfl fun hs => ?_
  have s1 : ∀ x ∈ [a], nodes x ≤ 1048576 := by simpa using ha
  have hh : Pure Try.prog n_porismlaw02_Heavy [.sl 3 [dT t, dT a]] [.bool (heavy02 [t, a])] := by
    have := heavy02_ok [t, a]
    simp only [eTs, List.map_cons, List.map_nil, eT_eq, cT] at this
    exact this
  simp -dsimp [x_porismlaw05_InstShifts, cT]
  refine call_of hh ?_
  simp -dsimp
  (first | refine Ask_b ?_ ?_ | refine Cnd_b ?_ ?_) <;> intro h1 <;> (try simp only [decide_eq_true_eq, decide_eq_false_iff_not, beq_iff_eq, beq_eq_false_iff_ne, bne_iff_ne, bne_eq_false_iff_eq, Bool.not_eq_true', Bool.not_eq_false', Bool.and_eq_true, Bool.or_eq_true, Bool.and_eq_false_iff, Bool.or_eq_false_iff] at h1) <;> simp -dsimp [h1]
  obtain ⟨hu0, hu1⟩ := rem_le u 50 (by omega) (by omega)
  generalize IntKind.i64.wrap ((IntKind.u64.wrap u).tmod 50) = U at hu0 hu1 ⊢
  refine call_of (inst_one t a 0 ht ha) ?_
  simp -dsimp [h1, dT]
  refine call_of (shift_d t U 1 ht) ?_
  simp -dsimp [h1, dT]
  refine call_of (shift_d a U 0 ha) ?_
  simp -dsimp [h1, dT]
  by_cases h2 : instE t [a] 0 = 0
  case neg =>
    simp -dsimp [h2]
    refine call_of wakes05_ok ?_
    simp -dsimp
  by_cases h3 : shiftE t U 1 = 0
  case neg =>
    simp -dsimp [h2, h3]
    refine call_of wakes05_ok ?_
    simp -dsimp
  by_cases h4 : shiftE a U 0 = 0
  case neg =>
    simp -dsimp [h2, h3, h4]
    refine call_of wakes05_ok ?_
    simp -dsimp
  obtain ⟨r1, r2, r3⟩ := inst_right ht s1 h2
  obtain ⟨v1, v2, v3⟩ := shift_right ht h3
  obtain ⟨w1, w2, w3⟩ := shift_right ha h4
  obtain ⟨p1, p2, p3, p4⟩ := (inst_iff ht s1).1 h2
  obtain ⟨q1, q2, q3⟩ := (openE_iff _ _ _).1 p1
  have core := shifts_core a t (formed_of (q2 a (by simp))) (formed_of q1) U hu0 (by omega) ht ha
  rw [← shift_at h3, ← shift_at h4, ← inst_at h2] at core
  have sb : ∀ x ∈ [shiftT a U 0], nodes x ≤ 1048576 := by intro x hx; simp at hx; subst hx; omega
  have hz := inst_iff (t := shiftT t U 1) (l := [shiftT a U 0]) (u := 0) (by omega) sb
  have hO : openE (shiftT t U 1) [shiftT a U 0] 0 = 0 := (openE_iff _ _ _).2 ⟨v1, by simpa using w1, by omega⟩
  have hx2 := (check_iff (by omega)).1 r1
  have n1 := sh_nodes r3 0 U 0
  have n2 := sh_depth r3 0 U 0
  rw [← core] at n1 n2
  have hI : instE (shiftT t U 1) [shiftT a U 0] 0 = 0 ∨ instE (shiftT t U 1) [shiftT a U 0] 0 = 6 := by
    have hS := openSt_is hO (by omega) sb
    have hE : instE (shiftT t U 1) [shiftT a U 0] 0 = if (openSt (shiftT t U 1) [shiftT a U 0] 0).sc then 6 else if 6000 < (openSt (shiftT t U 1) [shiftT a U 0] 0).sz then 4 else if 200 < (openSt (shiftT t U 1) [shiftT a U 0] 0).dp then 5 else 0 := by rw [instE, if_pos hO]
    rw [hS] at hE
    simp only at hE
    have hM : mostI = 1099511627776 := rfl
    rw [if_neg (by omega : ¬ 6000 < min (nodes (mapT (instF [shiftT a U 0] 0) (shiftT t U 1) 0) : Int) mostI), if_neg (by omega : ¬ (200 : Int) < (depthN (mapT (instF [shiftT a U 0] 0) (shiftT t U 1) 0) : Int))] at hE
    rw [hE]
    split
    · exact .inr rfl
    · exact .inl rfl
  have hJ := shift_err (t := instT t [a] 0) (y := U) (fr := 0) r1 ⟨hu0, by omega⟩ (by omega)
  have hEq : shiftE (instT t [a] 0) U 0 = 0 → instE (shiftT t U 1) [shiftT a U 0] 0 = 0 → instT (shiftT t U 1) [shiftT a U 0] 0 = shiftT (instT t [a] 0) U 0 := fun e1 e2 => by
    rw [inst_at e2, shift_at e1, core]
  have hny : shiftE (instT t [a] 0) U 0 = 0 → nodes (shiftT (instT t [a] 0) U 0) ≤ 1048576 := fun e1 => by
    have := (shift_right (by omega) e1).2.2
    omega
  clear core n1 n2 hz
  generalize hX : instT t [a] 0 = X at *
  generalize hA : shiftT t U 1 = A at *
  generalize hB : shiftT a U 0 = B at *
  simp -dsimp [h2, h3, h4]
  refine call_of (shift_d X U 0 (by omega)) ?_
  simp -dsimp [dT]
  refine call_of (inst_one A B 0 (by omega) (by omega)) ?_
  simp -dsimp [dT]
  rcases hJ with e1 | e1
  · rcases hI with e2 | e2
    · rw [e1, e2, hEq e1 e2]
      generalize shiftT X U 0 = Z
      simp -dsimp
      refine call_of (keepTerm_ok Z) ?_
      simp -dsimp
      refine call_of wakes05_ok ?_
      simp -dsimp
    · rw [e1, e2]
      simp -dsimp
      refine call_of wakes05_ok ?_
      simp -dsimp
  · rw [e1]
    simp -dsimp
    refine call_of wakes05_ok ?_
    simp -dsimp
end Ev
end Go.Proofs.Ytdobcpejfgpgoaa
