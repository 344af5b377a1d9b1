/- Shifts: what shift.Shift comes to. -/
import Derived.Test.YtdobcpejfgpgoaaI17
namespace Go.Proofs.Ytdobcpejfgpgoaa
namespace Ev
open Go
set_option maxRecDepth 100000
set_option linter.unusedSimpArgs false
set_option linter.unusedVariables false
attribute [local simp ↓] wx_skip wx_region wx_seq wx_block wx_exit wx_ret wx_cond wx_loop wo_nil wo_run wo_ask wx_draw wt_nil wt_run_t wt_run_f wt_ask_t wt_ask_f rb_mv rb_nilrow rb_pick rb_alloc rb_box rb_load rb_store rb_nilck rb_bin rb_binb rb_un rb_conv rb_mkf rb_mks rb_slice rb_faddr rb_fld rb_iaddr rb_ext rb_len rb_app rb_mm rb_build rb_bslice run_callC upd_eq upd_ne
attribute [local simp] runB_some runB_none Tch_nil Tch_cons Chk_t Cnd_t Cnd_f Ask_tt Ask_ff Ask_tf Ask_ft Ask_skip act ev_t ev_c evs sks caps2 touch_call List.cons_append List.nil_append putS binI binB int_add int_sub int_mul int_quo int_rem int_or int_eql int_neq int_lss int_leq int_gtr int_geq shiftD Ex.then Ex.inBlock Ends resL resX allD toD_d toD_fsl sk_d sk_fsl none_ loadA cut wrapA wrapD avc_d avc_agg avc_fsl avc_rsl avc_ptr avc_eptr avc_clo dc_agg dc_int dc_bool dc_str dc_sl dc_nilp dc_rp dc_clo on_int on_bool on_str on_sl on_nilp on_rp on_clo on_fsl on_rsl on_ptr on_eptr on_cloA newE elemsA elemsS storeA put frz_nil deep callee resA initS touchOp fits compat rd wr key1 buildA partsD partsK idx frz_at Body.frz lk_hit lk_miss toD6_agg toD5_agg toD4_agg toD6_clo toD5_clo toD4_clo toD6_ptr toD5_ptr toD4_ptr sk6_agg sk5_agg sk4_agg sk6_clo sk5_clo sk4_clo sk6_ptr sk5_ptr sk4_ptr toD_rsl sk_rsl
attribute [local simp] allD_map_d sks_map_d tk tn tks initA EndsM

def shF (fr y n b : Int) : T := .mk 1 (if n < fr + b then n else n + y) []
def shO (fr y n b e : Int) : Int := if n < fr + b then e else if 65535 < n + y then 6 else e
def shH (fr y e : Int) : Nat → Ent := fun q => if q = 8 then ⟨1, .box [.d (.int .i64 e)] false⟩ else if q = 5 then ⟨1, .box [.d (.int .i64 fr)] false⟩ else if q = 4 then ⟨1, .box [.d (.int .i64 y)] false⟩ else ⟨0, .dead⟩
theorem shH_over (fr y e : Int) : ∀ k ∈ [5, 4, 8], OverB [5, 4, 8] (shH fr y e k).body := by
  intro q hq
  simp only [List.mem_cons, List.not_mem_nil, or_false] at hq
  rcases hq with rfl | rfl | rfl <;> simp only [shH] <;> intro c hc <;> simp at hc <;> subst hc <;> exact .d _
theorem shift1_mut (fr y n b e : Int) (hf : 0 ≤ fr ∧ fr ≤ 65535) (hy : 0 ≤ y ∧ y ≤ 65535) (hn : 0 ≤ n) (hn' : n ≤ 65535) (hb : 0 ≤ b) (hb' : b ≤ 1099511627776) :
    MutC Try.prog n_shift_Shift_1 [.d (.int .i64 n), .d (.int .i64 b), .ptr 5 1 0, .ptr 4 1 0, .ptr 8 1 0] [5, 4, 8] (shH fr y e) [.agg (cT (shF fr y n b))] (shH fr y (shO fr y n b e)) := by
  refine mut_of hm Try.func50 c_shift_Shift_1 rfl (shH_over _ _ _) fun G h w vs hk hlen hr => ?_
  have e8 : h 8 = ⟨1, .box [.d (.int .i64 e)] false⟩ := by rw [hk 8 (by simp)]; simp [shH]
  have e5 : h 5 = ⟨1, .box [.d (.int .i64 fr)] false⟩ := by rw [hk 5 (by simp)]; simp [shH]
  have e4 : h 4 = ⟨1, .box [.d (.int .i64 y)] false⟩ := by rw [hk 4 (by simp)]; simp [shH]
  have w1 : IntKind.i64.wrap (fr + b) = fr + b := wrap_id (by omega) (by omega)
  have w2 : IntKind.i64.wrap (n + y) = n + y := wrap_id (by omega) (by omega)
  simp -dsimp [x_shift_Shift_1, e8, e5, e4, w1]
  (first | refine Ask_b ?_ ?_ | refine Cnd_b ?_ ?_) <;> intro h1 <;> (try simp only [decide_eq_true_eq, decide_eq_false_iff_not, beq_iff_eq, beq_eq_false_iff_ne, bne_iff_ne, bne_eq_false_iff_eq, Bool.not_eq_true', Bool.not_eq_false', Bool.and_eq_true, Bool.or_eq_true, Bool.and_eq_false_iff, Bool.or_eq_false_iff] at h1) <;> simp -dsimp [h1, e8, e5, e4, w1]
  · have hO : shO fr y n b e = e := by rw [shO, if_pos h1]
    have hF : shF fr y n b = .mk 1 n [] := by rw [shF, if_pos h1]
    rw [hO, hF]
    refine call_of (v_ok _) ?_
    simp -dsimp [e8, e5, e4, cT, shH]
  have hF : shF fr y n b = .mk 1 (n + y) [] := by rw [shF, if_neg h1]
  simp -dsimp [e8, e5, e4, w2, h1]
  (first | refine Ask_b ?_ ?_ | refine Cnd_b ?_ ?_) <;> intro h2 <;> (try simp only [decide_eq_true_eq, decide_eq_false_iff_not, beq_iff_eq, beq_eq_false_iff_ne, bne_iff_ne, bne_eq_false_iff_eq, Bool.not_eq_true', Bool.not_eq_false', Bool.and_eq_true, Bool.or_eq_true, Bool.and_eq_false_iff, Bool.or_eq_false_iff] at h2) <;> simp -dsimp [h2, e8, e5, e4, w2, h1]
  · have hO : shO fr y n b e = 6 := by rw [shO, if_neg h1, if_pos h2]
    rw [hO, hF]
    refine call_of (v_ok _) ?_
    simp -dsimp [e8, e5, e4, cT, shH]
  · have hO : shO fr y n b e = e := by rw [shO, if_neg h1, if_neg h2]
    rw [hO, hF]
    refine call_of (v_ok _) ?_
    simp -dsimp [e8, e5, e4, cT, shH]
mutual
def shE (fr y : Int) : T → Int → Int → Int
  | .mk k n ks, b, e => if k = 1 then shO fr y n b e else shEL fr y k b 0 e ks
def shEL (fr y k b : Int) : Nat → Int → List T → Int
  | _, e, [] => e
  | i, e, x :: xs => shEL fr y k b (i + 1) (shE fr y x (b + bindsM k i) e) xs
end
theorem shEL_snoc (fr y k b : Int) : ∀ (l : List T) (i : Nat) (e : Int) (j : Nat) (h : j < l.length), shEL fr y k b i e (l.take (j + 1)) = shE fr y l[j] (b + bindsM k (i + j : Nat)) (shEL fr y k b i e (l.take j))
  | x :: xs, i, e, 0, h => by simp [shEL]
  | x :: xs, i, e, j + 1, h => by
    simp only [List.take_succ_cons, shEL, List.getElem_cons_succ]
    rw [shEL_snoc fr y k b xs (i + 1) _ j (by simpa using h)]
    congr 3
    omega
theorem m_map {aa : List AV} {K : List Nat} {h0 h1 : Nat → Ent} {rs : List D} (hl : aa.length = 3) (hov : ∀ k ∈ K, OverB K (h1 k).body)
    (hw : ∀ (h : Nat → Ent), (∀ k ∈ K, h k = h0 k) → (∀ d, AV.d d ∈ aa → small 8 d) → wpX Try.prog x_term_Map.code (EndsM x_term_Map.res rs K h1) ⟨initA aa, h⟩) : MutC Try.prog n_term_Map aa K h0 rs h1 :=
  mut_of hm Try.func35 c_term_Map hl hov fun G h w vs hk hlen hr => hw h hk fun d hd => by
    obtain ⟨j, hj⟩ := List.mem_iff_getElem?.1 hd
    exact small_of (hr j _ hj)

theorem map_mut (fr y : Int) (hf : 0 ≤ fr ∧ fr ≤ 65535) (hy : 0 ≤ y ∧ y ≤ 65535) (t : T) : ∀ b e : Int, formedM t = true → 0 ≤ b → b + nodes t ≤ 1099511627776 →
    MutC Try.prog n_term_Map [.d (.agg (cT t)), .d (.int .i64 b), .clo n_shift_Shift_1 [.ptr 5 1 0, .ptr 4 1 0, .ptr 8 1 0]] [5, 4, 8] (shH fr y e) [.agg (cT (mapT (shF fr y) t b))] (shH fr y (shE fr y t b e)) := by
  refine T.ind (p := fun t => ∀ b e : Int, formedM t = true → 0 ≤ b → b + nodes t ≤ 1099511627776 →
    MutC Try.prog n_term_Map [.d (.agg (cT t)), .d (.int .i64 b), .clo n_shift_Shift_1 [.ptr 5 1 0, .ptr 4 1 0, .ptr 8 1 0]] [5, 4, 8] (shH fr y e) [.agg (cT (mapT (shF fr y) t b))] (shH fr y (shE fr y t b e))) ?_ t
  intro k n ks ih b e hfm h0 hb
  obtain ⟨hl, _⟩ := (slim_of _ hfm).kids
  have hsk := kids_formed hfm
  refine m_map rfl (shH_over _ _ _) fun h hk hs => ?_
  have e8 : h 8 = ⟨1, .box [.d (.int .i64 e)] false⟩ := by rw [hk 8 (by simp)]; simp [shH]
  have e5 : h 5 = ⟨1, .box [.d (.int .i64 fr)] false⟩ := by rw [hk 5 (by simp)]; simp [shH]
  have e4 : h 4 = ⟨1, .box [.d (.int .i64 y)] false⟩ := by rw [hk 4 (by simp)]; simp [shH]
  have hsm := hs (.agg (cT (.mk k n ks))) (by simp)
  simp -dsimp [cT, small] at hsm
  simp -dsimp [x_term_Map, cT]
  (first | refine Ask_b ?_ ?_ | refine Cnd_b ?_ ?_) <;> intro h1 <;> (try simp only [decide_eq_true_eq, decide_eq_false_iff_not, beq_iff_eq, beq_eq_false_iff_ne, bne_iff_ne, bne_eq_false_iff_eq, Bool.not_eq_true', Bool.not_eq_false', Bool.and_eq_true, Bool.or_eq_true, Bool.and_eq_false_iff, Bool.or_eq_false_iff] at h1) <;> simp -dsimp [h1, e8, e5, e4]
  · have hn := var_formed h1 hfm
    have hE : shE fr y (.mk k n ks) b e = shO fr y n b e := by rw [shE, if_pos h1]
    rw [hE, mapT, if_pos h1]
    refine callM_of (shift1_mut fr y n b e hf hy hn.1 hn.2 h0 (by omega)) ?_ ?_
    · simp [shH, e8, e5, e4]
    simp -dsimp [h1, cT, mergeK_cons, mergeK_nil, shH]
  have hE : shE fr y (.mk k n ks) b e = shEL fr y k b 0 e ks := by rw [shE, if_neg h1]
  have hM : mapT (shF fr y) (.mk k n ks) b = .mk k n (mapL (shF fr y) k b 0 ks) := by rw [mapT, if_neg h1]
  rw [hM, hE]
  by_cases hz : ks = []
  · subst hz
    simp -dsimp [h1, mapL, shEL, e8, e5, e4, shH, cT]
  simp -dsimp [h1, hz, e8, e5, e4]
  have r1 : (ks.length : Int) * 40 ≤ (maxRoom : Int) := by simp only [maxRoom]; omega
  have r2 : ks.length ≤ maxRoom := by simp only [maxRoom]; omega
  have hll : (mapL (shF fr y) k b 0 ks).length = ks.length := mapL_len (shF fr y) k b ks 0
  simp -dsimp [h1, hz, r1, r2, e8, e5, e4]
  generalize (h 3).ver + 1 = v3
  generalize (h 6).ver + 1 = v6
  generalize (h 27).ver + 1 = v27
  refine wp_upto ks.length (fun i st => st.s 3 = .ptr 3 v3 0 ∧ st.h 3 = ⟨v3, .box [.d (.int .i64 k), .d (.int .i64 n), .d (.sl 3 (ks.map eT))] false⟩ ∧ st.s 1 = .d (.int .i64 b) ∧ st.s 2 = .clo n_shift_Shift_1 [.ptr 5 1 0, .ptr 4 1 0, .ptr 8 1 0] ∧
    st.s 6 = .ptr 6 v6 0 ∧ st.h 6 = ⟨v6, .box [.d (.int .i64 0), .d (.int .i64 0), .fsl 3 []] false⟩ ∧ st.s 7 = .rsl 27 v27 ∧ st.s 29 = .d (.sl 3 (ks.map eT)) ∧ st.s 30 = .d (.int .i64 ks.length) ∧ st.s 31 = .d (.int .i64 i) ∧
    st.h 27 = ⟨v27, .row 3 (((mapL (shF fr y) k b 0 ks).map eT).take i ++ List.replicate (ks.length - i) (D.agg [.int .i64 0, .int .i64 0, .sl 3 []])) false⟩ ∧
    st.h 8 = ⟨1, .box [.d (.int .i64 (shEL fr y k b 0 e (ks.take i)))] false⟩ ∧ st.h 5 = ⟨1, .box [.d (.int .i64 fr)] false⟩ ∧ st.h 4 = ⟨1, .box [.d (.int .i64 y)] false⟩) ?_ ?_
  · simp -dsimp [e8, e5, e4, shEL]
  · rintro i ⟨s, hp⟩ hi ⟨g1, g2, g3, g4, g5, g6, g7, g8, g9, g10, g11, g12, g13, g14⟩
    dsimp only at g1 g2 g3 g4 g5 g6 g7 g8 g9 g10 g11 g12 g13 g14
    rcases Nat.lt_or_ge i ks.length with hlt | hge
    · have w1 : IntKind.i64.wrap ((i : Int) + 1) = (i : Int) + 1 := wrap_id (by omega) (by omega)
      have hbl := binds_le k i
      have hnk := nodes_kid (k := k) (n := n) (List.getElem_mem hlt : ks[i] ∈ ks)
      have w2 : IntKind.i64.wrap (b + bindsM k i) = b + bindsM k i := wrap_id (by omega) (by omega)
      simp -dsimp [g1, g2, g3, g4, g5, g6, g7, g8, g9, g10, g11, g12, g13, g14, hlt, cT]
      refine callS_of (binds_ok k i) (by simp [D.flat]) ?_
      simp -dsimp [g1, g2, g3, g4, g5, g6, g7, g8, g9, g10, g11, g12, g13, g14, hlt, w2]
      generalize hX : shEL fr y k b 0 e (ks.take i) = X at g12
      have hrec := ih ks[i] (List.getElem_mem _) (b + bindsM k i) X (hsk _ (List.getElem_mem _)) (by omega) (by omega)
      have hrec2 := agg_arg (pre := []) (post := [.d (.int .i64 (b + bindsM k i)), .clo n_shift_Shift_1 [.ptr 5 1 0, .ptr 4 1 0, .ptr 8 1 0]]) hrec
      refine callM_of hrec2 ?_ ?_
      · simp [shH, g12, g13, g14, upd]
      have hsn := shEL_snoc fr y k b ks 0 e i hlt
      rw [Nat.zero_add, hX] at hsn
      have q1 : (i : Int) < ((min i ks.length : Nat) : Int) + ((ks.length - i : Nat) : Int) := by omega
      have q2 : i < min i ks.length + (ks.length - i) := by omega
      have hle : ((mapL (shF fr y) k b 0 ks).map eT).length = ks.length := by rw [List.length_map, hll]
      have hfn := fill_next (l := (mapL (shF fr y) k b 0 ks).map eT) (z := D.agg [.int .i64 0, .int .i64 0, .sl 3 []]) (i := i) (by rw [hle]; exact hlt)
      have hel : ((mapL (shF fr y) k b 0 ks).map eT)[i]'(by rw [hle]; exact hlt) = .agg (cT (mapT (shF fr y) ks[i] (b + bindsM k i))) := by
        rw [List.getElem_map, mapL_get (shF fr y) k b ks 0 i hlt, eT_eq, Nat.zero_add]
      rw [hel, hle] at hfn
      simp only [cT] at hfn
      simp -dsimp [mergeK_cons, mergeK_nil, shH, g1, g2, g3, g4, g5, g6, g7, g8, g9, g10, g11, g13, g14, hlt, w1, w2, hll, q1, q2, cT, hfn, hsn]
    · have e : i = ks.length := by omega
      subst e
      have ht : ((mapL (shF fr y) k b 0 ks).map eT).take ks.length = (mapL (shF fr y) k b 0 ks).map eT := List.take_of_length_le (by rw [List.length_map, hll]; exact Nat.le_refl _)
      rw [ht, Nat.sub_self, List.replicate_zero, List.append_nil] at g11
      rw [List.take_length] at g12
      simp -dsimp [g1, g2, g3, g4, g5, g6, g7, g8, g9, g10, g11, g12, g13, g14]
      simp [shH]
end Ev
end Go.Proofs.Ytdobcpejfgpgoaa
