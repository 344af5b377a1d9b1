/- Variables counted. -/
import Derived.Test.YtdobcpejfgpgoaaI11
import Derived.Test.YtdobcpejfgpgoaaI12
namespace Go.Proofs.Ytdobcpejfgpgoaa
namespace Ev
open Go
set_option maxRecDepth 100000
set_option linter.unusedSimpArgs false
set_option linter.unusedVariables false
attribute [local simp ↓] wx_skip wx_region wx_seq wx_block wx_exit wx_ret wx_cond wx_loop wo_nil wo_run wo_ask wx_draw wt_nil wt_run_t wt_run_f wt_ask_t wt_ask_f rb_mv rb_nilrow rb_pick rb_alloc rb_box rb_load rb_store rb_nilck rb_bin rb_binb rb_un rb_conv rb_mkf rb_mks rb_slice rb_faddr rb_fld rb_iaddr rb_ext rb_len rb_app rb_mm rb_build rb_bslice run_callC upd_eq upd_ne
attribute [local simp] runB_some runB_none Tch_nil Tch_cons Chk_t Cnd_t Cnd_f Ask_tt Ask_ff Ask_tf Ask_ft Ask_skip act ev_t ev_c evs sks caps2 touch_call List.cons_append List.nil_append putS binI binB int_add int_sub int_mul int_quo int_rem int_or int_eql int_neq int_lss int_leq int_gtr int_geq shiftD Ex.then Ex.inBlock Ends resL resX allD toD_d toD_fsl sk_d sk_fsl none_ loadA cut wrapA wrapD avc_d avc_agg avc_fsl avc_rsl avc_ptr avc_eptr avc_clo dc_agg dc_int dc_bool dc_str dc_sl dc_nilp dc_rp dc_clo on_int on_bool on_str on_sl on_nilp on_rp on_clo on_fsl on_rsl on_ptr on_eptr on_cloA newE elemsA elemsS storeA put frz_nil deep callee resA initS touchOp fits compat rd wr key1 buildA partsD partsK idx frz_at Body.frz lk_hit lk_miss toD6_agg toD5_agg toD4_agg toD6_clo toD5_clo toD4_clo toD6_ptr toD5_ptr toD4_ptr sk6_agg sk5_agg sk4_agg sk6_clo sk5_clo sk4_clo sk6_ptr sk5_ptr sk4_ptr toD_rsl sk_rsl
attribute [local simp] allD_map_d sks_map_d tk tn tks

mutual
def cntT : T → Int → Int → Int
  | .mk k m ks, n, b => cntL k n b 0 (if k = 1 ∧ m = n + b then 1 else 0) ks
def cntL (k n b : Int) : Nat → Int → List T → Int
  | _, a, [] => a
  | i, a, x :: xs => cntL k n b (i + 1) (a + cntT x n (b + bindsM k i)) xs
end
theorem cntL_snoc (k n b : Int) : ∀ (l : List T) (i : Nat) (a : Int) (j : Nat) (h : j < l.length), cntL k n b i a (l.take (j + 1)) = cntL k n b i a (l.take j) + cntT l[j] n (b + bindsM k (i + j : Nat))
  | x :: xs, i, a, 0, h => by simp [cntL]
  | x :: xs, i, a, j + 1, h => by
    simp only [List.take_succ_cons, cntL, List.getElem_cons_succ]
    rw [cntL_snoc k n b xs (i + 1) _ j (by simpa using h)]
    congr 4
    omega
theorem cntL_add (k n b : Int) : ∀ (l : List T) (i : Nat) (a : Int), cntL k n b i a l = a + cntL k n b i 0 l
  | [], i, a => by simp [cntL]
  | x :: xs, i, a => by
    rw [cntL, cntL, cntL_add k n b xs (i + 1) (a + _), cntL_add k n b xs (i + 1) (0 + _)]
    omega
theorem cnt_le (t : T) : ∀ n b, 0 ≤ cntT t n b ∧ cntT t n b ≤ nodes t := by
  refine T.ind (p := fun t => ∀ n b, 0 ≤ cntT t n b ∧ cntT t n b ≤ nodes t) ?_ t
  intro k m ks ih n b
  rw [cntT, nodes]
  have h0 : 0 ≤ (if k = 1 ∧ m = n + b then (1 : Int) else 0) ∧ (if k = 1 ∧ m = n + b then (1 : Int) else 0) ≤ 1 := by split <;> omega
  generalize (if k = 1 ∧ m = n + b then (1 : Int) else 0) = a at h0
  have go : ∀ (l : List T) (i : Nat) (a : Int), (∀ x ∈ l, x ∈ ks) → a ≤ cntL k n b i a l ∧ cntL k n b i a l ≤ a + (l.map nodes).sum := by
    intro l
    induction l with
    | nil => intro i a _; simp [cntL]
    | cons x xs ihx =>
      intro i a hm
      have h1 := ih x (hm x (by simp)) n (b + bindsM k i)
      have h2 := ihx (i + 1) (a + cntT x n (b + bindsM k i)) fun y hy => hm y (by simp [hy])
      simp only [cntL, List.map_cons, List.sum_cons]
      omega
  have := go ks 0 a fun x hx => hx
  omega
theorem count1_ok (t : T) : ∀ n b : Int, 0 ≤ n → n ≤ 65535 → 0 ≤ b → b + nodes t ≤ 2097152 → Pure Try.prog n_shift_count [.agg (cT t), .int .i64 n, .int .i64 b] [.int .i64 (cntT t n b)] := by
  refine T.ind (p := fun t => ∀ n b : Int, 0 ≤ n → n ≤ 65535 → 0 ≤ b → b + nodes t ≤ 2097152 → Pure Try.prog n_shift_count [.agg (cT t), .int .i64 n, .int .i64 b] [.int .i64 (cntT t n b)]) ?_ t
  intro k m ks ih n b hn0 hn1 h0 hb
  refine p_shift_count rfl fun hs => ?_
  have hl := kids_small (t := .mk k m ks) (fun d hd => hs d (by simp at hd; simp [hd]))
  simp [T.kids] at hl
  have w0 : IntKind.i64.wrap (n + b) = n + b := wrap_id (by omega) (by omega)
  have hF : cntT (.mk k m ks) n b = cntL k n b 0 (if k = 1 ∧ m = n + b then 1 else 0) ks := by rw [cntT]
  have c1 : k = 1 → m = n + b → (1 : Int) = (if k = 1 ∧ m = n + b then 1 else 0) := fun h1 h2 => (if_pos ⟨h1, h2⟩).symm
  have c2 : ¬(k = 1 ∧ m = n + b) → (0 : Int) = (if k = 1 ∧ m = n + b then 1 else 0) := fun h => (if_neg h).symm
  have c3 : ∀ i, i ≤ ks.length → 0 ≤ cntL k n b 0 (if k = 1 ∧ m = n + b then 1 else 0) (ks.take i) ∧ cntL k n b 0 (if k = 1 ∧ m = n + b then 1 else 0) (ks.take i) ≤ 2097152 := fun i hi => by
    have h1 := cnt_le (.mk k m (ks.take i)) n b
    rw [cntT] at h1
    have h2 : nodes (.mk k m (ks.take i)) ≤ nodes (.mk k m ks) := by
      rw [nodes, nodes]
      have h3 : (ks.map nodes).sum = ((ks.take i).map nodes).sum + ((ks.drop i).map nodes).sum := by
        rw [← List.sum_append, ← List.map_append, List.take_append_drop]
      omega
    omega
  rw [hF]
  generalize (if k = 1 ∧ m = n + b then (1 : Int) else 0) = A at c1 c2 c3 ⊢
  simp -dsimp [x_shift_count, cT, w0]
  (first | refine Ask_b ?_ ?_ | refine Cnd_b ?_ ?_) <;> intro h1 <;> (try simp only [decide_eq_true_eq, decide_eq_false_iff_not, beq_iff_eq, beq_eq_false_iff_ne, bne_iff_ne, bne_eq_false_iff_eq, Bool.not_eq_true', Bool.not_eq_false', Bool.and_eq_true, Bool.or_eq_true, Bool.and_eq_false_iff, Bool.or_eq_false_iff] at h1) <;> simp -dsimp [h1, w0]
  (first | refine Ask_b ?_ ?_ | refine Cnd_b ?_ ?_) <;> intro h2 <;> (try simp only [decide_eq_true_eq, decide_eq_false_iff_not, beq_iff_eq, beq_eq_false_iff_ne, bne_iff_ne, bne_eq_false_iff_eq, Bool.not_eq_true', Bool.not_eq_false', Bool.and_eq_true, Bool.or_eq_true, Bool.and_eq_false_iff, Bool.or_eq_false_iff] at h2) <;> simp -dsimp [h2, h1, w0]
  all_goals
    refine wp_upto ks.length (fun i st => st.s 1 = .d (.int .i64 n) ∧ st.s 2 = .d (.int .i64 b) ∧ st.s 3 = .ptr 3 1 0 ∧ st.h 3 = ⟨1, .box [.d (.int .i64 k), .d (.int .i64 m), .d (.sl 3 (ks.map eT))] false⟩ ∧ st.s 24 = .d (.sl 3 (ks.map eT)) ∧ st.s 25 = .d (.int .i64 ks.length) ∧ st.s 26 = .d (.int .i64 i) ∧
      st.s 7 = .d (.int .i64 (cntL k n b 0 A (ks.take i)))) ?_ ?_
    · simp -dsimp [cntL]
      first | exact ⟨⟨h1.symm, h2.symm⟩, (wrap_id (by omega) (by omega)).trans (c1 h1 h2)⟩ | exact ⟨h1.symm, c2 (fun h => h2 h.2)⟩ | exact c2 (fun h => h1 h.1)
    · rintro i ⟨s, hp⟩ hi ⟨g1, g2, g3, g4, g5, g6, g7, g8⟩
      dsimp only at g1 g2 g3 g4 g5 g6 g7 g8
      rcases Nat.lt_or_ge i ks.length with hlt | hge
      · have w1 : IntKind.i64.wrap ((i : Int) + 1) = (i : Int) + 1 := wrap_id (by omega) (by omega)
        have hbl := binds_le k i
        have hnk := nodes_kid (k := k) (n := m) (List.getElem_mem hlt : ks[i] ∈ ks)
        have w2 : IntKind.i64.wrap (b + bindsM k i) = b + bindsM k i := wrap_id (by omega) (by omega)
        have hsn := cntL_snoc k n b ks 0 A i hlt
        rw [Nat.zero_add] at hsn
        have hc3 := c3 (i + 1) (by omega)
        have w3 : IntKind.i64.wrap (cntL k n b 0 A (ks.take i) + cntT ks[i] n (b + bindsM k i)) = cntL k n b 0 A (ks.take (i + 1)) := by rw [← hsn]; exact wrap_id (by omega) (by omega)
        simp -dsimp [g1, g2, g3, g4, g5, g6, g7, g8, hlt, cT]
        refine call_of (binds_ok k i) ?_
        simp -dsimp [g1, g2, g3, g4, g5, g6, g7, g8, hlt, w2]
        refine call_of (ih ks[i] (List.getElem_mem _) n (b + bindsM k i) hn0 hn1 (by omega) (by omega)) ?_
        simp -dsimp [g1, g2, g3, g4, g5, g6, g7, g8, hlt, w1, w3]
      · have e : i = ks.length := by omega
        subst e
        rw [List.take_length] at g8
        simp -dsimp [g1, g2, g3, g4, g5, g6, g7, g8]
theorem may_ok (n : Int) : Pure Try.prog n_shift_may [.int .i64 n] [.bool (inB n 0 65535)] := by
  refine p_shift_may rfl fun hs => ?_
  simp -dsimp [x_shift_may, inB]
  (first | refine Ask_b ?_ ?_ | refine Cnd_b ?_ ?_) <;> intro h1 <;> (try simp only [decide_eq_true_eq, decide_eq_false_iff_not, beq_iff_eq, beq_eq_false_iff_ne, bne_iff_ne, bne_eq_false_iff_eq, Bool.not_eq_true', Bool.not_eq_false', Bool.and_eq_true, Bool.or_eq_true, Bool.and_eq_false_iff, Bool.or_eq_false_iff] at h1) <;> simp -dsimp [h1]
theorem count_ok (t : T) (n : Int) (hn : 0 ≤ n ∧ n ≤ 65535) (ht : nodes t ≤ 1048576) : Pure Try.prog n_shift_Count [.agg (cT t), .int .i64 n] [.int .i64 (cntT t n 0)] := by
  refine p_shift_Count rfl fun hs => ?_
  have hb : inB n 0 65535 = true := (inB_iff _ _ _).2 hn
  simp -dsimp [x_shift_Count, cT]
  refine call_of (may_ok n) ?_
  simp -dsimp [hb]
  refine call_of (count1_ok t n 0 hn.1 hn.2 (by omega) (by omega)) ?_
  simp -dsimp
end Ev
end Go.Proofs.Ytdobcpejfgpgoaa
