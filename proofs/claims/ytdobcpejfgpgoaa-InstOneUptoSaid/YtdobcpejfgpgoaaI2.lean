/- Substitution: its parts. -/
import Derived.Test.YtdobcpejfgpgoaaI1
namespace Go.Proofs.Ytdobcpejfgpgoaa
namespace Ev
open Go
set_option maxRecDepth 100000
set_option linter.unusedSimpArgs false
set_option linter.unusedVariables false
attribute [local simp ↓] wx_skip wx_region wx_seq wx_block wx_exit wx_ret wx_cond wx_loop wo_nil wo_run wo_ask wx_draw wt_nil wt_run_t wt_run_f wt_ask_t wt_ask_f rb_mv rb_nilrow rb_pick rb_alloc rb_box rb_load rb_store rb_nilck rb_bin rb_binb rb_un rb_conv rb_mkf rb_mks rb_slice rb_faddr rb_fld rb_iaddr rb_ext rb_len rb_app rb_mm rb_build rb_bslice run_callC upd_eq upd_ne
attribute [local simp] runB_some runB_none Tch_nil Tch_cons Chk_t Cnd_t Cnd_f Ask_tt Ask_ff Ask_tf Ask_ft Ask_skip act ev_t ev_c evs sks caps2 touch_call List.cons_append List.nil_append putS binI binB int_add int_sub int_mul int_quo int_rem int_or int_eql int_neq int_lss int_leq int_gtr int_geq shiftD Ex.then Ex.inBlock Ends resL resX allD toD_d toD_fsl sk_d sk_fsl none_ loadA cut wrapA wrapD avc_d avc_agg avc_fsl avc_rsl avc_ptr avc_eptr avc_clo dc_agg dc_int dc_bool dc_str dc_sl dc_nilp dc_rp dc_clo on_int on_bool on_str on_sl on_nilp on_rp on_clo on_fsl on_rsl on_ptr on_eptr on_cloA newE elemsA elemsS storeA put frz_nil deep callee resA initS touchOp fits compat rd wr key1 buildA partsD partsK idx frz_at Body.frz lk_hit lk_miss toD6_agg toD5_agg toD4_agg toD6_clo toD5_clo toD4_clo toD6_ptr toD5_ptr toD4_ptr sk6_agg sk5_agg sk4_agg sk6_clo sk5_clo sk4_clo sk6_ptr sk5_ptr sk4_ptr toD_rsl sk_rsl
attribute [local simp] allD_map_d sks_map_d tk tn tks

def movedT (y : Int) (t : T) : T := mapT (fun n b => .mk 1 (if b ≤ n then w64 (n + y) else n) []) t 0
theorem moved1_ok (n b y : Int) : Pure Try.prog n_subst_moved_1 [.int .i64 n, .int .i64 b, .rp [.int .i64 y]] [.agg (cT (.mk 1 (if b ≤ n then w64 (n + y) else n) []))] := by
  refine p_subst_moved_1 rfl fun hs => ?_
  simp -dsimp [x_subst_moved_1]
  (first | refine Ask_b ?_ ?_ | refine Cnd_b ?_ ?_) <;> intro h1 <;> (try simp only [decide_eq_true_eq, decide_eq_false_iff_not, beq_iff_eq, beq_eq_false_iff_ne, bne_iff_ne, bne_eq_false_iff_eq, Bool.not_eq_true', Bool.not_eq_false', Bool.and_eq_true, Bool.or_eq_true, Bool.and_eq_false_iff, Bool.or_eq_false_iff] at h1) <;> simp -dsimp [h1, w64]
  · refine call_of (v_ok _) ?_
    simp -dsimp [h1, w64, cT]
  · refine call_of (v_ok _) ?_
    simp -dsimp [h1, cT]
theorem moved_ok (t : T) (y : Int) (hs : formedM t = true) (hn : nodes t ≤ 1099511627776) : Pure Try.prog n_subst_moved [.agg (cT t), .int .i64 y] [.agg (cT (movedT y t))] := by
  refine p_subst_moved rfl fun hs' => ?_
  simp -dsimp [x_subst_moved, cT]
  refine call_of (map_ok (fun n b => .mk 1 (if b ≤ n then w64 (n + y) else n) []) n_subst_moved_1 [.rp [.int .i64 y]] (fun n b _ _ _ _ => moved1_ok n b y) t 0 hs (by omega) (by omega)) ?_
  simp -dsimp [movedT, cT]

mutual
def freeT : T → Int → Int
  | .mk k n ks, b => freeL k b 0 (if k = 1 ∧ b ≤ n then n else -1) ks
def freeL (k b : Int) : Nat → Int → List T → Int
  | _, a, [] => a
  | i, a, x :: xs => freeL k b (i + 1) (mx a (freeT x (b + bindsM k i))) xs
end
theorem freeL_snoc (k b : Int) : ∀ (l : List T) (i : Nat) (a : Int) (j : Nat) (h : j < l.length), freeL k b i a (l.take (j + 1)) = mx (freeL k b i a (l.take j)) (freeT l[j] (b + bindsM k (i + j : Nat)))
  | x :: xs, i, a, 0, h => by simp [freeL]
  | x :: xs, i, a, j + 1, h => by
    simp only [List.take_succ_cons, freeL, List.getElem_cons_succ]
    rw [freeL_snoc k b xs (i + 1) _ j (by simpa using h)]
    congr 4
    omega
theorem free_ok (t : T) : ∀ b : Int, 0 ≤ b → b + nodes t ≤ 1099511627776 → Pure Try.prog n_subst_free [.agg (cT t), .int .i64 b] [.int .i64 (freeT t b)] := by
  refine T.ind (p := fun t => ∀ b : Int, 0 ≤ b → b + nodes t ≤ 1099511627776 → Pure Try.prog n_subst_free [.agg (cT t), .int .i64 b] [.int .i64 (freeT t b)]) ?_ t
  intro k n ks ih b h0 hb
  refine p_subst_free rfl fun hs => ?_
  have hl := kids_small (t := .mk k n ks) (fun d hd => hs d (by simp at hd; simp [hd]))
  simp [T.kids] at hl
  have hF : freeT (.mk k n ks) b = freeL k b 0 (if k = 1 ∧ b ≤ n then n else -1) ks := by rw [freeT]
  have c1 : k = 1 → b ≤ n → n = (if k = 1 ∧ b ≤ n then n else -1) := fun h1 h2 => (if_pos ⟨h1, h2⟩).symm
  have c2 : ¬(k = 1 ∧ b ≤ n) → -1 = (if k = 1 ∧ b ≤ n then n else -1) := fun h => (if_neg h).symm
  rw [hF]
  generalize (if k = 1 ∧ b ≤ n then n else -1) = A at c1 c2 ⊢
  simp -dsimp [x_subst_free, cT]
  (first | refine Ask_b ?_ ?_ | refine Cnd_b ?_ ?_) <;> intro h1 <;> (try simp only [decide_eq_true_eq, decide_eq_false_iff_not, beq_iff_eq, beq_eq_false_iff_ne, bne_iff_ne, bne_eq_false_iff_eq, Bool.not_eq_true', Bool.not_eq_false', Bool.and_eq_true, Bool.or_eq_true, Bool.and_eq_false_iff, Bool.or_eq_false_iff] at h1) <;> simp -dsimp [h1]
  (first | refine Ask_b ?_ ?_ | refine Cnd_b ?_ ?_) <;> intro h2 <;> (try simp only [decide_eq_true_eq, decide_eq_false_iff_not, beq_iff_eq, beq_eq_false_iff_ne, bne_iff_ne, bne_eq_false_iff_eq, Bool.not_eq_true', Bool.not_eq_false', Bool.and_eq_true, Bool.or_eq_true, Bool.and_eq_false_iff, Bool.or_eq_false_iff] at h2) <;> simp -dsimp [h2, h1]
  all_goals
    refine wp_upto ks.length (fun i st => st.s 2 = .ptr 2 1 0 ∧ st.h 2 = ⟨1, .box [.d (.int .i64 k), .d (.int .i64 n), .d (.sl 3 (ks.map eT))] false⟩ ∧ st.s 1 = .d (.int .i64 b) ∧ st.s 20 = .d (.sl 3 (ks.map eT)) ∧ st.s 21 = .d (.int .i64 ks.length) ∧ st.s 22 = .d (.int .i64 i) ∧
      st.s 5 = .d (.int .i64 (freeL k b 0 A (ks.take i)))) ?_ ?_
    · simp -dsimp [freeL]
      first | exact ⟨h1.symm, c1 h1 h2⟩ | exact ⟨h1.symm, c2 (fun h => h2 h.2)⟩ | exact c2 (fun h => h1 h.1)
    · rintro i ⟨s, hp⟩ hi ⟨g1, g2, g3, g4, g5, g6, g7⟩
      dsimp only at g1 g2 g3 g4 g5 g6 g7
      rcases Nat.lt_or_ge i ks.length with hlt | hge
      · have w1 : IntKind.i64.wrap ((i : Int) + 1) = (i : Int) + 1 := wrap_id (by omega) (by omega)
        have hbl := binds_le k i
        have hnk := nodes_kid (k := k) (n := n) (List.getElem_mem hlt : ks[i] ∈ ks)
        have w2 : IntKind.i64.wrap (b + bindsM k i) = b + bindsM k i := wrap_id (by omega) (by omega)
        have hsn := freeL_snoc k b ks 0 A i hlt
        rw [Nat.zero_add] at hsn
        simp -dsimp [g1, g2, g3, g4, g5, g6, g7, hlt, cT]
        refine call_of (binds_ok k i) ?_
        simp -dsimp [g1, g2, g3, g4, g5, g6, g7, hlt, w2]
        refine call_of (ih ks[i] (List.getElem_mem _) (b + bindsM k i) (by omega) (by omega)) ?_
        simp -dsimp [g1, g2, g3, g4, g5, g6, g7, hlt, w1, hsn, mx]
      · have e : i = ks.length := by omega
        subst e
        rw [List.take_length] at g7
        simp -dsimp [g1, g2, g3, g4, g5, g6, g7]

/-- An argument, with what is reckoned of it. -/
structure Ag where
  t : T
  size : Int
  depth : Int
  free : Int
def cAg (a : Ag) : List D := cT a.t ++ [.int .i64 a.size, .int .i64 a.depth, .int .i64 a.free]
def eAg (a : Ag) : D := .agg (cAg a)
@[simp] theorem eAg_cells (a : Ag) : (eAg a).cells = cAg a := rfl
def jobD (l : List Ag) (u : Int) (sc : Bool) (sz dp : Int) : D := .rp [.sl 6 (l.map eAg), .int .i64 u, .bool sc, .int .i64 sz, .int .i64 dp]
def whichT (len : Nat) (u n b : Int) : Int := if n < u + b ∨ (len : Int) ≤ n - (u + b) then -1 else len - 1 - (n - (u + b))
theorem which_ok (l : List Ag) (u : Int) (sc : Bool) (sz dp n b : Int) (hu : 0 ≤ u ∧ u ≤ 65535) (hb : 0 ≤ b ∧ b ≤ 1099511627776) (hn : 0 ≤ n ∧ n ≤ 65535) : Pure Try.prog n_subst_job_which [jobD l u sc sz dp, .int .i64 n, .int .i64 b] [.int .i64 (whichT l.length u n b)] := by
  refine p_subst_job_which rfl fun hs => ?_
  have hl : ((l.length : Int)) ≤ 9223372036854775807 := by
    have := hs (jobD l u sc sz dp) (by simp)
    simp -dsimp [jobD, small] at this
    omega
  have w1 : IntKind.i64.wrap (u + b) = u + b := wrap_id (by omega) (by omega)
  have w2 : IntKind.i64.wrap (n - (u + b)) = n - (u + b) := wrap_id (by omega) (by omega)
  have w3 : IntKind.i64.wrap ((l.length : Int) - 1) = (l.length : Int) - 1 := wrap_id (by omega) (by omega)
  simp -dsimp [x_subst_job_which, jobD, w1, w2, w3]
  (first | refine Ask_b ?_ ?_ | refine Cnd_b ?_ ?_) <;> intro h1 <;> (try simp only [decide_eq_true_eq, decide_eq_false_iff_not, beq_iff_eq, beq_eq_false_iff_ne, bne_iff_ne, bne_eq_false_iff_eq, Bool.not_eq_true', Bool.not_eq_false', Bool.and_eq_true, Bool.or_eq_true, Bool.and_eq_false_iff, Bool.or_eq_false_iff] at h1) <;> simp -dsimp [h1, whichT, w1, w2, w3]
  (first | refine Ask_b ?_ ?_ | refine Cnd_b ?_ ?_) <;> intro h2 <;> (try simp only [decide_eq_true_eq, decide_eq_false_iff_not, beq_iff_eq, beq_eq_false_iff_ne, bne_iff_ne, bne_eq_false_iff_eq, Bool.not_eq_true', Bool.not_eq_false', Bool.and_eq_true, Bool.or_eq_true, Bool.and_eq_false_iff, Bool.or_eq_false_iff] at h2) <;> simp -dsimp [h2, whichT, h1, w1, w2, w3]
  have w4 : IntKind.i64.wrap ((l.length : Int) - 1 - (n - (u + b))) = (l.length : Int) - 1 - (n - (u + b)) := wrap_id (by omega) (by omega)
  rw [w4]
end Ev
end Go.Proofs.Ytdobcpejfgpgoaa
