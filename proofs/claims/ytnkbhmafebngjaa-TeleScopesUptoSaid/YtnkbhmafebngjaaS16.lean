/- The document's answers: right terms, scopes. -/
import Derived.Test.YtnkbhmafebngjaaS7
import Derived.Test.YtnkbhmafebngjaaS2
namespace Go.Proofs.Ytnkbhmafebngjaa
namespace Ev
open Go
set_option maxRecDepth 100000
set_option linter.unusedSimpArgs false
set_option linter.unusedVariables false
attribute [local simp ↓] wx_skip wx_region wx_seq wx_block wx_exit wx_ret wx_cond wx_loop wo_nil wo_run wo_ask wx_draw wt_nil wt_run_t wt_run_f wt_ask_t wt_ask_f rb_mv rb_nilrow rb_pick rb_alloc rb_box rb_load rb_store rb_nilck rb_bin rb_binb rb_un rb_conv rb_mkf rb_mks rb_slice rb_faddr rb_fld rb_iaddr rb_ext rb_len rb_app rb_mm rb_build rb_bslice run_callC upd_eq upd_ne
attribute [local simp] runB_some runB_none Tch_nil Tch_cons Chk_t Cnd_t Cnd_f Ask_tt Ask_ff Ask_tf Ask_ft Ask_skip act ev_t ev_c evs sks caps2 touch_call List.cons_append List.nil_append putS binI binB int_add int_sub int_mul int_quo int_rem int_or int_eql int_neq int_lss int_leq int_gtr int_geq shiftD Ex.then Ex.inBlock Ends resL resX allD toD_d toD_fsl sk_d sk_fsl none_ loadA cut wrapA wrapD avc_d avc_agg avc_fsl avc_rsl avc_ptr avc_eptr avc_clo dc_agg dc_int dc_bool dc_str dc_sl dc_nilp dc_rp dc_clo on_int on_bool on_str on_sl on_nilp on_rp on_clo on_fsl on_rsl on_ptr on_eptr on_cloA newE elemsA elemsS storeA put frz_nil deep callee resA initS touchOp fits compat rd wr key1 buildA partsD partsK idx frz_at Body.frz lk_hit lk_miss toD6_agg toD5_agg toD4_agg toD6_clo toD5_clo toD4_clo toD6_ptr toD5_ptr toD4_ptr sk6_agg sk5_agg sk4_agg sk6_clo sk5_clo sk4_clo sk6_ptr sk5_ptr sk4_ptr toD_rsl sk_rsl
attribute [local simp] allD_map_d sks_map_d

def inB (n lo hi : Int) : Bool := decide (lo ≤ n) && decide (n ≤ hi)
theorem inB_iff (n lo hi : Int) : inB n lo hi = true ↔ lo ≤ n ∧ n ≤ hi := by simp [inB]
theorem inB_not (n lo hi : Int) : inB n lo hi = false ↔ ¬(lo ≤ n ∧ n ≤ hi) := by rw [← inB_iff]; simp
theorem rin_ok (n lo hi : Int) : Pure Try.prog n_porismref01_in [.int .i64 n, .int .i64 lo, .int .i64 hi] [.bool (inB n lo hi)] := by
  refine p_porismref01_in rfl fun hs => ?_
  simp -dsimp [x_porismref01_in, inB]
  (first | refine Ask_b ?_ ?_ | refine Cnd_b ?_ ?_) <;> intro h1 <;> (try simp only [decide_eq_true_eq, decide_eq_false_iff_not, beq_iff_eq, beq_eq_false_iff_ne, bne_iff_ne, bne_eq_false_iff_eq, Bool.not_eq_true', Bool.not_eq_false', Bool.and_eq_true, Bool.or_eq_true, Bool.and_eq_false_iff, Bool.or_eq_false_iff] at h1) <;> simp -dsimp [h1]
theorem rkids_ok (k : Int) : Pure Try.prog n_porismref01_Kids [.int .i64 k] [.int .i64 (kidsM k)] := by
  refine p_porismref01_Kids rfl fun hs => ?_
  have e : kidsM k = if k = 1 then 0 else if k = 2 then 0 else if k = 3 then 0 else if k = 9 then 1 else if k = 10 then 1 else if k = 4 then 2 else if k = 5 then 2 else if k = 6 then 2 else if k = 7 then 2 else if k = 12 then 2 else if k = 8 then 3 else if k = 11 then 3 else if k = 13 then 3 else -1 := by
    simp only [kidsM, isM, Bool.and_eq_true, decide_eq_true_eq]
    repeat' split
    all_goals omega
  rw [e]
  simp -dsimp [x_porismref01_Kids]
  (first | refine Ask_b ?_ ?_ | refine Cnd_b ?_ ?_) <;> intro h1 <;> (try simp only [decide_eq_true_eq, decide_eq_false_iff_not, beq_iff_eq, beq_eq_false_iff_ne, bne_iff_ne, bne_eq_false_iff_eq, Bool.not_eq_true', Bool.not_eq_false', Bool.and_eq_true, Bool.or_eq_true, Bool.and_eq_false_iff, Bool.or_eq_false_iff] at h1) <;> simp -dsimp [h1]
  (first | refine Ask_b ?_ ?_ | refine Cnd_b ?_ ?_) <;> intro h2 <;> (try simp only [decide_eq_true_eq, decide_eq_false_iff_not, beq_iff_eq, beq_eq_false_iff_ne, bne_iff_ne, bne_eq_false_iff_eq, Bool.not_eq_true', Bool.not_eq_false', Bool.and_eq_true, Bool.or_eq_true, Bool.and_eq_false_iff, Bool.or_eq_false_iff] at h2) <;> simp -dsimp [h2, h1]
  (first | refine Ask_b ?_ ?_ | refine Cnd_b ?_ ?_) <;> intro h3 <;> (try simp only [decide_eq_true_eq, decide_eq_false_iff_not, beq_iff_eq, beq_eq_false_iff_ne, bne_iff_ne, bne_eq_false_iff_eq, Bool.not_eq_true', Bool.not_eq_false', Bool.and_eq_true, Bool.or_eq_true, Bool.and_eq_false_iff, Bool.or_eq_false_iff] at h3) <;> simp -dsimp [h3, h1, h2]
  (first | refine Ask_b ?_ ?_ | refine Cnd_b ?_ ?_) <;> intro h4 <;> (try simp only [decide_eq_true_eq, decide_eq_false_iff_not, beq_iff_eq, beq_eq_false_iff_ne, bne_iff_ne, bne_eq_false_iff_eq, Bool.not_eq_true', Bool.not_eq_false', Bool.and_eq_true, Bool.or_eq_true, Bool.and_eq_false_iff, Bool.or_eq_false_iff] at h4) <;> simp -dsimp [h4, h1, h2, h3]
  (first | refine Ask_b ?_ ?_ | refine Cnd_b ?_ ?_) <;> intro h5 <;> (try simp only [decide_eq_true_eq, decide_eq_false_iff_not, beq_iff_eq, beq_eq_false_iff_ne, bne_iff_ne, bne_eq_false_iff_eq, Bool.not_eq_true', Bool.not_eq_false', Bool.and_eq_true, Bool.or_eq_true, Bool.and_eq_false_iff, Bool.or_eq_false_iff] at h5) <;> simp -dsimp [h5, h1, h2, h3, h4]
  (first | refine Ask_b ?_ ?_ | refine Cnd_b ?_ ?_) <;> intro h6 <;> (try simp only [decide_eq_true_eq, decide_eq_false_iff_not, beq_iff_eq, beq_eq_false_iff_ne, bne_iff_ne, bne_eq_false_iff_eq, Bool.not_eq_true', Bool.not_eq_false', Bool.and_eq_true, Bool.or_eq_true, Bool.and_eq_false_iff, Bool.or_eq_false_iff] at h6) <;> simp -dsimp [h6, h1, h2, h3, h4, h5]
  (first | refine Ask_b ?_ ?_ | refine Cnd_b ?_ ?_) <;> intro h7 <;> (try simp only [decide_eq_true_eq, decide_eq_false_iff_not, beq_iff_eq, beq_eq_false_iff_ne, bne_iff_ne, bne_eq_false_iff_eq, Bool.not_eq_true', Bool.not_eq_false', Bool.and_eq_true, Bool.or_eq_true, Bool.and_eq_false_iff, Bool.or_eq_false_iff] at h7) <;> simp -dsimp [h7, h1, h2, h3, h4, h5, h6]
  (first | refine Ask_b ?_ ?_ | refine Cnd_b ?_ ?_) <;> intro h8 <;> (try simp only [decide_eq_true_eq, decide_eq_false_iff_not, beq_iff_eq, beq_eq_false_iff_ne, bne_iff_ne, bne_eq_false_iff_eq, Bool.not_eq_true', Bool.not_eq_false', Bool.and_eq_true, Bool.or_eq_true, Bool.and_eq_false_iff, Bool.or_eq_false_iff] at h8) <;> simp -dsimp [h8, h1, h2, h3, h4, h5, h6, h7]
  (first | refine Ask_b ?_ ?_ | refine Cnd_b ?_ ?_) <;> intro h9 <;> (try simp only [decide_eq_true_eq, decide_eq_false_iff_not, beq_iff_eq, beq_eq_false_iff_ne, bne_iff_ne, bne_eq_false_iff_eq, Bool.not_eq_true', Bool.not_eq_false', Bool.and_eq_true, Bool.or_eq_true, Bool.and_eq_false_iff, Bool.or_eq_false_iff] at h9) <;> simp -dsimp [h9, h1, h2, h3, h4, h5, h6, h7, h8]
  (first | refine Ask_b ?_ ?_ | refine Cnd_b ?_ ?_) <;> intro h10 <;> (try simp only [decide_eq_true_eq, decide_eq_false_iff_not, beq_iff_eq, beq_eq_false_iff_ne, bne_iff_ne, bne_eq_false_iff_eq, Bool.not_eq_true', Bool.not_eq_false', Bool.and_eq_true, Bool.or_eq_true, Bool.and_eq_false_iff, Bool.or_eq_false_iff] at h10) <;> simp -dsimp [h10, h1, h2, h3, h4, h5, h6, h7, h8, h9]
  (first | refine Ask_b ?_ ?_ | refine Cnd_b ?_ ?_) <;> intro h11 <;> (try simp only [decide_eq_true_eq, decide_eq_false_iff_not, beq_iff_eq, beq_eq_false_iff_ne, bne_iff_ne, bne_eq_false_iff_eq, Bool.not_eq_true', Bool.not_eq_false', Bool.and_eq_true, Bool.or_eq_true, Bool.and_eq_false_iff, Bool.or_eq_false_iff] at h11) <;> simp -dsimp [h11, h1, h2, h3, h4, h5, h6, h7, h8, h9, h10]
  (first | refine Ask_b ?_ ?_ | refine Cnd_b ?_ ?_) <;> intro h12 <;> (try simp only [decide_eq_true_eq, decide_eq_false_iff_not, beq_iff_eq, beq_eq_false_iff_ne, bne_iff_ne, bne_eq_false_iff_eq, Bool.not_eq_true', Bool.not_eq_false', Bool.and_eq_true, Bool.or_eq_true, Bool.and_eq_false_iff, Bool.or_eq_false_iff] at h12) <;> simp -dsimp [h12, h1, h2, h3, h4, h5, h6, h7, h8, h9, h10, h11]
  (first | refine Ask_b ?_ ?_ | refine Cnd_b ?_ ?_) <;> intro h13 <;> (try simp only [decide_eq_true_eq, decide_eq_false_iff_not, beq_iff_eq, beq_eq_false_iff_ne, bne_iff_ne, bne_eq_false_iff_eq, Bool.not_eq_true', Bool.not_eq_false', Bool.and_eq_true, Bool.or_eq_true, Bool.and_eq_false_iff, Bool.or_eq_false_iff] at h13) <;> simp -dsimp [h13, h1, h2, h3, h4, h5, h6, h7, h8, h9, h10, h11, h12]
theorem rbinds_ok (k i : Int) : Pure Try.prog n_porismref01_Binds [.int .i64 k, .int .i64 i] [.int .i64 (bindsM k i)] := by
  refine p_porismref01_Binds rfl fun hs => ?_
  simp -dsimp [x_porismref01_Binds]
  (first | refine Ask_b ?_ ?_ | refine Cnd_b ?_ ?_) <;> intro h1 <;> (try simp only [decide_eq_true_eq, decide_eq_false_iff_not, beq_iff_eq, beq_eq_false_iff_ne, bne_iff_ne, bne_eq_false_iff_eq, Bool.not_eq_true', Bool.not_eq_false', Bool.and_eq_true, Bool.or_eq_true, Bool.and_eq_false_iff, Bool.or_eq_false_iff] at h1) <;> simp -dsimp [h1, bindsM]
  (first | refine Ask_b ?_ ?_ | refine Cnd_b ?_ ?_) <;> intro g1 <;> (try simp only [decide_eq_true_eq, decide_eq_false_iff_not, beq_iff_eq, beq_eq_false_iff_ne, bne_iff_ne, bne_eq_false_iff_eq, Bool.not_eq_true', Bool.not_eq_false', Bool.and_eq_true, Bool.or_eq_true, Bool.and_eq_false_iff, Bool.or_eq_false_iff] at g1) <;> simp -dsimp [g1, bindsM, h1]
  (first | refine Ask_b ?_ ?_ | refine Cnd_b ?_ ?_) <;> intro g2 <;> (try simp only [decide_eq_true_eq, decide_eq_false_iff_not, beq_iff_eq, beq_eq_false_iff_ne, bne_iff_ne, bne_eq_false_iff_eq, Bool.not_eq_true', Bool.not_eq_false', Bool.and_eq_true, Bool.or_eq_true, Bool.and_eq_false_iff, Bool.or_eq_false_iff] at g2) <;> simp -dsimp [g2, bindsM, h1, g1]
  (first | refine Ask_b ?_ ?_ | refine Cnd_b ?_ ?_) <;> intro g3 <;> (try simp only [decide_eq_true_eq, decide_eq_false_iff_not, beq_iff_eq, beq_eq_false_iff_ne, bne_iff_ne, bne_eq_false_iff_eq, Bool.not_eq_true', Bool.not_eq_false', Bool.and_eq_true, Bool.or_eq_true, Bool.and_eq_false_iff, Bool.or_eq_false_iff] at g3) <;> simp -dsimp [g3, bindsM, h1, g1, g2]
theorem formedM_is (k n : Int) (ks : List T) : formedM (.mk k n ks) = if (ks.length : Int) = kidsM k then if kidsM k = 0 then inB n 0 65535 && ks.all formedM else if n = 0 then ks.all formedM else false else false := by
  rw [formedM]
  have ha : (ks.map formedM).all id = ks.all formedM := by rw [List.all_map]; rfl
  rw [ha]
  by_cases h1 : (ks.length : Int) = kidsM k
  · rw [if_neg (by omega), if_pos h1, if_pos h1]
    by_cases h0 : kidsM k = 0
    · rw [if_pos h0]
      by_cases h2 : n < 0
      · rw [if_pos h2, (inB_not n 0 65535).2 (by omega)]; rfl
      · rw [if_neg h2]
        by_cases h3 : 65535 < n
        · rw [if_pos h3, (inB_not n 0 65535).2 (by omega)]; rfl
        · rw [if_neg h3, if_neg (by omega), (inB_iff n 0 65535).2 (by omega)]; rfl
    · rw [if_neg h0]
      by_cases h2 : n = 0
      · rw [if_neg (by omega), if_neg (by omega), if_neg (by omega), if_pos h2]
      · rw [if_neg h2]
        by_cases h3 : n < 0
        · rw [if_pos h3]
        · rw [if_neg h3]
          by_cases h4 : 65535 < n
          · rw [if_pos h4]
          · rw [if_neg h4, if_pos ⟨by omega, h2⟩]
  · rw [if_neg h1, if_neg h1]
    split <;> rfl
theorem all_next {α : Type} {p : α → Bool} {l : List α} (h : ∀ (j : Nat) (hj : j < l.length), j < l.length → p l[j] = true) : l.all p = true := by
  rw [List.all_eq_true]
  intro x hx
  obtain ⟨j, hj, rfl⟩ := List.mem_iff_getElem.1 hx
  exact h j hj hj
theorem all_not {α : Type} {p : α → Bool} {l : List α} {i : Nat} (hi : i < l.length) (h : p l[i] = false) : l.all p = false := by
  cases hq : l.all p with
  | false => rfl
  | true =>
    have := List.all_eq_true.1 hq l[i] (List.getElem_mem _)
    rw [h] at this
    cases this
theorem upto_next {α : Type} {p : α → Bool} {l : List α} {i : Nat} (hi : i < l.length) (h : ∀ (j : Nat) (hj : j < l.length), j < i → p l[j] = true) (hx : p l[i] = true) :
    ∀ (j : Nat) (hj : j < l.length), j < i + 1 → p l[j] = true := by
  intro j hj hji
  rcases Nat.lt_or_ge j i with h' | h'
  · exact h j hj h'
  · have : j = i := by omega
    subst this
    exact hx
theorem rformed_ok (t : T) : Pure Try.prog n_porismref01_formed [.agg (cT t)] [.bool (formedM t)] := by
  refine T.ind (p := fun t => Pure Try.prog n_porismref01_formed [.agg (cT t)] [.bool (formedM t)]) ?_ t
  intro k n ks ih
  refine p_porismref01_formed rfl fun hs => ?_
  have hl := kids_small hs
  simp [T.kids] at hl
  simp -dsimp [x_porismref01_formed, cT, T.kind, T.num, T.kids]
  refine call_of (rkids_ok k) ?_
  simp -dsimp
  (first | refine Ask_b ?_ ?_ | refine Cnd_b ?_ ?_) <;> intro h1 <;> (try simp only [decide_eq_true_eq, decide_eq_false_iff_not, beq_iff_eq, beq_eq_false_iff_ne, bne_iff_ne, bne_eq_false_iff_eq, Bool.not_eq_true', Bool.not_eq_false', Bool.and_eq_true, Bool.or_eq_true, Bool.and_eq_false_iff, Bool.or_eq_false_iff] at h1) <;> simp -dsimp [h1, formedM_is]
  (first | refine Ask_b ?_ ?_ | refine Cnd_b ?_ ?_) <;> intro h2 <;> (try simp only [decide_eq_true_eq, decide_eq_false_iff_not, beq_iff_eq, beq_eq_false_iff_ne, bne_iff_ne, bne_eq_false_iff_eq, Bool.not_eq_true', Bool.not_eq_false', Bool.and_eq_true, Bool.or_eq_true, Bool.and_eq_false_iff, Bool.or_eq_false_iff] at h2) <;> simp -dsimp [h2, formedM_is, h1]
  · refine call_of (rin_ok n 0 65535) ?_
    simp -dsimp [h1, h2]
    (first | refine Ask_b ?_ ?_ | refine Cnd_b ?_ ?_) <;> intro h3 <;> (try simp only [decide_eq_true_eq, decide_eq_false_iff_not, beq_iff_eq, beq_eq_false_iff_ne, bne_iff_ne, bne_eq_false_iff_eq, Bool.not_eq_true', Bool.not_eq_false', Bool.and_eq_true, Bool.or_eq_true, Bool.and_eq_false_iff, Bool.or_eq_false_iff] at h3) <;> simp -dsimp [h3, formedM_is, h1, h2]
    have hR : formedM (.mk k n ks) = ks.all formedM := by rw [formedM_is, if_pos h1, if_pos h2, h3]; rfl
    rw [hR]
    refine wp_upto ks.length (fun i st => st.s 1 = .ptr 1 1 0 ∧ st.h 1 = ⟨1, .box [.d (.int .i64 k), .d (.int .i64 n), .d (.sl 3 (ks.map eT))] false⟩ ∧ st.s 3 = .d (.int .i64 i) ∧ ∀ (j : Nat) (hj : j < ks.length), j < i → formedM ks[j] = true) ?_ ?_
    · simp -dsimp
    · rintro i ⟨s, hp⟩ hi ⟨g1, g2, g3, g4⟩
      dsimp only at g1 g2 g3
      rcases Nat.lt_or_ge i ks.length with hlt | hge
      · have w1 : IntKind.i64.wrap ((i : Int) + 1) = (i : Int) + 1 := wrap_id (by omega) (by omega)
        simp -dsimp [g1, g2, g3, hlt, cT]
        refine call_of (ih ks[i] (List.getElem_mem _)) ?_
        simp -dsimp [g1, g2, g3, hlt]
        (first | refine Ask_b ?_ ?_ | refine Cnd_b ?_ ?_) <;> intro h6 <;> (try simp only [decide_eq_true_eq, decide_eq_false_iff_not, beq_iff_eq, beq_eq_false_iff_ne, bne_iff_ne, bne_eq_false_iff_eq, Bool.not_eq_true', Bool.not_eq_false', Bool.and_eq_true, Bool.or_eq_true, Bool.and_eq_false_iff, Bool.or_eq_false_iff] at h6) <;> simp -dsimp [h6, g1, g2, g3, hlt, w1]
        · have := all_not (p := formedM) hlt h6
          simpa using this
        · exact upto_next hlt g4 h6
      · have e : i = ks.length := by omega
        subst e
        have hA := all_next (p := formedM) g4
        simp -dsimp [g1, g2, g3, hA]
  · (first | refine Ask_b ?_ ?_ | refine Cnd_b ?_ ?_) <;> intro h3 <;> (try simp only [decide_eq_true_eq, decide_eq_false_iff_not, beq_iff_eq, beq_eq_false_iff_ne, bne_iff_ne, bne_eq_false_iff_eq, Bool.not_eq_true', Bool.not_eq_false', Bool.and_eq_true, Bool.or_eq_true, Bool.and_eq_false_iff, Bool.or_eq_false_iff] at h3) <;> simp -dsimp [h3, formedM_is, h1, h2]
    · (first | refine Ask_b ?_ ?_ | refine Cnd_b ?_ ?_) <;> intro h4 <;> (try simp only [decide_eq_true_eq, decide_eq_false_iff_not, beq_iff_eq, beq_eq_false_iff_ne, bne_iff_ne, bne_eq_false_iff_eq, Bool.not_eq_true', Bool.not_eq_false', Bool.and_eq_true, Bool.or_eq_true, Bool.and_eq_false_iff, Bool.or_eq_false_iff] at h4) <;> simp -dsimp [h4, formedM_is, h1, h2, h3]
      subst h4
      have hR : formedM (.mk k 0 ks) = ks.all formedM := by rw [formedM_is, if_pos h1, if_neg h2, if_pos rfl]
      rw [hR]
      refine wp_upto ks.length (fun i st => st.s 1 = .ptr 1 1 0 ∧ st.h 1 = ⟨1, .box [.d (.int .i64 k), .d (.int .i64 0), .d (.sl 3 (ks.map eT))] false⟩ ∧ st.s 3 = .d (.int .i64 i) ∧ ∀ (j : Nat) (hj : j < ks.length), j < i → formedM ks[j] = true) ?_ ?_
      · simp -dsimp
      · rintro i ⟨s, hp⟩ hi ⟨g1, g2, g3, g4⟩
        dsimp only at g1 g2 g3
        rcases Nat.lt_or_ge i ks.length with hlt | hge
        · have w1 : IntKind.i64.wrap ((i : Int) + 1) = (i : Int) + 1 := wrap_id (by omega) (by omega)
          simp -dsimp [g1, g2, g3, hlt, cT]
          refine call_of (ih ks[i] (List.getElem_mem _)) ?_
          simp -dsimp [g1, g2, g3, hlt]
          (first | refine Ask_b ?_ ?_ | refine Cnd_b ?_ ?_) <;> intro h6 <;> (try simp only [decide_eq_true_eq, decide_eq_false_iff_not, beq_iff_eq, beq_eq_false_iff_ne, bne_iff_ne, bne_eq_false_iff_eq, Bool.not_eq_true', Bool.not_eq_false', Bool.and_eq_true, Bool.or_eq_true, Bool.and_eq_false_iff, Bool.or_eq_false_iff] at h6) <;> simp -dsimp [h6, g1, g2, g3, hlt, w1]
          · have := all_not (p := formedM) hlt h6
            simpa using this
          · exact upto_next hlt g4 h6
        · have e : i = ks.length := by omega
          subst e
          have hA := all_next (p := formedM) g4
          simp -dsimp [g1, g2, g3, hA]
    · omega
theorem rcheck_ok (t : T) : Pure Try.prog n_porismref01_Check [.agg (cT t)] [.int .i64 (checkM t)] := by
  refine p_porismref01_Check rfl fun hs => ?_
  simp -dsimp [x_porismref01_Check, cT]
  refine call_of (size_ok t) ?_
  simp -dsimp
  (first | refine Ask_b ?_ ?_ | refine Cnd_b ?_ ?_) <;> intro h1 <;> (try simp only [decide_eq_true_eq, decide_eq_false_iff_not, beq_iff_eq, beq_eq_false_iff_ne, bne_iff_ne, bne_eq_false_iff_eq, Bool.not_eq_true', Bool.not_eq_false', Bool.and_eq_true, Bool.or_eq_true, Bool.and_eq_false_iff, Bool.or_eq_false_iff] at h1) <;> simp -dsimp [h1, checkM]
  refine call_of (depth_ok t) ?_
  simp -dsimp
  (first | refine Ask_b ?_ ?_ | refine Cnd_b ?_ ?_) <;> intro h2 <;> (try simp only [decide_eq_true_eq, decide_eq_false_iff_not, beq_iff_eq, beq_eq_false_iff_ne, bne_iff_ne, bne_eq_false_iff_eq, Bool.not_eq_true', Bool.not_eq_false', Bool.and_eq_true, Bool.or_eq_true, Bool.and_eq_false_iff, Bool.or_eq_false_iff] at h2) <;> simp -dsimp [h2, checkM, h1]
  refine call_of (rformed_ok t) ?_
  simp -dsimp
  (first | refine Ask_b ?_ ?_ | refine Cnd_b ?_ ?_) <;> intro h3 <;> (try simp only [decide_eq_true_eq, decide_eq_false_iff_not, beq_iff_eq, beq_eq_false_iff_ne, bne_iff_ne, bne_eq_false_iff_eq, Bool.not_eq_true', Bool.not_eq_false', Bool.and_eq_true, Bool.or_eq_true, Bool.and_eq_false_iff, Bool.or_eq_false_iff] at h3) <;> simp -dsimp [h3, checkM, h1, h2]
end Ev
end Go.Proofs.Ytnkbhmafebngjaa
