/- Substitution: the job. -/
import Derived.Test.YtdobcpejfgpgoaaI3
namespace Go.Proofs.Ytdobcpejfgpgoaa
namespace Ev
open Go
set_option maxRecDepth 100000
set_option linter.unusedSimpArgs false
set_option linter.unusedVariables false
attribute [local simp ↓] wx_skip wx_region wx_seq wx_block wx_exit wx_ret wx_cond wx_loop wo_nil wo_run wo_ask wx_draw wt_nil wt_run_t wt_run_f wt_ask_t wt_ask_f rb_mv rb_nilrow rb_pick rb_alloc rb_box rb_load rb_store rb_nilck rb_bin rb_binb rb_un rb_conv rb_mkf rb_mks rb_slice rb_faddr rb_fld rb_iaddr rb_ext rb_len rb_app rb_mm rb_build rb_bslice run_callC upd_eq upd_ne
attribute [local simp] runB_some runB_none Tch_nil Tch_cons Chk_t Cnd_t Cnd_f Ask_tt Ask_ff Ask_tf Ask_ft Ask_skip act ev_t ev_c evs sks caps2 touch_call List.cons_append List.nil_append putS binI binB int_add int_sub int_mul int_quo int_rem int_or int_eql int_neq int_lss int_leq int_gtr int_geq shiftD Ex.then Ex.inBlock Ends resL resX allD toD_d toD_fsl sk_d sk_fsl none_ loadA cut wrapA wrapD avc_d avc_agg avc_fsl avc_rsl avc_ptr avc_eptr avc_clo dc_agg dc_int dc_bool dc_str dc_sl dc_nilp dc_rp dc_clo on_int on_bool on_str on_sl on_nilp on_rp on_clo on_fsl on_rsl on_ptr on_eptr on_cloA newE elemsA elemsS storeA put frz_nil deep callee resA initS touchOp fits compat rd wr key1 buildA partsD partsK idx frz_at Body.frz lk_hit lk_miss toD6_agg toD5_agg toD4_agg toD6_clo toD5_clo toD4_clo toD6_ptr toD5_ptr toD4_ptr sk6_agg sk5_agg sk4_agg sk6_clo sk5_clo sk4_clo sk6_ptr sk5_ptr sk4_ptr toD_rsl sk_rsl
attribute [local simp] allD_map_d sks_map_d tk tn tks

def agOf (x : T) : Ag := ⟨x, sizeM x, depthM x, freeT x 0⟩
def argsE : List T → Int
  | [] => 0
  | x :: xs => if checkM x = 0 then argsE xs else checkM x
theorem argsE_at : ∀ (l : List T) (i : Nat) (h : i < l.length), (∀ (j : Nat) (hj : j < l.length), j < i → checkM l[j] = 0) → checkM l[i] ≠ 0 → argsE l = checkM l[i]
  | x :: xs, 0, h, _, hn => by simp only [List.getElem_cons_zero] at hn ⊢; rw [argsE, if_neg hn]
  | x :: xs, i + 1, h, ha, hn => by
    have h0 := ha 0 (by simp) (by omega)
    simp only [List.getElem_cons_zero] at h0
    rw [argsE, if_pos h0]
    simp only [List.getElem_cons_succ] at hn ⊢
    exact argsE_at xs i (by simpa using h) (fun j hj hji => by have := ha (j + 1) (by simpa using hj) (by omega); simpa using this) hn
theorem argsE_all : ∀ (l : List T), (∀ (j : Nat) (hj : j < l.length), j < l.length → checkM l[j] = 0) → argsE l = 0
  | [], _ => rfl
  | x :: xs, ha => by
    have h0 := ha 0 (by simp) (by simp)
    simp only [List.getElem_cons_zero] at h0
    rw [argsE, if_pos h0]
    exact argsE_all xs fun j hj _ => by have := ha (j + 1) (by simpa using hj) (by simpa using hj); simpa using this
def openE (t : T) (l : List T) (u : Int) : Int := if checkM t = 0 then if argsE l = 0 then if u < 0 ∨ 65535 < u then 1 else 0 else argsE l else checkM t
def st0 : St3 := ⟨false, 0, 0⟩
def openSt (t : T) (l : List T) (u : Int) : St3 := lookT (l.map agOf) u t 0 0 st0
def openR (t : T) (l : List T) (u : Int) : D := if openE t l u = 0 then jobD (l.map agOf) u (openSt t l u).sc (openSt t l u).sz (openSt t l u).dp else .nilp
theorem formed_of {t : T} (h : checkM t = 0) : formedM t = true := by
  rw [checkM] at h
  split at h
  · simp at h
  · split at h
    · simp at h
    · split at h
      · assumption
      · simp at h
theorem open_ok (t : T) (l : List T) (u : Int) (ht : nodes t ≤ 549755813888) (hl : ∀ x ∈ l, nodes x ≤ 549755813888) (hn : l.length ≤ 2097152) :
    Pure Try.prog n_subst_open [.agg (cT t), eTs l, .int .i64 u] [openR t l u, .int .i64 (openE t l u)] := by
  refine p_subst_open rfl fun hs => ?_
  simp -dsimp [x_subst_open, cT, eTs]
  refine call_of (check_ok t) ?_
  simp -dsimp
  (first | refine Ask_b ?_ ?_ | refine Cnd_b ?_ ?_) <;> intro h1 <;> (try simp only [decide_eq_true_eq, decide_eq_false_iff_not, beq_iff_eq, beq_eq_false_iff_ne, bne_iff_ne, bne_eq_false_iff_eq, Bool.not_eq_true', Bool.not_eq_false', Bool.and_eq_true, Bool.or_eq_true, Bool.and_eq_false_iff, Bool.or_eq_false_iff] at h1) <;> simp -dsimp [h1]
  · have hE : openE t l u = checkM t := by rw [openE, if_neg h1]
    rw [openR, hE, if_neg h1]
    simp -dsimp
  have hfm := formed_of h1
  refine wp_upto l.length (fun i st => st.s 2 = .d (.int .i64 u) ∧ st.s 3 = .ptr 3 1 0 ∧ st.h 3 = ⟨1, .box [.d (.int .i64 t.kind), .d (.int .i64 t.num), .d (.sl 3 (t.kids.map eT))] false⟩ ∧
    st.s 9 = .ptr 20 1 0 ∧ st.s 21 = .d (.sl 3 (l.map eT)) ∧ st.s 22 = .d (.int .i64 l.length) ∧ st.s 23 = .d (.int .i64 i) ∧
    (∃ c0, st.h 20 = ⟨1, .box [c0, .d (.int .i64 u), .d (.bool false), .d (.int .i64 0), .d (.int .i64 0)] false⟩ ∧ ((i = 0 ∧ c0 = .fsl 6 []) ∨ ∃ v, c0 = .rsl 46 v ∧ st.h 46 = ⟨v, .row 6 ((l.map (eAg ∘ agOf)).take i) true⟩)) ∧
    ∀ (j : Nat) (hj : j < l.length), j < i → checkM l[j] = 0) ?_ ?_
  · simp -dsimp
  · rintro i ⟨s, hp⟩ hi ⟨g1, g2, g3, g4, g5, g6, g7, ⟨c0, g8, g9⟩, g10⟩
    dsimp only at g1 g2 g3 g4 g5 g6 g7 g8 g9
    rcases Nat.lt_or_ge i l.length with hlt | hge
    · have w1 : IntKind.i64.wrap ((i : Int) + 1) = (i : Int) + 1 := wrap_id (by omega) (by omega)
      simp -dsimp [g1, g2, g3, g4, g5, g6, g7, g8, hlt, cT]
      refine call_of (check_ok l[i]) ?_
      simp -dsimp [g1, g2, g3, g4, g5, g6, g7, g8, hlt, cT]
      (first | refine Ask_b ?_ ?_ | refine Cnd_b ?_ ?_) <;> intro h2 <;> (try simp only [decide_eq_true_eq, decide_eq_false_iff_not, beq_iff_eq, beq_eq_false_iff_ne, bne_iff_ne, bne_eq_false_iff_eq, Bool.not_eq_true', Bool.not_eq_false', Bool.and_eq_true, Bool.or_eq_true, Bool.and_eq_false_iff, Bool.or_eq_false_iff] at h2) <;> simp -dsimp [h2, g1, g2, g3, g4, g5, g6, g7, g8, hlt, cT]
      · have hA := argsE_at l i hlt g10 h2
        have hE : openE t l u = checkM l[i] := by rw [openE, if_pos h1, if_neg (by rw [hA]; exact h2), hA]
        have hR : openR t l u = .nilp := by rw [openR, if_neg (by rw [hE]; exact h2)]
        simp -dsimp [hE, hR]
      refine call_of (tsize_ok l[i]) ?_
      simp -dsimp [g1, g2, g3, g4, g5, g6, g7, g8, hlt, cT]
      refine call_of (tdepth_ok l[i]) ?_
      simp -dsimp [g1, g2, g3, g4, g5, g6, g7, g8, hlt, cT]
      have hln := hl l[i] (List.getElem_mem _)
      refine call_of (free_ok l[i] 0 (by omega) (by omega)) ?_
      have hr : (min i l.length + 1) * 64 ≤ maxRoom := by simp only [maxRoom]; omega
      have hsn : (l.map (eAg ∘ agOf)).take i ++ [D.agg [.int .i64 l[i].kind, .int .i64 l[i].num, .sl 3 (l[i].kids.map eT), .int .i64 (sizeM l[i]), .int .i64 (depthM l[i]), .int .i64 (freeT l[i] 0)]] = (l.map (eAg ∘ agOf)).take (i + 1) :=
        take_next (eAg ∘ agOf) (fun x => cAg (agOf x)) (fun _ => rfl) l i hlt
      rcases g9 with ⟨rfl, rfl⟩ | ⟨v, rfl, g9⟩
      · have h64 : 64 ≤ maxRoom := by decide
        simp only [List.take_zero, List.nil_append, Nat.zero_add] at hsn
        simp at hlt w1
        simp -dsimp [g1, g2, g3, g4, g5, g6, g7, g8, hlt, cT, h64, w1]
        exact ⟨hsn, fun j hj hji => by have : j = 0 := by omega
                                       subst this; exact h2⟩
      · simp -dsimp [g1, g2, g3, g4, g5, g6, g7, g8, g9, hlt, cT, hr, hsn, w1]
        intro j hj hji
        rcases Nat.lt_or_ge j i with h | h
        · exact g10 j hj h
        · have : j = i := by omega
          subst this
          exact h2
    · have e : i = l.length := by omega
      subst e
      have hA := argsE_all l g10
      simp -dsimp [g1, g2, g3, g4, g5, g6, g7, g8]
      have bad : (u < 0 ∨ 65535 < u) → openR t l u = .nilp ∧ openE t l u = 1 := fun hu => by
        have hE : openE t l u = 1 := by rw [openE, if_pos h1, if_pos hA, if_pos hu]
        exact ⟨by rw [openR, hE]; rfl, hE⟩
      (first | refine Ask_b ?_ ?_ | refine Cnd_b ?_ ?_) <;> intro h3 <;> (try simp only [decide_eq_true_eq, decide_eq_false_iff_not, beq_iff_eq, beq_eq_false_iff_ne, bne_iff_ne, bne_eq_false_iff_eq, Bool.not_eq_true', Bool.not_eq_false', Bool.and_eq_true, Bool.or_eq_true, Bool.and_eq_false_iff, Bool.or_eq_false_iff] at h3) <;> simp -dsimp [h3, g1, g2, g3, g4, g5, g6, g7, g8]
      · simp -dsimp [bad (.inl h3)]
      (first | refine Ask_b ?_ ?_ | refine Cnd_b ?_ ?_) <;> intro h4 <;> (try simp only [decide_eq_true_eq, decide_eq_false_iff_not, beq_iff_eq, beq_eq_false_iff_ne, bne_iff_ne, bne_eq_false_iff_eq, Bool.not_eq_true', Bool.not_eq_false', Bool.and_eq_true, Bool.or_eq_true, Bool.and_eq_false_iff, Bool.or_eq_false_iff] at h4) <;> simp -dsimp [h4, g1, g2, g3, g4, g5, g6, g7, g8, h3]
      · simp -dsimp [bad (.inr h4)]
      have hE : openE t l u = 0 := by rw [openE, if_pos h1, if_pos hA, if_neg (by omega)]
      have hR : openR t l u = jobD (l.map agOf) u (openSt t l u).sc (openSt t l u).sz (openSt t l u).dp := by rw [openR, if_pos hE]
      rw [hE, hR]
      have hu : 0 ≤ u ∧ u ≤ 65535 := by omega
      have hnt : (0 : Int) + nodes t ≤ 1099511627776 := by omega
      rcases g9 with ⟨hz, rfl⟩ | ⟨v, rfl, g9⟩
      · have hl0 : l = [] := List.length_eq_zero_iff.1 hz
        subst hl0
        refine callM_of (agg_arg (pre := [.ptr 20 1 0]) (post := [.d (.int .i64 0), .d (.int .i64 0)]) (look0_ok u hu t 20 1 0 0 st0 (by omega) (by omega) (by omega) hfm (by omega) hnt)) ?_ ?_
        · simp [jobH, jobC, g8, st0]
        simp -dsimp [mergeK_cons, mergeK_nil, jobH, jobC, g1, g2, g3, g4, jobD, openSt]
      · rw [List.take_of_length_le (by simp)] at g9
        rw [sk_rsl]
        refine callM_of (agg_arg (pre := [.ptr 20 1 0]) (post := [.d (.int .i64 0), .d (.int .i64 0)]) (look_ok (l.map agOf) u hu t 20 1 46 v 0 0 st0 (by omega) (by omega) (by omega) (by omega) (by omega) (by omega) (by omega) hfm (by omega) hnt)) ?_ ?_
        · simp [jobH, jobC, g8, g9, st0]
        simp -dsimp [mergeK_cons, mergeK_nil, jobH, jobC, g1, g2, g3, g4, jobD, openSt]
end Ev
end Go.Proofs.Ytdobcpejfgpgoaa
