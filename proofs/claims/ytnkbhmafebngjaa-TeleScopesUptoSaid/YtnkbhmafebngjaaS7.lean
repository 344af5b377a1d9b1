/- term: sizes, right terms, scopes. -/
import Derived.Test.YtnkbhmafebngjaaS6
namespace Go.Proofs.Ytnkbhmafebngjaa
namespace Ev
open Go
set_option maxRecDepth 100000
set_option linter.unusedSimpArgs false
set_option linter.unusedVariables false
attribute [local simp ↓] wx_skip wx_region wx_seq wx_block wx_exit wx_ret wx_cond wx_loop wo_nil wo_run wo_ask wx_draw wt_nil wt_run_t wt_run_f wt_ask_t wt_ask_f rb_mv rb_nilrow rb_pick rb_alloc rb_box rb_load rb_store rb_nilck rb_bin rb_binb rb_un rb_conv rb_mkf rb_mks rb_slice rb_faddr rb_fld rb_iaddr rb_ext rb_len rb_app rb_mm rb_build rb_bslice run_callC upd_eq upd_ne
attribute [local simp] runB_some runB_none Tch_nil Tch_cons Chk_t Cnd_t Cnd_f Ask_tt Ask_ff Ask_tf Ask_ft Ask_skip act ev_t ev_c evs sks caps2 touch_call List.cons_append List.nil_append putS binI binB int_add int_sub int_mul int_quo int_rem int_or int_eql int_neq int_lss int_leq int_gtr int_geq shiftD Ex.then Ex.inBlock Ends resL resX allD toD_d toD_fsl sk_d sk_fsl none_ loadA cut wrapA wrapD avc_d avc_agg avc_fsl avc_rsl avc_ptr avc_eptr avc_clo dc_agg dc_int dc_bool dc_str dc_sl dc_nilp dc_rp dc_clo on_int on_bool on_str on_sl on_nilp on_rp on_clo on_fsl on_rsl on_ptr on_eptr on_cloA newE elemsA elemsS storeA put frz_nil deep callee resA initS touchOp fits compat rd wr key1 buildA partsD partsK idx frz_at Body.frz lk_hit lk_miss toD6_agg toD5_agg toD4_agg toD6_clo toD5_clo toD4_clo toD6_ptr toD5_ptr toD4_ptr sk6_agg sk5_agg sk4_agg sk6_clo sk5_clo sk4_clo sk6_ptr sk5_ptr sk4_ptr toD_rsl sk_rsl
attribute [local simp] allD_map_d sks_map_d

theorem tsize_ok (t : T) : Pure Try.prog n_term_Size [.agg (cT t)] [.int .i64 (sizeM t)] := by
  refine T.ind (p := fun t => Pure Try.prog n_term_Size [.agg (cT t)] [.int .i64 (sizeM t)]) ?_ t
  intro k n ks ih
  refine p_term_Size rfl fun hs => ?_
  have hl := kids_small hs
  simp [T.kids] at hl
  simp -dsimp [x_term_Size, cT, T.kind, T.num, T.kids]
  refine wp_upto ks.length (fun i st => st.s 7 = .d (.sl 3 (ks.map eT)) ∧ st.s 8 = .d (.int .i64 ks.length) ∧ st.s 9 = .d (.int .i64 i) ∧ st.s 3 = .d (.int .i64 (((ks.map sizeM).take i).foldl (fun a s => w64 (a + s)) 1))) ?_ ?_
  · simp -dsimp
  · rintro i ⟨s, hp⟩ hi ⟨h1, h2, h3, h4⟩
    dsimp only at h1 h2 h3 h4
    rcases Nat.lt_or_ge i ks.length with hlt | hge
    · have w1 : IntKind.i64.wrap ((i : Int) + 1) = (i : Int) + 1 := wrap_id (by omega) (by omega)
      simp -dsimp [h1, h2, h3, h4, hlt, cT]
      refine call_of (ih ks[i] (List.getElem_mem _)) ?_
      have hf := foldl_next (fun a s => w64 (a + s)) 1 (ks.map sizeM) i (sizeM ks[i]) (by simp [hlt])
      simp -dsimp [h1, h2, h3, h4, hlt, w1, hf]
      rfl
    · have e : i = ks.length := by omega
      subst e
      have ht : (ks.map sizeM).take ks.length = ks.map sizeM := List.take_of_length_le (by simp)
      simp -dsimp [h1, h2, h3, h4, sizeM, ht]

theorem tdepth_ok (t : T) : Pure Try.prog n_term_Depth [.agg (cT t)] [.int .i64 (depthM t)] := by
  refine T.ind (p := fun t => Pure Try.prog n_term_Depth [.agg (cT t)] [.int .i64 (depthM t)]) ?_ t
  intro k n ks ih
  refine p_term_Depth rfl fun hs => ?_
  have hl := kids_small hs
  simp [T.kids] at hl
  simp -dsimp [x_term_Depth, cT, T.kind, T.num, T.kids]
  refine wp_upto ks.length (fun i st => st.s 7 = .d (.sl 3 (ks.map eT)) ∧ st.s 8 = .d (.int .i64 ks.length) ∧ st.s 9 = .d (.int .i64 i) ∧ st.s 3 = .d (.int .i64 (((ks.map depthM).take i).foldl mx 0))) ?_ ?_
  · simp -dsimp
  · rintro i ⟨s, hp⟩ hi ⟨h1, h2, h3, h4⟩
    dsimp only at h1 h2 h3 h4
    rcases Nat.lt_or_ge i ks.length with hlt | hge
    · have w1 : IntKind.i64.wrap ((i : Int) + 1) = (i : Int) + 1 := wrap_id (by omega) (by omega)
      simp -dsimp [h1, h2, h3, h4, hlt, cT]
      refine call_of (ih ks[i] (List.getElem_mem _)) ?_
      have hf := foldl_mx (ks.map depthM) i (depthM ks[i]) (by simp [hlt])
      simp -dsimp [h1, h2, h3, h4, hlt, w1, hf]
      rfl
    · have e : i = ks.length := by omega
      subst e
      have ht : (ks.map depthM).take ks.length = ks.map depthM := List.take_of_length_le (by simp)
      simp -dsimp [h1, h2, h3, h4, depthM, ht]
      rfl

def formedM : T → Bool
  | .mk k n ks => if kidsM k < 0 then false else if (ks.length : Int) = kidsM k then if n < 0 then false else if 65535 < n then false else if 0 < kidsM k ∧ n ≠ 0 then false else (ks.map formedM).all id else false

theorem formed1_ok (t : T) (h : Pure Try.prog n_term_formed [.agg (cT t)] [.bool (formedM t)]) : Pure Try.prog n_term_formed_1 [.agg (cT t)] [.bool (!formedM t)] := by
  refine p_term_formed_1 rfl fun hs => ?_
  simp -dsimp [x_term_formed_1, cT]
  refine call_of h ?_
  simp -dsimp

theorem formed_ok (t : T) : Pure Try.prog n_term_formed [.agg (cT t)] [.bool (formedM t)] := by
  refine T.ind (p := fun t => Pure Try.prog n_term_formed [.agg (cT t)] [.bool (formedM t)]) ?_ t
  intro k n ks ih
  refine p_term_formed rfl fun hs => ?_
  simp -dsimp [x_term_formed, cT, T.kind, T.num, T.kids]
  refine call_of (kids_ok k) ?_
  simp -dsimp
  (first | refine Ask_b ?_ ?_ | refine Cnd_b ?_ ?_) <;> intro h1 <;> (try simp only [decide_eq_true_eq, decide_eq_false_iff_not, beq_iff_eq, beq_eq_false_iff_ne, bne_iff_ne, bne_eq_false_iff_eq, Bool.not_eq_true', Bool.not_eq_false', Bool.and_eq_true, Bool.or_eq_true, Bool.and_eq_false_iff, Bool.or_eq_false_iff] at h1) <;> simp -dsimp [h1, formedM]
  (first | refine Ask_b ?_ ?_ | refine Cnd_b ?_ ?_) <;> intro h2 <;> (try simp only [decide_eq_true_eq, decide_eq_false_iff_not, beq_iff_eq, beq_eq_false_iff_ne, bne_iff_ne, bne_eq_false_iff_eq, Bool.not_eq_true', Bool.not_eq_false', Bool.and_eq_true, Bool.or_eq_true, Bool.and_eq_false_iff, Bool.or_eq_false_iff] at h2) <;> simp -dsimp [h2, formedM, h1]
  (first | refine Ask_b ?_ ?_ | refine Cnd_b ?_ ?_) <;> intro h3 <;> (try simp only [decide_eq_true_eq, decide_eq_false_iff_not, beq_iff_eq, beq_eq_false_iff_ne, bne_iff_ne, bne_eq_false_iff_eq, Bool.not_eq_true', Bool.not_eq_false', Bool.and_eq_true, Bool.or_eq_true, Bool.and_eq_false_iff, Bool.or_eq_false_iff] at h3) <;> simp -dsimp [h3, formedM, h1, h2]
  (first | refine Ask_b ?_ ?_ | refine Cnd_b ?_ ?_) <;> intro h4 <;> (try simp only [decide_eq_true_eq, decide_eq_false_iff_not, beq_iff_eq, beq_eq_false_iff_ne, bne_iff_ne, bne_eq_false_iff_eq, Bool.not_eq_true', Bool.not_eq_false', Bool.and_eq_true, Bool.or_eq_true, Bool.and_eq_false_iff, Bool.or_eq_false_iff] at h4) <;> simp -dsimp [h4, formedM, h1, h2, h3]
  (first | refine Ask_b ?_ ?_ | refine Cnd_b ?_ ?_) <;> intro h5 <;> (try simp only [decide_eq_true_eq, decide_eq_false_iff_not, beq_iff_eq, beq_eq_false_iff_ne, bne_iff_ne, bne_eq_false_iff_eq, Bool.not_eq_true', Bool.not_eq_false', Bool.and_eq_true, Bool.or_eq_true, Bool.and_eq_false_iff, Bool.or_eq_false_iff] at h5) <;> simp -dsimp [h5, formedM, h1, h2, h3, h4]
  · (first | refine Ask_b ?_ ?_ | refine Cnd_b ?_ ?_) <;> intro h6 <;> (try simp only [decide_eq_true_eq, decide_eq_false_iff_not, beq_iff_eq, beq_eq_false_iff_ne, bne_iff_ne, bne_eq_false_iff_eq, Bool.not_eq_true', Bool.not_eq_false', Bool.and_eq_true, Bool.or_eq_true, Bool.and_eq_false_iff, Bool.or_eq_false_iff] at h6) <;> simp -dsimp [h6, formedM, h1, h2, h3, h4, h5]
    refine call_of (containsFunc_Term ks n_term_formed_1 [] (fun t => !formedM t) (fun x hx => formed1_ok x (ih x hx))) ?_
    have hf : formedM (.mk k 0 ks) = !(ks.any fun t => !formedM t) := by
      rw [formedM, if_neg h1, if_pos h2]
      simp [List.all_eq_not_any_not, Function.comp_def]
    subst h6
    simp -dsimp [hf]
  · refine call_of (containsFunc_Term ks n_term_formed_1 [] (fun t => !formedM t) (fun x hx => formed1_ok x (ih x hx))) ?_
    have hf : formedM (.mk k n ks) = !(ks.any fun t => !formedM t) := by
      rw [formedM, if_neg h1, if_pos h2, if_neg h3, if_neg h4, if_neg (fun h => h5 h.1)]
      simp [List.all_eq_not_any_not, Function.comp_def]
    simp -dsimp [hf]

def checkM (t : T) : Int := if 6000 < sizeM t then 4 else if 200 < depthM t then 5 else if formedM t then 0 else 1
theorem check_ok (t : T) : Pure Try.prog n_term_Check [.agg (cT t)] [.int .i64 (checkM t)] := by
  refine p_term_Check rfl fun hs => ?_
  simp -dsimp [x_term_Check, cT]
  refine call_of (tsize_ok t) ?_
  simp -dsimp
  (first | refine Ask_b ?_ ?_ | refine Cnd_b ?_ ?_) <;> intro h1 <;> (try simp only [decide_eq_true_eq, decide_eq_false_iff_not, beq_iff_eq, beq_eq_false_iff_ne, bne_iff_ne, bne_eq_false_iff_eq, Bool.not_eq_true', Bool.not_eq_false', Bool.and_eq_true, Bool.or_eq_true, Bool.and_eq_false_iff, Bool.or_eq_false_iff] at h1) <;> simp -dsimp [h1, checkM]
  refine call_of (tdepth_ok t) ?_
  simp -dsimp
  (first | refine Ask_b ?_ ?_ | refine Cnd_b ?_ ?_) <;> intro h2 <;> (try simp only [decide_eq_true_eq, decide_eq_false_iff_not, beq_iff_eq, beq_eq_false_iff_ne, bne_iff_ne, bne_eq_false_iff_eq, Bool.not_eq_true', Bool.not_eq_false', Bool.and_eq_true, Bool.or_eq_true, Bool.and_eq_false_iff, Bool.or_eq_false_iff] at h2) <;> simp -dsimp [h2, checkM, h1]
  refine call_of (formed_ok t) ?_
  simp -dsimp
  (first | refine Ask_b ?_ ?_ | refine Cnd_b ?_ ?_) <;> intro h3 <;> (try simp only [decide_eq_true_eq, decide_eq_false_iff_not, beq_iff_eq, beq_eq_false_iff_ne, bne_iff_ne, bne_eq_false_iff_eq, Bool.not_eq_true', Bool.not_eq_false', Bool.and_eq_true, Bool.or_eq_true, Bool.and_eq_false_iff, Bool.or_eq_false_iff] at h3) <;> simp -dsimp [h3, checkM, h1, h2]

mutual
def withinM : T → Int → Int → Bool
  | .mk k n ks, v, c => if k = 1 then decide (n < v) else if k = 2 then decide (n ≤ 6) else if k = 3 then decide (n < c) else withinL k v c 0 ks
def withinL (k v c : Int) : Nat → List T → Bool
  | _, [] => true
  | i, x :: xs => withinM x (w64 (v + bindsM k i)) c && withinL k v c (i + 1) xs
end
theorem withinL_iff (k v c : Int) : ∀ (l : List T) (i : Nat), withinL k v c i l = true ↔ ∀ (j : Nat) (hj : j < l.length), withinM l[j] (w64 (v + bindsM k (i + j : Nat))) c = true
  | [], i => by simp [withinL]
  | x :: xs, i => by
    rw [withinL, Bool.and_eq_true, withinL_iff k v c xs (i + 1)]
    constructor
    · rintro ⟨h1, h2⟩ j hj
      cases j with
      | zero => simpa using h1
      | succ j =>
        have := h2 j (by simpa using hj)
        have e : i + 1 + j = i + (j + 1) := by omega
        rw [e] at this
        simpa using this
    · intro h
      refine ⟨h 0 (by simp), fun j hj => ?_⟩
      have := h (j + 1) (by simpa using hj)
      have e : i + 1 + j = i + (j + 1) := by omega
      rw [e]
      simpa using this

theorem within_ok (t : T) : ∀ v c : Int, Pure Try.prog n_term_within [.agg (cT t), .int .i64 v, .int .i64 c] [.bool (withinM t v c)] := by
  refine T.ind (p := fun t => ∀ v c : Int, Pure Try.prog n_term_within [.agg (cT t), .int .i64 v, .int .i64 c] [.bool (withinM t v c)]) ?_ t
  intro k n ks ih v c
  refine p_term_within rfl fun hs => ?_
  have hl := kids_small (t := .mk k n ks) (fun d hd => hs d (by simp at hd; simp [hd]))
  simp [T.kids] at hl
  simp -dsimp [x_term_within, cT, T.kind, T.num, T.kids]
  (first | refine Ask_b ?_ ?_ | refine Cnd_b ?_ ?_) <;> intro h1 <;> (try simp only [decide_eq_true_eq, decide_eq_false_iff_not, beq_iff_eq, beq_eq_false_iff_ne, bne_iff_ne, bne_eq_false_iff_eq, Bool.not_eq_true', Bool.not_eq_false', Bool.and_eq_true, Bool.or_eq_true, Bool.and_eq_false_iff, Bool.or_eq_false_iff] at h1) <;> simp -dsimp [h1, withinM]
  (first | refine Ask_b ?_ ?_ | refine Cnd_b ?_ ?_) <;> intro h2 <;> (try simp only [decide_eq_true_eq, decide_eq_false_iff_not, beq_iff_eq, beq_eq_false_iff_ne, bne_iff_ne, bne_eq_false_iff_eq, Bool.not_eq_true', Bool.not_eq_false', Bool.and_eq_true, Bool.or_eq_true, Bool.and_eq_false_iff, Bool.or_eq_false_iff] at h2) <;> simp -dsimp [h2, withinM, h1]
  (first | refine Ask_b ?_ ?_ | refine Cnd_b ?_ ?_) <;> intro h3 <;> (try simp only [decide_eq_true_eq, decide_eq_false_iff_not, beq_iff_eq, beq_eq_false_iff_ne, bne_iff_ne, bne_eq_false_iff_eq, Bool.not_eq_true', Bool.not_eq_false', Bool.and_eq_true, Bool.or_eq_true, Bool.and_eq_false_iff, Bool.or_eq_false_iff] at h3) <;> simp -dsimp [h3, withinM, h1, h2]
  have hw : withinM (.mk k n ks) v c = withinL k v c 0 ks := by rw [withinM, if_neg h1, if_neg h2, if_neg h3]
  rw [hw]
  refine wp_upto ks.length (fun i st => st.s 3 = .ptr 3 1 0 ∧ st.h 3 = ⟨1, .box [.d (.int .i64 k), .d (.int .i64 n), .d (.sl 3 (ks.map eT))] false⟩ ∧ st.s 1 = .d (.int .i64 v) ∧ st.s 2 = .d (.int .i64 c) ∧
    st.s 29 = .d (.sl 3 (ks.map eT)) ∧ st.s 30 = .d (.int .i64 ks.length) ∧ st.s 31 = .d (.int .i64 i) ∧ ∀ (j : Nat) (hj : j < ks.length), j < i → withinM ks[j] (w64 (v + bindsM k j)) c = true) ?_ ?_
  · simp -dsimp
  · rintro i ⟨s, hp⟩ hi ⟨g1, g2, g3, g4, g5, g6, g7, g8⟩
    dsimp only at g1 g2 g3 g4 g5 g6 g7
    rcases Nat.lt_or_ge i ks.length with hlt | hge
    · have w1 : IntKind.i64.wrap ((i : Int) + 1) = (i : Int) + 1 := wrap_id (by omega) (by omega)
      simp -dsimp [g1, g2, g3, g4, g5, g6, g7, hlt, cT]
      refine call_of (binds_ok k i) ?_
      simp -dsimp [g1, g2, g3, g4, g5, g6, g7, hlt]
      refine call_of (ih ks[i] (List.getElem_mem _) (w64 (v + bindsM k i)) c) ?_
      simp -dsimp [g1, g2, g3, g4, g5, g6, g7, hlt]
      (first | refine Ask_b ?_ ?_ | refine Cnd_b ?_ ?_) <;> intro h4 <;> (try simp only [decide_eq_true_eq, decide_eq_false_iff_not, beq_iff_eq, beq_eq_false_iff_ne, bne_iff_ne, bne_eq_false_iff_eq, Bool.not_eq_true', Bool.not_eq_false', Bool.and_eq_true, Bool.or_eq_true, Bool.and_eq_false_iff, Bool.or_eq_false_iff] at h4) <;> simp -dsimp [h4, g1, g2, g3, g4, g5, g6, g7, hlt, w1]
      · cases hw : withinL k v c 0 ks with
        | false => rfl
        | true =>
          have := (withinL_iff k v c ks 0).1 hw i hlt
          rw [Nat.zero_add, h4] at this
          cases this
      · intro j hj hji
        rcases Nat.lt_or_ge j i with h | h
        · exact g8 j hj h
        · have : j = i := by omega
          subst this
          exact h4
    · have e : i = ks.length := by omega
      subst e
      have : withinL k v c 0 ks = true := (withinL_iff k v c ks 0).2 fun j hj => by simpa using g8 j hj hj
      simp -dsimp [g1, g2, g3, g4, g5, g6, g7, this]

def scopeM (t : T) (v c : Int) : Bool := if v < 0 then false else if c < 0 then false else if checkM t = 0 then withinM t (if 65536 < v then 65536 else v) c else false
theorem scope_ok (t : T) (v c : Int) : Pure Try.prog n_term_Scope [.agg (cT t), .int .i64 v, .int .i64 c] [.bool (scopeM t v c)] := by
  refine p_term_Scope rfl fun hs => ?_
  simp -dsimp [x_term_Scope, cT]
  (first | refine Ask_b ?_ ?_ | refine Cnd_b ?_ ?_) <;> intro h1 <;> (try simp only [decide_eq_true_eq, decide_eq_false_iff_not, beq_iff_eq, beq_eq_false_iff_ne, bne_iff_ne, bne_eq_false_iff_eq, Bool.not_eq_true', Bool.not_eq_false', Bool.and_eq_true, Bool.or_eq_true, Bool.and_eq_false_iff, Bool.or_eq_false_iff] at h1) <;> simp -dsimp [h1, scopeM]
  · (first | refine Ask_b ?_ ?_ | refine Cnd_b ?_ ?_) <;> intro h2 <;> (try simp only [decide_eq_true_eq, decide_eq_false_iff_not, beq_iff_eq, beq_eq_false_iff_ne, bne_iff_ne, bne_eq_false_iff_eq, Bool.not_eq_true', Bool.not_eq_false', Bool.and_eq_true, Bool.or_eq_true, Bool.and_eq_false_iff, Bool.or_eq_false_iff] at h2) <;> simp -dsimp [h2, scopeM, h1]
    · refine call_of (check_ok t) ?_
      simp -dsimp [h1, h2]
      (first | refine Ask_b ?_ ?_ | refine Cnd_b ?_ ?_) <;> intro h3 <;> (try simp only [decide_eq_true_eq, decide_eq_false_iff_not, beq_iff_eq, beq_eq_false_iff_ne, bne_iff_ne, bne_eq_false_iff_eq, Bool.not_eq_true', Bool.not_eq_false', Bool.and_eq_true, Bool.or_eq_true, Bool.and_eq_false_iff, Bool.or_eq_false_iff] at h3) <;> simp -dsimp [h3, scopeM, h1, h2]
      · refine call_of (within_ok t _ _) ?_
        have hS : scopeM t v c = withinM t (if 65536 < v then 65536 else v) c := by rw [scopeM, if_neg (by omega), if_neg (by omega), if_pos h3]
        rw [hS]
        simp -dsimp [h3]
end Ev
end Go.Proofs.Ytnkbhmafebngjaa
