/- InstOne. -/
import Derived.Test.YtdobcpejfgpgoaaI22
namespace Go.Proofs.Ytdobcpejfgpgoaa
namespace Ev
open Go
set_option maxRecDepth 100000
set_option linter.unusedSimpArgs false
set_option linter.unusedVariables false
attribute [local simp ↓] wx_skip wx_region wx_seq wx_block wx_exit wx_ret wx_cond wx_loop wo_nil wo_run wo_ask wx_draw wt_nil wt_run_t wt_run_f wt_ask_t wt_ask_f rb_mv rb_nilrow rb_pick rb_alloc rb_box rb_load rb_store rb_nilck rb_bin rb_binb rb_un rb_conv rb_mkf rb_mks rb_slice rb_faddr rb_fld rb_iaddr rb_ext rb_len rb_app rb_mm rb_build rb_bslice run_callC upd_eq upd_ne
attribute [local simp] runB_some runB_none Tch_nil Tch_cons Chk_t Cnd_t Cnd_f Ask_tt Ask_ff Ask_tf Ask_ft Ask_skip act ev_t ev_c evs sks caps2 touch_call List.cons_append List.nil_append putS binI binB int_add int_sub int_mul int_quo int_rem int_or int_eql int_neq int_lss int_leq int_gtr int_geq shiftD Ex.then Ex.inBlock Ends resL resX allD toD_d toD_fsl sk_d sk_fsl none_ loadA cut wrapA wrapD avc_d avc_agg avc_fsl avc_rsl avc_ptr avc_eptr avc_clo dc_agg dc_int dc_bool dc_str dc_sl dc_nilp dc_rp dc_clo on_int on_bool on_str on_sl on_nilp on_rp on_clo on_fsl on_rsl on_ptr on_eptr on_cloA newE elemsA elemsS storeA put frz_nil deep callee resA initS touchOp fits compat rd wr key1 buildA partsD partsK idx frz_at Body.frz lk_hit lk_miss toD6_agg toD5_agg toD4_agg toD6_clo toD5_clo toD4_clo toD6_ptr toD5_ptr toD4_ptr sk6_agg sk5_agg sk4_agg sk6_clo sk5_clo sk4_clo sk6_ptr sk5_ptr sk4_ptr toD_rsl sk_rsl
attribute [local simp] allD_map_d sks_map_d tk tn tks

/-- All but the first m put in: those that are still there are m variables. -/
def G (l : List T) (m : Nat) (n b : Int) : T :=
  if n < b then .mk 1 n [] else if n - b < l.length - m then match l[(l.length - 1 - (n - b)).toNat]? with
    | some a => mapT (mv (b + m)) a 0
    | none => zT
  else .mk 1 (n - (l.length - m)) []
theorem G_all (l : List T) (n b : Int) (hb : 0 ≤ b) : G l l.length n b = .mk 1 n [] := by
  rw [G]
  split
  · rfl
  rw [if_neg (by omega)]
  congr 1
  omega
theorem G_none (l : List T) (n b : Int) (hb : 0 ≤ b) (hb' : b ≤ 4194304) (hn : 0 ≤ n) (hn' : n ≤ 65535) (hl : l.length ≤ 100) : G l 0 n b = instF l 0 n b := by
  rw [G]
  by_cases h1 : n < b
  · rw [if_pos h1, instF_lo (by omega)]
  rw [if_neg h1]
  by_cases h2 : n - b < (l.length : Int) - ((0 : Nat) : Int)
  · have hw : whichT l.length 0 n b = l.length - 1 - (n - b) := by
      rw [whichT, if_neg (by omega)]
      omega
    rw [if_pos h2, instF, hw, if_pos (by omega)]
    cases l[((l.length : Int) - 1 - (n - b)).toNat]? with
    | none => rfl
    | some a =>
      simp only
      rw [moved_is, w64_id (n := 0 + b) (by omega) (by omega)]
      congr 2
      omega
  · rw [if_neg h2, instF_hi (by omega) (by omega) (by omega)]
    congr 1
/-- What is moved, one variable put in below it, is moved one less. -/
theorem one_drop (a t : T) (hf : formedM t = true) (ht : nodes t ≤ 1048576) (k b : Int) (hb : 0 ≤ b) (hk : b ≤ k) (hk' : k ≤ 4194500) : mapT (instF [a] 0) (mapT (mv (k + 1)) t 0) b = mapT (mv k) t 0 := by
  have := map_map (instF [a] 0) (mv (k + 1)) (mv k) b (fun n d h1 h2 h3 h4 => by
    by_cases c : n < d
    · rw [mv_lo c, map_var, one_lo (by omega), mv_lo c]
    · rw [mv_hi (by omega) h1 (by omega) (by omega) (by omega), map_var, one_hi (by omega) (by omega) (by omega), mv_hi (by omega) h1 (by omega) (by omega) (by omega)]
      congr 1
      omega) t 0 hf (by omega) (by omega)
  rwa [Int.zero_add] at this
theorem one_step (l : List T) (hl : ∀ x ∈ l, formedM x = true ∧ nodes x ≤ 1048576) (hn : l.length ≤ 100) (m : Nat) (hm : m < l.length) (t : T) (hf : formedM t = true) (ht : nodes t ≤ 1048576) :
    mapT (instF [mapT (shF 0 m) l[m] 0] 0) (mapT (G l (m + 1)) t 0) 0 = mapT (G l m) t 0 := by
  have hlm := hl l[m] (List.getElem_mem hm)
  have := map_map (instF [mapT (shF 0 m) l[m] 0] 0) (G l (m + 1)) (G l m) 0 (fun n b h1 h2 h3 h4 => by
    rw [Int.add_zero, G, G]
    by_cases c1 : n < b
    · rw [if_pos c1, if_pos c1, map_var, one_lo c1]
    rw [if_neg c1, if_neg c1]
    by_cases c2 : n - b < (l.length : Int) - ((m + 1 : Nat) : Int)
    · have hlt : (l.length - 1 - (n - b)).toNat < l.length := by omega
      have hx := hl _ (List.getElem_mem hlt)
      rw [if_pos c2, if_pos (by omega), List.getElem?_eq_getElem hlt]
      simp only
      have e : b + ((m + 1 : Nat) : Int) = (b + m) + 1 := by omega
      rw [e, one_drop _ _ hx.1 hx.2 (b + m) b h3 (by omega) (by omega)]
    rw [if_neg c2]
    by_cases c3 : n - b < (l.length : Int) - (m : Int)
    · have e1 : (l.length - 1 - (n - b)).toNat = m := by omega
      have e2 : n - ((l.length : Int) - ((m + 1 : Nat) : Int)) = b := by omega
      rw [if_pos c3, e1, e2, List.getElem?_eq_getElem hm, map_var, one_at h3 (by omega)]
      simp only
      rw [sh_mv (by omega) (by omega) _ hlm.1 0 (by omega) (by omega), mv_mv0 _ hlm.1 m b 0 (by omega) (by omega) h3 (by omega) (by omega) (by omega), Int.add_comm]
    · rw [if_neg c3, map_var, one_hi (by omega) (by omega) h3]
      congr 1
      omega) t 0 hf (by omega) (by omega)
  rwa [Int.add_zero] at this
theorem one_done (l : List T) (hn : l.length ≤ 100) (t : T) (hf : formedM t = true) (ht : nodes t ≤ 1048576) : mapT (G l 0) t 0 = mapT (instF l 0) t 0 :=
  map_congr _ _ (fun n b h1 h2 h3 h4 => G_none l n b h3 h4 h1 h2 hn) t 0 hf (by omega) (by omega)
theorem one_start (l : List T) (t : T) (hf : formedM t = true) (ht : nodes t ≤ 1048576) : mapT (G l l.length) t 0 = t :=
  map_id _ (fun n b _ _ h3 _ => G_all l n b h3) t 0 hf (by omega) (by omega)

theorem ones_law (t : T) (l : List T) (ht : nodes t ≤ 1048576) (hl : ∀ x ∈ l, nodes x ≤ 1048576) (hn : l.length ≤ 1048576) :
    Pure Try.prog n_porismlaw05_InstOne [.agg (cT t), eTs l] [.bool true] := by
  refine p_porismlaw05_InstOne rfl fun hs => ?_
  simp -dsimp [x_porismlaw05_InstOne, cT, eTs]
  refine call_of (heavy1 t) ?_
  simp -dsimp
  (first | refine Ask_b ?_ ?_ | refine Cnd_b ?_ ?_) <;> intro h1 <;> (try simp only [decide_eq_true_eq, decide_eq_false_iff_not, beq_iff_eq, beq_eq_false_iff_ne, bne_iff_ne, bne_eq_false_iff_eq, Bool.not_eq_true', Bool.not_eq_false', Bool.and_eq_true, Bool.or_eq_true, Bool.and_eq_false_iff, Bool.or_eq_false_iff] at h1) <;> simp -dsimp [h1]
  refine call_of (heavy02_ok l) ?_
  simp -dsimp [h1]
  (first | refine Ask_b ?_ ?_ | refine Cnd_b ?_ ?_) <;> intro h2 <;> (try simp only [decide_eq_true_eq, decide_eq_false_iff_not, beq_iff_eq, beq_eq_false_iff_ne, bne_iff_ne, bne_eq_false_iff_eq, Bool.not_eq_true', Bool.not_eq_false', Bool.and_eq_true, Bool.or_eq_true, Bool.and_eq_false_iff, Bool.or_eq_false_iff] at h2) <;> simp -dsimp [h2, h1]
  (first | refine Ask_b ?_ ?_ | refine Cnd_b ?_ ?_) <;> intro h3 <;> (try simp only [decide_eq_true_eq, decide_eq_false_iff_not, beq_iff_eq, beq_eq_false_iff_ne, bne_iff_ne, bne_eq_false_iff_eq, Bool.not_eq_true', Bool.not_eq_false', Bool.and_eq_true, Bool.or_eq_true, Bool.and_eq_false_iff, Bool.or_eq_false_iff] at h3) <;> simp -dsimp [h3, h1, h2]
  have hlen : (l.length : Int) ≤ 6 := by omega
  refine call_of (inst_d t l 0 ht hl hn) ?_
  simp -dsimp [dT]
  (first | refine Ask_b ?_ ?_ | refine Cnd_b ?_ ?_) <;> intro h4 <;> (try simp only [decide_eq_true_eq, decide_eq_false_iff_not, beq_iff_eq, beq_eq_false_iff_ne, bne_iff_ne, bne_eq_false_iff_eq, Bool.not_eq_true', Bool.not_eq_false', Bool.and_eq_true, Bool.or_eq_true, Bool.and_eq_false_iff, Bool.or_eq_false_iff] at h4) <;> simp -dsimp [h4, h1, h2, h3]
  · refine call_of wakes05_ok ?_
    simp -dsimp
  obtain ⟨r1, r2, r3⟩ := inst_right ht hl h4
  obtain ⟨p1, p2, p3, p4⟩ := (inst_iff ht hl).1 h4
  obtain ⟨q1, q2, q3⟩ := (openE_iff _ _ _).1 p1
  have hf := formed_of q1
  have hX := inst_at h4
  have hlf : ∀ x ∈ l, formedM x = true ∧ nodes x ≤ 1048576 := fun x hx => ⟨formed_of (q2 x hx), hl x hx⟩
  generalize instT t l 0 = X at r1 r2 r3 hX ⊢
  have w0 : IntKind.i64.wrap ((l.length : Int) - 1) = (l.length : Int) - 1 := wrap_id (by omega) (by omega)
  simp -dsimp [w0]
  refine wp_upto l.length (fun i st => st.s 1 = .d (.sl 3 (l.map eT)) ∧ st.s 5 = .ptr 5 1 0 ∧ st.h 5 = ⟨1, .box [.d (.int .i64 X.kind), .d (.int .i64 X.num), .d (.sl 3 (X.kids.map eT))] false⟩ ∧
    st.s 8 = .d (.int .i64 ((l.length : Int) - 1 - i)) ∧
    ∃ (v : Nat) (Y : T), st.s 7 = .ptr 7 v 0 ∧ st.h 7 = ⟨v, .box [.d (.int .i64 Y.kind), .d (.int .i64 Y.num), .d (.sl 3 (Y.kids.map eT))] false⟩ ∧ Y = mapT (G l (l.length - i)) t 0 ∧ checkM Y = 0 ∧ nodes Y ≤ 1048576) ?_ ?_
  · simp -dsimp
    exact ⟨t, ⟨rfl, rfl, rfl⟩, (one_start l t hf ht).symm, q1, ht⟩
  · rintro i ⟨s, hp⟩ hi ⟨g1, g2, g3, g4, v, Y, g5, g6, g7, g8, g9⟩
    dsimp only at g1 g2 g3 g4 g5 g6
    rcases Nat.lt_or_ge i l.length with hlt | hge
    · obtain ⟨m, hm⟩ : ∃ m : Nat, l.length = m + 1 + i := ⟨l.length - 1 - i, by omega⟩
      have hmi : (l.length : Int) - 1 - i = (m : Int) := by omega
      rw [hmi] at g4
      have hml : m < l.length := by omega
      have w1 : IntKind.i64.wrap ((m : Int) - 1) = (l.length : Int) - 1 - ((i : Int) + 1) := by rw [wrap_id (by omega) (by omega)]; omega
      have hlm := hlf l[m] (List.getElem_mem hml)
      have q2m := q2 l[m] (List.getElem_mem hml)
      simp -dsimp [g1, g2, g3, g4, g5, g6, hml, cT]
      refine call_of (shift_d l[m] m 0 hlm.2) ?_
      simp -dsimp [g1, g2, g3, g4, g5, g6, dT]
      (first | refine Ask_b ?_ ?_ | refine Cnd_b ?_ ?_) <;> intro h5 <;> (try simp only [decide_eq_true_eq, decide_eq_false_iff_not, beq_iff_eq, beq_eq_false_iff_ne, bne_iff_ne, bne_eq_false_iff_eq, Bool.not_eq_true', Bool.not_eq_false', Bool.and_eq_true, Bool.or_eq_true, Bool.and_eq_false_iff, Bool.or_eq_false_iff] at h5) <;> simp -dsimp [h5, g1, g2, g3, g4, g5, g6]
      · refine call_of wakes05_ok ?_
        simp -dsimp
      obtain ⟨v1, v2, v3⟩ := shift_right hlm.2 h5
      have hA := shift_at h5
      generalize shiftT l[m] m 0 = A at v1 v2 v3 hA ⊢
      refine call_of (inst_one Y A 0 g9 (by omega)) ?_
      simp -dsimp [g1, g2, g3, g4, g5, g6, dT]
      have hO : openE Y [A] 0 = 0 := (openE_iff _ _ _).2 ⟨g8, by simpa using v1, by omega⟩
      (first | refine Ask_b ?_ ?_ | refine Cnd_b ?_ ?_) <;> intro h6 <;> (try simp only [decide_eq_true_eq, decide_eq_false_iff_not, beq_iff_eq, beq_eq_false_iff_ne, bne_iff_ne, bne_eq_false_iff_eq, Bool.not_eq_true', Bool.not_eq_false', Bool.and_eq_true, Bool.or_eq_true, Bool.and_eq_false_iff, Bool.or_eq_false_iff] at h6) <;> simp -dsimp [h6, g1, g2, g3, g4, g5, g6, w1]
      · have he := inst_err hO
        have he2 : instE Y [A] 0 = 4 ∨ instE Y [A] 0 = 5 ∨ instE Y [A] 0 = 6 := by omega
        rcases he2 with e | e | e <;> rw [e] <;> simp -dsimp <;> refine call_of wakes05_ok ?_ <;> simp -dsimp
      obtain ⟨z1, z2, z3⟩ := inst_right g9 (by intro x hx; simp at hx; subst hx; omega) h6
      have hs1 := one_step l hlf (by omega) m hml t hf ht
      have em : l.length - i = m + 1 := by omega
      have em2 : l.length - (i + 1) = m := by omega
      rw [em] at g7
      rw [em2]
      refine ⟨hlt, _, ⟨rfl, rfl, rfl⟩, ?_, z1, by omega⟩
      rw [inst_at h6, hA, g7, hs1]
    · have e : i = l.length := by omega
      subst e
      have c1 : ¬ (l.length : Int) ≤ (l.length : Int) - 1 := by omega
      rw [Nat.sub_self, one_done l (by omega) t hf ht, ← hX] at g7
      subst g7
      simp -dsimp [g1, g2, g3, g4, g5, g6, c1]
      refine call_of (keepTerm_ok Y) ?_
      simp -dsimp
      refine call_of wakes05_ok ?_
      simp -dsimp
end Ev
end Go.Proofs.Ytdobcpejfgpgoaa
