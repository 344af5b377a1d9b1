/- InstScopes: what the law computes. -/
import Derived.Test.YtdobcpejfgpgoaaI15
namespace Go.Proofs.Ytdobcpejfgpgoaa
namespace Ev
open Go
set_option maxRecDepth 100000
set_option linter.unusedSimpArgs false
set_option linter.unusedVariables false
attribute [local simp ↓] wx_skip wx_region wx_seq wx_block wx_exit wx_ret wx_cond wx_loop wo_nil wo_run wo_ask wx_draw wt_nil wt_run_t wt_run_f wt_ask_t wt_ask_f rb_mv rb_nilrow rb_pick rb_alloc rb_box rb_load rb_store rb_nilck rb_bin rb_binb rb_un rb_conv rb_mkf rb_mks rb_slice rb_faddr rb_fld rb_iaddr rb_ext rb_len rb_app rb_mm rb_build rb_bslice run_callC upd_eq upd_ne
attribute [local simp] runB_some runB_none Tch_nil Tch_cons Chk_t Cnd_t Cnd_f Ask_tt Ask_ff Ask_tf Ask_ft Ask_skip act ev_t ev_c evs sks caps2 touch_call List.cons_append List.nil_append putS binI binB int_add int_sub int_mul int_quo int_rem int_or int_eql int_neq int_lss int_leq int_gtr int_geq shiftD Ex.then Ex.inBlock Ends resL resX allD toD_d toD_fsl sk_d sk_fsl none_ loadA cut wrapA wrapD avc_d avc_agg avc_fsl avc_rsl avc_ptr avc_eptr avc_clo dc_agg dc_int dc_bool dc_str dc_sl dc_nilp dc_rp dc_clo on_int on_bool on_str on_sl on_nilp on_rp on_clo on_fsl on_rsl on_ptr on_eptr on_cloA newE elemsA elemsS storeA put frz_nil deep callee resA initS touchOp fits compat rd wr key1 buildA partsD partsK idx frz_at Body.frz lk_hit lk_miss toD6_agg toD5_agg toD4_agg toD6_clo toD5_clo toD4_clo toD6_ptr toD5_ptr toD4_ptr sk6_agg sk5_agg sk4_agg sk6_clo sk5_clo sk4_clo sk6_ptr sk5_ptr sk4_ptr toD_rsl sk_rsl
attribute [local simp] allD_map_d sks_map_d tk tn tks

theorem sc_false (l : List T) (hl : ∀ x ∈ l, freeT x 0 ≤ 10000) (t : T) : ∀ b : Int, 0 ≤ b → b + nodes t ≤ 50000 → scI l 0 t b = false := by
  refine T.ind (p := fun t => ∀ b : Int, 0 ≤ b → b + nodes t ≤ 50000 → scI l 0 t b = false) ?_ t
  intro k n ks ih b h0 hb
  rw [scI]
  by_cases h1 : k = 1
  · rw [if_pos h1]
    split
    · rename_i a ha
      have hmem : a ∈ l := by
        split at ha
        · exact List.mem_of_getElem? ha
        · cases ha
      have := hl a hmem
      rw [overB, Bool.and_eq_false_iff]
      right
      rw [decide_eq_false_iff_not]
      omega
    · rfl
  · rw [if_neg h1]
    have go : ∀ (xs : List T) (i : Nat), (∀ x ∈ xs, x ∈ ks) → scL l 0 k b i xs = false := by
      intro xs
      induction xs with
      | nil => intro i _; rw [scL]
      | cons x xs ihx =>
        intro i hm
        have hx := hm x (by simp)
        have hxn := nodes_kid (k := k) (n := n) hx
        have hbl := binds_le k i
        rw [scL, ih x hx _ (by omega) (by omega), ihx (i + 1) fun y hy => hm y (by simp [hy])]
        rfl
    exact go ks 0 fun x hx => hx
theorem wi_var {n w c : Int} (h : n < w) : wiT (.mk 1 n []) w c = true := by rw [wiT, if_pos rfl]; simpa using h
theorem wi_moved {a : T} {V b : Int} (hf : formedM a = true) (hn : nodes a ≤ 1048576) (hb : 0 ≤ b) (hb' : b ≤ 4194304) (hV : 0 ≤ V) (h : wiT a V 65536 = true) : wiT (mapT (mv b) a 0) (V + b) 65536 = true := by
  have := wi_map (mv b) 65536 V (V + b) (fun n c h1 h2 h3 h4 h5 => ?_) a 0 hf (by omega) (by omega) (by rw [Int.add_zero]; exact h)
  · rw [Int.add_zero] at this; exact this
  · by_cases c1 : n < c
    · rw [mv_lo c1]; exact wi_var (by omega)
    · rw [mv_hi (by omega) h1 (by omega) hb (by omega)]; exact wi_var (by omega)
theorem inst_scope {t : T} {l : List T} {V : Int} (hV : 0 ≤ V) (hV' : V ≤ 65536) (ht : nodes t ≤ 1048576) (ft : formedM t = true) (hl : ∀ x ∈ l, formedM x = true ∧ nodes x ≤ 1048576 ∧ wiT x V 65536 = true) (hn : l.length ≤ 65536) (hw : wiT t (V + l.length) 65536 = true) :
    wiT (mapT (instF l 0) t 0) V 65536 = true := by
  have := wi_map (instF l 0) 65536 (V + l.length) V (fun n b h1 h2 h3 h4 h5 => ?_) t 0 ft (by omega) (by omega) (by rw [Int.add_zero]; exact hw)
  · rw [Int.add_zero] at this; exact this
  · rw [instF]
    by_cases hW : 0 ≤ whichT l.length 0 n b
    · have hlt : (whichT l.length 0 n b).toNat < l.length := by
        have h6 := hW
        rw [whichT] at h6 ⊢
        split at h6
        · omega
        · rename_i h7
          rw [if_neg h7]
          omega
      generalize (whichT l.length 0 n b).toNat = m at hlt
      rw [if_pos hW, List.getElem?_eq_getElem hlt]
      obtain ⟨a1, a2, a3⟩ := hl l[m] (List.getElem_mem _)
      show wiT (movedT (w64 (0 + b)) l[m]) (V + b) 65536 = true
      rw [w64_id (by omega) (by omega), Int.zero_add, moved_is]
      exact wi_moved a1 a2 h3 h4 hV a3
    · rw [if_neg hW]
      have h6 := hW
      rw [whichT] at h6
      by_cases c : 0 + b ≤ n
      · rw [if_pos c]
        have : (l.length : Int) ≤ n - (0 + b) := by
          split at h6
          · rename_i h7; omega
          · omega
        rw [w64_id (by omega) (by omega)]
        exact wi_var (by omega)
      · rw [if_neg c]
        exact wi_var (by omega)
theorem scopes_law (t : T) (l : List T) (v : Int) (ht : nodes t ≤ 1048576) (hl : ∀ x ∈ l, nodes x ≤ 1048576) (hn : l.length ≤ 1048576) :
    Pure Try.prog n_porismlaw05_InstScopes [.agg (cT t), eTs l, .int .i64 v] [.bool true] := by
  refine p_porismlaw05_InstScopes rfl fun hs => ?_
  simp -dsimp [x_porismlaw05_InstScopes, cT, eTs]
  refine call_of (heavy1 t) ?_
  simp -dsimp
  (first | refine Ask_b ?_ ?_ | refine Cnd_b ?_ ?_) <;> intro h1 <;> (try simp only [decide_eq_true_eq, decide_eq_false_iff_not, beq_iff_eq, beq_eq_false_iff_ne, bne_iff_ne, bne_eq_false_iff_eq, Bool.not_eq_true', Bool.not_eq_false', Bool.and_eq_true, Bool.or_eq_true, Bool.and_eq_false_iff, Bool.or_eq_false_iff] at h1) <;> simp -dsimp [h1]
  refine call_of (heavy02_ok l) ?_
  simp -dsimp [h1]
  (first | refine Ask_b ?_ ?_ | refine Cnd_b ?_ ?_) <;> intro h2 <;> (try simp only [decide_eq_true_eq, decide_eq_false_iff_not, beq_iff_eq, beq_eq_false_iff_ne, bne_iff_ne, bne_eq_false_iff_eq, Bool.not_eq_true', Bool.not_eq_false', Bool.and_eq_true, Bool.or_eq_true, Bool.and_eq_false_iff, Bool.or_eq_false_iff] at h2) <;> simp -dsimp [h2, h1]
  (first | refine Ask_b ?_ ?_ | refine Cnd_b ?_ ?_) <;> intro h3 <;> (try simp only [decide_eq_true_eq, decide_eq_false_iff_not, beq_iff_eq, beq_eq_false_iff_ne, bne_iff_ne, bne_eq_false_iff_eq, Bool.not_eq_true', Bool.not_eq_false', Bool.and_eq_true, Bool.or_eq_true, Bool.and_eq_false_iff, Bool.or_eq_false_iff] at h3) <;> simp -dsimp [h3, h1, h2]
  obtain ⟨hv0, hv1⟩ := rem_le v 20 (by omega) (by omega)
  generalize IntKind.i64.wrap ((IntKind.u64.wrap v).tmod 20) = V at hv0 hv1 ⊢
  have hlen : (l.length : Int) ≤ 10 := by omega
  refine wp_upto l.length (fun i st => st.s 1 = .d (.sl 3 (l.map eT)) ∧ st.s 2 = .d (.int .i64 V) ∧ st.s 3 = .ptr 3 1 0 ∧ st.h 3 = ⟨1, .box [.d (.int .i64 t.kind), .d (.int .i64 t.num), .d (.sl 3 (t.kids.map eT))] false⟩ ∧ st.s 7 = .d (.int .i64 i) ∧
    ∀ (j : Nat) (hj : j < l.length), j < i → scopeM l[j] V 65536 = true) ?_ ?_
  · simp -dsimp
  · rintro i ⟨s, hp⟩ hi ⟨g1, g2, g3, g4, g5, g6⟩
    dsimp only at g1 g2 g3 g4 g5
    rcases Nat.lt_or_ge i l.length with hlt | hge
    · have w1 : IntKind.i64.wrap ((i : Int) + 1) = (i : Int) + 1 := wrap_id (by omega) (by omega)
      simp -dsimp [g1, g2, g3, g4, g5, hlt, cT]
      refine call_of (scope_ok l[i] V 65536) ?_
      simp -dsimp [g1, g2, g3, g4, g5, hlt]
      (first | refine Ask_b ?_ ?_ | refine Cnd_b ?_ ?_) <;> intro h4 <;> (try simp only [decide_eq_true_eq, decide_eq_false_iff_not, beq_iff_eq, beq_eq_false_iff_ne, bne_iff_ne, bne_eq_false_iff_eq, Bool.not_eq_true', Bool.not_eq_false', Bool.and_eq_true, Bool.or_eq_true, Bool.and_eq_false_iff, Bool.or_eq_false_iff] at h4) <;> simp -dsimp [h4, g1, g2, g3, g4, g5, hlt, w1]
      · refine call_of wakes05_ok ?_
        simp -dsimp
      · intro j hj hji
        rcases Nat.lt_or_ge j i with h | h
        · exact g6 j hj h
        · have : j = i := by omega
          subst this
          exact h4
    · have e : i = l.length := by omega
      subst e
      have hsc : ∀ x ∈ l, checkM x = 0 ∧ wiT x V 65536 = true := fun x hx => by
        obtain ⟨j, hj, rfl⟩ := List.mem_iff_getElem.1 hx
        exact (scope_is hv0 (by omega) (hl _ hx)).1 (g6 j hj hj)
      have w2 : IntKind.i64.wrap (V + (l.length : Int)) = V + (l.length : Int) := wrap_id (by omega) (by omega)
      simp -dsimp [g1, g2, g3, g4, g5, w2]
      refine call_of (scope_ok t (V + l.length) 65536) ?_
      simp -dsimp [g1, g2, g3, g4, g5]
      (first | refine Ask_b ?_ ?_ | refine Cnd_b ?_ ?_) <;> intro h4 <;> (try simp only [decide_eq_true_eq, decide_eq_false_iff_not, beq_iff_eq, beq_eq_false_iff_ne, bne_iff_ne, bne_eq_false_iff_eq, Bool.not_eq_true', Bool.not_eq_false', Bool.and_eq_true, Bool.or_eq_true, Bool.and_eq_false_iff, Bool.or_eq_false_iff] at h4) <;> simp -dsimp [h4, g1, g2, g3, g4, g5]
      · refine call_of wakes05_ok ?_
        simp -dsimp
      obtain ⟨t1, t2⟩ := (scope_is (by omega) (by omega) ht).1 h4
      obtain ⟨u1, u2, u3⟩ := (check_iff ht).1 t1
      have hO : openE t l 0 = 0 := (openE_iff _ _ _).2 ⟨t1, fun x hx => (hsc x hx).1, by omega⟩
      have hS := openSt_is hO ht hl
      have hf : ∀ x ∈ l, formedM x = true ∧ nodes x ≤ 6000 := fun x hx => by
        obtain ⟨a1, _, a3⟩ := (check_iff (hl x hx)).1 (hsc x hx).1
        exact ⟨a3, a1⟩
      have hsf : scI l 0 t 0 = false := sc_false l (fun x hx => by
        have := wi_free 65536 x V 0 (hf x hx).1 (by omega) hv0 (hsc x hx).2
        have := (hf x hx).2
        omega) t 0 (by omega) (by omega)
      have hW := inst_scope hv0 (by omega) ht u3 (fun x hx => ⟨(hf x hx).1, hl x hx, (hsc x hx).2⟩) (by omega) t2
      have hz := sizeOf_ok t l 0 (by omega) (fun x hx => by have := hl x hx; omega) (by omega)
      rw [if_pos hO] at hz
      refine call_of hz ?_
      have hE : instE t l 0 = if (openSt t l 0).sc then 6 else if 6000 < (openSt t l 0).sz then 4 else if 200 < (openSt t l 0).dp then 5 else 0 := by rw [instE, if_pos hO]
      have hsz : (openSt t l 0).sz = min (nodes (mapT (instF l 0) t 0) : Int) mostI := by rw [hS]
      have hdp : (openSt t l 0).dp = depthN (mapT (instF l 0) t 0) := by rw [hS]
      have hscc : (openSt t l 0).sc = false := by rw [hS]; exact hsf
      rw [hscc] at hE
      simp only [Bool.false_eq_true, if_false] at hE
      have hM : mostI = 1099511627776 := rfl
      generalize openSt t l 0 = S at hE hsz hdp ⊢
      simp -dsimp [g1, g2, g3, g4, g5]
      refine call_of (inst_ok t l 0 (by omega) (fun x hx => by have := hl x hx; omega) (by omega)) ?_
      by_cases c1 : 6000 < S.sz
      · rw [if_pos c1] at hE
        have hT : instT t l 0 = zT := by rw [instT, hE]; rfl
        rw [hE, hT]
        simp -dsimp [zT, cT, c1]
        refine call_of wakes05_ok ?_
        simp -dsimp
      rw [if_neg c1] at hE
      by_cases c2 : 200 < S.dp
      · rw [if_pos c2] at hE
        have hT : instT t l 0 = zT := by rw [instT, hE]; rfl
        rw [hE, hT]
        simp -dsimp [zT, cT, c1]
        refine call_of wakes05_ok ?_
        simp -dsimp
      rw [if_neg c2] at hE
      obtain ⟨r1, r2, r3⟩ := inst_right ht hl hE
      have hX := inst_at hE
      rw [← hX] at hW hsz
      rw [hE]
      generalize instT t l 0 = X at r1 r2 r3 hW hsz
      have f1 := tsize_ok X
      rw [size_is X (by omega)] at f1
      have hq : S.sz = nodes X := by omega
      simp -dsimp [cT, c1]
      refine call_of f1 ?_
      simp -dsimp [hq, g1, g2, g3, g4, g5]
      have hsx := scope_ok X V 65536
      rw [(scope_is hv0 (by omega) (by omega)).2 ⟨r1, hW⟩] at hsx
      refine call_of hsx ?_
      simp -dsimp
      refine call_of wakes05_ok ?_
      simp -dsimp
end Ev
end Go.Proofs.Ytdobcpejfgpgoaa
