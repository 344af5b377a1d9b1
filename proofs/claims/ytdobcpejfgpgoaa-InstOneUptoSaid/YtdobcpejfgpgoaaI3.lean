/- Substitution: what is reckoned ahead. -/
import Derived.Test.YtdobcpejfgpgoaaI2
namespace Go.Proofs.Ytdobcpejfgpgoaa
namespace Ev
open Go
set_option maxRecDepth 100000
set_option linter.unusedSimpArgs false
set_option linter.unusedVariables false
attribute [local simp ↓] wx_skip wx_region wx_seq wx_block wx_exit wx_ret wx_cond wx_loop wo_nil wo_run wo_ask wx_draw wt_nil wt_run_t wt_run_f wt_ask_t wt_ask_f rb_mv rb_nilrow rb_pick rb_alloc rb_box rb_load rb_store rb_nilck rb_bin rb_binb rb_un rb_conv rb_mkf rb_mks rb_slice rb_faddr rb_fld rb_iaddr rb_ext rb_len rb_app rb_mm rb_build rb_bslice run_callC upd_eq upd_ne
attribute [local simp] runB_some runB_none Tch_nil Tch_cons Chk_t Cnd_t Cnd_f Ask_tt Ask_ff Ask_tf Ask_ft Ask_skip act ev_t ev_c evs sks caps2 touch_call List.cons_append List.nil_append putS binI binB int_add int_sub int_mul int_quo int_rem int_or int_eql int_neq int_lss int_leq int_gtr int_geq shiftD Ex.then Ex.inBlock Ends resL resX allD toD_d toD_fsl sk_d sk_fsl none_ loadA cut wrapA wrapD avc_d avc_agg avc_fsl avc_rsl avc_ptr avc_eptr avc_clo dc_agg dc_int dc_bool dc_str dc_sl dc_nilp dc_rp dc_clo on_int on_bool on_str on_sl on_nilp on_rp on_clo on_fsl on_rsl on_ptr on_eptr on_cloA newE elemsA elemsS storeA put frz_nil deep callee resA initS touchOp fits compat rd wr key1 buildA partsD partsK idx frz_at Body.frz lk_hit lk_miss toD6_agg toD5_agg toD4_agg toD6_clo toD5_clo toD4_clo toD6_ptr toD5_ptr toD4_ptr sk6_agg sk5_agg sk4_agg sk6_clo sk5_clo sk4_clo sk6_ptr sk5_ptr sk4_ptr toD_rsl sk_rsl
attribute [local simp] allD_map_d sks_map_d tk tn tks initA EndsM

structure St3 where
  sc : Bool
  sz : Int
  dp : Int
def mn (a b : Int) : Int := if b < a then b else a
def mostI : Int := 1099511627776
mutual
def lookT (l : List Ag) (u : Int) : T → Int → Int → St3 → St3
  | .mk k n ks, b, d, st =>
    if k = 1 then
      if 0 ≤ whichT l.length u n b then match l[(whichT l.length u n b).toNat]? with
        | some a => ⟨if st.sc then true else if 0 ≤ a.free then decide (65535 < w64 (w64 (a.free + u) + b)) else false, mn (w64 (st.sz + a.size)) mostI, mx st.dp (w64 (d + a.depth))⟩
        | none => st
      else ⟨st.sc, mn (w64 (st.sz + 1)) mostI, mx st.dp (w64 (d + 1))⟩
    else lookL l u k b d 0 ⟨st.sc, mn (w64 (st.sz + 1)) mostI, mx st.dp (w64 (d + 1))⟩ ks
def lookL (l : List Ag) (u k b d : Int) : Nat → St3 → List T → St3
  | _, st, [] => st
  | i, st, x :: xs => lookL l u k b d (i + 1) (lookT l u x (b + bindsM k i) (w64 (d + 1)) st) xs
end
theorem lookL_snoc (l : List Ag) (u k b d : Int) : ∀ (xs : List T) (i : Nat) (st : St3) (j : Nat) (h : j < xs.length), lookL l u k b d i st (xs.take (j + 1)) = lookT l u xs[j] (b + bindsM k (i + j : Nat)) (w64 (d + 1)) (lookL l u k b d i st (xs.take j))
  | x :: xs, i, st, 0, h => by simp [lookL]
  | x :: xs, i, st, j + 1, h => by
    simp only [List.take_succ_cons, lookL, List.getElem_cons_succ]
    rw [lookL_snoc l u k b d xs (i + 1) _ j (by simpa using h)]
    congr 3
    omega

def jobC (c0 : AV) (u : Int) (st : St3) : List AV := [c0, .d (.int .i64 u), .d (.bool st.sc), .d (.int .i64 st.sz), .d (.int .i64 st.dp)]
def jobH (k v : Nat) (b : Body) (e : Ent) : Nat → Ent := fun q => if q = k then ⟨v, b⟩ else e
theorem small_of {G : GS} {h : Nat → Ent} {w : World} {v : Value} {d : D} (r : ARel G h w v (.d d)) : small 8 d := r.d_inv.small 8

/-- An argument told cell by cell is the argument. -/
theorem agg_arg {P : Program} {g : FuncId} {K : List Nat} {h0 h1 : Nat → Ent} {rs : List D} {pre post : List AV} {cs : List D} (hm : MutC P g (pre ++ .d (.agg cs) :: post) K h0 rs h1) : MutC P g (pre ++ .agg (cs.map .d) :: post) K h0 rs h1 := by
  obtain ⟨a1, a2, a3⟩ := hm
  refine ⟨a1, a2, fun G h w vs b1 b2 b3 b4 b5 => a3 G h w vs b1 b2 b3 (by simpa using b4) fun j a hj => ?_⟩
  rw [List.getElem?_append] at hj
  split at hj
  · rename_i hlt
    exact b5 j a (by rw [List.getElem?_append_left hlt]; exact hj)
  · rename_i hge
    cases hjj : j - pre.length with
    | zero =>
      rw [hjj] at hj
      simp at hj
      subst hj
      have := b5 j (.agg (cs.map .d)) (by rw [List.getElem?_append_right (by omega), hjj]; rfl)
      generalize hq : vs.getD j undef = q at this ⊢
      generalize hz : cs.map AV.d = zs at this
      cases this with
      | agg vs' _ hn hr =>
        subst hz
        refine .d _ _ (.agg vs' cs (by simpa using hn) fun i c hi => ?_)
        exact (hr i (.d c) (by rw [List.getElem?_map, hi]; rfl)).d_inv
    | succ i =>
      rw [hjj] at hj
      exact b5 j a (by rw [List.getElem?_append_right (by omega), hjj]; simpa using hj)

theorem m_look {aa : List AV} {K : List Nat} {h0 h1 : Nat → Ent} {rs : List D} (hl : aa.length = 4) (hov : ∀ k ∈ K, OverB K (h1 k).body)
    (hw : ∀ (h : Nat → Ent), (∀ k ∈ K, h k = h0 k) → (∀ d, AV.d d ∈ aa → small 8 d) → wpX Try.prog x_subst_job_look.code (EndsM x_subst_job_look.res rs K h1) ⟨initA aa, h⟩) : MutC Try.prog n_subst_job_look aa K h0 rs h1 :=
  mut_of hm Try.func55 c_subst_job_look hl hov fun G h w vs hk hlen hr => hw h hk fun d hd => by
    obtain ⟨j, hj⟩ := List.mem_iff_getElem?.1 hd
    exact small_of (hr j _ hj)

theorem look_ok (l : List Ag) (u : Int) (hu : 0 ≤ u ∧ u ≤ 65535) (t : T) : ∀ (k v r rv : Nat) (b d : Int) (st : St3), k ≠ r → k ≠ 5 → k ≠ 11 → k ≠ 13 → r ≠ 5 → r ≠ 11 → r ≠ 13 → formedM t = true → 0 ≤ b → b + nodes t ≤ 1099511627776 →
    MutC Try.prog n_subst_job_look [.ptr k v 0, .d (.agg (cT t)), .d (.int .i64 b), .d (.int .i64 d)] [k, r] (jobH k v (.box (jobC (.rsl r rv) u st) false) ⟨rv, .row 6 (l.map eAg) true⟩) []
      (jobH k v (.box (jobC (.rsl r rv) u (lookT l u t b d st)) false) ⟨rv, .row 6 (l.map eAg) true⟩) := by
  refine T.ind (p := fun t => ∀ (k v r rv : Nat) (b d : Int) (st : St3), k ≠ r → k ≠ 5 → k ≠ 11 → k ≠ 13 → r ≠ 5 → r ≠ 11 → r ≠ 13 → formedM t = true → 0 ≤ b → b + nodes t ≤ 1099511627776 →
    MutC Try.prog n_subst_job_look [.ptr k v 0, .d (.agg (cT t)), .d (.int .i64 b), .d (.int .i64 d)] [k, r] (jobH k v (.box (jobC (.rsl r rv) u st) false) ⟨rv, .row 6 (l.map eAg) true⟩) []
      (jobH k v (.box (jobC (.rsl r rv) u (lookT l u t b d st)) false) ⟨rv, .row 6 (l.map eAg) true⟩)) ?_ t
  intro kd n ks ih k v r rv b d st hkr hk5 hk11 hk13 hr5 hr11 hr13 hfm hb0 hb
  have hrk : r ≠ k := Ne.symm hkr
  have n1 : 5 ≠ k := Ne.symm hk5
  have n2 : 11 ≠ k := Ne.symm hk11
  have n3 : 13 ≠ k := Ne.symm hk13
  have n4 : 5 ≠ r := Ne.symm hr5
  have n5 : 11 ≠ r := Ne.symm hr11
  have n6 : 13 ≠ r := Ne.symm hr13
  refine m_look rfl ?_ fun h hh hs => ?_
  · intro q hq
    simp only [jobH]
    split
    · intro c hc
      simp only [jobC, List.mem_cons, List.not_mem_nil, or_false] at hc
      rcases hc with rfl | rfl | rfl | rfl | rfl
      · exact .rsl _ _ (by simp)
      all_goals exact .d _
    · trivial
  have e1 : h k = ⟨v, .box (jobC (.rsl r rv) u st) false⟩ := by rw [hh k (by simp)]; simp [jobH]
  have e2 : h r = ⟨rv, .row 6 (l.map eAg) true⟩ := by rw [hh r (by simp)]; simp [jobH, hrk]
  simp only [jobC] at e1
  have hsm := hs (.agg (cT (.mk kd n ks))) (by simp)
  simp -dsimp [cT, small] at hsm
  simp -dsimp [x_subst_job_look, cT, jobC, jobH]
  (first | refine Ask_b ?_ ?_ | refine Cnd_b ?_ ?_) <;> intro g1 <;> (try simp only [decide_eq_true_eq, decide_eq_false_iff_not, beq_iff_eq, beq_eq_false_iff_ne, bne_iff_ne, bne_eq_false_iff_eq, Bool.not_eq_true', Bool.not_eq_false', Bool.and_eq_true, Bool.or_eq_true, Bool.and_eq_false_iff, Bool.or_eq_false_iff] at g1) <;> simp -dsimp [g1, e1, e2, hkr, hrk, hk5, hk11, hk13, hr5, hr11, hr13, n1, n2, n3, n4, n5, n6]
  · have hn : 0 ≤ n ∧ n ≤ 65535 := by
      rw [formedM_is, g1] at hfm
      have h0 : kidsM 1 = 0 := rfl
      rw [h0] at hfm
      split at hfm
      · simp only [if_true, Bool.and_eq_true] at hfm
        exact (inB_iff _ _ _).1 hfm.1
      · cases hfm
    refine callS_of (which_ok l u st.sc st.sz st.dp n b hu ⟨hb0, by omega⟩ hn) (by simp [D.flat]) ?_
    generalize hw : whichT l.length u n b = W
    have hL : lookT l u (.mk kd n ks) b d st = if 0 ≤ W then match l[W.toNat]? with
        | some a => ⟨if st.sc then true else if 0 ≤ a.free then decide (65535 < w64 (w64 (a.free + u) + b)) else false, mn (w64 (st.sz + a.size)) mostI, mx st.dp (w64 (d + a.depth))⟩
        | none => st
      else ⟨st.sc, mn (w64 (st.sz + 1)) mostI, mx st.dp (w64 (d + 1))⟩ := by rw [lookT, if_pos g1, hw]
    rw [hL]
    simp -dsimp [e1, e2, hkr, hrk, hk5, hk11, hk13, hr5, hr11, hr13, n1, n2, n3, n4, n5, n6, g1]
    (first | refine Ask_b ?_ ?_ | refine Cnd_b ?_ ?_) <;> intro g2 <;> (try simp only [decide_eq_true_eq, decide_eq_false_iff_not, beq_iff_eq, beq_eq_false_iff_ne, bne_iff_ne, bne_eq_false_iff_eq, Bool.not_eq_true', Bool.not_eq_false', Bool.and_eq_true, Bool.or_eq_true, Bool.and_eq_false_iff, Bool.or_eq_false_iff] at g2) <;> simp -dsimp [g2, e1, e2, hkr, hrk, hk5, hk11, hk13, hr5, hr11, hr13, n1, n2, n3, n4, n5, n6, g1]
    · have hlt : W.toNat < l.length := by
        rw [whichT] at hw
        split at hw <;> omega
      have hget : l[W.toNat]? = some l[W.toNat] := List.getElem?_eq_getElem hlt
      simp -dsimp [e1, e2, hkr, hrk, hk5, hk11, hk13, hr5, hr11, hr13, n1, n2, n3, n4, n5, n6, g1, g2, hlt, hget, cAg, cT]
      cases hsc : st.sc with
      | true =>
        simp -dsimp [e1, e2, hkr, hrk, hk5, hk11, hk13, hr5, hr11, hr13, n1, n2, n3, n4, n5, n6, g1, g2, hlt, hget, cAg, cT, hsc]
        (simp -dsimp [jobH, hrk, jobC, mn, mx, mostI, w64, g2, hget, hsc]) <;> (first | exact ⟨rfl, rfl⟩ | exact ⟨rfl, rfl, rfl⟩)
      | false =>
        simp -dsimp [e1, e2, hkr, hrk, hk5, hk11, hk13, hr5, hr11, hr13, n1, n2, n3, n4, n5, n6, g1, g2, hlt, hget, cAg, cT, hsc]
        (first | refine Ask_b ?_ ?_ | refine Cnd_b ?_ ?_) <;> intro g3 <;> (try simp only [decide_eq_true_eq, decide_eq_false_iff_not, beq_iff_eq, beq_eq_false_iff_ne, bne_iff_ne, bne_eq_false_iff_eq, Bool.not_eq_true', Bool.not_eq_false', Bool.and_eq_true, Bool.or_eq_true, Bool.and_eq_false_iff, Bool.or_eq_false_iff] at g3) <;> simp -dsimp [g3, e1, e2, hkr, hrk, hk5, hk11, hk13, hr5, hr11, hr13, n1, n2, n3, n4, n5, n6, g1, g2, hlt, hget, cAg, cT, hsc]
        · (simp -dsimp [jobH, hrk, jobC, mn, mx, mostI, w64, g2, hget, hsc, g3]) <;> (first | exact ⟨rfl, rfl⟩ | exact ⟨rfl, rfl, rfl⟩)
        · (simp -dsimp [jobH, hrk, jobC, mn, mx, mostI, w64, g2, hget, hsc, g3]) <;> (first | exact ⟨rfl, rfl⟩ | exact ⟨rfl, rfl, rfl⟩)
    · (simp -dsimp [jobH, hrk, jobC, mn, mx, mostI, w64, g2]) <;> (first | exact ⟨rfl, rfl⟩ | exact ⟨rfl, rfl, rfl⟩)
  · have hL : lookT l u (.mk kd n ks) b d st = lookL l u kd b d 0 ⟨st.sc, mn (w64 (st.sz + 1)) mostI, mx st.dp (w64 (d + 1))⟩ ks := by rw [lookT, if_neg g1]
    rw [hL]
    have hks : ks.all formedM = true := by
      rw [formedM_is] at hfm
      split at hfm
      · split at hfm
        · rw [Bool.and_eq_true] at hfm; exact hfm.2
        · split at hfm
          · exact hfm
          · cases hfm
      · cases hfm
    generalize hA : (⟨st.sc, mn (w64 (st.sz + 1)) mostI, mx st.dp (w64 (d + 1))⟩ : St3) = A
    refine wp_upto ks.length (fun i st' => st'.s 0 = .ptr k v 0 ∧ st'.s 2 = .d (.int .i64 b) ∧ st'.s 3 = .d (.int .i64 d) ∧ st'.s 5 = .ptr 5 ((h 5).ver + 1) 0 ∧ st'.h 5 = ⟨(h 5).ver + 1, .box [.d (.int .i64 kd), .d (.int .i64 n), .d (.sl 3 (ks.map eT))] false⟩ ∧
      st'.s 100 = .d (.sl 3 (ks.map eT)) ∧ st'.s 101 = .d (.int .i64 ks.length) ∧ st'.s 102 = .d (.int .i64 i) ∧
      st'.h k = ⟨v, .box (jobC (.rsl r rv) u (lookL l u kd b d 0 A (ks.take i))) false⟩ ∧ st'.h r = ⟨rv, .row 6 (l.map eAg) true⟩) ?_ ?_
    · simp -dsimp [e1, e2, hkr, hrk, hk5, hk11, hk13, hr5, hr11, hr13, n1, n2, n3, n4, n5, n6, g1, lookL, jobC]
      simp -dsimp [← hA, mn, mx, mostI, w64] <;> exact ⟨rfl, rfl⟩
    · rintro i ⟨s, hp⟩ hi ⟨f1, f2, f3, f4, f5, f6, f7, f8, f9, f10⟩
      dsimp only at f1 f2 f3 f4 f5 f6 f7 f8 f9 f10
      generalize (h 5).ver + 1 = v5 at f4 f5
      rcases Nat.lt_or_ge i ks.length with hlt | hge
      · have w1 : IntKind.i64.wrap ((i : Int) + 1) = (i : Int) + 1 := wrap_id (by omega) (by omega)
        have hbl := binds_le kd i
        have hnk := nodes_kid (k := kd) (n := n) (List.getElem_mem hlt : ks[i] ∈ ks)
        have w2 : IntKind.i64.wrap (b + bindsM kd i) = b + bindsM kd i := wrap_id (by omega) (by omega)
        simp only [jobC] at f9
        simp -dsimp [e1, e2, hkr, hrk, hk5, hk11, hk13, hr5, hr11, hr13, n1, n2, n3, n4, n5, n6, g1, f1, f2, f3, f4, f5, f6, f7, f8, f9, f10, hlt, cT]
        refine callS_of (binds_ok kd i) (by simp [D.flat]) ?_
        simp -dsimp [e1, e2, hkr, hrk, hk5, hk11, hk13, hr5, hr11, hr13, n1, n2, n3, n4, n5, n6, g1, f1, f2, f3, f4, f5, f6, f7, f8, f9, f10, hlt, w2]
        generalize hX : lookL l u kd b d 0 A (ks.take i) = X at f9
        have hrec := ih ks[i] (List.getElem_mem _) k v r rv (b + bindsM kd i) (w64 (d + 1)) X hkr hk5 hk11 hk13 hr5 hr11 hr13 (List.all_eq_true.1 hks _ (List.getElem_mem _)) (by omega) (by omega)
        have hrec2 := agg_arg (pre := [.ptr k v 0]) (post := [.d (.int .i64 (b + bindsM kd i)), .d (.int .i64 (w64 (d + 1)))]) hrec
        refine callM_of hrec2 ?_ ?_
        · simp [jobH, jobC, hrk, f9, f10, upd, hkr, hk5, hk11, hk13, hr5, hr11, hr13]
        have hsn := lookL_snoc l u kd b d ks 0 A i hlt
        rw [Nat.zero_add, hX] at hsn
        simp -dsimp [e1, e2, hkr, hrk, hk5, hk11, hk13, hr5, hr11, hr13, n1, n2, n3, n4, n5, n6, g1, mergeK_cons, mergeK_nil, jobH, f1, f2, f3, f4, f5, f6, f7, f8, f9, f10, hlt, w1, hsn]
      · have e : i = ks.length := by omega
        subst e
        rw [List.take_length] at f9
        simp -dsimp [e1, e2, hkr, hrk, hk5, hk11, hk13, hr5, hr11, hr13, n1, n2, n3, n4, n5, n6, g1, f1, f2, f3, f4, f5, f6, f7, f8, f9, f10]
        simp [jobH, jobC, hrk]
theorem which0 (u n b : Int) (h : 0 ≤ u) (hb : 0 ≤ b) : whichT 0 u n b = -1 := by
  rw [whichT, if_pos]
  omega
/-- The same, where there are no arguments at all. -/
theorem look0_ok (u : Int) (hu : 0 ≤ u ∧ u ≤ 65535) (t : T) : ∀ (k v : Nat) (b d : Int) (st : St3), k ≠ 5 → k ≠ 11 → k ≠ 13 → formedM t = true → 0 ≤ b → b + nodes t ≤ 1099511627776 →
    MutC Try.prog n_subst_job_look [.ptr k v 0, .d (.agg (cT t)), .d (.int .i64 b), .d (.int .i64 d)] [k] (jobH k v (.box (jobC (.fsl 6 []) u st) false) ⟨0, .dead⟩) []
      (jobH k v (.box (jobC (.fsl 6 []) u (lookT [] u t b d st)) false) ⟨0, .dead⟩) := by
  refine T.ind (p := fun t => ∀ (k v : Nat) (b d : Int) (st : St3), k ≠ 5 → k ≠ 11 → k ≠ 13 → formedM t = true → 0 ≤ b → b + nodes t ≤ 1099511627776 →
    MutC Try.prog n_subst_job_look [.ptr k v 0, .d (.agg (cT t)), .d (.int .i64 b), .d (.int .i64 d)] [k] (jobH k v (.box (jobC (.fsl 6 []) u st) false) ⟨0, .dead⟩) []
      (jobH k v (.box (jobC (.fsl 6 []) u (lookT [] u t b d st)) false) ⟨0, .dead⟩)) ?_ t
  intro kd n ks ih k v b d st hk5 hk11 hk13 hfm hb0 hb
  have n1 : 5 ≠ k := Ne.symm hk5
  have n2 : 11 ≠ k := Ne.symm hk11
  have n3 : 13 ≠ k := Ne.symm hk13
  refine m_look rfl ?_ fun h hh hs => ?_
  · intro q hq
    simp only [jobH]
    split
    · intro c hc
      simp only [jobC, List.mem_cons, List.not_mem_nil, or_false] at hc
      rcases hc with rfl | rfl | rfl | rfl | rfl
      · exact .fsl _ _
      all_goals exact .d _
    · trivial
  have e1 : h k = ⟨v, .box (jobC (.fsl 6 []) u st) false⟩ := by rw [hh k (by simp)]; simp [jobH]
  simp only [jobC] at e1
  have hsm := hs (.agg (cT (.mk kd n ks))) (by simp)
  simp -dsimp [cT, small] at hsm
  simp -dsimp [x_subst_job_look, cT, jobC, jobH]
  (first | refine Ask_b ?_ ?_ | refine Cnd_b ?_ ?_) <;> intro g1 <;> (try simp only [decide_eq_true_eq, decide_eq_false_iff_not, beq_iff_eq, beq_eq_false_iff_ne, bne_iff_ne, bne_eq_false_iff_eq, Bool.not_eq_true', Bool.not_eq_false', Bool.and_eq_true, Bool.or_eq_true, Bool.and_eq_false_iff, Bool.or_eq_false_iff] at g1) <;> simp -dsimp [g1, e1, hk5, hk11, hk13, n1, n2, n3]
  · have hn : 0 ≤ n ∧ n ≤ 65535 := by
      rw [formedM_is, g1] at hfm
      have h0 : kidsM 1 = 0 := rfl
      rw [h0] at hfm
      split at hfm
      · simp only [if_true, Bool.and_eq_true] at hfm
        exact (inB_iff _ _ _).1 hfm.1
      · cases hfm
    refine callS_of (which_ok [] u st.sc st.sz st.dp n b hu ⟨hb0, by omega⟩ hn) (by simp [D.flat]) ?_
    have hw : whichT ([] : List Ag).length u n b = -1 := which0 u n b hu.1 hb0
    have hL : lookT [] u (.mk kd n ks) b d st = ⟨st.sc, mn (w64 (st.sz + 1)) mostI, mx st.dp (w64 (d + 1))⟩ := by rw [lookT, if_pos g1, hw, if_neg (by omega)]
    rw [hL, hw]
    simp -dsimp [e1, hk5, hk11, hk13, n1, n2, n3, g1]
    simp -dsimp [jobH, jobC, mn, mx, mostI, w64] <;> (first | exact ⟨rfl, rfl⟩ | exact ⟨rfl, rfl, rfl⟩)
  · have hL : lookT [] u (.mk kd n ks) b d st = lookL [] u kd b d 0 ⟨st.sc, mn (w64 (st.sz + 1)) mostI, mx st.dp (w64 (d + 1))⟩ ks := by rw [lookT, if_neg g1]
    rw [hL]
    have hks : ks.all formedM = true := by
      rw [formedM_is] at hfm
      split at hfm
      · split at hfm
        · rw [Bool.and_eq_true] at hfm; exact hfm.2
        · split at hfm
          · exact hfm
          · cases hfm
      · cases hfm
    generalize hA : (⟨st.sc, mn (w64 (st.sz + 1)) mostI, mx st.dp (w64 (d + 1))⟩ : St3) = A
    refine wp_upto ks.length (fun i st' => st'.s 0 = .ptr k v 0 ∧ st'.s 2 = .d (.int .i64 b) ∧ st'.s 3 = .d (.int .i64 d) ∧ st'.s 5 = .ptr 5 ((h 5).ver + 1) 0 ∧ st'.h 5 = ⟨(h 5).ver + 1, .box [.d (.int .i64 kd), .d (.int .i64 n), .d (.sl 3 (ks.map eT))] false⟩ ∧
      st'.s 100 = .d (.sl 3 (ks.map eT)) ∧ st'.s 101 = .d (.int .i64 ks.length) ∧ st'.s 102 = .d (.int .i64 i) ∧
      st'.h k = ⟨v, .box (jobC (.fsl 6 []) u (lookL [] u kd b d 0 A (ks.take i))) false⟩) ?_ ?_
    · simp -dsimp [e1, hk5, hk11, hk13, n1, n2, n3, g1, lookL, jobC]
      simp -dsimp [← hA, mn, mx, mostI, w64] <;> exact ⟨rfl, rfl⟩
    · rintro i ⟨s, hp⟩ hi ⟨f1, f2, f3, f4, f5, f6, f7, f8, f9⟩
      dsimp only at f1 f2 f3 f4 f5 f6 f7 f8 f9
      generalize (h 5).ver + 1 = v5 at f4 f5
      rcases Nat.lt_or_ge i ks.length with hlt | hge
      · have w1 : IntKind.i64.wrap ((i : Int) + 1) = (i : Int) + 1 := wrap_id (by omega) (by omega)
        have hbl := binds_le kd i
        have hnk := nodes_kid (k := kd) (n := n) (List.getElem_mem hlt : ks[i] ∈ ks)
        have w2 : IntKind.i64.wrap (b + bindsM kd i) = b + bindsM kd i := wrap_id (by omega) (by omega)
        simp only [jobC] at f9
        simp -dsimp [e1, hk5, hk11, hk13, n1, n2, n3, g1, f1, f2, f3, f4, f5, f6, f7, f8, f9, hlt, cT]
        refine callS_of (binds_ok kd i) (by simp [D.flat]) ?_
        simp -dsimp [e1, hk5, hk11, hk13, n1, n2, n3, g1, f1, f2, f3, f4, f5, f6, f7, f8, f9, hlt, w2]
        generalize hX : lookL [] u kd b d 0 A (ks.take i) = X at f9
        have hrec := ih ks[i] (List.getElem_mem _) k v (b + bindsM kd i) (w64 (d + 1)) X hk5 hk11 hk13 (List.all_eq_true.1 hks _ (List.getElem_mem _)) (by omega) (by omega)
        have hrec2 := agg_arg (pre := [.ptr k v 0]) (post := [.d (.int .i64 (b + bindsM kd i)), .d (.int .i64 (w64 (d + 1)))]) hrec
        refine callM_of hrec2 ?_ ?_
        · simp [jobH, jobC, f9, upd, hk5, hk11, hk13]
        have hsn := lookL_snoc [] u kd b d ks 0 A i hlt
        rw [Nat.zero_add, hX] at hsn
        simp -dsimp [e1, hk5, hk11, hk13, n1, n2, n3, g1, mergeK_cons, mergeK_nil, jobH, f1, f2, f3, f4, f5, f6, f7, f8, f9, hlt, w1, hsn]
      · have e : i = ks.length := by omega
        subst e
        rw [List.take_length] at f9
        simp -dsimp [e1, hk5, hk11, hk13, n1, n2, n3, g1, f1, f2, f3, f4, f5, f6, f7, f8, f9]
        simp [jobH, jobC]
end Ev
end Go.Proofs.Ytdobcpejfgpgoaa
