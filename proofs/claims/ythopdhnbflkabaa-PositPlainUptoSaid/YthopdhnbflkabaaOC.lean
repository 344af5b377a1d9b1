/- PositPlain: variables counted; whether an argument is used. -/
import Derived.Test.YthopdhnbflkabaaOD
namespace Go.Proofs.Ythopdhnbflkabaa
namespace Ev
open Go
set_option maxRecDepth 100000
set_option linter.unusedSimpArgs false
set_option linter.unusedVariables false
attribute [local simp ↓] wx_skip wx_region wx_seq wx_block wx_exit wx_ret wx_cond wx_loop wo_nil wo_run wo_ask wx_draw wt_nil wt_run_t wt_run_f wt_ask_t wt_ask_f rb_mv rb_nilrow rb_pick rb_alloc rb_box rb_load rb_store rb_nilck rb_bin rb_binb rb_un rb_conv rb_mkf rb_mks rb_slice rb_faddr rb_fld rb_iaddr rb_ext rb_len rb_app rb_mm rb_build rb_bslice run_callC upd_eq upd_ne
attribute [local simp] runB_some runB_none Tch_nil Tch_cons Chk_t Cnd_t Cnd_f Ask_tt Ask_ff Ask_tf Ask_ft Ask_skip act ev_t ev_c evs sks caps2 touch_call List.cons_append List.nil_append putS binI binB int_add int_sub int_mul int_quo int_rem int_or int_eql int_neq int_lss int_leq int_gtr int_geq shiftD Ex.then Ex.inBlock Ends resL resX allD toD_d toD_fsl sk_d sk_fsl none_ loadA cut wrapA wrapD avc_d avc_agg avc_fsl avc_rsl avc_ptr avc_eptr avc_clo dc_agg dc_int dc_bool dc_str dc_sl dc_nilp dc_rp dc_clo on_int on_bool on_str on_sl on_nilp on_rp on_clo on_fsl on_rsl on_ptr on_eptr on_cloA newE elemsA elemsS storeA put frz_nil deep callee resA initS touchOp fits compat rd wr key1 buildA partsD partsK idx frz_at Body.frz lk_hit lk_miss toD6_agg toD5_agg toD4_agg toD6_clo toD5_clo toD4_clo toD6_ptr toD5_ptr toD4_ptr sk6_agg sk5_agg sk4_agg sk6_clo sk5_clo sk4_clo sk6_ptr sk5_ptr sk4_ptr toD_rsl sk_rsl resK EndsP EndsMP fitVs fitCs fitC keysV keysC keyC cellsA1 skVs skCs skC1 resO tupA valsV cellsV oneV rowsV rowsC RV.cells nk rowsH_one rowsH_two rowsH_none
section
attribute [local simp] allD_map_d sks_map_d tk tn tks initA EndsM one_sos one_cos one_ars one_ts
theorem rcount_ok (t : T) : ∀ n : Int, 0 ≤ n → n + nodes t ≤ 2097152 → Pure Try.prog n_porismref01_count [.agg (cT t), .int .i64 n] [.int .i64 (cntT t n 0)] := by
  refine T.ind (p := fun t => ∀ n : Int, 0 ≤ n → n + nodes t ≤ 2097152 → Pure Try.prog n_porismref01_count [.agg (cT t), .int .i64 n] [.int .i64 (cntT t n 0)]) ?_ t
  intro k m ks ih n h0 hb
  refine p_porismref01_count rfl fun hs => ?_
  have hF : cntT (.mk k m ks) n 0 = cntL k n 0 0 (if k = 1 ∧ m = n + 0 then 1 else 0) ks := by rw [cntT]
  have hksl : ks.length ≤ 2097152 := by
    have : ks.length ≤ (ks.map nodes).sum := by
      clear ih hb hs hF
      induction ks with
      | nil => simp
      | cons x xs ih => have := nodes_pos x; simp; omega
    rw [nodes] at hb
    omega
  have c1 : k = 1 → m = n → (1 : Int) = (if k = 1 ∧ m = n + 0 then 1 else 0) := fun h1 h2 => (if_pos ⟨h1, by omega⟩).symm
  have c2 : ¬(k = 1 ∧ m = n) → (0 : Int) = (if k = 1 ∧ m = n + 0 then 1 else 0) := fun h => (if_neg (fun h' => h ⟨h'.1, by omega⟩)).symm
  have c3 : ∀ i, i ≤ ks.length → 0 ≤ cntL k n 0 0 (if k = 1 ∧ m = n + 0 then 1 else 0) (ks.take i) ∧ cntL k n 0 0 (if k = 1 ∧ m = n + 0 then 1 else 0) (ks.take i) ≤ 2097152 := fun i hi => by
    have h1 := cnt_le (.mk k m (ks.take i)) n 0
    rw [cntT] at h1
    have h2 : nodes (.mk k m (ks.take i)) ≤ nodes (.mk k m ks) := by
      rw [nodes, nodes]
      have h3 : (ks.map nodes).sum = ((ks.take i).map nodes).sum + ((ks.drop i).map nodes).sum := by
        rw [← List.sum_append, ← List.map_append, List.take_append_drop]
      omega
    omega
  rw [hF]
  generalize (if k = 1 ∧ m = n + 0 then (1 : Int) else 0) = A at c1 c2 c3 ⊢
  simp -dsimp [x_porismref01_count, cT]
  (first | refine Ask_b ?_ ?_ | refine Cnd_b ?_ ?_) <;> intro h1 <;> (try simp only [decide_eq_true_eq, decide_eq_false_iff_not, beq_iff_eq, beq_eq_false_iff_ne, bne_iff_ne, bne_eq_false_iff_eq, Bool.not_eq_true', Bool.not_eq_false', Bool.and_eq_true, Bool.or_eq_true, Bool.and_eq_false_iff, Bool.or_eq_false_iff] at h1) <;> simp -dsimp [h1]
  (first | refine Ask_b ?_ ?_ | refine Cnd_b ?_ ?_) <;> intro h2 <;> (try simp only [decide_eq_true_eq, decide_eq_false_iff_not, beq_iff_eq, beq_eq_false_iff_ne, bne_iff_ne, bne_eq_false_iff_eq, Bool.not_eq_true', Bool.not_eq_false', Bool.and_eq_true, Bool.or_eq_true, Bool.and_eq_false_iff, Bool.or_eq_false_iff] at h2) <;> simp -dsimp [h2, h1]
  all_goals
    refine wp_upto ks.length (fun i st => st.s 1 = .d (.int .i64 n) ∧ st.s 2 = .ptr 2 1 0 ∧ st.h 2 = ⟨1, .box [.d (.int .i64 k), .d (.int .i64 m), .d (.sl 3 (ks.map eT))] false⟩ ∧ st.s 6 = .d (.int .i64 i) ∧
      st.s 5 = .d (.int .i64 (cntL k n 0 0 A (ks.take i)))) ?_ ?_
    · simp -dsimp [cntL]
      first | exact ⟨⟨h1.symm, h2.symm⟩, c1 h1 h2⟩ | exact ⟨h1.symm, c2 (fun h => h2 h.2)⟩ | exact c2 (fun h => h1 h.1) | exact c1 h1 h2 | exact c2 (fun h => h2 h.2) | exact ⟨⟨h1.symm, h2.symm⟩, (c1 h1 h2)⟩
    · rintro i ⟨s, hp⟩ hi ⟨g1, g2, g3, g6, g5⟩
      dsimp only at g1 g2 g3 g6 g5
      rcases Nat.lt_or_ge i ks.length with hlt | hge
      · have w1 : IntKind.i64.wrap ((i : Int) + 1) = (i : Int) + 1 := wrap_id (by omega) (by omega)
        have hbl := binds_le k i
        have hnk := nodes_kid (k := k) (n := m) (List.getElem_mem hlt : ks[i] ∈ ks)
        have w2 : IntKind.i64.wrap (n + bindsM k i) = n + bindsM k i := wrap_id (by omega) (by omega)
        have hsn := cntL_snoc k n 0 ks 0 A i hlt
        rw [Nat.zero_add, Int.add_comm 0 (bindsM k i), cnt_shift ks[i] n (bindsM k i) 0] at hsn
        have hsn' : cntL k n 0 0 A (ks.take (i + 1)) = cntL k n 0 0 A (ks.take i) + cntT ks[i] (n + bindsM k i) 0 := by
          rw [hsn, Int.add_zero, ← cnt_shift ks[i] n 0 (bindsM k i), Int.zero_add]
        have hc3 := c3 (i + 1) (by omega)
        have w3 : IntKind.i64.wrap (cntL k n 0 0 A (ks.take i) + cntT ks[i] (n + bindsM k i) 0) = cntL k n 0 0 A (ks.take (i + 1)) := by rw [← hsn']; exact wrap_id (by omega) (by omega)
        have hI := ih ks[i] (List.getElem_mem _) (n + bindsM k i) (by omega) (by omega)
        have hB := rbinds_ok k i
        simp only [cT] at hI
        simp -dsimp [g1, g2, g3, g6, g5, hlt, cT]
        refine call_of hB ?_
        simp -dsimp [g1, g2, g3, g6, g5, hlt, w2]
        refine call_of hI ?_
        simp -dsimp [g1, g2, g3, g6, g5, hlt, w1, w3]
      · have e : i = ks.length := by omega
        subst e
        rw [List.take_length] at g5
        simp -dsimp [g1, g2, g3, g6, g5]
theorem rcnt_ok (t : T) (n : Int) (h0 : 0 ≤ n) (h1 : n ≤ 65535) (hb : nodes t ≤ 1000000) : Pure Try.prog n_porismref01_Count [.agg (cT t), .int .i64 n] [.int .i64 (cntT t n 0)] := by
  refine p_porismref01_Count rfl fun hs => ?_
  have h := rcount_ok t n h0 (by omega)
  have hi : inB n 0 65535 = true := (inB_iff _ _ _).2 ⟨h0, h1⟩
  simp only [cT] at h
  simp -dsimp [x_porismref01_Count, cT]
  refine call_of (rin_ok n 0 65535) ?_
  simp -dsimp [hi]
  refine call_of h ?_
  simp -dsimp
theorem used_ok (b : Bl) (fb : FineBl b) (c : Nat) (x : Co) (hc : b.cons[c]? = some x) (i : Nat) (hi : i < x.args.length) : Pure Try.prog n_porismlaw08_used [eBl b, .int .i64 c, .int .i64 i] [.bool (usedB x i)] := by
  refine p_porismlaw08_used rfl fun hs => ?_
  have hclt := (List.getElem?_eq_some_iff.1 hc).1
  have hcx := (List.getElem?_eq_some_iff.1 hc).2
  have fx := fb.cons x (List.mem_of_getElem? hc)
  have hal := fx.args.1
  have hbc := fb.c
  have hil := fx.idxL
  have w0 : IntKind.i64.wrap ((i : Int) + 1) = (i : Int) + 1 := wrap_id (by omega) (by omega)
  have hUt := @used_t x i
  have hUf := @used_f x i
  generalize usedB x i = V at hUt hUf ⊢
  have hxc : ∀ y : T, nodes y ≤ 9000 → ∀ n : Int, 0 ≤ n → n ≤ 65535 → Pure Try.prog n_porismref01_Count [.agg (cT y), .int .i64 n] [.int .i64 (cntT y n 0)] := fun y hy n h0 h1 => rcnt_ok y n h0 h1 (by omega)
  have hpos : ∀ (y : T) (n : Int), ¬ cntT y n 0 = 0 → 0 < cntT y n 0 := fun y n h => by have := (cnt_le y n 0).1; omega
  have hidx : ∀ y ∈ x.idx, nodes y ≤ 9000 := fun y hy => Nat.le_trans (sum_mem (List.mem_map.2 ⟨y, hy, rfl⟩)) fx.idx
  have hdec := fx.dec
  simp -dsimp [x_porismlaw08_used, eBl, cBl, eSos, eCos]
  simp -dsimp [hclt, hcx, eCo, cCo, cT, w0]
  refine wp_upto (x.args.length - 1 - i) (fun q st => (st.s 2 = .d (.int .i64 i) ∧ st.s 7 = .ptr 7 1 0 ∧ st.h 7 = ⟨1, .box [.d (.int .i64 x.sort), .d (eArs x.args), .d (eTs x.idx), .d (.int .i64 x.dec.kind), .d (.int .i64 x.dec.num), .d (.sl 3 (x.dec.kids.map eT))] false⟩) ∧
    st.s 8 = .d (.int .i64 ((i : Int) + 1 + q)) ∧ ∀ (k : Nat) (hk : k < x.args.length), i < k → k < i + 1 + q → UnA x.args[k] ((k : Int) - 1 - i)) ?_ ?_
  · simp -dsimp
    intro k hk h1 h2
    omega
  · rintro q ⟨s, hp⟩ hq ⟨⟨g2, g7, k7⟩, g8, g⟩
    dsimp only at g2 g7 k7 g8
    simp only [eArs, eTs] at k7
    rcases Nat.lt_or_ge q (x.args.length - 1 - i) with hlt | hge
    · have hk : i + 1 + q < x.args.length := by omega
      have hkI : (i : Int) + 1 + (q : Int) < (x.args.length : Int) := by omega
      have hk0 : (0 : Int) ≤ (i : Int) + 1 + (q : Int) := by omega
      have hkn : ((i : Int) + 1 + (q : Int)).toNat = i + 1 + q := by omega
      have fa := fx.args.2 _ (List.getElem_mem hk)
      have hft := fa.ty
      have hfd : ∀ y ∈ x.args[i + 1 + q].dom, nodes y ≤ 9000 := fun y hy => Nat.le_trans (sum_mem (List.mem_map.2 ⟨y, hy, rfl⟩)) fa.dom
      have hfi : ∀ y ∈ x.args[i + 1 + q].idx, nodes y ≤ 9000 := fun y hy => Nat.le_trans (sum_mem (List.mem_map.2 ⟨y, hy, rfl⟩)) fa.idx
      have hdl := fa.domL
      have hil2 := fa.idxL
      have hUn : ¬ UnA x.args[i + 1 + q] (q : Int) → V = true := fun h => hUt fun h2 => h (by
        have := h2.1 (i + 1 + q) hk (by omega)
        rwa [show ((i + 1 + q : Nat) : Int) - 1 - i = q by omega] at this)
      have hnx : UnA x.args[i + 1 + q] (q : Int) → ∀ (k : Nat) (hk : k < x.args.length), i < k → k < i + 1 + (q + 1) → UnA x.args[k] ((k : Int) - 1 - i) := fun h k hk h1 h2 => by
        rcases Nat.lt_or_ge k (i + 1 + q) with h' | h'
        · exact g k hk h1 h'
        · have e : k = i + 1 + q := by omega
          subst e
          rw [show ((i + 1 + q : Nat) : Int) - 1 - i = q by omega]
          exact h
      have hge1 : x.args[i + 1 + q]? = some x.args[i + 1 + q] := List.getElem?_eq_getElem hk
      generalize hA : x.args[i + 1 + q] = A at *
      have w1 : IntKind.i64.wrap ((i : Int) + 1 + (q : Int) - 1) = (i : Int) + q := by rw [wrap_id (by omega) (by omega)]; omega
      have w2 : IntKind.i64.wrap ((i : Int) + (q : Int) - i) = (q : Int) := by rw [wrap_id (by omega) (by omega)]; omega
      have w3 : IntKind.i64.wrap ((i : Int) + 1 + (q : Int) + 1) = (i : Int) + 1 + ((q + 1 : Nat) : Int) := by rw [wrap_id (by omega) (by omega)]; omega
      have hC1 := hxc A.ty hft (q : Int) (by omega) (by omega)
      simp only [cT] at hC1
      simp -dsimp [g2, g7, k7, g8, hk, hkI, hk0, hkn, hge1, hA, eAr, cAr, cT, w1, w2]
      refine call_of hC1 ?_
      by_cases c1 : cntT A.ty q 0 = 0
      case neg =>
        have hv := hUn (fun h => c1 h.1)
        have hp1 := hpos _ _ c1
        simp -dsimp [g2, g7, k7, g8, hp1, hv]
      have hp1 : ¬ 0 < cntT A.ty q 0 := by omega
      simp -dsimp [g2, g7, k7, g8, hp1, c1, eTs]
      refine wp_upto A.dom.length (fun j st => (st.s 2 = .d (.int .i64 i) ∧ st.s 7 = .ptr 7 1 0 ∧ st.h 7 = ⟨1, .box [.d (.int .i64 x.sort), .d (eArs x.args), .d (eTs x.idx), .d (.int .i64 x.dec.kind), .d (.int .i64 x.dec.num), .d (.sl 3 (x.dec.kids.map eT))] false⟩) ∧ (st.s 8 = .d (.int .i64 ((i : Int) + 1 + q)) ∧ st.s 9 = .ptr 9 ((hp 9).ver + 1) 0 ∧ st.h 9 = ⟨(hp 9).ver + 1, .box [.d (.bool A.rc), .d (.int .i64 A.ty.kind), .d (.int .i64 A.ty.num), .d (.sl 3 (A.ty.kids.map eT)), .d (eTs A.dom), .d (.int .i64 A.sort), .d (eTs A.idx)] false⟩) ∧
        st.s 10 = .d (.int .i64 j) ∧ ∀ (m : Nat) (hm : m < A.dom.length), m < j → cntT A.dom[m] ((q : Int) + m) 0 = 0) ?_ ?_
      · simp -dsimp [g2, g7, k7, g8, eTs, eArs]
      · clear g2 g7 k7 g8
        rintro j ⟨s, hp'⟩ hj ⟨⟨g2, g7, k7⟩, ⟨g8, g9, k9⟩, g10, gd⟩
        dsimp only at g2 g7 k7 g8 g9 k9 g10
        simp only [eArs, eTs] at k7 k9
        rcases Nat.lt_or_ge j A.dom.length with hlt2 | hge2
        · have v1 : IntKind.i64.wrap ((j : Int) + 1) = (j : Int) + 1 := wrap_id (by omega) (by omega)
          have v2 : IntKind.i64.wrap ((q : Int) + (j : Int)) = (q : Int) + j := wrap_id (by omega) (by omega)
          have hC2 := hxc A.dom[j] (hfd _ (List.getElem_mem hlt2)) ((q : Int) + j) (by omega) (by omega)
          have hUd : ¬ cntT A.dom[j] ((q : Int) + j) 0 = 0 → V = true := fun h => hUn fun h2 => h (h2.2.1 j hlt2)
          have hp2 := hpos A.dom[j] ((q : Int) + j)
          have hnd : cntT A.dom[j] ((q : Int) + j) 0 = 0 → ∀ (m : Nat) (hm : m < A.dom.length), m < j + 1 → cntT A.dom[m] ((q : Int) + m) 0 = 0 := fun h m hm hmj => by
            rcases Nat.lt_or_ge m j with h' | h'
            · exact gd m hm h'
            · have e : m = j := by omega
              subst e
              exact h
          generalize hX : A.dom[j] = X at *
          simp only [cT] at hC2
          simp -dsimp [g2, g7, k7, g8, g9, k9, g10, hlt2, hX, cT, w1, w2, v2]
          refine call_of hC2 ?_
          by_cases c2 : cntT X ((q : Int) + j) 0 = 0
          · have hz : ¬ 0 < cntT X ((q : Int) + j) 0 := by omega
            have hnd' := hnd c2
            simp -dsimp [g2, g7, k7, g8, g9, k9, g10, hlt2, hz, c2, v1, eTs, eArs]
            exact hnd'
          · have hz := hp2 c2
            have hv := hUd c2
            simp -dsimp [g2, g7, k7, g8, g9, k9, g10, hlt2, hz, hv]
        · have e : j = A.dom.length := by omega
          subst e
          have hdz : ∀ (m : Nat) (hm : m < A.dom.length), cntT A.dom[m] ((q : Int) + m) 0 = 0 := fun m hm => gd m hm hm
          clear gd
          simp -dsimp [g2, g7, k7, g8, g9, k9, g10]
          refine wp_upto A.idx.length (fun j st => (st.s 2 = .d (.int .i64 i) ∧ st.s 7 = .ptr 7 1 0 ∧ st.h 7 = ⟨1, .box [.d (.int .i64 x.sort), .d (eArs x.args), .d (eTs x.idx), .d (.int .i64 x.dec.kind), .d (.int .i64 x.dec.num), .d (.sl 3 (x.dec.kids.map eT))] false⟩) ∧ (st.s 8 = .d (.int .i64 ((i : Int) + 1 + q)) ∧ st.s 9 = .ptr 9 ((hp 9).ver + 1) 0 ∧ st.h 9 = ⟨(hp 9).ver + 1, .box [.d (.bool A.rc), .d (.int .i64 A.ty.kind), .d (.int .i64 A.ty.num), .d (.sl 3 (A.ty.kids.map eT)), .d (eTs A.dom), .d (.int .i64 A.sort), .d (eTs A.idx)] false⟩) ∧
            st.s 11 = .d (.int .i64 j) ∧ ∀ (m : Nat) (hm : m < A.idx.length), m < j → cntT A.idx[m] ((q : Int) + A.dom.length) 0 = 0) ?_ ?_
          · simp -dsimp [g2, g7, k7, g8, g9, k9, eTs, eArs]
          · clear g2 g7 k7 g8 g9 k9 g10
            rintro j ⟨s, hp''⟩ hj ⟨⟨g2, g7, k7⟩, ⟨g8, g9, k9⟩, g11, gd⟩
            dsimp only at g2 g7 k7 g8 g9 k9 g11
            simp only [eArs, eTs] at k7 k9
            rcases Nat.lt_or_ge j A.idx.length with hlt2 | hge2
            · have v1 : IntKind.i64.wrap ((j : Int) + 1) = (j : Int) + 1 := wrap_id (by omega) (by omega)
              have v2 : IntKind.i64.wrap ((q : Int) + (A.dom.length : Int)) = (q : Int) + A.dom.length := wrap_id (by omega) (by omega)
              have hC2 := hxc A.idx[j] (hfi _ (List.getElem_mem hlt2)) ((q : Int) + A.dom.length) (by omega) (by omega)
              have hUd : ¬ cntT A.idx[j] ((q : Int) + A.dom.length) 0 = 0 → V = true := fun h => hUn fun h2 => h (h2.2.2 j hlt2)
              have hp2 := hpos A.idx[j] ((q : Int) + A.dom.length)
              have hnd : cntT A.idx[j] ((q : Int) + A.dom.length) 0 = 0 → ∀ (m : Nat) (hm : m < A.idx.length), m < j + 1 → cntT A.idx[m] ((q : Int) + A.dom.length) 0 = 0 := fun h m hm hmj => by
                rcases Nat.lt_or_ge m j with h' | h'
                · exact gd m hm h'
                · have e : m = j := by omega
                  subst e
                  exact h
              generalize hX : A.idx[j] = X at *
              simp only [cT] at hC2
              simp -dsimp [g2, g7, k7, g8, g9, k9, g11, hlt2, hX, cT, w1, w2, v2]
              refine call_of hC2 ?_
              by_cases c2 : cntT X ((q : Int) + A.dom.length) 0 = 0
              · have hz : ¬ 0 < cntT X ((q : Int) + A.dom.length) 0 := by omega
                have hnd' := hnd c2
                simp -dsimp [g2, g7, k7, g8, g9, k9, g11, hlt2, hz, c2, v1, eTs, eArs]
                exact hnd'
              · have hz := hp2 c2
                have hv := hUd c2
                simp -dsimp [g2, g7, k7, g8, g9, k9, g11, hlt2, hz, hv]
            · have e : j = A.idx.length := by omega
              subst e
              have hUnA : UnA A (q : Int) := ⟨c1, hdz, fun m hm => gd m hm hm⟩
              have hnx' := hnx hUnA
              simp -dsimp [g2, g7, k7, g8, g9, k9, g11, w3, eTs, eArs]
              exact ⟨hlt, hnx'⟩
    · have e : q = x.args.length - 1 - i := by omega
      subst e
      have e8 : ((i : Int) + 1 + ((x.args.length - 1 - i : Nat) : Int)) = (x.args.length : Int) := by omega
      rw [e8] at g8
      have hargs : ∀ (k : Nat) (hk : k < x.args.length), i < k → UnA x.args[k] ((k : Int) - 1 - i) := fun k hk h1 => g k hk h1 (by omega)
      have w1 : IntKind.i64.wrap ((x.args.length : Int) - 1) = (x.args.length : Int) - 1 := wrap_id (by omega) (by omega)
      have w2 : IntKind.i64.wrap ((x.args.length : Int) - 1 - i) = (x.args.length : Int) - 1 - i := wrap_id (by omega) (by omega)
      simp -dsimp [g2, g7, k7, g8]
      refine wp_upto x.idx.length (fun j st => (st.s 2 = .d (.int .i64 i) ∧ st.s 7 = .ptr 7 1 0 ∧ st.h 7 = ⟨1, .box [.d (.int .i64 x.sort), .d (eArs x.args), .d (eTs x.idx), .d (.int .i64 x.dec.kind), .d (.int .i64 x.dec.num), .d (.sl 3 (x.dec.kids.map eT))] false⟩) ∧ st.s 12 = .d (.int .i64 x.args.length) ∧ st.s 13 = .d (.int .i64 j) ∧
        ∀ (m : Nat) (hm : m < x.idx.length), m < j → cntT x.idx[m] ((x.args.length : Int) - 1 - i) 0 = 0) ?_ ?_
      · simp -dsimp [g2, g7, k7, eTs, eArs]
      · clear g2 g7 k7 g8
        rintro j ⟨s, hp'⟩ hj ⟨⟨g2, g7, k7⟩, g12, g13, gd⟩
        dsimp only at g2 g7 k7 g12 g13
        simp only [eArs, eTs] at k7
        rcases Nat.lt_or_ge j x.idx.length with hlt2 | hge2
        · have v1 : IntKind.i64.wrap ((j : Int) + 1) = (j : Int) + 1 := wrap_id (by omega) (by omega)
          have hC2 := hxc x.idx[j] (hidx _ (List.getElem_mem hlt2)) ((x.args.length : Int) - 1 - i) (by omega) (by omega)
          have hUd : ¬ cntT x.idx[j] ((x.args.length : Int) - 1 - i) 0 = 0 → V = true := fun h => hUt fun h2 => h (h2.2.1 j hlt2)
          have hp2 := hpos x.idx[j] ((x.args.length : Int) - 1 - i)
          have hnd : cntT x.idx[j] ((x.args.length : Int) - 1 - i) 0 = 0 → ∀ (m : Nat) (hm : m < x.idx.length), m < j + 1 → cntT x.idx[m] ((x.args.length : Int) - 1 - i) 0 = 0 := fun h m hm hmj => by
            rcases Nat.lt_or_ge m j with h' | h'
            · exact gd m hm h'
            · have e : m = j := by omega
              subst e
              exact h
          generalize hX : x.idx[j] = X at *
          simp only [cT] at hC2
          simp -dsimp [g2, g7, k7, g12, g13, hlt2, hX, cT, w1, w2]
          refine call_of hC2 ?_
          by_cases c2 : cntT X ((x.args.length : Int) - 1 - i) 0 = 0
          · have hz : ¬ 0 < cntT X ((x.args.length : Int) - 1 - i) 0 := by omega
            have hnd' := hnd c2
            simp -dsimp [g2, g7, k7, g12, g13, hlt2, hz, c2, v1, eTs, eArs]
            exact hnd'
          · have hz := hp2 c2
            have hv := hUd c2
            simp -dsimp [g2, g7, k7, g12, g13, hlt2, hz, hv]
        · have e : j = x.idx.length := by omega
          subst e
          have hC2 := hxc x.dec hdec ((x.args.length : Int) - 1 - i) (by omega) (by omega)
          simp only [cT] at hC2
          simp -dsimp [g2, g7, k7, g12, g13, w1, w2]
          refine call_of hC2 ?_
          by_cases c2 : cntT x.dec ((x.args.length : Int) - 1 - i) 0 = 0
          · have hz : ¬ 0 < cntT x.dec ((x.args.length : Int) - 1 - i) 0 := by omega
            have hv := hUf ⟨hargs, fun m hm => gd m hm hm, c2⟩
            simp -dsimp [hz, c2, hv]
          · have hz := hpos x.dec ((x.args.length : Int) - 1 - i) c2
            have hv := hUt fun h => c2 h.2.2
            simp -dsimp [hz, hv]
end
end Ev
end Go.Proofs.Ythopdhnbflkabaa
