/- The document's answer for layer 7: the numbers. -/
import Derived.Test.YtafpjpolkjdohaaS17
import Derived.Test.YtafpjpolkjdohaaS20
namespace Go.Proofs.Ytafpjpolkjdohaa
namespace Ev
open Go
set_option maxRecDepth 100000
set_option linter.unusedSimpArgs false
set_option linter.unusedVariables false
attribute [local simp ↓] wx_skip wx_region wx_seq wx_block wx_exit wx_ret wx_cond wx_loop wo_nil wo_run wo_ask wx_draw wt_nil wt_run_t wt_run_f wt_ask_t wt_ask_f rb_mv rb_nilrow rb_pick rb_alloc rb_box rb_load rb_store rb_nilck rb_bin rb_binb rb_un rb_conv rb_mkf rb_mks rb_slice rb_faddr rb_fld rb_iaddr rb_ext rb_len rb_app rb_mm rb_build rb_bslice run_callC upd_eq upd_ne
attribute [local simp] runB_some runB_none Tch_nil Tch_cons Chk_t Cnd_t Cnd_f Ask_tt Ask_ff Ask_tf Ask_ft Ask_skip act ev_t ev_c evs sks caps2 touch_call List.cons_append List.nil_append putS binI binB int_add int_sub int_mul int_quo int_rem int_or int_eql int_neq int_lss int_leq int_gtr int_geq shiftD Ex.then Ex.inBlock Ends resL resX allD toD_d toD_fsl sk_d sk_fsl none_ loadA cut wrapA wrapD avc_d avc_agg avc_fsl avc_rsl avc_ptr avc_eptr avc_clo dc_agg dc_int dc_bool dc_str dc_sl dc_nilp dc_rp dc_clo on_int on_bool on_str on_sl on_nilp on_rp on_clo on_fsl on_rsl on_ptr on_eptr on_cloA newE elemsA elemsS storeA put frz_nil deep callee resA initS touchOp fits compat rd wr key1 buildA partsD partsK idx frz_at Body.frz lk_hit lk_miss toD6_agg toD5_agg toD4_agg toD6_clo toD5_clo toD4_clo toD6_ptr toD5_ptr toD4_ptr sk6_agg sk5_agg sk4_agg sk6_clo sk5_clo sk4_clo sk6_ptr sk5_ptr sk4_ptr toD_rsl sk_rsl
attribute [local simp] allD_map_d sks_map_d

theorem ns_ok (b : Bl) : Pure Try.prog n_porismref07_ns [eBl b] [.int .i64 b.sorts.length] := by
  refine p_porismref07_ns rfl fun hs => ?_
  simp -dsimp [x_porismref07_ns, eBl, cBl, eSos, eCos]
theorem decs_len {l : List So} {i : Nat} (h : l.length ≤ i) : decs (l.take i) = decs l := by rw [List.take_of_length_le h]
theorem decs7_ok (b : Bl) (k : Int) : Pure Try.prog n_porismref07_decs [eBl b, .int .i64 k] [.int .i64 (decs (b.sorts.take k.toNat))] := by
  refine p_porismref07_decs rfl fun hs => ?_
  have hbl : ((b.sorts.length : Int)) ≤ 9223372036854775807 := by
    have := hs (eBl b) (by simp)
    simp -dsimp [eBl, cBl, eSos, small] at this
    omega
  simp -dsimp [x_porismref07_decs, eBl, cBl, eSos, eCos]
  have hl := decs_len (l := b.sorts) (i := k.toNat)
  refine wp_upto (min k.toNat b.sorts.length) (fun i st => st.s 1 = .d (.int .i64 k) ∧ st.s 2 = .ptr 2 1 0 ∧ st.h 2 = ⟨1, .box [.d (.sl 6 (b.sorts.map eSo)), .d (.sl 6 (b.cons.map eCo)), .d (.int .i64 b.elim)] false⟩ ∧
    st.s 6 = .d (.int .i64 i) ∧ st.s 5 = .d (.int .i64 (decs (b.sorts.take i)))) ?_ ?_
  · simp -dsimp [decs]
  · rintro i ⟨s, hp⟩ hi ⟨g1, g2, g3, g4, g5⟩
    dsimp only at g1 g2 g3 g4 g5
    rcases Nat.lt_or_ge i (min k.toNat b.sorts.length) with hlt | hge
    · have hlt1 : (i : Int) < k := by omega
      have hlt2 : i < b.sorts.length := by omega
      have hlt3 : i < k.toNat := by omega
      have w1 : IntKind.i64.wrap ((i : Int) + 1) = (i : Int) + 1 := wrap_id (by omega) (by omega)
      have hd := decs_le (b.sorts.take i)
      rw [List.length_take] at hd
      have w2 : IntKind.i64.wrap ((decs (b.sorts.take i) : Int) + 1) = (decs (b.sorts.take i) : Int) + 1 := wrap_id (by omega) (by omega)
      have hsn := decs_snoc b.sorts i b.sorts[i] (List.getElem?_eq_getElem hlt2)
      simp -dsimp [g1, g2, g3, g4, g5, hlt1, hlt2, eSo, cSo, cT, eArs]
      cases hxd : b.sorts[i].dec <;> simp -dsimp [hlt, hxd, g1, g2, g3, g4, g5, hlt1, hlt2, hlt3, w1, w2, hsn]
    · have e : i = min k.toNat b.sorts.length := by omega
      rcases Nat.lt_or_ge k.toNat b.sorts.length with c | c
      · have e2 : i = k.toNat := by omega
        have n1 : ¬(max k 0 < k) := by omega
        clear e
        subst e2
        simp -dsimp [g1, g2, g3, g4, g5, n1]
      · have e2 : i = b.sorts.length := by omega
        rw [hl c]
        clear e
        subst e2
        rw [List.take_length] at g5
        simp -dsimp [g1, g2, g3, g4, g5]
        (first | refine Ask_b ?_ ?_ | refine Cnd_b ?_ ?_) <;> intro n1 <;> (try simp only [decide_eq_true_eq, decide_eq_false_iff_not, beq_iff_eq, beq_eq_false_iff_ne, bne_iff_ne, bne_eq_false_iff_eq, Bool.not_eq_true', Bool.not_eq_false', Bool.and_eq_true, Bool.or_eq_true, Bool.and_eq_false_iff, Bool.or_eq_false_iff] at n1) <;> simp -dsimp [n1, g1, g2, g3, g4, g5]
theorem count7_ok (b : Bl) : Pure Try.prog n_porismref07_Count [eBl b] [.int .i64 (count b)] := by
  refine p_porismref07_Count rfl fun hs => ?_
  simp -dsimp [x_porismref07_Count, eBl, cBl, eSos, eCos]
  refine call_of (ns_ok b) ?_
  simp -dsimp
  refine call_of (ns_ok b) ?_
  simp -dsimp
  refine call_of (decs7_ok b b.sorts.length) ?_
  simp -dsimp [count, w64]
theorem former7_ok (b : Bl) (hf : Fit b) (base k : Int) : Pure Try.prog n_porismref07_Former [eBl b, .int .i64 base, .int .i64 k] [.int .i64 (former b base k)] := by
  refine p_porismref07_Former rfl fun hs => ?_
  have hfs := hf.s
  simp -dsimp [x_porismref07_Former, eBl, cBl, eSos, eCos]
  refine call_of (in7_ok base 0 65535) ?_
  simp -dsimp
  (first | refine Ask_b ?_ ?_ | refine Cnd_b ?_ ?_) <;> intro g1 <;> (try simp only [decide_eq_true_eq, decide_eq_false_iff_not, beq_iff_eq, beq_eq_false_iff_ne, bne_iff_ne, bne_eq_false_iff_eq, Bool.not_eq_true', Bool.not_eq_false', Bool.and_eq_true, Bool.or_eq_true, Bool.and_eq_false_iff, Bool.or_eq_false_iff] at g1) <;> simp -dsimp [g1]
  · have h5 := (inB_not _ _ _).1 g1
    rw [former, place, if_pos (by omega)]
  refine call_of (ns_ok b) ?_
  have wS : IntKind.i64.wrap ((b.sorts.length : Int) - 1) = (b.sorts.length : Int) - 1 := wrap_id (by omega) (by omega)
  simp -dsimp [g1, wS]
  refine call_of (in7_ok k 0 _) ?_
  simp -dsimp [g1]
  have h5 := (inB_iff _ _ _).1 g1
  rw [former_is hf h5.1 h5.2]
  (first | refine Ask_b ?_ ?_ | refine Cnd_b ?_ ?_) <;> intro g2 <;> (try simp only [decide_eq_true_eq, decide_eq_false_iff_not, beq_iff_eq, beq_eq_false_iff_ne, bne_iff_ne, bne_eq_false_iff_eq, Bool.not_eq_true', Bool.not_eq_false', Bool.and_eq_true, Bool.or_eq_true, Bool.and_eq_false_iff, Bool.or_eq_false_iff] at g2) <;> simp -dsimp [g2, g1]
  · have h6 := (inB_not _ _ _).1 g2
    intros
    omega
  have h6 := (inB_iff _ _ _).1 g2
  rw [if_pos (by omega)]
  exact wrap_id (by omega) (by omega)
theorem eliminator7_ok (b : Bl) (hf : Fit b) (base k : Int) : Pure Try.prog n_porismref07_Eliminator [eBl b, .int .i64 base, .int .i64 k] [.int .i64 (eliminator b base k)] := by
  refine p_porismref07_Eliminator rfl fun hs => ?_
  have hfs := hf.s
  have hfc := hf.c
  have hd := decs_le b.sorts
  simp -dsimp [x_porismref07_Eliminator, eBl, cBl, eSos, eCos]
  refine call_of (in7_ok base 0 65535) ?_
  simp -dsimp
  (first | refine Ask_b ?_ ?_ | refine Cnd_b ?_ ?_) <;> intro g1 <;> (try simp only [decide_eq_true_eq, decide_eq_false_iff_not, beq_iff_eq, beq_eq_false_iff_ne, bne_iff_ne, bne_eq_false_iff_eq, Bool.not_eq_true', Bool.not_eq_false', Bool.and_eq_true, Bool.or_eq_true, Bool.and_eq_false_iff, Bool.or_eq_false_iff] at g1) <;> simp -dsimp [g1]
  · have h5 := (inB_not _ _ _).1 g1
    rw [eliminator, place, if_pos (by omega)]
  refine call_of (ns_ok b) ?_
  have wS : IntKind.i64.wrap ((b.sorts.length : Int) - 1) = (b.sorts.length : Int) - 1 := wrap_id (by omega) (by omega)
  simp -dsimp [g1, wS]
  refine call_of (in7_ok k 0 _) ?_
  simp -dsimp [g1]
  have h5 := (inB_iff _ _ _).1 g1
  rw [eliminator_is hf h5.1 h5.2]
  (first | refine Ask_b ?_ ?_ | refine Cnd_b ?_ ?_) <;> intro g2 <;> (try simp only [decide_eq_true_eq, decide_eq_false_iff_not, beq_iff_eq, beq_eq_false_iff_ne, bne_iff_ne, bne_eq_false_iff_eq, Bool.not_eq_true', Bool.not_eq_false', Bool.and_eq_true, Bool.or_eq_true, Bool.and_eq_false_iff, Bool.or_eq_false_iff] at g2) <;> simp -dsimp [g2, g1]
  · have h6 := (inB_not _ _ _).1 g2
    intros
    omega
  have h6 := (inB_iff _ _ _).1 g2
  rw [if_pos (by omega)]
  refine call_of (ns_ok b) ?_
  simp -dsimp
  refine call_of (ns_ok b) ?_
  simp -dsimp
  refine call_of (decs7_ok b b.sorts.length) ?_
  simp -dsimp
  rw [wrap_id (n := base + (b.sorts.length : Int)) (by omega) (by omega), wrap_id (n := base + (b.sorts.length : Int) + decs b.sorts) (by omega) (by omega), wrap_id (n := base + (b.sorts.length : Int) + decs b.sorts + b.cons.length) (by omega) (by omega), wrap_id (by omega) (by omega)]
  omega
theorem constructor7_ok (b : Bl) (hf : Fit b) (base k : Int) : Pure Try.prog n_porismref07_Constructor [eBl b, .int .i64 base, .int .i64 k] [.int .i64 (constructor_ b base k)] := by
  refine p_porismref07_Constructor rfl fun hs => ?_
  have hfs := hf.s
  have hfc := hf.c
  have hd := decs_le b.sorts
  simp -dsimp [x_porismref07_Constructor, eBl, cBl, eSos, eCos]
  refine call_of (in7_ok base 0 65535) ?_
  simp -dsimp
  (first | refine Ask_b ?_ ?_ | refine Cnd_b ?_ ?_) <;> intro g1 <;> (try simp only [decide_eq_true_eq, decide_eq_false_iff_not, beq_iff_eq, beq_eq_false_iff_ne, bne_iff_ne, bne_eq_false_iff_eq, Bool.not_eq_true', Bool.not_eq_false', Bool.and_eq_true, Bool.or_eq_true, Bool.and_eq_false_iff, Bool.or_eq_false_iff] at g1) <;> simp -dsimp [g1]
  · have h5 := (inB_not _ _ _).1 g1
    rw [constructor_, place, if_pos (by omega)]
  have wS : IntKind.i64.wrap ((b.cons.length : Int) - 1) = (b.cons.length : Int) - 1 := wrap_id (by omega) (by omega)
  simp -dsimp [g1, wS]
  refine call_of (in7_ok k 0 _) ?_
  simp -dsimp [g1]
  have h5 := (inB_iff _ _ _).1 g1
  rw [constructor_is hf h5.1 h5.2]
  (first | refine Ask_b ?_ ?_ | refine Cnd_b ?_ ?_) <;> intro g2 <;> (try simp only [decide_eq_true_eq, decide_eq_false_iff_not, beq_iff_eq, beq_eq_false_iff_ne, bne_iff_ne, bne_eq_false_iff_eq, Bool.not_eq_true', Bool.not_eq_false', Bool.and_eq_true, Bool.or_eq_true, Bool.and_eq_false_iff, Bool.or_eq_false_iff] at g2) <;> simp -dsimp [g2, g1]
  · have h6 := (inB_not _ _ _).1 g2
    intros
    omega
  have h6 := (inB_iff _ _ _).1 g2
  rw [if_pos (by omega)]
  refine call_of (ns_ok b) ?_
  simp -dsimp
  refine call_of (ns_ok b) ?_
  simp -dsimp
  refine call_of (decs7_ok b b.sorts.length) ?_
  simp -dsimp
  rw [wrap_id (n := base + (b.sorts.length : Int)) (by omega) (by omega), wrap_id (n := base + (b.sorts.length : Int) + decs b.sorts) (by omega) (by omega), wrap_id (by omega) (by omega)]
  omega
theorem decoder7_ok (b : Bl) (hf : Fit b) (base k : Int) : Pure Try.prog n_porismref07_Decoder [eBl b, .int .i64 base, .int .i64 k] [.int .i64 (decoder b base k)] := by
  refine p_porismref07_Decoder rfl fun hs => ?_
  have hfs := hf.s
  simp -dsimp [x_porismref07_Decoder, eBl, cBl, eSos, eCos]
  refine call_of (in7_ok base 0 65535) ?_
  simp -dsimp
  (first | refine Ask_b ?_ ?_ | refine Cnd_b ?_ ?_) <;> intro g1 <;> (try simp only [decide_eq_true_eq, decide_eq_false_iff_not, beq_iff_eq, beq_eq_false_iff_ne, bne_iff_ne, bne_eq_false_iff_eq, Bool.not_eq_true', Bool.not_eq_false', Bool.and_eq_true, Bool.or_eq_true, Bool.and_eq_false_iff, Bool.or_eq_false_iff] at g1) <;> simp -dsimp [g1]
  · have h5 := (inB_not _ _ _).1 g1
    rw [decoder]
    split
    · rfl
    · split
      · rfl
      · split
        · rw [place, if_pos (by omega)]
        · rfl
  refine call_of (ns_ok b) ?_
  have wS : IntKind.i64.wrap ((b.sorts.length : Int) - 1) = (b.sorts.length : Int) - 1 := wrap_id (by omega) (by omega)
  simp -dsimp [g1, wS]
  refine call_of (in7_ok k 0 _) ?_
  simp -dsimp [g1]
  have h5 := (inB_iff _ _ _).1 g1
  rw [decoder_is hf h5.1 h5.2]
  (first | refine Ask_b ?_ ?_ | refine Cnd_b ?_ ?_) <;> intro g2 <;> (try simp only [decide_eq_true_eq, decide_eq_false_iff_not, beq_iff_eq, beq_eq_false_iff_ne, bne_iff_ne, bne_eq_false_iff_eq, Bool.not_eq_true', Bool.not_eq_false', Bool.and_eq_true, Bool.or_eq_true, Bool.and_eq_false_iff, Bool.or_eq_false_iff] at g2) <;> simp -dsimp [g2, g1]
  · have h6 := (inB_not _ _ _).1 g2
    intro h
    omega
  have h6 := (inB_iff _ _ _).1 g2
  have hlt : k.toNat < b.sorts.length := by omega
  rw [dif_pos (by omega)]
  simp -dsimp [g1, g2, h6.1, hlt, eSo, cSo, cT, eArs]
  (first | refine Ask_b ?_ ?_ | refine Cnd_b ?_ ?_) <;> intro g4 <;> (try simp only [decide_eq_true_eq, decide_eq_false_iff_not, beq_iff_eq, beq_eq_false_iff_ne, bne_iff_ne, bne_eq_false_iff_eq, Bool.not_eq_true', Bool.not_eq_false', Bool.and_eq_true, Bool.or_eq_true, Bool.and_eq_false_iff, Bool.or_eq_false_iff] at g4) <;> simp -dsimp [g4, g1, g2, h6.1, hlt, eSo, cSo, cT, eArs]
  rw [if_pos g4]
  refine call_of (ns_ok b) ?_
  simp -dsimp
  refine call_of (decs7_ok b k) ?_
  simp -dsimp
  have hd := decs_le (b.sorts.take k.toNat)
  rw [List.length_take] at hd
  rw [wrap_id (n := base + (b.sorts.length : Int)) (by omega) (by omega), wrap_id (by omega) (by omega)]
theorem of7_ok (b : Bl) (hf : Fit b) (base n : Int) (hn : is64 n) : Pure Try.prog n_porismref07_Of [eBl b, .int .i64 base, .int .i64 n] [.int .i64 (ofM b base n).1, .int .i64 (ofM b base n).2] := by
  refine p_porismref07_Of rfl fun hs => ?_
  have hfs := hf.s
  have hfc := hf.c
  simp -dsimp [x_porismref07_Of, eBl, cBl, eSos, eCos]
  refine wp_upto b.sorts.length (fun i st => st.s 3 = .ptr 3 1 0 ∧ st.h 3 = ⟨1, .box [.d (.sl 6 (b.sorts.map eSo)), .d (.sl 6 (b.cons.map eCo)), .d (.int .i64 b.elim)] false⟩ ∧ st.s 1 = .d (.int .i64 base) ∧ st.s 2 = .d (.int .i64 n) ∧
    st.s 8 = .d (.int .i64 i) ∧ ∀ j : Nat, j < i → 0 ≤ n → former b base j ≠ n ∧ decoder b base j ≠ n ∧ eliminator b base j ≠ n) ?_ ?_
  · simp -dsimp
  · rintro i ⟨s, hp⟩ hi ⟨g1, g2, g3, g4, g5, g6⟩
    dsimp only at g1 g2 g3 g4 g5
    simp -dsimp [g1, g2, g3, g4, g5]
    refine call_of (ns_ok b) ?_
    rcases Nat.lt_or_ge i b.sorts.length with hlt | hge
    · have w1 : IntKind.i64.wrap ((i : Int) + 1) = (i : Int) + 1 := wrap_id (by omega) (by omega)
      simp -dsimp [g1, g2, g3, g4, g5, hlt]
      refine call_of (former7_ok b hf base i) ?_
      simp -dsimp [g1, g2, g3, g4, g5, hlt]
      by_cases nn : 0 ≤ n
      · by_cases c1 : former b base i = n
        · have ho := of_former hf nn c1
          simp -dsimp [g1, g2, g3, g4, g5, hlt, w1, c1, nn, ho]
        simp -dsimp [g1, g2, g3, g4, g5, hlt, w1, c1]
        refine call_of (decoder7_ok b hf base i) ?_
        simp -dsimp [g1, g2, g3, g4, g5, hlt, w1, c1]
        by_cases c2 : decoder b base i = n
        · have ho := of_decoder hf nn c2
          simp -dsimp [g1, g2, g3, g4, g5, hlt, w1, c1, c2, nn, ho]
        simp -dsimp [g1, g2, g3, g4, g5, hlt, w1, c1, c2]
        refine call_of (eliminator7_ok b hf base i) ?_
        simp -dsimp [g1, g2, g3, g4, g5, hlt, w1, c1, c2]
        by_cases c3 : eliminator b base i = n
        · have ho := of_eliminator hf nn c3
          simp -dsimp [g1, g2, g3, g4, g5, hlt, w1, c1, c2, c3, nn, ho]
        simp -dsimp [g1, g2, g3, g4, g5, hlt, w1, c1, c2, c3]
        intro j hj hnn
        rcases Nat.lt_or_ge j i with h | h
        · exact g6 j h hnn
        · have : j = i := by omega
          subst this
          exact ⟨c1, c2, c3⟩
      · generalize decide (former b base i = n) = q1
        cases q1 <;> simp -dsimp [g1, g2, g3, g4, g5, hlt, w1, nn] <;> refine call_of (decoder7_ok b hf base i) ?_ <;> simp -dsimp [g1, g2, g3, g4, g5, hlt, w1, nn] <;>
          generalize decide (decoder b base i = n) = q2 <;> cases q2 <;> simp -dsimp [g1, g2, g3, g4, g5, hlt, w1, nn] <;> refine call_of (eliminator7_ok b hf base i) ?_ <;> simp -dsimp [g1, g2, g3, g4, g5, hlt, w1, nn] <;>
          generalize decide (eliminator b base i = n) = q3 <;> cases q3 <;> simp -dsimp [g1, g2, g3, g4, g5, hlt, w1, nn] <;> omega
    · have e : i = b.sorts.length := by omega
      subst e
      simp -dsimp [g1, g2, g3, g4, g5]
      clear hi g5
      refine wp_upto b.cons.length (fun i st => st.s 3 = .ptr 3 1 0 ∧ st.h 3 = ⟨1, .box [.d (.sl 6 (b.sorts.map eSo)), .d (.sl 6 (b.cons.map eCo)), .d (.int .i64 b.elim)] false⟩ ∧ st.s 1 = .d (.int .i64 base) ∧ st.s 2 = .d (.int .i64 n) ∧
        st.s 9 = .d (.int .i64 i) ∧ ∀ j : Nat, j < i → 0 ≤ n → constructor_ b base j ≠ n) ?_ ?_
      · simp -dsimp [g1, g2, g3, g4]
      · clear g1 g2 g3 g4 s hp
        rintro i ⟨s, hp⟩ hi ⟨g1, g2, g3, g4, g5, g7⟩
        dsimp only at g1 g2 g3 g4 g5
        rcases Nat.lt_or_ge i b.cons.length with hlt | hge
        · have w1 : IntKind.i64.wrap ((i : Int) + 1) = (i : Int) + 1 := wrap_id (by omega) (by omega)
          simp -dsimp [g1, g2, g3, g4, g5, hlt]
          refine call_of (constructor7_ok b hf base i) ?_
          simp -dsimp [g1, g2, g3, g4, g5, hlt, w1]
          by_cases nn : 0 ≤ n
          · by_cases c1 : constructor_ b base i = n
            · have ho := of_constructor hf nn c1
              simp -dsimp [g1, g2, g3, g4, g5, hlt, w1, c1, nn, ho]
            simp -dsimp [g1, g2, g3, g4, g5, hlt, w1, c1]
            intro j hj hnn
            rcases Nat.lt_or_ge j i with h | h
            · exact g7 j h hnn
            · have : j = i := by omega
              subst this
              exact c1
          · generalize decide (constructor_ b base i = n) = q1
            cases q1 <;> simp -dsimp [g1, g2, g3, g4, g5, hlt, w1, nn] <;> omega
        · have e : i = b.cons.length := by omega
          subst e
          have ho : ofM b base n = (0, 0) := of_none hf hn fun e he k hk nn => by
            simp only [tab, List.mem_cons, List.not_mem_nil, or_false] at he
            rcases he with rfl | rfl | rfl | rfl <;> simp only at hk ⊢
            · exact (g6 k hk nn).1
            · exact (g6 k hk nn).2.1
            · exact g7 k hk nn
            · exact (g6 k hk nn).2.2
          simp -dsimp [g1, g2, g3, g4, g5, ho]
end Ev
end Go.Proofs.Ytafpjpolkjdohaa
