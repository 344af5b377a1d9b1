/- CompShifts. -/
import Derived.Test.YtomlkbohcoinoaaC6
namespace Go.Proofs.Ytomlkbohcoinoaa
namespace Ev
open Go
set_option maxRecDepth 100000
set_option linter.unusedSimpArgs false
set_option linter.unusedVariables false
attribute [local simp ↓] wx_skip wx_region wx_seq wx_block wx_exit wx_ret wx_cond wx_loop wo_nil wo_run wo_ask wx_draw wt_nil wt_run_t wt_run_f wt_ask_t wt_ask_f rb_mv rb_nilrow rb_pick rb_alloc rb_box rb_load rb_store rb_nilck rb_bin rb_binb rb_un rb_conv rb_mkf rb_mks rb_slice rb_faddr rb_fld rb_iaddr rb_ext rb_len rb_app rb_mm rb_build rb_bslice run_callC upd_eq upd_ne
attribute [local simp] runB_some runB_none Tch_nil Tch_cons Chk_t Cnd_t Cnd_f Ask_tt Ask_ff Ask_tf Ask_ft Ask_skip act ev_t ev_c evs sks caps2 touch_call List.cons_append List.nil_append putS binI binB int_add int_sub int_mul int_quo int_rem int_or int_eql int_neq int_lss int_leq int_gtr int_geq shiftD Ex.then Ex.inBlock Ends resL resX allD toD_d toD_fsl sk_d sk_fsl none_ loadA cut wrapA wrapD avc_d avc_agg avc_fsl avc_rsl avc_ptr avc_eptr avc_clo dc_agg dc_int dc_bool dc_str dc_sl dc_nilp dc_rp dc_clo on_int on_bool on_str on_sl on_nilp on_rp on_clo on_fsl on_rsl on_ptr on_eptr on_cloA newE elemsA elemsS storeA put frz_nil deep callee resA initS touchOp fits compat rd wr key1 buildA partsD partsK idx frz_at Body.frz lk_hit lk_miss toD6_agg toD5_agg toD4_agg toD6_clo toD5_clo toD4_clo toD6_ptr toD5_ptr toD4_ptr sk6_agg sk5_agg sk4_agg sk6_clo sk5_clo sk4_clo sk6_ptr sk5_ptr sk4_ptr toD_rsl sk_rsl resK EndsP EndsMP fitVs fitCs fitC keysV keysC keyC cellsA1 skVs skCs skC1 resO tupA valsV cellsV oneV rowsV rowsC RV.cells nk rowsH_one rowsH_two rowsH_none
section
attribute [local simp] allD_map_d sks_map_d tk tn tks initA EndsM one_sos one_cos one_ars one_ts
def upsB (l : List T) (y : Int) : Bool := l.all fun t => decide (shiftE t y 0 = 0)
theorem ups_ok (l : List T) (y : Int) (hn : ∀ x ∈ l, nodes x ≤ 9000) (hl : l.length ≤ 60) : Pure Try.prog n_porismlaw13_ups [eTs l, .int .i64 y] [eTs (if upsB l y then upsT l y else []), .bool (upsB l y)] := by
  refine p_porismlaw13_ups rfl fun hs => ?_
  simp -dsimp [x_porismlaw13_ups, eTs]
  have lU : (upsT l y).length = l.length := by simp [upsT]
  refine wp_upto l.length (fun i st => st.s 0 = .d (eTs l) ∧ st.s 1 = .d (.int .i64 y) ∧ st.s 7 = .d (.int .i64 i) ∧ (∃ q, st.s 6 = .rsl 6 q ∧ st.h 6 = ⟨q, .row 3 (((upsT l y).map eT).take i) false⟩) ∧ ∀ x ∈ l.take i, shiftE x y 0 = 0) ?_ ?_
  · simp -dsimp [eTs]
  · rintro i ⟨s, hp⟩ hi ⟨g0, g1, g7, ⟨q, g6, k6⟩, g⟩
    dsimp only at g0 g1 g7 g6 k6
    simp only [eTs] at g0
    rcases Nat.lt_or_ge i l.length with hlt | hge
    · have w1 : IntKind.i64.wrap ((i : Int) + 1) = (i : Int) + 1 := wrap_id (by omega) (by omega)
      have hnx : l.take (i + 1) = l.take i ++ [l[i]] := by rw [List.take_add_one, List.getElem?_eq_getElem hlt]; rfl
      have hmem := List.getElem_mem hlt
      have hS := shift_ok l[i] y 0 (by have := hn _ hmem; omega)
      have hr : (min i l.length + 1) * 40 ≤ maxRoom := by simp only [maxRoom]; omega
      have h1 : ((upsT l y).map eT).take i ++ [eT (shiftT l[i] y 0)] = ((upsT l y).map eT).take (i + 1) := by
        rw [List.take_add_one, List.getElem?_map, upsT, List.getElem?_map, List.getElem?_eq_getElem hlt]; rfl
      generalize hX : l[i] = X at *
      simp only [cT] at hS
      simp only [eT_eq, cT] at h1
      simp -dsimp [g0, g1, g7, g6, k6, hlt, hX, cT]
      refine call_of hS ?_
      by_cases he : shiftE X y 0 = 0
      · simp -dsimp [g0, g1, g7, g6, k6, hlt, hX, cT, he, w1, hr, lU, h1, eTs]
        intro x hx
        rw [hnx, List.mem_append, List.mem_singleton] at hx
        rcases hx with hx | rfl
        · exact g x hx
        · exact he
      · have hz : upsB l y = false := List.all_eq_false.2 ⟨X, hmem, by simp [he]⟩
        simp -dsimp [g0, g1, g7, g6, k6, hlt, hX, cT, he, hz]
    · have e : i = l.length := by omega
      subst e
      rw [List.take_length] at g
      rw [List.take_of_length_le (by simp [lU])] at k6
      have hz : upsB l y = true := List.all_eq_true.2 fun x hx => by simp [g x hx]
      simp -dsimp [g0, g1, g7, g6, k6, hz]
theorem upsB_all {l : List T} {y : Int} (h : upsB l y = true) : ∀ x ∈ l, shiftE x y 0 = 0 := fun x hx => by
  have := List.all_eq_true.1 h x hx
  simpa using this
theorem ups_is {l : List T} {y : Int} (h : upsB l y = true) : upsT l y = l.map (sT y) := List.map_congr_left fun x hx => shift_at (upsB_all h x hx)
theorem shifts13_law (b : Bl) (ob : okBl b) (hb : bulk (eBl b) ≤ 1048576) (base k v : Int) (mo me args : List T) (omo : okTs mo) (bmo : (mo.map nodes).sum ≤ 1048576) (ome : okTs me) (bme : (me.map nodes).sum ≤ 1048576) (oar : okTs args) (bar : (args.map nodes).sum ≤ 1048576) :
    Pure Try.prog n_porismlaw13_CompShifts [eBl b, .int .i64 base, .int .i64 k, .int .i64 v, eTs mo, eTs me, eTs args] [.bool true] := by
  refine p_porismlaw13_CompShifts rfl fun hs => ?_
  have hH := heavy07_ok b
  have hSh := shape7_ok b
  have hw := wakes13_ok
  have g1 := heavy02_ok mo
  have g2 := heavy02_ok me
  have g3 := heavy02_ok args
  simp only [eBl, cBl, eTs] at hH hSh g1 g2 g3
  simp -dsimp [x_porismlaw13_CompShifts, eBl, cBl, eTs]
  refine call_of hH ?_
  simp -dsimp
  (first | refine Ask_b ?_ ?_ | refine Cnd_b ?_ ?_) <;> intro h1 <;> (try simp only [decide_eq_true_eq, decide_eq_false_iff_not, beq_iff_eq, beq_eq_false_iff_ne, bne_iff_ne, bne_eq_false_iff_eq, Bool.not_eq_true', Bool.not_eq_false', Bool.and_eq_true, Bool.or_eq_true, Bool.and_eq_false_iff, Bool.or_eq_false_iff] at h1) <;> simp -dsimp [h1]
  refine call_of g1 ?_
  simp -dsimp [h1]
  (first | refine Ask_b ?_ ?_ | refine Cnd_b ?_ ?_) <;> intro h2 <;> (try simp only [decide_eq_true_eq, decide_eq_false_iff_not, beq_iff_eq, beq_eq_false_iff_ne, bne_iff_ne, bne_eq_false_iff_eq, Bool.not_eq_true', Bool.not_eq_false', Bool.and_eq_true, Bool.or_eq_true, Bool.and_eq_false_iff, Bool.or_eq_false_iff] at h2) <;> simp -dsimp [h2, h1]
  refine call_of g2 ?_
  simp -dsimp [h1, h2]
  (first | refine Ask_b ?_ ?_ | refine Cnd_b ?_ ?_) <;> intro h3 <;> (try simp only [decide_eq_true_eq, decide_eq_false_iff_not, beq_iff_eq, beq_eq_false_iff_ne, bne_iff_ne, bne_eq_false_iff_eq, Bool.not_eq_true', Bool.not_eq_false', Bool.and_eq_true, Bool.or_eq_true, Bool.and_eq_false_iff, Bool.or_eq_false_iff] at h3) <;> simp -dsimp [h3, h1, h2]
  refine call_of g3 ?_
  simp -dsimp [h1, h2, h3]
  (first | refine Ask_b ?_ ?_ | refine Cnd_b ?_ ?_) <;> intro h4 <;> (try simp only [decide_eq_true_eq, decide_eq_false_iff_not, beq_iff_eq, beq_eq_false_iff_ne, bne_iff_ne, bne_eq_false_iff_eq, Bool.not_eq_true', Bool.not_eq_false', Bool.and_eq_true, Bool.or_eq_true, Bool.and_eq_false_iff, Bool.or_eq_false_iff] at h4) <;> simp -dsimp [h4, h1, h2, h3]
  refine call_of hSh ?_
  simp -dsimp [h1, h2, h3, h4]
  by_cases h5 : shapeR b = true
  case neg =>
    have h5' : shapeR b = false := by simpa using h5
    simp -dsimp [h1, h2, h3, h4, h5']
  have fb := fine_of hb h1
  obtain ⟨lmo, fmo⟩ := list_fine bmo h2
  obtain ⟨lme, fme⟩ := list_fine bme h3
  obtain ⟨lar, far⟩ := list_fine bar h4
  simp -dsimp [h1, h2, h3, h4, h5]
  obtain ⟨V0, V1⟩ := rem_le v 50 (by omega) (by omega)
  generalize IntKind.i64.wrap ((IntKind.u64.wrap base).tmod 1000) = B
  generalize IntKind.i64.wrap ((IntKind.u64.wrap v).tmod 50) = V at V0 V1 ⊢
  have hE := elim_ok b fb ob B k mo me args fmo lmo fme lme far lar ome.2 oar.2
  simp only [eBl, cBl, eTs, cT] at hE
  refine call_of hE ?_
  by_cases hE0 : elimE b B k mo me args = 0
  case neg =>
    simp -dsimp [hE0]
    refine call_of hw ?_
    simp -dsimp
  have u1 := ups_ok mo V fmo lmo
  have u2 := ups_ok me V fme lme
  have u3 := ups_ok args V far lar
  have hnX : nodes (elimT b B k mo me args) ≤ 1048576 := by
    obtain ⟨hz, k0, co, hco, hB, hF, hM, hT, hL⟩ := elimE_zero hE0
    have hcm := List.mem_of_getElem? hco
    have fco := fb.cons co hcm
    have hlco := fco.args.1
    have hkl : k.toNat < me.length := by have := hB.2.2.1; have := (List.getElem?_eq_some_iff.1 hco).1; omega
    have hmg : me.getD k.toNat zT = me[k.toNat] := by rw [List.getD_eq_getElem?_getD, List.getElem?_eq_getElem hkl]; rfl
    rw [hmg] at hM hT
    have hnm := fme _ (List.getElem_mem hkl)
    have hnL := mkL_nodes (b := b) (base := B) fco.args.2 fmo lmo fme lme far co.args.length
    have hlL := mkL_len b B co.args mo me args co.args.length
    rw [makeE, if_pos hL] at hM
    have := sum_cap _ hnL
    have hc := ((check_iff2 (by rw [sp_nodes']; omega)).1 hM).1
    rw [hT]
    omega
  have hX := shift_ok (elimT b B k mo me args) V 0 hnX
  have hsh := elim_sh (b := b) (base := B) (k := k) fb (y := V) ⟨V0, by omega⟩ fmo lmo fme lme far hE0
  generalize elimT b B k mo me args = X at *
  simp only [eTs, cT] at u1 u2 u3 hX
  simp -dsimp [hE0]
  refine call_of u1 ?_
  simp -dsimp
  refine call_of u2 ?_
  simp -dsimp
  refine call_of u3 ?_
  simp -dsimp
  refine call_of hX ?_
  cases b1 : upsB mo V with
  | false =>
    simp -dsimp [b1]
    refine call_of hw ?_
    simp -dsimp
  | true =>
  cases b2 : upsB me V with
  | false =>
    simp -dsimp [b1, b2]
    refine call_of hw ?_
    simp -dsimp
  | true =>
  cases b3 : upsB args V with
  | false =>
    simp -dsimp [b1, b2, b3]
    refine call_of hw ?_
    simp -dsimp
  | true =>
  by_cases hx0 : shiftE X V 0 = 0
  case neg =>
    simp -dsimp [b1, b2, b3, hx0]
    refine call_of hw ?_
    simp -dsimp
  obtain ⟨e1, e2⟩ := hsh (upsB_all b1) (upsB_all b2) (upsB_all b3) hx0
  have nS : ∀ {l : List T}, (∀ x ∈ l, nodes x ≤ 9000) → upsB l V = true → (∀ x ∈ l.map (sT V), nodes x ≤ 9000) ∧ ∀ x ∈ l.map (sT V), okT x := fun {l} hn hu => by
    have hh : ∀ x ∈ l, formedM (sT V x) = true ∧ nodes (sT V x) = nodes x := fun x hx => by
      have := shift_right (by have := hn x hx; omega) (upsB_all hu x hx)
      rw [shift_at (upsB_all hu x hx)] at this
      exact ⟨this.2.1, this.2.2⟩
    refine ⟨fun x hx => ?_, fun x hx => ?_⟩ <;> obtain ⟨z, hz, rfl⟩ := List.mem_map.1 hx
    · rw [(hh z hz).2]; exact hn z hz
    · exact okT_of_formed (hh z hz).1
  have hE2 := elim_ok b fb ob B k (mo.map (sT V)) (me.map (sT V)) (args.map (sT V)) (nS fmo b1).1 (by simpa using lmo) (nS fme b2).1 (by simpa using lme) (nS far b3).1 (by simpa using lar) (nS fme b2).2 (nS far b3).2
  rw [e1, e2] at hE2
  have hk := keepTerm_ok (shiftT X V 0)
  simp only [eBl, cBl, eTs, cT] at hE2 hk
  simp -dsimp [b1, b2, b3, hx0, ups_is b1, ups_is b2, ups_is b3]
  simp only [List.map_map] at hE2
  refine call_of hE2 ?_
  simp -dsimp
  refine call_of hk ?_
  simp -dsimp
  refine call_of hw ?_
  simp -dsimp
end
end Ev
end Go.Proofs.Ytomlkbohcoinoaa
