/- PositPlain. -/
import Derived.Test.YthopdhnbflkabaaOC
import Derived.Test.YthopdhnbflkabaaOH
namespace Go.Proofs.Ythopdhnbflkabaa
namespace Ev
open Go
set_option maxRecDepth 100000
set_option linter.unusedSimpArgs false
set_option linter.unusedVariables false
attribute [local simp ↓] wx_skip wx_region wx_seq wx_block wx_exit wx_ret wx_cond wx_loop wo_nil wo_run wo_ask wx_draw wt_nil wt_run_t wt_run_f wt_ask_t wt_ask_f rb_mv rb_nilrow rb_pick rb_alloc rb_box rb_load rb_store rb_nilck rb_bin rb_binb rb_un rb_conv rb_mkf rb_mks rb_slice rb_faddr rb_fld rb_iaddr rb_ext rb_len rb_app rb_mm rb_build rb_bslice run_callC upd_eq upd_ne
attribute [local simp] runB_some runB_none Tch_nil Tch_cons Chk_t Cnd_t Cnd_f Ask_tt Ask_ff Ask_tf Ask_ft Ask_skip act ev_t ev_c evs sks caps2 touch_call List.cons_append List.nil_append putS binI binB int_add int_sub int_mul int_quo int_rem int_or int_eql int_neq int_lss int_leq int_gtr int_geq shiftD Ex.then Ex.inBlock Ends resL resX allD toD_d toD_fsl sk_d sk_fsl none_ loadA cut wrapA wrapD avc_d avc_agg avc_fsl avc_rsl avc_ptr avc_eptr avc_clo dc_agg dc_int dc_bool dc_str dc_sl dc_nilp dc_rp dc_clo on_int on_bool on_str on_sl on_nilp on_rp on_clo on_fsl on_rsl on_ptr on_eptr on_cloA newE elemsA elemsS storeA put frz_nil deep callee resA initS touchOp fits compat rd wr key1 buildA partsD partsK idx frz_at Body.frz lk_hit lk_miss toD6_agg toD5_agg toD4_agg toD6_clo toD5_clo toD4_clo toD6_ptr toD5_ptr toD4_ptr sk6_agg sk5_agg sk4_agg sk6_clo sk5_clo sk4_clo sk6_ptr sk5_ptr sk4_ptr toD_rsl sk_rsl resK EndsP EndsMP fitVs fitCs fitC keysV keysC keyC cellsA1 skVs skCs skC1 resO tupA valsV cellsV oneV rowsV rowsC RV.cells nk rowsH_one rowsH_two rowsH_none
section
attribute [local simp] allD_map_d sks_map_d tk tn tks initA EndsM one_sos one_cos one_ars one_ts
theorem plain8_law (b : Bl) (ob : okBl b) (hb : bulk (eBl b) ≤ 1048576) (base : Int) : Pure Try.prog n_porismlaw08_PositPlain [eBl b, .int .i64 base] [.bool true] := by
  refine p_porismlaw08_PositPlain rfl fun hs => ?_
  have hH := heavy07_ok b
  have hSh := shape7_ok b
  simp only [eBl, cBl] at hH hSh
  simp -dsimp [x_porismlaw08_PositPlain, eBl, cBl]
  refine call_of hH ?_
  simp -dsimp
  (first | refine Ask_b ?_ ?_ | refine Cnd_b ?_ ?_) <;> intro h1 <;> (try simp only [decide_eq_true_eq, decide_eq_false_iff_not, beq_iff_eq, beq_eq_false_iff_ne, bne_iff_ne, bne_eq_false_iff_eq, Bool.not_eq_true', Bool.not_eq_false', Bool.and_eq_true, Bool.or_eq_true, Bool.and_eq_false_iff, Bool.or_eq_false_iff] at h1) <;> simp -dsimp [h1]
  have hf := fit_of h1
  have fb := fine_of hb h1
  have hfs := hf.s
  have hfc := hf.c
  refine call_of hSh ?_
  simp -dsimp [h1]
  by_cases h2 : shapeR b = true
  case neg =>
    have h2' : shapeR b = false := by simpa using h2
    simp -dsimp [h1, h2']
  have hz : checkB b = 0 := of_decide_eq_true h2
  obtain ⟨z1, z4, z8, zl, zs, zc⟩ := (checkB_zero b).1 hz
  simp -dsimp [h1, h2]
  obtain ⟨B0, B1⟩ := rem_le base 1000 (by omega) (by omega)
  generalize IntKind.i64.wrap ((IntKind.u64.wrap base).tmod 1000) = B at B0 B1 ⊢
  have hP := posit_ok 9000 (by omega) (by omega) b ob fb B
  have hcx := count7_ok b
  have hnx := names_ok b fb
  obtain ⟨c0, c1⟩ := count_small8 hf
  obtain ⟨c, hc⟩ : ∃ c : Nat, count b = c := ⟨(count b).toNat, by omega⟩
  rw [hc] at hcx c0 c1
  simp only [eBl, cBl] at hcx hP hnx
  refine wp_upto c (fun i st => st.s 1 = .d (.int .i64 B) ∧ (st.s 2 = .ptr 2 1 0 ∧ st.h 2 = ⟨1, .box [.d (eSos b.sorts), .d (eCos b.cons), .d (.int .i64 b.elim)] false⟩) ∧ st.s 5 = .d (.int .i64 i) ∧ ∀ j : Nat, j < i → nmB b (B + j) = false) ?_ ?_
  · simp -dsimp
  · rintro i ⟨s, hp⟩ hi ⟨g1, ⟨g2, k2⟩, g5, g⟩
    dsimp only at g1 g2 k2 g5
    simp -dsimp [g1, g2, k2, g5]
    refine call_of hcx ?_
    rcases Nat.lt_or_ge i c with hlt | hge
    · have w1 : IntKind.i64.wrap ((i : Int) + 1) = (i : Int) + 1 := wrap_id (by omega) (by omega)
      have w2 : IntKind.i64.wrap (B + (i : Int)) = B + (i : Int) := wrap_id (by omega) (by omega)
      have hn := hnx (B + i)
      simp -dsimp [g1, g2, k2, g5, hlt, w2]
      refine call_of hn ?_
      cases hm : nmB b (B + i) with
      | true =>
        simp -dsimp
        refine call_of wakes08_ok ?_
        simp -dsimp
      | false =>
        have hx : ∀ j : Nat, j < i + 1 → nmB b (B + j) = false := fun j hji => by
          rcases Nat.lt_or_ge j i with h' | h'
          · exact g j h'
          · have : j = i := by omega
            subst this
            exact hm
        simp -dsimp [g1, g2, k2, g5, hlt, w1]
        exact hx
    · have e : i = c := by omega
      subst e
      have hN : ∀ j : Nat, (j : Int) < count b → nmB b (B + j) = false := fun j hj => g j (by omega)
      clear g
      simp -dsimp [g1, g2, k2, g5]
      clear g5 hge hi
      refine wp_upto b.sorts.length (fun i st => st.s 1 = .d (.int .i64 B) ∧ (st.s 2 = .ptr 2 1 0 ∧ st.h 2 = ⟨1, .box [.d (eSos b.sorts), .d (eCos b.cons), .d (.int .i64 b.elim)] false⟩) ∧ st.s 6 = .d (.int .i64 i) ∧ ∀ (j : Nat) (hj : j < b.sorts.length), j < i → ∀ a ∈ b.sorts[j].idx, a.rc = false) ?_ ?_
      · simp -dsimp [g1, g2, k2]
      · clear g1 g2 k2
        rintro i ⟨s, hp⟩ hi ⟨g1, ⟨g2, k2⟩, g6, g⟩
        dsimp only at g1 g2 k2 g6
        simp only [eSos] at k2
        rcases Nat.lt_or_ge i b.sorts.length with hlt | hge
        · have w1 : IntKind.i64.wrap ((i : Int) + 1) = (i : Int) + 1 := wrap_id (by omega) (by omega)
          have fS := (fb.sorts _ (List.getElem_mem hlt)).idx.1
          have hx : (∀ a ∈ b.sorts[i].idx, a.rc = false) → ∀ (j : Nat) (hj : j < b.sorts.length), j < i + 1 → ∀ a ∈ b.sorts[j].idx, a.rc = false := fun h j hj hji => by
            rcases Nat.lt_or_ge j i with h' | h'
            · exact g j hj h'
            · have : j = i := by omega
              subst this
              exact h
          generalize hS : b.sorts[i] = S at *
          simp -dsimp [g1, g2, k2, g6, hlt]
          refine wp_upto S.idx.length (fun j st => st.s 1 = .d (.int .i64 B) ∧ (st.s 2 = .ptr 2 1 0 ∧ st.h 2 = ⟨1, .box [.d (eSos b.sorts), .d (eCos b.cons), .d (.int .i64 b.elim)] false⟩) ∧ st.s 6 = .d (.int .i64 i) ∧ st.s 7 = .d (.int .i64 j) ∧ ∀ (m : Nat) (hm : m < S.idx.length), m < j → S.idx[m].rc = false) ?_ ?_
          · simp -dsimp [g1, g2, k2, g6, eSos]
          · clear g1 g2 k2 g6
            rintro j ⟨s, hp'⟩ hj ⟨g1, ⟨g2, k2⟩, g6, g7, gd⟩
            dsimp only at g1 g2 k2 g6 g7
            simp only [eSos] at k2
            rcases Nat.lt_or_ge j S.idx.length with hlt2 | hge2
            · have w2 : IntKind.i64.wrap ((j : Int) + 1) = (j : Int) + 1 := wrap_id (by omega) (by omega)
              have hnd : S.idx[j].rc = false → ∀ (m : Nat) (hm : m < S.idx.length), m < j + 1 → S.idx[m].rc = false := fun h m hm hmj => by
                rcases Nat.lt_or_ge m j with h' | h'
                · exact gd m hm h'
                · have e : m = j := by omega
                  subst e
                  exact h
              generalize hR : S.idx[j] = R at *
              cases hr : R.rc with
              | true =>
                simp -dsimp [g1, g2, k2, g6, g7, hlt, hlt2, hS, hR, hr, eSo, cSo, eArs, eAr, cAr, cT]
                refine call_of wakes08_ok ?_
                simp -dsimp
              | false =>
                have hnd' := hnd hr
                simp -dsimp [g1, g2, k2, g6, g7, hlt, hlt2, hS, hR, hr, eSo, cSo, eArs, eAr, cAr, cT, w2, eSos]
                exact hnd'
            · have e : j = S.idx.length := by omega
              subst e
              have hx' := hx fun a ha => by
                obtain ⟨m, hm, rfl⟩ := List.mem_iff_getElem.1 ha
                exact gd m hm hm
              simp -dsimp [g1, g2, k2, g6, g7, hlt, hS, eSo, cSo, eArs, cT, w1, eSos]
              exact hx'
        · have e : i = b.sorts.length := by omega
          subst e
          have hns : ∀ s ∈ b.sorts, ∀ a ∈ s.idx, a.rc = false := fun s hs => by
            obtain ⟨m, hm, rfl⟩ := List.mem_iff_getElem.1 hs
            exact g m hm hm
          clear g
          simp -dsimp [g1, g2, k2, g6]
          clear g6 hge hi
          refine wp_upto b.cons.length (fun i st => st.s 1 = .d (.int .i64 B) ∧ (st.s 2 = .ptr 2 1 0 ∧ st.h 2 = ⟨1, .box [.d (eSos b.sorts), .d (eCos b.cons), .d (.int .i64 b.elim)] false⟩) ∧ st.s 8 = .d (.int .i64 i) ∧
            ∀ (j : Nat) (hj : j < b.cons.length), j < i → ∀ (q : Nat) (hq : q < b.cons[j].args.length), b.cons[j].args[q].rc = true → UnC b.cons[j] q) ?_ ?_
          · simp -dsimp [g1, g2, k2, eSos]
          · clear g1 g2 k2
            rintro i ⟨s, hp⟩ hi ⟨g1, ⟨g2, k2⟩, g8, g⟩
            dsimp only at g1 g2 k2 g8
            simp only [eCos] at k2
            rcases Nat.lt_or_ge i b.cons.length with hlt | hge
            · have w1 : IntKind.i64.wrap ((i : Int) + 1) = (i : Int) + 1 := wrap_id (by omega) (by omega)
              have fS := (fb.cons _ (List.getElem_mem hlt)).args.1
              have hx : (∀ (q : Nat) (hq : q < b.cons[i].args.length), b.cons[i].args[q].rc = true → UnC b.cons[i] q) → ∀ (j : Nat) (hj : j < b.cons.length), j < i + 1 → ∀ (q : Nat) (hq : q < b.cons[j].args.length), b.cons[j].args[q].rc = true → UnC b.cons[j] q := fun h j hj hji => by
                rcases Nat.lt_or_ge j i with h' | h'
                · exact g j hj h'
                · have : j = i := by omega
                  subst this
                  exact h
              have hge? : b.cons[i]? = some b.cons[i] := List.getElem?_eq_getElem hlt
              have hU := used_ok b fb i b.cons[i] hge?
              generalize hS : b.cons[i] = S at *
              simp only [eBl, cBl, eCos] at hU
              simp -dsimp [g1, g2, k2, g8, hlt]
              refine wp_upto S.args.length (fun j st => st.s 1 = .d (.int .i64 B) ∧ (st.s 2 = .ptr 2 1 0 ∧ st.h 2 = ⟨1, .box [.d (eSos b.sorts), .d (eCos b.cons), .d (.int .i64 b.elim)] false⟩) ∧ st.s 8 = .d (.int .i64 i) ∧ st.s 9 = .d (.int .i64 j) ∧
                ∀ (m : Nat) (hm : m < S.args.length), m < j → S.args[m].rc = true → UnC S m) ?_ ?_
              · simp -dsimp [g1, g2, k2, g8, eCos]
              · clear g1 g2 k2 g8
                rintro j ⟨s, hp'⟩ hj ⟨g1, ⟨g2, k2⟩, g8, g9, gd⟩
                dsimp only at g1 g2 k2 g8 g9
                simp only [eCos] at k2
                rcases Nat.lt_or_ge j S.args.length with hlt2 | hge2
                · have w2 : IntKind.i64.wrap ((j : Int) + 1) = (j : Int) + 1 := wrap_id (by omega) (by omega)
                  have hUj := hU j hlt2
                  have hnd : (S.args[j].rc = true → UnC S j) → ∀ (m : Nat) (hm : m < S.args.length), m < j + 1 → S.args[m].rc = true → UnC S m := fun h m hm hmj => by
                    rcases Nat.lt_or_ge m j with h' | h'
                    · exact gd m hm h'
                    · have e : m = j := by omega
                      subst e
                      exact h
                  generalize hR : S.args[j] = R at *
                  cases hr : R.rc with
                  | false =>
                    have hnd' := hnd fun h => by rw [hr] at h; cases h
                    simp -dsimp [g1, g2, k2, g8, g9, hlt, hlt2, hS, hR, hr, eCo, cCo, eArs, eAr, cAr, cT, w2, eCos]
                    exact hnd'
                  | true =>
                    simp -dsimp [g1, g2, k2, g8, g9, hlt, hlt2, hS, hR, hr, eCo, cCo, eArs, eAr, cAr, cT]
                    refine call_of hUj ?_
                    cases hu : usedB S j with
                    | true =>
                      simp -dsimp
                      refine call_of wakes08_ok ?_
                      simp -dsimp
                    | false =>
                      have hnd' := hnd fun _ => usedB_no hu
                      simp -dsimp [g1, g2, k2, g8, g9, hlt, hlt2, hS, hR, hr, w2, eCos]
                      exact hnd'
                · have e : j = S.args.length := by omega
                  subst e
                  have hx' := hx fun m hm => gd m hm hm
                  simp -dsimp [g1, g2, k2, g8, g9, hlt, hS, eCo, cCo, eArs, cT, w1, eCos]
                  exact hx'
            · have e : i = b.cons.length := by omega
              subst e
              have hu : ∀ x ∈ b.cons, ∀ (q : Nat) (hq : q < x.args.length), x.args[q].rc = true → UnC x q := fun x hx => by
                obtain ⟨m, hm, rfl⟩ := List.mem_iff_getElem.1 hx
                exact g m hm hm
              have hpe : positE 9000 b B = 0 := by
                rw [positE, if_pos hz, if_neg (by omega), pos_plain ob hf hz B0 (by omega) hN hns hu]
                rfl
              rw [hpe] at hP
              simp only [eCos] at hP
              simp -dsimp [g1, g2, k2, g8]
              refine call_of hP ?_
              simp -dsimp
              refine call_of wakes08_ok ?_
              simp -dsimp
end
end Ev
end Go.Proofs.Ythopdhnbflkabaa
