/- The document on layer 7. -/
import Derived.Test.YthopdhnbflkabaaH1
namespace Go.Proofs.Ythopdhnbflkabaa
namespace Ev
open Go
set_option maxRecDepth 100000
set_option linter.unusedSimpArgs false
set_option linter.unusedVariables false
attribute [local simp ↓] wx_skip wx_region wx_seq wx_block wx_exit wx_ret wx_cond wx_loop wo_nil wo_run wo_ask wx_draw wt_nil wt_run_t wt_run_f wt_ask_t wt_ask_f rb_mv rb_nilrow rb_pick rb_alloc rb_box rb_load rb_store rb_nilck rb_bin rb_binb rb_un rb_conv rb_mkf rb_mks rb_slice rb_faddr rb_fld rb_iaddr rb_ext rb_len rb_app rb_mm rb_build rb_bslice run_callC upd_eq upd_ne
attribute [local simp] runB_some runB_none Tch_nil Tch_cons Chk_t Cnd_t Cnd_f Ask_tt Ask_ff Ask_tf Ask_ft Ask_skip act ev_t ev_c evs sks caps2 touch_call List.cons_append List.nil_append putS binI binB int_add int_sub int_mul int_quo int_rem int_or int_eql int_neq int_lss int_leq int_gtr int_geq shiftD Ex.then Ex.inBlock Ends resL resX allD toD_d toD_fsl sk_d sk_fsl none_ loadA cut wrapA wrapD avc_d avc_agg avc_fsl avc_rsl avc_ptr avc_eptr avc_clo dc_agg dc_int dc_bool dc_str dc_sl dc_nilp dc_rp dc_clo on_int on_bool on_str on_sl on_nilp on_rp on_clo on_fsl on_rsl on_ptr on_eptr on_cloA newE elemsA elemsS storeA put frz_nil deep callee resA initS touchOp fits compat rd wr key1 buildA partsD partsK idx frz_at Body.frz lk_hit lk_miss toD6_agg toD5_agg toD4_agg toD6_clo toD5_clo toD4_clo toD6_ptr toD5_ptr toD4_ptr sk6_agg sk5_agg sk4_agg sk6_clo sk5_clo sk4_clo sk6_ptr sk5_ptr sk4_ptr toD_rsl sk_rsl resK EndsP EndsMP fitVs fitCs fitC keysV keysC keyC cellsA1 skVs skCs skC1 resO tupA valsV cellsV oneV rowsV rowsC RV.cells nk rowsH_one rowsH_two rowsH_none
section
attribute [local simp] allD_map_d sks_map_d tk tn tks initA EndsM
structure okAr (a : Ar) : Prop where
  ty : okT a.ty
  dom : okTs a.dom
  sort : n64 a.sort
  idx : okTs a.idx
def okArs (l : List Ar) : Prop := l.length * 104 ≤ 140737488351232 ∧ ∀ x ∈ l, okAr x
structure okSo (s : So) : Prop where
  idx : okArs s.idx
  level : n64 s.level
  dty : okT s.dty
structure okCo (c : Co) : Prop where
  sort : n64 c.sort
  args : okArs c.args
  idx : okTs c.idx
  dec : okT c.dec
structure okBl (b : Bl) : Prop where
  sortsL : b.sorts.length * 80 ≤ 140737488351232
  sorts : ∀ x ∈ b.sorts, okSo x
  consL : b.cons.length * 96 ≤ 140737488351232
  cons : ∀ x ∈ b.cons, okCo x
  elim : n64 b.elim
end
section
attribute [local simp] allD_map_d sks_map_d tk tn tks initA EndsM
theorem twinArgs_own (l : List Ar) (h : okArs l) : OwnC Try.prog n_porismkeep_TwinArgs [eArs l] [.one (.row 7 (l.map eAr) false)] := by
  refine o_porismkeep_TwinArgs rfl fun hs => ?_
  have hl := h.1
  simp -dsimp [x_porismkeep_TwinArgs, eArs]
  refine wp_upto l.length (fun i st => st.s 0 = .d (.sl 7 (l.map eAr)) ∧ st.s 4 = .d (.int .i64 i) ∧ ∃ v, st.s 3 = .rsl 3 v ∧ st.h 3 = ⟨v, .row 7 ((l.map eAr).take i) false⟩) ?_ ?_
  · simp -dsimp
  · rintro i ⟨s, hp⟩ hi ⟨g1, g2, v, g3, g4⟩
    dsimp only at g1 g2 g3 g4
    rcases Nat.lt_or_ge i l.length with hlt | hge
    · have w1 : IntKind.i64.wrap ((i : Int) + 1) = (i : Int) + 1 := wrap_id (by omega) (by omega)
      have ho := h.2 l[i] (List.getElem_mem _)
      simp -dsimp [g1, g2, g3, g4, hlt, cT, eAr, cAr, eTs]
      refine call_of (twin_ok l[i].ty ho.ty) ?_
      simp -dsimp [g1, g2, g3, g4, hlt, cT, eAr, cAr, eTs]
      refine call_of (twins_ok l[i].dom ho.dom) ?_
      simp -dsimp [g1, g2, g3, g4, hlt, cT, eAr, cAr, eTs]
      refine call_of (twins_ok l[i].idx ho.idx) ?_
      have hr : (min i l.length + 1) * 104 ≤ maxRoom := by simp only [maxRoom]; omega
      have hn := take_next eAr cAr (fun _ => rfl) l i hlt
      simp only [cAr, cT, List.cons_append, List.nil_append, eTs] at hn
      simp -dsimp [g1, g2, g3, g4, hlt, cT, hr, hn, w1, eTs]
    · have e : i = l.length := by omega
      subst e
      simp -dsimp [g1, g2, g3, g4]
      exact List.take_of_length_le (by simp)
theorem twinArgs_ok (l : List Ar) (h : okArs l) : Pure Try.prog n_porismkeep_TwinArgs [eArs l] [eArs l] := (twinArgs_own l h).pure
theorem twinCon_ok (c : Co) (h : okCo c) : Pure Try.prog n_porismkeep_TwinCon [.agg (cCo c)] [.agg (cCo c)] := by
  refine p_porismkeep_TwinCon rfl fun hs => ?_
  simp -dsimp [x_porismkeep_TwinCon, cCo, cT, eArs, eTs]
  refine call_of (twinArgs_ok c.args h.args) ?_
  simp -dsimp [eArs, eTs]
  refine call_of (twins_ok c.idx h.idx) ?_
  simp -dsimp [eArs, eTs]
  refine call_of (twin_ok c.dec h.dec) ?_
  simp -dsimp [eArs, eTs, cT]
def rcS (l : List So) : RC := if l = [] then .d (.sl 6 []) else .row 6 (l.map eSo) false
def rcK (l : List Co) : RC := if l = [] then .d (.sl 6 []) else .row 6 (l.map eCo) false
theorem twinBlock_own (b : Bl) (h : okBl b) : OwnC Try.prog n_porismkeep_TwinBlock [eBl b] [.agg [rcS b.sorts, rcK b.cons, .d (.int .i64 b.elim)]] := by
  refine o_porismkeep_TwinBlock rfl fun hs => ?_
  have hl := h.sortsL
  have hl2 := h.consL
  simp -dsimp [x_porismkeep_TwinBlock, eBl, cBl, eSos, eCos]
  refine wp_upto b.sorts.length (fun i st => st.s 1 = .ptr 1 1 0 ∧ st.h 1 = ⟨1, .box [.d (.sl 6 (b.sorts.map eSo)), .d (.sl 6 (b.cons.map eCo)), .d (.int .i64 b.elim)] false⟩ ∧
    st.s 2 = .ptr 2 1 0 ∧ st.h 2 = ⟨1, .box [.fsl 6 [], .fsl 6 [], .d (.int .i64 0)] false⟩ ∧ st.s 4 = .d (.int .i64 i) ∧
    st.s 3 = .ptr 3 1 0 ∧ ∃ c, st.h 3 = ⟨1, .box [c, .fsl 6 [], .d (.int .i64 b.elim)] false⟩ ∧ ((i = 0 ∧ c = .fsl 6 []) ∨ (0 < i ∧ ∃ v, c = .rsl 34 v ∧ st.h 34 = ⟨v, .row 6 ((b.sorts.map eSo).take i) false⟩))) ?_ ?_
  · simp -dsimp
  · rintro i ⟨s, hp⟩ hi ⟨g1, g2, g3, g4, g5, g6, c, g7, g8⟩
    dsimp only at g1 g2 g3 g4 g5 g6 g7 g8
    rcases Nat.lt_or_ge i b.sorts.length with hlt | hge
    · have w1 : IntKind.i64.wrap ((i : Int) + 1) = (i : Int) + 1 := wrap_id (by omega) (by omega)
      have ho := h.sorts b.sorts[i] (List.getElem_mem _)
      simp -dsimp [g1, g2, g3, g4, g5, g6, g7, hlt, cT, eSo, cSo, eArs]
      refine call_of (twinArgs_ok b.sorts[i].idx ho.idx) ?_
      simp -dsimp [g1, g2, g3, g4, g5, g6, g7, hlt, cT, eSo, cSo, eArs]
      refine call_of (twin_ok b.sorts[i].dty ho.dty) ?_
      have hr : (min i b.sorts.length + 1) * 80 ≤ maxRoom := by simp only [maxRoom]; omega
      have hn := take_next eSo cSo (fun _ => rfl) b.sorts i hlt
      simp only [cSo, cT, List.cons_append, List.nil_append, eArs] at hn
      rcases g8 with ⟨rfl, rfl⟩ | ⟨hi0, v, rfl, g8⟩
      · have h80 : min 1 b.sorts.length * 80 ≤ maxRoom := by simp only [maxRoom]; omega
        have hne : ¬ b.sorts = [] := List.ne_nil_of_length_pos hlt
        simp only [List.take_zero, List.nil_append, Nat.zero_add] at hn
        simp at hlt hn w1
        simp -dsimp [g1, g2, g3, g4, g5, g6, g7, hlt, cT, eSo, cSo, eArs, w1, h80, hn, hne]
      · simp -dsimp [g1, g2, g3, g4, g5, g6, g7, g8, hlt, cT, eSo, cSo, eArs, w1, hr, hn]
    · have e : i = b.sorts.length := by omega
      subst e
      rw [List.take_of_length_le (by simp)] at g8
      simp -dsimp [g1, g2, g3, g4, g5, g6, g7]
      clear hi g5
      refine wp_upto b.cons.length (fun i st => st.s 1 = .ptr 1 1 0 ∧ st.h 1 = ⟨1, .box [.d (.sl 6 (b.sorts.map eSo)), .d (.sl 6 (b.cons.map eCo)), .d (.int .i64 b.elim)] false⟩ ∧
        st.s 2 = .ptr 2 1 0 ∧ st.h 2 = ⟨1, .box [.fsl 6 [], .fsl 6 [], .d (.int .i64 0)] false⟩ ∧ st.s 6 = .d (.int .i64 i) ∧
        st.s 3 = .ptr 3 1 0 ∧ ∃ d, st.h 3 = ⟨1, .box [c, d, .d (.int .i64 b.elim)] false⟩ ∧ ((b.sorts = [] ∧ c = .fsl 6 []) ∨ (0 < b.sorts.length ∧ ∃ v, c = .rsl 34 v ∧ st.h 34 = ⟨v, .row 6 (b.sorts.map eSo) false⟩)) ∧
          ((i = 0 ∧ d = .fsl 6 []) ∨ (0 < i ∧ ∃ v, d = .rsl 52 v ∧ st.h 52 = ⟨v, .row 6 ((b.cons.map eCo).take i) false⟩))) ?_ ?_
      · simp -dsimp [g1, g2, g3, g4, g6, g7]
        simpa using g8
      · clear g1 g2 g3 g4 g6 g7 g8 s hp
        rintro i ⟨s, hp⟩ hi ⟨g1, g2, g3, g4, g5, g6, d, g7, g8, g9⟩
        dsimp only at g1 g2 g3 g4 g5 g6 g7 g8 g9
        rcases Nat.lt_or_ge i b.cons.length with hlt | hge
        · have w1 : IntKind.i64.wrap ((i : Int) + 1) = (i : Int) + 1 := wrap_id (by omega) (by omega)
          have ho := h.cons b.cons[i] (List.getElem_mem _)
          simp -dsimp [g1, g2, g3, g4, g5, g6, g7, hlt, cT, eCo, cCo, eArs, eTs]
          refine call_of (twinCon_ok b.cons[i] ho) ?_
          have hr : (min i b.cons.length + 1) * 96 ≤ maxRoom := by simp only [maxRoom]; omega
          have hn := take_next eCo cCo (fun _ => rfl) b.cons i hlt
          simp only [cCo, cT, List.cons_append, List.nil_append, eArs, eTs] at hn
          rcases g9 with ⟨rfl, rfl⟩ | ⟨hi0, v, rfl, g9⟩
          · have h96 : min 1 b.cons.length * 96 ≤ maxRoom := by simp only [maxRoom]; omega
            have hne : ¬ b.cons = [] := List.ne_nil_of_length_pos hlt
            simp only [List.take_zero, List.nil_append, Nat.zero_add] at hn
            simp at hlt hn w1
            simp -dsimp [g1, g2, g3, g4, g5, g6, g7, hlt, cT, eCo, cCo, eArs, eTs, w1, h96, hn, hne]
            exact g8
          · simp -dsimp [g1, g2, g3, g4, g5, g6, g7, g9, hlt, cT, eCo, cCo, eArs, eTs, w1, hr, hn]
            exact g8
        · have e : i = b.cons.length := by omega
          subst e
          rw [List.take_of_length_le (by simp)] at g9
          have hc : b.cons.length = 0 → b.cons = [] := List.length_eq_zero_iff.1
          have hS0 : rcS [] = .d (.sl 6 []) := rfl
          have hK0 : rcK [] = .d (.sl 6 []) := rfl
          rcases g8 with ⟨hz, rfl⟩ | ⟨hp1, v, rfl, g8⟩ <;> rcases g9 with ⟨hy, rfl⟩ | ⟨hp2, u, rfl, g9⟩
          · simp -dsimp [g1, g2, g3, g4, g5, g6, g7, hz, hc hy, hS0, hK0]
          · have hK : rcK b.cons = .row 6 (b.cons.map eCo) false := by rw [rcK, if_neg (List.ne_nil_of_length_pos hp2)]
            simp -dsimp [g1, g2, g3, g4, g5, g6, g7, hz, g9, hS0, hK]
          · have hS : rcS b.sorts = .row 6 (b.sorts.map eSo) false := by rw [rcS, if_neg (List.ne_nil_of_length_pos hp1)]
            simp -dsimp [g1, g2, g3, g4, g5, g6, g7, g8, hc hy, hS, hK0]
          · have hK : rcK b.cons = .row 6 (b.cons.map eCo) false := by rw [rcK, if_neg (List.ne_nil_of_length_pos hp2)]
            have hS : rcS b.sorts = .row 6 (b.sorts.map eSo) false := by rw [rcS, if_neg (List.ne_nil_of_length_pos hp1)]
            simp -dsimp [g1, g2, g3, g4, g5, g6, g7, g8, g9, hS, hK]
end
section
attribute [local simp] allD_map_d sks_map_d tk tn tks initA EndsM
end
section
attribute [local simp] allD_map_d sks_map_d tk tn tks initA EndsM
end
section
attribute [local simp] allD_map_d sks_map_d tk tn tks initA EndsM
theorem checkB_zero (b : Bl) : checkB b = 0 ↔ 1 ≤ b.sorts.length ∧ b.sorts.length ≤ 4 ∧ b.cons.length ≤ 8 ∧ levelM b.elim = true ∧ (∀ (j : Nat) (hj : j < b.sorts.length), sortM b j b.sorts[j] = true) ∧ ∀ c ∈ b.cons, conM b c = true := by
  have ha : allI (fun k s => sortM b k s) 0 b.sorts = true ↔ ∀ (j : Nat) (hj : j < b.sorts.length), sortM b j b.sorts[j] = true := by
    rw [allI_iff]
    simp
  rw [checkB]
  by_cases h1 : (b.sorts.length : Int) < 1
  · rw [if_pos h1]
    constructor
    · intro h; simp at h
    · rintro ⟨h, _⟩; omega
  rw [if_neg h1]
  by_cases h2 : 4 < (b.sorts.length : Int)
  · rw [if_pos h2]
    constructor
    · intro h; simp at h
    · rintro ⟨_, h, _⟩; omega
  rw [if_neg h2]
  by_cases h3 : 8 < (b.cons.length : Int)
  · rw [if_pos h3]
    constructor
    · intro h; simp at h
    · rintro ⟨_, _, h, _⟩; omega
  rw [if_neg h3, ← ha]
  cases hl : levelM b.elim with
  | false => simp
  | true =>
    cases hs : allI (fun k s => sortM b k s) 0 b.sorts with
    | false => simp
    | true =>
      have hc : (b.cons.any fun c => !conM b c) = false ↔ ∀ c ∈ b.cons, conM b c = true := by
        rw [List.any_eq_false]
        simp
      cases hq : b.cons.any fun c => !conM b c with
      | false =>
        simp only [hq] at hc ⊢
        simp only [if_true]
        exact ⟨fun _ => ⟨by omega, by omega, by omega, trivial, trivial, hc.1 trivial⟩, fun _ => rfl⟩
      | true =>
        simp only [hq] at hc ⊢
        simp only [if_true]
        constructor
        · intro h; simp at h
        · rintro ⟨_, _, _, _, _, h⟩
          exact absurd (hc.2 h) (by simp)
theorem sortM_true (b : Bl) (k : Nat) (s : So) : sortM b k s = true ↔ rowM b s.idx = true ∧ levelM s.level = true ∧ maybeM s.dec s.dty s.idx.length = true ∧ ∀ a ∈ s.idx, sortBad k s a = false := by
  rw [sortM]
  cases rowM b s.idx <;> cases levelM s.level <;> cases maybeM s.dec s.dty s.idx.length <;> simp
end
section
attribute [local simp] allD_map_d sks_map_d tk tn tks initA EndsM
end
section
attribute [local simp] allD_map_d sks_map_d tk tn tks initA EndsM
end
section
attribute [local simp] allD_map_d sks_map_d tk tn tks initA EndsM
end
end Ev
end Go.Proofs.Ythopdhnbflkabaa
