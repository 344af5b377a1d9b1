/- comp: what its functions tell. -/
import Derived.Test.YtomlkbohcoinoaaH6
import Derived.Test.YtomlkbohcoinoaaXc
namespace Go.Proofs.Ytomlkbohcoinoaa
namespace Ev
open Go
set_option maxRecDepth 100000
set_option linter.unusedSimpArgs false
set_option linter.unusedVariables false
attribute [local simp ↓] wx_skip wx_region wx_seq wx_block wx_exit wx_ret wx_cond wx_loop wo_nil wo_run wo_ask wx_draw wt_nil wt_run_t wt_run_f wt_ask_t wt_ask_f rb_mv rb_nilrow rb_pick rb_alloc rb_box rb_load rb_store rb_nilck rb_bin rb_binb rb_un rb_conv rb_mkf rb_mks rb_slice rb_faddr rb_fld rb_iaddr rb_ext rb_len rb_app rb_mm rb_build rb_bslice run_callC upd_eq upd_ne
attribute [local simp] runB_some runB_none Tch_nil Tch_cons Chk_t Cnd_t Cnd_f Ask_tt Ask_ff Ask_tf Ask_ft Ask_skip act ev_t ev_c evs sks caps2 touch_call List.cons_append List.nil_append putS binI binB int_add int_sub int_mul int_quo int_rem int_or int_eql int_neq int_lss int_leq int_gtr int_geq shiftD Ex.then Ex.inBlock Ends resL resX allD toD_d toD_fsl sk_d sk_fsl none_ loadA cut wrapA wrapD avc_d avc_agg avc_fsl avc_rsl avc_ptr avc_eptr avc_clo dc_agg dc_int dc_bool dc_str dc_sl dc_nilp dc_rp dc_clo on_int on_bool on_str on_sl on_nilp on_rp on_clo on_fsl on_rsl on_ptr on_eptr on_cloA newE elemsA elemsS storeA put frz_nil deep callee resA initS touchOp fits compat rd wr key1 buildA partsD partsK idx frz_at Body.frz lk_hit lk_miss toD6_agg toD5_agg toD4_agg toD6_clo toD5_clo toD4_clo toD6_ptr toD5_ptr toD4_ptr sk6_agg sk5_agg sk4_agg sk6_clo sk5_clo sk4_clo sk6_ptr sk5_ptr sk4_ptr toD_rsl sk_rsl resK EndsP EndsMP fitVs fitCs fitC keysV keysC keyC cellsA1 skVs skCs skC1 resO tupA valsV cellsV oneV rowsV rowsC RV.cells nk rowsH_one rowsH_two rowsH_none
section
attribute [local simp] allD_map_d sks_map_d tk tn tks initA EndsM one_sos one_cos one_ars one_ts
/-- The first error. -/
def fst2 (e x : Int) : Int := if e = 0 then x else e
def errs (e : Int) (l : List Int) : Int := l.foldl fst2 e
theorem errs_nil (e : Int) : errs e [] = e := rfl
theorem errs_snoc (e : Int) (l : List Int) (x : Int) : errs e (l ++ [x]) = fst2 (errs e l) x := by simp [errs, List.foldl_append]
theorem errs_append (e : Int) (l m : List Int) : errs e (l ++ m) = errs (errs e l) m := by simp [errs, List.foldl_append]
/-- The maker's box. -/
def mH (v : Nat) (e : Int) : Nat → Ent := fun _ => ⟨v, .box [.d (.int .i64 e)] false⟩
theorem m_mut {f : FuncId} {fn : Func} {x : XFn} (hf : Try.prog.funcs[f]? = some fn) (hx : cfn Try.prog fn = some x) {aa : List AV} {v : Nat} {e e' : Int} {rs : List D} (hl : aa.length = x.np)
    (hw : ∀ (h : Nat → Ent), h 21 = ⟨v, .box [.d (.int .i64 e)] false⟩ → (∀ d, AV.d d ∈ aa → small 8 d) → wpX Try.prog x.code (EndsM x.res rs [21] (mH v e')) ⟨initA aa, h⟩) : MutC Try.prog f aa [21] (mH v e) rs (mH v e') :=
  mut_of hm hf hx hl (fun k hk c hc => by simp [mH] at hc; subst hc; exact .d _) fun G h w vs hk hlen hr => hw h (hk 21 (by simp)) fun d hd => by
    obtain ⟨j, hj⟩ := List.mem_iff_getElem?.1 hd
    exact small_of (hr j _ hj)
theorem m_mutO {f : FuncId} {fn : Func} {x : XFn} (hf : Try.prog.funcs[f]? = some fn) (hx : cfn Try.prog fn = some x) {aa : List AV} {v : Nat} {e e' : Int} {rs : List RV} (hl : aa.length = x.np)
    (hw : ∀ (h : Nat → Ent), h 21 = ⟨v, .box [.d (.int .i64 e)] false⟩ → (∀ d, AV.d d ∈ aa → small 8 d) → wpX Try.prog x.code (EndsMP x.res rs [21] (mH v e')) ⟨initA aa, h⟩) : MutO Try.prog f aa [21] (mH v e) rs (mH v e') :=
  mutO_of hm hf hx hl (fun k hk c hc => by simp [mH] at hc; subst hc; exact .d _) fun G h w vs hk hlen hr => wpX_mono (fun e st h => ends_fitM e st h) _ _ (hw h (hk 21 (by simp)) fun d hd => by
    obtain ⟨j, hj⟩ := List.mem_iff_getElem?.1 hd
    exact small_of (hr j _ hj))
theorem got_ok (v : Nat) (e x : Int) (t : T) : MutC Try.prog n_comp_maker_got [.ptr 21 v 0, .d (.agg (cT t)), .d (.int .i64 x)] [21] (mH v e) [.agg (cT t)] (mH v (fst2 e x)) := by
  refine m_mut Try.func130 c_comp_maker_got rfl fun h hh hs => ?_
  simp -dsimp [x_comp_maker_got, cT, hh]
  (first | refine Ask_b ?_ ?_ | refine Cnd_b ?_ ?_) <;> intro h1 <;> (try simp only [decide_eq_true_eq, decide_eq_false_iff_not, beq_iff_eq, beq_eq_false_iff_ne, bne_iff_ne, bne_eq_false_iff_eq, Bool.not_eq_true', Bool.not_eq_false', Bool.and_eq_true, Bool.or_eq_true, Bool.and_eq_false_iff, Bool.or_eq_false_iff] at h1) <;> simp -dsimp [h1, hh, mH, fst2]
def upsT (l : List T) (y : Int) : List T := l.map (shiftT · y 0)
def upsE (l : List T) (y : Int) : List Int := l.map (shiftE · y 0)
theorem shifts_ok (v : Nat) (e y : Int) (l : List T) (hl : ∀ x ∈ l, nodes x ≤ 1048576) (hn : l.length ≤ 1048576) : MutO Try.prog n_comp_maker_shifts [.ptr 21 v 0, .d (eTs l), .d (.int .i64 y)] [21] (mH v e) [.one (.row 3 ((upsT l y).map eT) false)] (mH v (errs e (upsE l y))) := by
  refine m_mutO Try.func131 c_comp_maker_shifts rfl fun h hh hs => ?_
  simp -dsimp [x_comp_maker_shifts, eTs, hh]
  refine wp_upto l.length (fun i st => st.s 0 = .ptr 21 v 0 ∧ st.s 2 = .d (.int .i64 y) ∧ st.s 10 = .d (.sl 3 (l.map eT)) ∧ st.s 11 = .d (.int .i64 l.length) ∧ st.s 12 = .d (.int .i64 i) ∧ (∃ q, st.s 7 = .rsl 7 q ∧ st.h 7 = ⟨q, .row 3 (((upsT l y).map eT).take i) false⟩) ∧ st.h 21 = ⟨v, .box [.d (.int .i64 (errs e ((upsE l y).take i)))] false⟩) ?_ ?_
  · simp -dsimp [hh, errs_nil]
  · rintro i ⟨s, hp⟩ hi ⟨g1, g2, g3, g4, g5, ⟨q, g6, g7⟩, g8⟩
    dsimp only at g1 g2 g3 g4 g5 g6 g7 g8
    rcases Nat.lt_or_ge i l.length with hlt | hge
    · have w1 : IntKind.i64.wrap ((i : Int) + 1) = (i : Int) + 1 := wrap_id (by omega) (by omega)
      have hS := shift_ok l[i] y 0 (hl _ (List.getElem_mem _))
      have hr : (min i l.length + 1) * 40 ≤ maxRoom := by simp only [maxRoom]; omega
      simp only [cT] at hS
      simp -dsimp [g1, g2, g3, g4, g5, g6, g7, g8, hlt, cT]
      refine call_of hS ?_
      simp -dsimp [g1, g2, g3, g4, g5, g6, g7, g8, hlt, cT]
      have hG := got_ok v (errs e ((upsE l y).take i)) (shiftE l[i] y 0) (shiftT l[i] y 0)
      simp only [cT] at hG
      refine callM_of hG ?_ ?_
      · simp -dsimp [mH, g8]
      · have h1 : ((upsT l y).map eT).take i ++ [eT (shiftT l[i] y 0)] = ((upsT l y).map eT).take (i + 1) := by
          rw [List.take_add_one, List.getElem?_map, upsT, List.getElem?_map, List.getElem?_eq_getElem hlt]; rfl
        have h2 : fst2 (errs e ((upsE l y).take i)) (shiftE l[i] y 0) = errs e ((upsE l y).take (i + 1)) := by
          rw [List.take_add_one, upsE, List.getElem?_map, List.getElem?_eq_getElem hlt, ← errs_snoc]; rfl
        have hu : (upsT l y).length = l.length := by simp [upsT]
        simp only [eT_eq, cT] at h1
        simp -dsimp [mergeK_cons, mergeK_nil, mH, g1, g2, g3, g4, g5, g6, g7, g8, hlt, cT, hr, w1, hu, h1, h2]
    · have e : i = l.length := by omega
      subst e
      have hu : (upsE l y).length = l.length := by simp [upsE]
      have hv : ((upsT l y).map eT).length = l.length := by simp [upsT]
      simp -dsimp [g1, g2, g3, g4, g5, g6, g7, g8, mH]
      exact ⟨List.take_of_length_le (by omega), by rw [List.take_of_length_le (by omega)]⟩
theorem shiftsC_ok (v : Nat) (e y : Int) (l : List T) (hl : ∀ x ∈ l, nodes x ≤ 1048576) (hn : l.length ≤ 1048576) : MutC Try.prog n_comp_maker_shifts [.ptr 21 v 0, .d (eTs l), .d (.int .i64 y)] [21] (mH v e) [eTs (upsT l y)] (mH v (errs e (upsE l y))) := by
  refine m_mut Try.func131 c_comp_maker_shifts rfl fun h hh hs => ?_
  simp -dsimp [x_comp_maker_shifts, eTs, hh]
  refine wp_upto l.length (fun i st => st.s 0 = .ptr 21 v 0 ∧ st.s 2 = .d (.int .i64 y) ∧ st.s 10 = .d (.sl 3 (l.map eT)) ∧ st.s 11 = .d (.int .i64 l.length) ∧ st.s 12 = .d (.int .i64 i) ∧ (∃ q, st.s 7 = .rsl 7 q ∧ st.h 7 = ⟨q, .row 3 (((upsT l y).map eT).take i) false⟩) ∧ st.h 21 = ⟨v, .box [.d (.int .i64 (errs e ((upsE l y).take i)))] false⟩) ?_ ?_
  · simp -dsimp [hh, errs_nil]
  · rintro i ⟨s, hp⟩ hi ⟨g1, g2, g3, g4, g5, ⟨q, g6, g7⟩, g8⟩
    dsimp only at g1 g2 g3 g4 g5 g6 g7 g8
    rcases Nat.lt_or_ge i l.length with hlt | hge
    · have w1 : IntKind.i64.wrap ((i : Int) + 1) = (i : Int) + 1 := wrap_id (by omega) (by omega)
      have hS := shift_ok l[i] y 0 (hl _ (List.getElem_mem _))
      have hr : (min i l.length + 1) * 40 ≤ maxRoom := by simp only [maxRoom]; omega
      simp only [cT] at hS
      simp -dsimp [g1, g2, g3, g4, g5, g6, g7, g8, hlt, cT]
      refine call_of hS ?_
      simp -dsimp [g1, g2, g3, g4, g5, g6, g7, g8, hlt, cT]
      have hG := got_ok v (errs e ((upsE l y).take i)) (shiftE l[i] y 0) (shiftT l[i] y 0)
      simp only [cT] at hG
      refine callM_of hG ?_ ?_
      · simp -dsimp [mH, g8]
      · have h1 : ((upsT l y).map eT).take i ++ [eT (shiftT l[i] y 0)] = ((upsT l y).map eT).take (i + 1) := by
          rw [List.take_add_one, List.getElem?_map, upsT, List.getElem?_map, List.getElem?_eq_getElem hlt]; rfl
        have h2 : fst2 (errs e ((upsE l y).take i)) (shiftE l[i] y 0) = errs e ((upsE l y).take (i + 1)) := by
          rw [List.take_add_one, upsE, List.getElem?_map, List.getElem?_eq_getElem hlt, ← errs_snoc]; rfl
        have hu : (upsT l y).length = l.length := by simp [upsT]
        simp only [eT_eq, cT] at h1
        simp -dsimp [mergeK_cons, mergeK_nil, mH, g1, g2, g3, g4, g5, g6, g7, g8, hlt, cT, hr, w1, hu, h1, h2]
    · have e : i = l.length := by omega
      subst e
      have hu : (upsE l y).length = l.length := by simp [upsE]
      have hv : ((upsT l y).map eT).length = l.length := by simp [upsT]
      simp -dsimp [g1, g2, g3, g4, g5, g6, g7, g8, mH]
      exact ⟨List.take_of_length_le (by omega), by rw [List.take_of_length_le (by omega)]⟩
theorem okT_zT : okT zT := okT_leaf (by omega) (by omega)
theorem shift_okT' {t : T} (y : Int) (hn : nodes t ≤ 1048576) : okT (shiftT t y 0) := by
  by_cases h : shiftE t y 0 = 0
  · obtain ⟨_, hf, _⟩ := shift_right (by omega) h
    exact okT_of_formed hf
  · rw [shiftT, if_neg h]
    exact okT_zT
theorem inst_okT {t : T} {l : List T} {u : Int} (hn : nodes t ≤ 1048576) (hl : ∀ x ∈ l, nodes x ≤ 1048576) : okT (instT t l u) := by
  by_cases h : instE t l u = 0
  · exact okT_of_formed (inst_right hn hl h).2.2
  · rw [instT, if_neg h]
    exact okT_zT
def domsT (ahead l : List T) : List T := l.mapIdx fun j d => instT d ahead j
def domsE (ahead l : List T) : List Int := l.mapIdx fun j d => instE d ahead j
def instsT (ahead l : List T) (u : Int) : List T := l.map (instT · ahead u)
def instsE (ahead l : List T) (u : Int) : List Int := l.map (instE · ahead u)
def innerT (b : Bl) (base : Int) (a : Ar) (mo me ahead : List T) (t : T) : T := nestT 5 (domsT ahead a.dom) (spT (tC (eliminator b base a.sort))
  (upsT mo a.dom.length ++ upsT me a.dom.length ++ instsT ahead a.idx a.dom.length ++ [spT (shiftT t a.dom.length 0) (varsN a.dom.length)]))
def innerE (a : Ar) (mo me ahead : List T) (t : T) : List Int := domsE ahead a.dom ++ upsE mo a.dom.length ++ upsE me a.dom.length ++ instsE ahead a.idx a.dom.length ++ [shiftE t a.dom.length 0]
theorem inner_ok (b : Bl) (base : Int) (a : Ar) (oa : okAr a) (fa : FineAr a) (mo me ahead : List T) (t : T) (hmo : ∀ x ∈ mo, nodes x ≤ 9000) (lmo : mo.length ≤ 60) (hme : ∀ x ∈ me, nodes x ≤ 9000) (lme : me.length ≤ 60)
    (hah : ∀ x ∈ ahead, nodes x ≤ 9000) (lah : ahead.length ≤ 60) (ht : nodes t ≤ 9000) (v : Nat) (e : Int) :
    MutC Try.prog n_comp_maker_inner [.ptr 21 v 0, .d (eBl b), .d (.int .i64 base), .d (eAr a), .d (eTs mo), .d (eTs me), .d (eTs ahead), .d (.agg (cT t))] [21] (mH v e) [.agg (cT (innerT b base a mo me ahead t))] (mH v (errs e (innerE a mo me ahead t))) := by
  refine m_mut Try.func106 c_comp_maker_inner rfl fun h hh hs => ?_
  have hdl := fa.domL
  have hil := fa.idxL
  have hdn : ∀ x ∈ a.dom, nodes x ≤ 9000 := fun x hx => Nat.le_trans (sum_mem (List.mem_map.2 ⟨x, hx, rfl⟩)) fa.dom
  have hin : ∀ x ∈ a.idx, nodes x ≤ 9000 := fun x hx => Nat.le_trans (sum_mem (List.mem_map.2 ⟨x, hx, rfl⟩)) fa.idx
  have hah' : ∀ x ∈ ahead, nodes x ≤ 1048576 := fun x hx => by have := hah x hx; omega
  simp -dsimp [x_comp_maker_inner, eBl, cBl, eAr, cAr, cT, hh]
  simp -dsimp [eTs]
  refine wp_upto a.dom.length (fun i st => st.s 0 = .ptr 21 v 0 ∧ st.s 2 = .d (.int .i64 base) ∧ st.s 4 = .d (eTs mo) ∧ st.s 5 = .d (eTs me) ∧ st.s 6 = .d (eTs ahead) ∧ st.s 9 = .ptr 9 ((h 9).ver + 1) 0 ∧ st.s 11 = .ptr 11 ((h 11).ver + 1) 0 ∧ st.s 15 = .ptr 15 ((h 15).ver + 1) 0 ∧ st.s 16 = .ptr 16 ((h 16).ver + 1) 0 ∧
    st.s 17 = .d (.int .i64 a.dom.length) ∧ st.s 28 = .d (eTs a.dom) ∧ st.s 29 = .d (.int .i64 a.dom.length) ∧ st.s 30 = .d (.int .i64 i) ∧
    st.h 9 = ⟨(h 9).ver + 1, .box [.d (eSos b.sorts), .d (eCos b.cons), .d (.int .i64 b.elim)] false⟩ ∧
    st.h 11 = ⟨(h 11).ver + 1, .box [.d (.bool a.rc), .d (.int .i64 a.ty.kind), .d (.int .i64 a.ty.num), .d (.sl 3 (a.ty.kids.map eT)), .d (eTs a.dom), .d (.int .i64 a.sort), .d (eTs a.idx)] false⟩ ∧
    st.h 15 = ⟨(h 15).ver + 1, .box [.d (.int .i64 t.kind), .d (.int .i64 t.num), .d (.sl 3 (t.kids.map eT))] false⟩ ∧
    st.h 16 = ⟨(h 16).ver + 1, .box [.d (.int .i64 0), .d (.int .i64 0), .fsl 3 []] false⟩ ∧
    (∃ q, st.s 18 = .rsl 18 q ∧ st.h 18 = ⟨q, .row 3 (((domsT ahead a.dom).map eT).take i) false⟩) ∧
    st.h 21 = ⟨v, .box [.d (.int .i64 (errs e ((domsE ahead a.dom).take i)))] false⟩) ?_ ?_
  · simp -dsimp [hh, errs_nil, eTs]
  · rintro i ⟨s, hp⟩ hi ⟨g0, g2, g4, g5, g6, g9, g11, g15, g16, g17, g28, g29, g30, k9, k11, k15, k16, ⟨q, g18, k18⟩, k21⟩
    dsimp only at g0 g2 g4 g5 g6 g9 g11 g15 g16 g17 g28 g29 g30 k9 k11 k15 k16 g18 k18 k21
    simp only [eTs] at g4 g5 g6 g28 k11
    rcases Nat.lt_or_ge i a.dom.length with hlt | hge
    · have w1 : IntKind.i64.wrap ((i : Int) + 1) = (i : Int) + 1 := wrap_id (by omega) (by omega)
      have hI := inst_ok a.dom[i] ahead i (by have := hdn _ (List.getElem_mem hlt); omega) (fun x hx => by have := hah x hx; omega) (by omega)
      have hr : (min i a.dom.length + 1) * 40 ≤ maxRoom := by simp only [maxRoom]; omega
      simp only [cT, eTs] at hI
      simp -dsimp [g0, g2, g4, g5, g6, g9, g11, g15, g16, g17, g18, g28, g29, g30, k9, k11, k15, k16, k18, k21, hlt, cT]
      refine call_of hI ?_
      simp -dsimp [g0, g2, g4, g5, g6, g9, g11, g15, g16, g17, g18, g28, g29, g30, k9, k11, k15, k16, k18, k21, hlt, cT]
      have hG := got_ok v (errs e ((domsE ahead a.dom).take i)) (instE a.dom[i] ahead i) (instT a.dom[i] ahead i)
      simp only [cT] at hG
      refine callM_of hG ?_ ?_
      · simp -dsimp [mH, k21]
      · have hu : (domsT ahead a.dom).length = a.dom.length := by simp [domsT]
        have h1 : ((domsT ahead a.dom).map eT).take i ++ [eT (instT a.dom[i] ahead i)] = ((domsT ahead a.dom).map eT).take (i + 1) := by
          rw [List.take_add_one, List.getElem?_map, domsT, List.getElem?_mapIdx, List.getElem?_eq_getElem hlt]; rfl
        have h2 : fst2 (errs e ((domsE ahead a.dom).take i)) (instE a.dom[i] ahead i) = errs e ((domsE ahead a.dom).take (i + 1)) := by
          rw [List.take_add_one, domsE, List.getElem?_mapIdx, List.getElem?_eq_getElem hlt, ← errs_snoc]; rfl
        simp only [eT_eq, cT] at h1
        simp -dsimp [mergeK_cons, mergeK_nil, mH, g0, g2, g4, g5, g6, g9, g11, g15, g16, g17, g18, g28, g29, g30, k9, k11, k15, k16, k18, k21, hlt, cT, hr, w1, hu, h1, h2, eTs]
    · have e1 : i = a.dom.length := by omega
      subst e1
      have hu : (domsT ahead a.dom).length = a.dom.length := by simp [domsT]
      have hv : (domsE ahead a.dom).length = a.dom.length := by simp [domsE]
      rw [List.take_of_length_le (by simp [hu])] at k18
      rw [List.take_of_length_le (by omega)] at k21
      have hM := shifts_ok v (errs e (domsE ahead a.dom)) a.dom.length mo (fun x hx => by have := hmo x hx; omega) (by omega)
      have hN := shiftsC_ok v (errs (errs e (domsE ahead a.dom)) (upsE mo a.dom.length)) a.dom.length me (fun x hx => by have := hme x hx; omega) (by omega)
      rw [← errs_append] at hM hN
      rw [← errs_append] at hN
      simp only [eTs] at hM hN
      have lM : (upsT mo a.dom.length).length = mo.length := by simp [upsT]
      have lN : (upsT me a.dom.length).length = me.length := by simp [upsT]
      have hr0 : (mo.length + me.length) * 40 ≤ maxRoom := by simp only [maxRoom]; omega
      simp -dsimp [g0, g2, g4, g5, g6, g9, g11, g15, g16, g17, g18, g28, g29, g30, k9, k11, k15, k16, k18, k21]
      refine callMO_of hM (by simp [mH, k21]) (by simp [rowsV, rowsC, RV.cells]) ?_
      simp -dsimp [mergeK_cons, mergeK_nil, mH, g0, g2, g4, g5, g6, g9, g11, g15, g16, g17, g18, g28, g29, g30, k9, k11, k15, k16, k18, k21]
      refine callM_of hN (by simp [mH, k21]) ?_
      simp -dsimp [mergeK_cons, mergeK_nil, mH, g0, g2, g4, g5, g6, g9, g11, g15, g16, g17, g18, g28, g29, g30, k9, k11, k15, k16, k18, k21, lM, lN, hr0]
      have hpre : (upsT mo a.dom.length ++ upsT me a.dom.length).length = mo.length + me.length := by simp [upsT]
      rw [← List.map_append]
      generalize hPre : upsT mo a.dom.length ++ upsT me a.dom.length = pre at *
      generalize hE0 : domsE ahead a.dom ++ upsE mo a.dom.length ++ upsE me a.dom.length = E0 at *
      have hoP : ∀ x ∈ pre, okT x := by
        intro x hx
        rw [← hPre, List.mem_append] at hx
        rcases hx with hx | hx <;> (obtain ⟨y, hy, rfl⟩ := List.mem_map.1 hx)
        · exact shift_okT' _ (by have := hmo y hy; omega)
        · exact shift_okT' _ (by have := hme y hy; omega)
      refine wp_upto a.idx.length (fun i st => st.s 0 = .ptr 21 v 0 ∧ st.s 2 = .d (.int .i64 base) ∧ st.s 6 = .d (eTs ahead) ∧ st.s 9 = .ptr 9 ((h 9).ver + 1) 0 ∧ st.s 11 = .ptr 11 ((h 11).ver + 1) 0 ∧ st.s 15 = .ptr 15 ((h 15).ver + 1) 0 ∧ st.s 16 = .ptr 16 ((h 16).ver + 1) 0 ∧
        st.s 17 = .d (.int .i64 a.dom.length) ∧ st.s 57 = .d (eTs a.idx) ∧ st.s 58 = .d (.int .i64 a.idx.length) ∧ st.s 59 = .d (.int .i64 i) ∧
        st.h 9 = ⟨(h 9).ver + 1, .box [.d (eSos b.sorts), .d (eCos b.cons), .d (.int .i64 b.elim)] false⟩ ∧
        st.h 11 = ⟨(h 11).ver + 1, .box [.d (.bool a.rc), .d (.int .i64 a.ty.kind), .d (.int .i64 a.ty.num), .d (.sl 3 (a.ty.kids.map eT)), .d (eTs a.dom), .d (.int .i64 a.sort), .d (eTs a.idx)] false⟩ ∧
        st.h 15 = ⟨(h 15).ver + 1, .box [.d (.int .i64 t.kind), .d (.int .i64 t.num), .d (.sl 3 (t.kids.map eT))] false⟩ ∧
        st.h 16 = ⟨(h 16).ver + 1, .box [.d (.int .i64 0), .d (.int .i64 0), .fsl 3 []] false⟩ ∧
        st.s 18 = .rsl 18 q ∧ st.h 18 = ⟨q, .row 3 ((domsT ahead a.dom).map eT) false⟩ ∧
        (∃ q, st.s 21 = .rsl 50 q ∧ st.h 50 = ⟨q, .row 3 ((pre ++ (instsT ahead a.idx a.dom.length).take i).map eT) false⟩) ∧
        st.h 21 = ⟨v, .box [.d (.int .i64 (errs e (E0 ++ (instsE ahead a.idx a.dom.length).take i)))] false⟩) ?_ ?_
      · simp -dsimp [eTs, g0, g2, g4, g5, g6, g9, g11, g15, g16, g17, g18, g28, g29, g30, k9, k11, k15, k16, k18, k21]
        rw [← hE0, List.append_assoc]
      · clear k9 k11 k15 k16 k18 k21 g0 g2 g4 g5 g6 g9 g11 g15 g16 g17 g18 g28 g29 g30 s hp
        rintro i ⟨s, hp⟩ hi ⟨g0, g2, g6, g9, g11, g15, g16, g17, g57, g58, g59, k9, k11, k15, k16, g18, k18, ⟨q', g21, k50⟩, k21⟩
        dsimp only at g0 g2 g6 g9 g11 g15 g16 g17 g57 g58 g59 k9 k11 k15 k16 g18 k18 g21 k50 k21
        simp only [eTs] at g6 g57 k11
        have lI : (instsT ahead a.idx a.dom.length).length = a.idx.length := by simp [instsT]
        have lE : (instsE ahead a.idx a.dom.length).length = a.idx.length := by simp [instsE]
        rcases Nat.lt_or_ge i a.idx.length with hlt | hge
        · have w1 : IntKind.i64.wrap ((i : Int) + 1) = (i : Int) + 1 := wrap_id (by omega) (by omega)
          have hI := inst_ok a.idx[i] ahead a.dom.length (by have := hin _ (List.getElem_mem hlt); omega) (fun x hx => by have := hah x hx; omega) (by omega)
          have hr : (mo.length + me.length + min i a.idx.length + 1) * 40 ≤ maxRoom := by simp only [maxRoom]; omega
          simp only [cT, eTs] at hI
          simp -dsimp [g0, g2, g6, g9, g11, g15, g16, g17, g18, g21, g57, g58, g59, k9, k11, k15, k16, k18, k21, k50, hlt, cT]
          refine call_of hI ?_
          simp -dsimp [g0, g2, g6, g9, g11, g15, g16, g17, g18, g21, g57, g58, g59, k9, k11, k15, k16, k18, k21, k50, hlt, cT]
          have hG := got_ok v (errs e (E0 ++ (instsE ahead a.idx a.dom.length).take i)) (instE a.idx[i] ahead a.dom.length) (instT a.idx[i] ahead a.dom.length)
          simp only [cT] at hG
          refine callM_of hG ?_ ?_
          · simp -dsimp [mH, k21]
          · have h1 : ((instsT ahead a.idx a.dom.length).map eT).take i ++ [eT (instT a.idx[i] ahead a.dom.length)] = ((instsT ahead a.idx a.dom.length).map eT).take (i + 1) := by
              rw [List.take_add_one, List.getElem?_map, instsT, List.getElem?_map, List.getElem?_eq_getElem hlt]; rfl
            have h2 : fst2 (errs e (E0 ++ (instsE ahead a.idx a.dom.length).take i)) (instE a.idx[i] ahead a.dom.length) = errs e (E0 ++ (instsE ahead a.idx a.dom.length).take (i + 1)) := by
              rw [List.take_add_one, instsE, List.getElem?_map, List.getElem?_eq_getElem hlt, ← errs_snoc]; simp
            simp only [eT_eq, cT] at h1
            simp -dsimp [mergeK_cons, mergeK_nil, mH, g0, g2, g6, g9, g11, g15, g16, g17, g18, g21, g57, g58, g59, k9, k11, k15, k16, k18, k21, k50, hlt, cT, hr, w1, lI, hpre, h1, h2, eTs]
        · have e1 : i = a.idx.length := by omega
          subst e1
          rw [List.take_of_length_le (by omega)] at k50 k21
          have hS := shift_ok t a.dom.length 0 (by omega)
          have hG := got_ok v (errs e (E0 ++ instsE ahead a.idx a.dom.length)) (shiftE t a.dom.length 0) (shiftT t a.dom.length 0)
          have hV := vars_is a.dom.length (by omega)
          have oS := shift_okT' a.dom.length (show nodes t ≤ 1048576 by omega)
          have hP := spine_ok (shiftT t a.dom.length 0) (varsN a.dom.length) (by rw [varsN_len]; omega) oS (varsN_okTs _ (by omega))
          have oP := sp_okT (varsN a.dom.length) _ oS (varsN_okTs a.dom.length (by omega)).2
          have hEl := eliminator_ok b base a.sort
          have hC := tc_ok (eliminator b base a.sort)
          have oC : okT (tC (eliminator b base a.sort)) := by
            have := place_n64 base (w64 (w64 (b.sorts.length + decs b.sorts) + b.cons.length)) a.sort b.sorts.length
            exact .mk _ _ _ ⟨by omega, by omega⟩ this (by simp) (by simp)
          have oI : ∀ x ∈ instsT ahead a.idx a.dom.length, okT x := fun x hx => by
            obtain ⟨y, hy, rfl⟩ := List.mem_map.1 hx
            exact inst_okT (by have := hin y hy; omega) hah'
          have oD : ∀ x ∈ domsT ahead a.dom, okT x := fun x hx => by
            obtain ⟨j, hj, rfl⟩ := List.mem_mapIdx.1 hx
            exact inst_okT (by have := hdn _ (List.getElem_mem hj); omega) hah'
          have oL : ∀ x ∈ pre ++ instsT ahead a.idx a.dom.length ++ [spT (shiftT t a.dom.length 0) (varsN a.dom.length)], okT x := by
            intro x hx
            simp only [List.mem_append, List.mem_singleton] at hx
            rcases hx with (hx | hx) | rfl
            · exact hoP x hx
            · exact oI x hx
            · exact oP
          have hQ := spine_ok (tC (eliminator b base a.sort)) _ (by simp [hpre, lI]; omega) oC ⟨by simp [hpre, lI]; omega, oL⟩
          have oQ := sp_okT _ _ oC oL
          have hR := lams_ok (domsT ahead a.dom) _ (by omega) oQ ⟨by rw [hu]; omega, oD⟩
          have hrm : (mo.length + me.length + a.idx.length + 1) * 40 ≤ maxRoom := by simp only [maxRoom]; omega
          have hT : innerT b base a mo me ahead t = nestT 5 (domsT ahead a.dom) (spT (tC (eliminator b base a.sort)) (pre ++ instsT ahead a.idx a.dom.length ++ [spT (shiftT t a.dom.length 0) (varsN a.dom.length)])) := by rw [innerT, hPre]
          have hE : errs e (innerE a mo me ahead t) = fst2 (errs e (E0 ++ instsE ahead a.idx a.dom.length)) (shiftE t a.dom.length 0) := by rw [innerE, errs_snoc, hE0]
          rw [hT, hE]
          rw [← hT] at hR ⊢
          simp only [eBl, cBl] at hEl
          simp only [cT, eTs] at hS hG hV hP hC hQ hR
          simp -dsimp [g0, g2, g6, g9, g11, g15, g16, g17, g18, g21, g57, g58, g59, k9, k11, k15, k16, k18, k21, k50]
          refine call_of hS ?_
          simp -dsimp [g0, g2, g6, g9, g11, g15, g16, g17, g18, g21, g57, g58, g59, k9, k11, k15, k16, k18, k21, k50]
          refine callM_of hG (by simp -dsimp [mH, k21]) ?_
          simp -dsimp [mergeK_cons, mergeK_nil, mH, g0, g2, g6, g9, g11, g15, g16, g17, g18, g21, g57, g58, g59, k9, k11, k15, k16, k18, k21, k50]
          refine call_of hV ?_
          simp -dsimp [g0, g2, g6, g9, g11, g15, g16, g17, g18, g21, g57, g58, g59, k9, k11, k15, k16, k18, k21, k50]
          refine call_of hP ?_
          simp -dsimp [g0, g2, g6, g9, g11, g15, g16, g17, g18, g21, g57, g58, g59, k9, k11, k15, k16, k18, k21, k50, hpre, lI, hrm]
          refine call_of hEl ?_
          simp -dsimp [g0, g2, g6, g9, g11, g15, g16, g17, g18, g21, g57, g58, g59, k9, k11, k15, k16, k18, k21, k50]
          refine call_of hC ?_
          simp -dsimp [g0, g2, g6, g9, g11, g15, g16, g17, g18, g21, g57, g58, g59, k9, k11, k15, k16, k18, k21, k50]
          simp only [tC, List.map_append, List.map_cons, List.map_nil, List.append_assoc, eT_eq, cT] at hQ hR
          refine call_of hQ ?_
          simp -dsimp [g0, g2, g6, g9, g11, g15, g16, g17, g18, g21, g57, g58, g59, k9, k11, k15, k16, k18, k21, k50]
          refine call_of hR ?_
          simp -dsimp [mH, g0, g2, g6, g9, g11, g15, g16, g17, g18, g21, g57, g58, g59, k9, k11, k15, k16, k18, k21, k50, cT]
theorem inner_okT (b : Bl) (base : Int) (a : Ar) (fa : FineAr a) (mo me ahead : List T) (t : T) (hmo : ∀ x ∈ mo, nodes x ≤ 9000) (hme : ∀ x ∈ me, nodes x ≤ 9000) (hah : ∀ x ∈ ahead, nodes x ≤ 9000) (ht : nodes t ≤ 9000) : okT (innerT b base a mo me ahead t) := by
  have hdl := fa.domL
  have hdn : ∀ x ∈ a.dom, nodes x ≤ 9000 := fun x hx => Nat.le_trans (sum_mem (List.mem_map.2 ⟨x, hx, rfl⟩)) fa.dom
  have hin : ∀ x ∈ a.idx, nodes x ≤ 9000 := fun x hx => Nat.le_trans (sum_mem (List.mem_map.2 ⟨x, hx, rfl⟩)) fa.idx
  have hah' : ∀ x ∈ ahead, nodes x ≤ 1048576 := fun x hx => by have := hah x hx; omega
  refine nest_okT (by omega) _ (sp_okT _ _ ?_ fun x hx => ?_) _ fun x hx => ?_
  · have := place_n64 base (w64 (w64 (b.sorts.length + decs b.sorts) + b.cons.length)) a.sort b.sorts.length
    exact .mk _ _ _ ⟨by omega, by omega⟩ this (by simp) (by simp)
  · simp only [List.mem_append, List.mem_singleton] at hx
    rcases hx with ((hx | hx) | hx) | rfl
    · obtain ⟨y, hy, rfl⟩ := List.mem_map.1 hx
      exact shift_okT' _ (by have := hmo y hy; omega)
    · obtain ⟨y, hy, rfl⟩ := List.mem_map.1 hx
      exact shift_okT' _ (by have := hme y hy; omega)
    · obtain ⟨y, hy, rfl⟩ := List.mem_map.1 hx
      exact inst_okT (by have := hin y hy; omega) hah'
    · exact sp_okT _ _ (shift_okT' _ (by omega)) (varsN_okTs a.dom.length (by omega)).2
  · obtain ⟨j, hj, rfl⟩ := List.mem_mapIdx.1 hx
    exact inst_okT (by have := hdn _ (List.getElem_mem hj); omega) hah'
/-- The first so many arguments, and what is computed of each that is recursive: the error, the terms. -/
def mkL (b : Bl) (base : Int) (ars : List Ar) (mo me args : List T) : Nat → Int × List T
  | 0 => (0, [])
  | n + 1 => match ars[n]?, args[n]? with
    | some a, some t => if a.rc = true ∧ (mkL b base ars mo me args n).1 = 0 then (errs 0 (innerE a mo me (args.take n) t), (mkL b base ars mo me args n).2 ++ [t, innerT b base a mo me (args.take n) t]) else ((mkL b base ars mo me args n).1, (mkL b base ars mo me args n).2 ++ [t])
    | _, _ => (0, [])
theorem mkL_next {b : Bl} {base : Int} {ars : List Ar} {mo me args : List T} {n : Nat} {a : Ar} {t : T} (ha : ars[n]? = some a) (ht : args[n]? = some t) : mkL b base ars mo me args (n + 1) =
    if a.rc = true ∧ (mkL b base ars mo me args n).1 = 0 then (errs 0 (innerE a mo me (args.take n) t), (mkL b base ars mo me args n).2 ++ [t, innerT b base a mo me (args.take n) t]) else ((mkL b base ars mo me args n).1, (mkL b base ars mo me args n).2 ++ [t]) := by
  rw [mkL, ha, ht]
theorem mkL_len (b : Bl) (base : Int) (ars : List Ar) (mo me args : List T) (n : Nat) : (mkL b base ars mo me args n).2.length ≤ 2 * n := by
  induction n with
  | zero => simp [mkL]
  | succ n ih =>
    rw [mkL]
    split
    · split
      · simp; omega
      · simp; omega
    · simp
theorem mkL_okT (b : Bl) (base : Int) (ars : List Ar) (mo me args : List T) (fas : ∀ a ∈ ars, FineAr a) (hmo : ∀ x ∈ mo, nodes x ≤ 9000) (hme : ∀ x ∈ me, nodes x ≤ 9000) (har : ∀ x ∈ args, nodes x ≤ 9000) (oar : ∀ x ∈ args, okT x) (n : Nat) : ∀ x ∈ (mkL b base ars mo me args n).2, okT x := by
  induction n with
  | zero => simp [mkL]
  | succ n ih =>
    rw [mkL]
    split
    · rename_i a t ha ht
      have htm := List.mem_of_getElem? ht
      split
      · intro x hx
        simp only [List.mem_append, List.mem_cons, List.not_mem_nil, or_false] at hx
        rcases hx with hx | rfl | rfl
        · exact ih x hx
        · exact oar _ htm
        · exact inner_okT b base a (fas a (List.mem_of_getElem? ha)) mo me _ t hmo hme (fun x hx => har x (List.mem_of_mem_take hx)) (har t htm)
      · intro x hx
        simp only [List.mem_append, List.mem_singleton] at hx
        rcases hx with hx | rfl
        · exact ih x hx
        · exact oar _ htm
    · simp
def makeE (b : Bl) (base : Int) (co : Co) (m : T) (mo me args : List T) : Int :=
  if (mkL b base co.args mo me args co.args.length).1 = 0 then checkM (spT m (mkL b base co.args mo me args co.args.length).2) else (mkL b base co.args mo me args co.args.length).1
def makeT (b : Bl) (base : Int) (co : Co) (m : T) (mo me args : List T) : T := if makeE b base co m mo me args = 0 then spT m (mkL b base co.args mo me args co.args.length).2 else zT
theorem make_ok (b : Bl) (fb : FineBl b) (ob : okBl b) (base : Int) (c : Nat) (co : Co) (hc : b.cons[c]? = some co) (mo me args : List T) (m : T) (hm : me[c]? = some m) (hmo : ∀ x ∈ mo, nodes x ≤ 9000) (lmo : mo.length ≤ 60) (hme : ∀ x ∈ me, nodes x ≤ 9000) (lme : me.length ≤ 60)
    (har : ∀ x ∈ args, nodes x ≤ 9000) (lar : args.length = co.args.length) (ome : ∀ x ∈ me, okT x) (oar : ∀ x ∈ args, okT x) :
    Pure Try.prog n_comp_Make [eBl b, .int .i64 base, .int .i64 c, eTs mo, eTs me, eTs args] [.agg (cT (makeT b base co m mo me args)), .int .i64 (makeE b base co m mo me args)] := by
  refine p_comp_Make rfl fun hs => ?_
  have fco := fb.cons co (List.mem_of_getElem? hc)
  have oco := ob.cons co (List.mem_of_getElem? hc)
  have hl20 := fco.args.1
  have hcl := fb.c
  have hclt := (List.getElem?_eq_some_iff.1 hc).1
  obtain ⟨as1, as2⟩ : co.args.length ≤ 20 ∧ args.length ≤ 20 := ⟨by omega, by omega⟩
  simp -dsimp [x_comp_Make, eBl, cBl]
  simp -dsimp [hc, eCos, eCo, cCo, eArs]
  refine wp_upto co.args.length (fun i st => st.s 1 = .d (.int .i64 base) ∧ st.s 2 = .d (.int .i64 c) ∧ st.s 3 = .d (eTs mo) ∧ st.s 4 = .d (eTs me) ∧ st.s 5 = .d (eTs args) ∧ st.s 6 = .ptr 6 1 0 ∧ st.s 12 = .ptr 12 1 0 ∧ st.s 14 = .ptr 21 1 0 ∧
    st.s 27 = .d (eArs co.args) ∧ st.s 28 = .d (.int .i64 co.args.length) ∧ st.s 29 = .d (.int .i64 i) ∧
    st.h 6 = ⟨1, .box [.d (eSos b.sorts), .d (eCos b.cons), .d (.int .i64 b.elim)] false⟩ ∧
    st.h 12 = ⟨1, .box [.d (.int .i64 0), .d (.int .i64 0), .fsl 3 []] false⟩ ∧
    (∃ q, st.s 15 = .rsl 15 q ∧ st.h 15 = ⟨q, .row 3 ((mkL b base co.args mo me args i).2.map eT) false⟩) ∧
    st.h 21 = ⟨1, .box [.d (.int .i64 (mkL b base co.args mo me args i).1)] false⟩) ?_ ?_
  · simp -dsimp [mkL, eTs, eArs, eCos]
  · rintro i ⟨s, hp⟩ hi ⟨g1, g2, g3, g4, g5, g6, g12, g14, g27, g28, g29, k6, k12, ⟨q, g15, k15⟩, k21⟩
    dsimp only at g1 g2 g3 g4 g5 g6 g12 g14 g27 g28 g29 k6 k12 g15 k15 k21
    simp only [eTs, eArs] at g3 g4 g5 g27
    have hln := mkL_len b base co.args mo me args i
    rcases Nat.lt_or_ge i co.args.length with hlt | hge
    · have hlt2 : i < args.length := by omega
      have w1 : IntKind.i64.wrap ((i : Int) + 1) = (i : Int) + 1 := wrap_id (by omega) (by omega)
      have hn := mkL_next (b := b) (base := base) (mo := mo) (me := me) (List.getElem?_eq_getElem hlt) (List.getElem?_eq_getElem hlt2)
      have hr : ((mkL b base co.args mo me args i).2.length + 1) * 40 ≤ maxRoom := by simp only [maxRoom]; omega
      have hr2 : ((mkL b base co.args mo me args i).2.length + 2) * 40 ≤ maxRoom := by simp only [maxRoom]; omega
      generalize hL : mkL b base co.args mo me args i = L at *
      have fa := fco.args.2 co.args[i] (List.getElem_mem _)
      have oa := oco.args.2 co.args[i] (List.getElem_mem _)
      have htn := har args[i] (List.getElem_mem _)
      generalize hAe : co.args[i] = A at *
      generalize hX : args[i] = X at *
      simp -dsimp [g1, g2, g3, g4, g5, g6, g12, g14, g15, g27, g28, g29, k6, k12, k15, k21, hlt, hlt2, hX, hAe, hr, eAr, cAr, cT]
      cases hrc : A.rc with
      | false =>
        rw [hrc] at hn
        simp only [Bool.false_eq_true, false_and, if_false] at hn
        simp -dsimp [g1, g2, g3, g4, g5, g6, g12, g14, g15, g27, g28, g29, k6, k12, k15, k21, hlt, hlt2, hX, hAe, hr, hn, w1, eTs, eArs, eT_eq, cT]
      | true =>
        rw [hrc] at hn
        by_cases h0 : L.1 = 0
        · simp only [h0, true_and, if_true] at hn
          have hI := inner_ok b base A oa fa mo me (args.take i) X hmo lmo hme lme (fun x hx => har x (List.mem_of_mem_take hx)) (by rw [List.length_take]; omega) htn 1 0
          have hI := agg_arg (pre := [.ptr 21 1 0]) hI
          have hI := agg_arg (pre := [.ptr 21 1 0, .agg ((cBl b).map .d), .d (.int .i64 base)]) hI
          have hile : i ≤ args.length := by omega
          have hEr : errs 0 [] = 0 := rfl
          simp only [cBl, cAr, eAr, cT, eTs, List.map_cons, List.map_nil, List.cons_append, List.nil_append, List.map_take, hrc] at hI
          have k21' : (hp 21) = mH 1 0 21 := by rw [k21, h0]; rfl
          simp -dsimp [g1, g2, g3, g4, g5, g6, g12, g14, g15, g27, g28, g29, k6, k12, k15, k21, hlt, hlt2, hX, hAe, hr, h0, hile, eAr, cAr, cT, eTs]
          refine callM_of hI (by simp -dsimp [mH, g1, g2, g3, g4, g5, g6, g12, g14, g15, g27, g28, g29, k6, k12, k15, k21, h0]) ?_
          simp -dsimp [mergeK_cons, mergeK_nil, mH, g1, g2, g3, g4, g5, g6, g12, g14, g15, g27, g28, g29, k6, k12, k15, k21, hlt, hlt2, hX, hAe, hr, hr2, hn, h0, w1, eTs, eArs, eT_eq, cT]
        · simp only [h0, and_false, if_false] at hn
          simp -dsimp [g1, g2, g3, g4, g5, g6, g12, g14, g15, g27, g28, g29, k6, k12, k15, k21, hlt, hlt2, hX, hAe, hr, hn, h0, w1, eTs, eArs, eT_eq, cT]
    · have e1 : i = co.args.length := by omega
      subst e1
      generalize hL : mkL b base co.args mo me args co.args.length = L at *
      have hE : makeE b base co m mo me args = if L.1 = 0 then checkM (spT m L.2) else L.1 := by rw [makeE, hL]
      have hT : makeT b base co m mo me args = if makeE b base co m mo me args = 0 then spT m L.2 else zT := by rw [makeT, hL]
      by_cases h0 : L.1 = 0
      · rw [if_pos h0] at hE
        have oL : ∀ x ∈ L.2, okT x := by rw [← hL]; exact mkL_okT b base co.args mo me args fco.args.2 hmo hme har oar _
        have hS := spine_ok m L.2 (by omega) (ome m (List.mem_of_getElem? hm)) ⟨by omega, oL⟩
        have hC := check_ok (spT m L.2)
        generalize hZ : spT m L.2 = Z at *
        simp only [cT, eTs] at hS hC
        simp -dsimp [g1, g2, g3, g4, g5, g6, g12, g14, g15, g27, g28, g29, k6, k12, k15, k21, h0]
        simp -dsimp [hm, eT_eq, cT, g1, g2, g3, g4, g5, g6, g12, g14, g15, g27, g28, g29, k6, k12, k15, k21]
        refine call_of hS ?_
        simp -dsimp [g1, g2, g3, g4, g5, g6, g12, g14, g15, g27, g28, g29, k6, k12, k15, k21]
        refine call_of hC ?_
        by_cases h1 : checkM Z = 0
        · rw [h1] at hE
          rw [hE, if_pos rfl] at hT
          simp -dsimp [g1, g2, g3, g4, g5, g6, g12, g14, g15, g27, g28, g29, k6, k12, k15, k21, h1, hE, hT, cT]
        · rw [hE, if_neg h1] at hT
          simp -dsimp [g1, g2, g3, g4, g5, g6, g12, g14, g15, g27, g28, g29, k6, k12, k15, k21, h1, hE, hT, cT, zT]
      · rw [if_neg h0] at hE
        rw [hE, if_neg h0] at hT
        simp -dsimp [g1, g2, g3, g4, g5, g6, g12, g14, g15, g27, g28, g29, k6, k12, k15, k21, h0, hE, hT, zT, cT]
end
end Ev
end Go.Proofs.Ytomlkbohcoinoaa
