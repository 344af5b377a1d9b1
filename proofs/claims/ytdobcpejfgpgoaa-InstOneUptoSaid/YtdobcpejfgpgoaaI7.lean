/- Substitution: two variables; what is right. -/
import Derived.Test.YtdobcpejfgpgoaaI6
namespace Go.Proofs.Ytdobcpejfgpgoaa
namespace Ev
open Go
set_option maxRecDepth 100000
set_option linter.unusedSimpArgs false
set_option linter.unusedVariables false
attribute [local simp ↓] wx_skip wx_region wx_seq wx_block wx_exit wx_ret wx_cond wx_loop wo_nil wo_run wo_ask wx_draw wt_nil wt_run_t wt_run_f wt_ask_t wt_ask_f rb_mv rb_nilrow rb_pick rb_alloc rb_box rb_load rb_store rb_nilck rb_bin rb_binb rb_un rb_conv rb_mkf rb_mks rb_slice rb_faddr rb_fld rb_iaddr rb_ext rb_len rb_app rb_mm rb_build rb_bslice run_callC upd_eq upd_ne
attribute [local simp] runB_some runB_none Tch_nil Tch_cons Chk_t Cnd_t Cnd_f Ask_tt Ask_ff Ask_tf Ask_ft Ask_skip act ev_t ev_c evs sks caps2 touch_call List.cons_append List.nil_append putS binI binB int_add int_sub int_mul int_quo int_rem int_or int_eql int_neq int_lss int_leq int_gtr int_geq shiftD Ex.then Ex.inBlock Ends resL resX allD toD_d toD_fsl sk_d sk_fsl none_ loadA cut wrapA wrapD avc_d avc_agg avc_fsl avc_rsl avc_ptr avc_eptr avc_clo dc_agg dc_int dc_bool dc_str dc_sl dc_nilp dc_rp dc_clo on_int on_bool on_str on_sl on_nilp on_rp on_clo on_fsl on_rsl on_ptr on_eptr on_cloA newE elemsA elemsS storeA put frz_nil deep callee resA initS touchOp fits compat rd wr key1 buildA partsD partsK idx frz_at Body.frz lk_hit lk_miss toD6_agg toD5_agg toD4_agg toD6_clo toD5_clo toD4_clo toD6_ptr toD5_ptr toD4_ptr sk6_agg sk5_agg sk4_agg sk6_clo sk5_clo sk4_clo sk6_ptr sk5_ptr sk4_ptr toD_rsl sk_rsl
attribute [local simp] allD_map_d sks_map_d tk tn tks

theorem rv_ok (n : Int) : Pure Try.prog n_porismref01_V [.int .i64 n] [.agg (cT (.mk 1 n []))] := by
  refine p_porismref01_V rfl fun hs => ?_
  simp -dsimp [x_porismref01_V, cT]
theorem ru_ok (n : Int) : Pure Try.prog n_porismref01_U [.int .i64 n] [.agg (cT (.mk 2 n []))] := by
  refine p_porismref01_U rfl fun hs => ?_
  simp -dsimp [x_porismref01_U, cT]
theorem rt_ok (k : Int) (l : List T) (hl : l.length * 40 ≤ maxRoom) : Pure Try.prog n_porismref01_T [.int .i64 k, eTs l] [.agg (cT (.mk k 0 l))] := by
  refine p_porismref01_T rfl fun hs => ?_
  simp -dsimp [x_porismref01_T, cT, eTs, hl]
theorem check_iff {t : T} (h : nodes t ≤ 1048576) : checkM t = 0 ↔ nodes t ≤ 6000 ∧ depthN t ≤ 200 ∧ formedM t = true := by
  rw [checkM, size_is _ (by omega), depth_is _ (by omega)]
  by_cases h1 : (6000 : Int) < nodes t
  · rw [if_pos h1]
    constructor
    · intro h; cases h
    · omega
  · rw [if_neg h1]
    by_cases h2 : (200 : Int) < depthN t
    · rw [if_pos h2]
      constructor
      · intro h; cases h
      · omega
    · rw [if_neg h2]
      cases formedM t
      · simp
      · simp; omega
def tA (a b : T) : T := .mk 6 0 [a, b]
def tU (n : Int) : T := .mk 2 n []
def tV (n : Int) : T := .mk 1 n []
theorem nodes2 (k n : Int) (a b : T) : nodes (.mk k n [a, b]) = nodes a + nodes b + 1 := by rw [nodes]; simp
theorem openE_iff (t : T) (l : List T) (u : Int) : openE t l u = 0 ↔ checkM t = 0 ∧ (∀ x ∈ l, checkM x = 0) ∧ 0 ≤ u ∧ u ≤ 65535 := by
  have ha : argsE l = 0 ↔ ∀ x ∈ l, checkM x = 0 := by
    induction l with
    | nil => simp [argsE]
    | cons x xs ih =>
      rw [argsE]
      by_cases h : checkM x = 0
      · simp [h, ih]
      · simp [h]
  rw [openE, ← ha]
  by_cases h1 : checkM t = 0
  · rw [if_pos h1]
    by_cases h2 : argsE l = 0
    · rw [if_pos h2]
      by_cases h3 : u < 0 ∨ 65535 < u
      · rw [if_pos h3]
        constructor
        · intro h; cases h
        · omega
      · rw [if_neg h3]
        constructor
        · intro _; exact ⟨h1, h2, by omega⟩
        · intro _; rfl
    · rw [if_neg h2]
      constructor
      · intro h; exact absurd h h2
      · intro h; exact absurd h.2.1 h2
  · rw [if_neg h1]
    constructor
    · intro h; exact absurd h h1
    · intro h; exact absurd h.1 h1
theorem nU (n : Int) : nodes (tU n) = 1 ∧ depthN (tU n) = 1 ∧ (0 ≤ n ∧ n ≤ 65535 → formedM (tU n) = true) := by
  refine ⟨leaf_nodes _ _, leaf_depth _ _, fun h => ?_⟩
  simp [tU, formedM_is, kidsM, (inB_iff n 0 65535).2 h]
theorem nV (n : Int) : nodes (tV n) = 1 ∧ depthN (tV n) = 1 ∧ (0 ≤ n ∧ n ≤ 65535 → formedM (tV n) = true) := by
  refine ⟨leaf_nodes _ _, leaf_depth _ _, fun h => ?_⟩
  simp [tV, formedM_is, kidsM, (inB_iff n 0 65535).2 h]
theorem nA {a b : T} (ha : formedM a = true) (hb : formedM b = true) : nodes (tA a b) = nodes a + nodes b + 1 ∧ depthN (tA a b) = max (depthN a) (depthN b) + 1 ∧ formedM (tA a b) = true := by
  refine ⟨nodes2 _ _ _ _, by rw [tA, depthN]; simp [dmax], ?_⟩
  simp [tA, formedM_is, kidsM, isM, ha, hb]
def wT : T := tA (tV 1) (tV 0)
theorem wT_facts : nodes wT = 3 ∧ depthN wT = 2 ∧ formedM wT = true := by
  have h1 := nV 1
  have h0 := nV 0
  have := nA (h1.2.2 (by omega)) (h0.2.2 (by omega))
  refine ⟨by rw [wT, this.1, h1.1, h0.1], by rw [wT, this.2.1, h1.2.1, h0.2.1]; rfl, this.2.2⟩
theorem wU (n : Int) (h : 0 ≤ n ∧ n ≤ 65535) : checkM (tU n) = 0 := by
  have := nU n
  exact (check_iff (by omega)).2 ⟨by omega, by omega, this.2.2 h⟩
theorem wCheck : checkM wT = 0 := by
  have := wT_facts
  exact (check_iff (by omega)).2 ⟨by omega, by omega, this.2.2⟩
theorem wMap (a b : T) : mapT (instF [a, b] 0) wT 0 = tA (movedT (w64 (0 + 0)) a) (movedT (w64 (0 + 0)) b) := by
  simp [wT, tA, tV, mapT, mapL, instF, whichT, bindsM]
theorem wSc (a b : T) (ha : freeT a 0 ≤ 65535) (hb : freeT b 0 ≤ 65535) : scI [a, b] 0 wT 0 = false := by
  simp [wT, tA, tV, scI, scL, whichT, bindsM, overB]
  omega
theorem movedU (y n : Int) : movedT y (tU n) = tU n := by simp [movedT, tU, mapT, mapL]
theorem wake1 : instT wT [tU 0, tU 1] 0 = tA (tU 0) (tU 1) ∧ instE wT [tU 0, tU 1] 0 = 0 := by
  have h0 := nU 0
  have h1 := nU 1
  have hw := wT_facts
  have hmap : mapT (instF [tU 0, tU 1] 0) wT 0 = tA (tU 0) (tU 1) := by rw [wMap, movedU, movedU]
  have hA := nA (h0.2.2 (by omega)) (h1.2.2 (by omega))
  have hE : instE wT [tU 0, tU 1] 0 = 0 := by
    rw [inst_iff (by omega) (by intro x hx; simp at hx; rcases hx with rfl | rfl <;> omega), hmap]
    refine ⟨(openE_iff _ _ _).2 ⟨wCheck, ?_, by omega⟩, wSc _ _ ?_ ?_, by omega, by omega⟩
    · intro x hx
      simp at hx
      rcases hx with rfl | rfl
      · exact wU 0 (by omega)
      · exact wU 1 (by omega)
    · exact (free_le _ (h0.2.2 (by omega)) 0).2
    · exact (free_le _ (h1.2.2 (by omega)) 0).2
  exact ⟨by rw [inst_at hE, hmap], hE⟩
theorem wake2 : (if openE wT [wT, wT] 0 = 0 then (openSt wT [wT, wT] 0).sz else 0) = 7 := by
  have hw := wT_facts
  have hO : openE wT [wT, wT] 0 = 0 := (openE_iff _ _ _).2 ⟨wCheck, by intro x hx; simp at hx; subst hx; exact wCheck, by omega⟩
  rw [if_pos hO, openSt_is hO (by omega) (by intro x hx; simp at hx; subst hx; omega), wMap]
  have h1 : nodes (tA (movedT (w64 (0 + 0)) wT) (movedT (w64 (0 + 0)) wT)) = 7 := by
    rw [tA, nodes2, moved_nodes hw.2.2, hw.1]
  simp only [h1]
  rfl
theorem wakes05_ok : Pure Try.prog n_porismlaw05_wakes [] [.bool true] := by
  refine p_porismlaw05_wakes rfl fun hs => ?_
  have hw := wT_facts
  have h0 := nU 0
  have h1 := nU 1
  simp -dsimp [x_porismlaw05_wakes]
  refine call_of (rv_ok 1) ?_
  simp -dsimp [cT]
  refine call_of (rv_ok 0) ?_
  simp -dsimp [cT]
  have r1 := rt_ok 6 [tV 1, tV 0] (by decide)
  simp only [eTs, List.map_cons, List.map_nil, tV, tU, tA, wT, eT_eq, cT, tk, tn, tks] at r1
  refine call_of r1 ?_
  simp -dsimp [cT]
  refine call_of (ru_ok 0) ?_
  simp -dsimp [cT]
  refine call_of (ru_ok 1) ?_
  simp -dsimp [cT]
  have hi := inst_ok wT [tU 0, tU 1] 0 (by omega) (by intro x hx; simp at hx; rcases hx with rfl | rfl <;> omega) (by simp)
  rw [wake1.1, wake1.2] at hi
  simp only [eTs, List.map_cons, List.map_nil, tV, tU, tA, wT, eT_eq, cT, tk, tn, tks] at hi
  refine call_of hi ?_
  simp -dsimp [cT]
  refine call_of (ru_ok 0) ?_
  simp -dsimp [cT]
  refine call_of (ru_ok 1) ?_
  simp -dsimp [cT]
  have r2 := rt_ok 6 [tU 0, tU 1] (by decide)
  simp only [eTs, List.map_cons, List.map_nil, tV, tU, tA, wT, eT_eq, cT, tk, tn, tks] at r2
  refine call_of r2 ?_
  simp -dsimp [cT]
  have hk := keepTerm_ok (tA (tU 0) (tU 1))
  simp only [eTs, List.map_cons, List.map_nil, tV, tU, tA, wT, eT_eq, cT, tk, tn, tks] at hk
  refine call_of hk ?_
  simp -dsimp [cT]
  have hz := sizeOf_ok wT [wT, wT] 0 (by omega) (by intro x hx; simp at hx; subst hx; omega) (by simp)
  rw [wake2] at hz
  simp only [eTs, List.map_cons, List.map_nil, tV, tU, tA, wT, eT_eq, cT, tk, tn, tks] at hz
  refine call_of hz ?_
  simp -dsimp [cT]
/-- The bound, on terms. -/
theorem nodes_bulk (t : T) : nodes t ≤ bulk (eT t) := by
  refine T.ind (p := fun t => nodes t ≤ bulk (eT t)) ?_ t
  intro k n ks ih
  rw [nodes, eT_eq]
  simp only [cT, tks, bulk, List.map_cons, List.map_nil, List.sum_cons, List.sum_nil, List.map_map]
  have : ∀ l : List T, (∀ x ∈ l, nodes x ≤ bulk (eT x)) → (l.map nodes).sum ≤ (l.map (bulk ∘ eT)).sum := by
    intro l
    induction l with
    | nil => intro _; simp
    | cons x xs ihx =>
      intro h
      have h1 := h x (by simp)
      have h2 := ihx fun y hy => h y (by simp [hy])
      simp only [List.map_cons, List.sum_cons, Function.comp] at h2 ⊢
      omega
  have := this ks ih
  omega
theorem term_bulk (t : T) : nodes t ≤ bulk (.agg (cT t)) := by rw [← eT_eq]; exact nodes_bulk t
theorem terms_bulk (l : List T) : (∀ x ∈ l, nodes x ≤ bulk (eTs l)) ∧ l.length ≤ bulk (eTs l) := by
  simp only [eTs, bulk, List.map_map]
  have h1 : ∀ x ∈ l, nodes x ≤ (l.map (bulk ∘ eT)).sum := fun x hx => by
    have := sum_mem (List.mem_map.2 ⟨x, hx, rfl⟩ : (bulk ∘ eT) x ∈ l.map (bulk ∘ eT))
    have h2 := nodes_bulk x
    simp only [Function.comp] at this
    omega
  have h2 : l.length ≤ (l.map (bulk ∘ eT)).sum := by
    clear h1
    induction l with
    | nil => simp
    | cons x xs ih =>
      have h3 := nodes_bulk x
      have h4 : 1 ≤ nodes x := by cases x; rw [nodes]; omega
      simp only [List.length_cons, List.map_cons, List.sum_cons, Function.comp] at ih ⊢
      omega
  exact ⟨fun x hx => by have := h1 x hx; omega, by omega⟩
end Ev
end Go.Proofs.Ytdobcpejfgpgoaa
