/- The document's shift; blocks that are known. -/
import Derived.Test.YtomlkbohcoinoaaH6
import Derived.Test.YtomlkbohcoinoaaXk
namespace Go.Proofs.Ytomlkbohcoinoaa
namespace Ev
open Go
set_option maxRecDepth 100000
set_option linter.unusedSimpArgs false
set_option linter.unusedVariables false
attribute [local simp ↓] wx_skip wx_region wx_seq wx_block wx_exit wx_ret wx_cond wx_loop wo_nil wo_run wo_ask wx_draw wt_nil wt_run_t wt_run_f wt_ask_t wt_ask_f rb_mv rb_nilrow rb_pick rb_alloc rb_box rb_load rb_store rb_nilck rb_bin rb_binb rb_un rb_conv rb_mkf rb_mks rb_slice rb_faddr rb_fld rb_iaddr rb_ext rb_len rb_app rb_mm rb_build rb_bslice run_callC upd_eq upd_ne
attribute [local simp] runB_some runB_none Tch_nil Tch_cons Chk_t Cnd_t Cnd_f Ask_tt Ask_ff Ask_tf Ask_ft Ask_skip act ev_t ev_c evs sks caps2 touch_call List.cons_append List.nil_append putS binI binB int_add int_sub int_mul int_quo int_rem int_or int_eql int_neq int_lss int_leq int_gtr int_geq shiftD Ex.then Ex.inBlock Ends resL resX allD toD_d toD_fsl sk_d sk_fsl none_ loadA cut wrapA wrapD avc_d avc_agg avc_fsl avc_rsl avc_ptr avc_eptr avc_clo dc_agg dc_int dc_bool dc_str dc_sl dc_nilp dc_rp dc_clo on_int on_bool on_str on_sl on_nilp on_rp on_clo on_fsl on_rsl on_ptr on_eptr on_cloA newE elemsA elemsS storeA put frz_nil deep callee resA initS touchOp fits compat rd wr key1 buildA partsD partsK idx frz_at Body.frz lk_hit lk_miss toD6_agg toD5_agg toD4_agg toD6_clo toD5_clo toD4_clo toD6_ptr toD5_ptr toD4_ptr sk6_agg sk5_agg sk4_agg sk6_clo sk5_clo sk4_clo sk6_ptr sk5_ptr sk4_ptr toD_rsl sk_rsl resK EndsP EndsMP fitVs fitCs fitC keysV keysC keyC cellsA1 skVs skCs skC1 resO tupA valsV cellsV oneV rowsV rowsC RV.cells nk rowsH_one rowsH_two rowsH_none
section
attribute [local simp] allD_map_d sks_map_d tk tn tks initA EndsM one_sos one_cos one_ars one_ts
theorem num_of {k n : Int} {ks : List T} (hfm : formedM (.mk k n ks) = true) : 0 ≤ n ∧ n ≤ 65535 := by
  rw [formedM_is] at hfm
  split at hfm
  · split at hfm
    · rw [Bool.and_eq_true, inB_iff] at hfm
      exact hfm.1
    · split at hfm
      · omega
      · cases hfm
  · cases hfm
theorem shBL_snoc (fr y k b : Int) : ∀ (l : List T) (i j : Nat) (h : j < l.length), shBL fr y k b i (l.take (j + 1)) = (shBL fr y k b i (l.take j) && shB fr y l[j] (b + bindsM k (i + j : Nat)))
  | x :: xs, i, 0, h => by simp [shBL]
  | x :: xs, i, j + 1, h => by
    have := shBL_snoc fr y k b xs (i + 1) j (by simpa using h)
    simp only [List.take_succ_cons, shBL, List.getElem_cons_succ, this, Bool.and_assoc]
    rw [show i + 1 + j = i + (j + 1) by omega]
theorem move_ok (y fr : Int) (hy : 0 ≤ y ∧ y ≤ 65535) (hfr : 0 ≤ fr ∧ fr ≤ 65535) (t : T) : ∀ b : Int, formedM t = true → 0 ≤ b → b + nodes t ≤ 4194304 → Pure Try.prog n_porismref01_move [.agg (cT t), .int .i64 y, .int .i64 (fr + b)] [.agg (cT (mapT (shF fr y) t b)), .bool (!shB fr y t b)] := by
  refine T.ind (p := fun t => ∀ b : Int, formedM t = true → 0 ≤ b → b + nodes t ≤ 4194304 → Pure Try.prog n_porismref01_move [.agg (cT t), .int .i64 y, .int .i64 (fr + b)] [.agg (cT (mapT (shF fr y) t b)), .bool (!shB fr y t b)]) ?_ t
  intro k n ks ih b hfm h0 hb
  refine p_porismref01_move rfl fun hs => ?_
  by_cases h1 : k = 1
  · subst h1
    have hks := var_leaf rfl hfm
    subst hks
    obtain ⟨n0, n1⟩ := var_formed rfl hfm
    have w1 : IntKind.i64.wrap (n + y) = n + y := wrap_id (by omega) (by omega)
    have hM : mapT (shF fr y) (.mk 1 n []) b = .mk 1 (if n < fr + b then n else n + y) [] := by rw [map_var, shF]
    have hB : shB fr y (.mk 1 n []) b = (decide (n < fr + b) || decide (n + y ≤ 65535)) := by rw [shB, if_pos rfl]
    rw [hM, hB]
    simp -dsimp [x_porismref01_move, cT]
    by_cases c : fr + b ≤ n
    · have c' : ¬ n < fr + b := by omega
      simp -dsimp [c, c', w1]
      refine wp_upto 0 (fun i st => st.s 3 = .ptr 3 1 0 ∧ st.s 8 = .ptr 8 1 0 ∧ st.s 6 = .ptr 6 1 0 ∧ st.s 9 = .d (.bool (decide (65535 < n + y))) ∧ st.s 10 = .d (.int .i64 i) ∧ st.h 3 = ⟨1, .box [.d (.int .i64 1), .d (.int .i64 n), .d (.sl 3 [])] false⟩ ∧ st.h 8 = ⟨1, .box [.d (.int .i64 1), .d (.int .i64 (n + y)), .fsl 3 []] false⟩ ∧ st.h 6 = ⟨1, .box [.d (.int .i64 0), .d (.int .i64 0), .fsl 3 []] false⟩) ?_ ?_
      · simp -dsimp
      · rintro i ⟨s, hp⟩ hi ⟨e3, e8, e6, e9, e10, k3, k8, k6⟩
        dsimp only at e3 e8 e6 e9 e10 k3 k8 k6
        have : i = 0 := by omega
        subst this
        simp -dsimp [e3, e8, e6, e9, e10, k3, k8, k6]
        exact ⟨fun h => by omega, by rw [Bool.eq_iff_iff]; simp; omega⟩
    · have c' : n < fr + b := by omega
      simp -dsimp [c, c', w1]
      refine wp_upto 0 (fun i st => st.s 3 = .ptr 3 1 0 ∧ st.s 8 = .ptr 8 1 0 ∧ st.s 6 = .ptr 6 1 0 ∧ st.s 9 = .d (.bool (decide (65535 < n))) ∧ st.s 10 = .d (.int .i64 i) ∧ st.h 3 = ⟨1, .box [.d (.int .i64 1), .d (.int .i64 n), .d (.sl 3 [])] false⟩ ∧ st.h 8 = ⟨1, .box [.d (.int .i64 1), .d (.int .i64 n), .fsl 3 []] false⟩ ∧ st.h 6 = ⟨1, .box [.d (.int .i64 0), .d (.int .i64 0), .fsl 3 []] false⟩) ?_ ?_
      · simp -dsimp
      · rintro i ⟨s, hp⟩ hi ⟨e3, e8, e6, e9, e10, k3, k8, k6⟩
        dsimp only at e3 e8 e6 e9 e10 k3 k8 k6
        have : i = 0 := by omega
        subst this
        simp -dsimp [e3, e8, e6, e9, e10, k3, k8, k6]
        exact ⟨fun h => by omega, by rw [Bool.eq_iff_iff]; simp; omega⟩
  · obtain ⟨n0, n1⟩ := num_of hfm
    have hln := (slim_of _ hfm).kids.1
    have hM : mapT (shF fr y) (.mk k n ks) b = .mk k n (mapL (shF fr y) k b 0 ks) := by rw [mapT, if_neg h1]
    have hB : shB fr y (.mk k n ks) b = shBL fr y k b 0 ks := by rw [shB, if_neg h1]
    have hl := mapL_len (shF fr y) k b ks 0
    rw [hM, hB]
    have n2 : ¬ 65535 < n := by omega
    simp -dsimp [x_porismref01_move, cT, h1, n2]
    generalize hML : mapL (shF fr y) k b 0 ks = ml at *
    refine wp_upto ks.length (fun i st => st.s 1 = .d (.int .i64 y) ∧ st.s 2 = .d (.int .i64 (fr + b)) ∧ st.s 3 = .ptr 3 1 0 ∧ st.s 8 = .ptr 8 1 0 ∧ st.s 6 = .ptr 6 1 0 ∧ st.s 9 = .d (.bool (!shBL fr y k b 0 (ks.take i))) ∧ st.s 10 = .d (.int .i64 i) ∧ st.h 3 = ⟨1, .box [.d (.int .i64 k), .d (.int .i64 n), .d (.sl 3 (ks.map eT))] false⟩ ∧
      st.h 6 = ⟨1, .box [.d (.int .i64 0), .d (.int .i64 0), .fsl 3 []] false⟩ ∧ ∃ c, st.h 8 = ⟨1, .box [.d (.int .i64 k), .d (.int .i64 n), c] false⟩ ∧ ((i = 0 ∧ c = .fsl 3 []) ∨ (0 < i ∧ ∃ v, c = .rsl 62 v ∧ st.h 62 = ⟨v, .row 3 ((ml.map eT).take i) false⟩))) ?_ ?_
    · simp -dsimp [shBL]
    · rintro i ⟨s, hp⟩ hi ⟨e1, e2, e3, e8, e6, e9, e10, k3, k6, c, k8, hc⟩
      dsimp only at e1 e2 e3 e8 e6 e9 e10 k3 k6 k8 hc
      rcases Nat.lt_or_ge i ks.length with hlt | hge
      · have w1 : IntKind.i64.wrap ((i : Int) + 1) = (i : Int) + 1 := wrap_id (by omega) (by omega)
        have hbl := binds_le k i
        have hkn := nodes_kid (k := k) (n := n) (List.getElem_mem hlt)
        have w2 : IntKind.i64.wrap (fr + b + bindsM k i) = fr + (b + bindsM k i) := by rw [wrap_id (by omega) (by omega)]; omega
        have hrec := ih ks[i] (List.getElem_mem _) (b + bindsM k i) (kids_formed hfm _ (List.getElem_mem _)) (by omega) (by omega)
        have hs1 := shBL_snoc fr y k b ks 0 i hlt
        rw [Nat.zero_add] at hs1
        have hg := mapL_get (shF fr y) k b ks 0 i hlt
        rw [Nat.zero_add] at hg
        have hn := take_next eT cT eT_eq ml i (by omega)
        simp only [hML] at hg
        rw [hg] at hn
        have hr : (min i ml.length + 1) * 40 ≤ maxRoom := by simp only [maxRoom]; omega
        generalize mapT (shF fr y) ks[i] (b + bindsM k i) = Y at *
        generalize shB fr y ks[i] (b + bindsM k i) = Z at *
        generalize hX : ks[i] = X at *
        simp only [cT] at hrec hn
        simp -dsimp [e1, e2, e3, e8, e6, e9, e10, k3, k6, k8, hlt, hX, cT]
        refine call_of (rbinds_ok k i) ?_
        simp -dsimp [e1, e2, e3, e8, e6, e9, e10, k3, k6, k8, hlt, hX, cT, w2]
        refine call_of hrec ?_
        simp -dsimp [e1, e2, e3, e8, e6, e9, e10, k3, k6, k8, hlt, hX, cT, w1, w2, hs1]
        have hb2 : (!(shBL fr y k b 0 (ks.take i) && Z)) = (!shBL fr y k b 0 (ks.take i) || !Z) := by cases shBL fr y k b 0 (ks.take i) <;> cases Z <;> rfl
        rcases hc with ⟨rfl, rfl⟩ | ⟨hi0, v, rfl, hc⟩
        · have hne : ¬ ml = [] := List.ne_nil_of_length_pos (by omega)
          simp only [List.take_zero, List.nil_append, Nat.zero_add] at hn
          have hz : shBL fr y k b 0 (ks.take 0) = true := by simp [shBL]
          rw [hz] at hs1
          rw [List.take_zero] at e9
          have hz2 : shBL fr y k b 0 [] = true := by simp [shBL]
          have h40 : 40 ≤ maxRoom := by simp only [maxRoom]; omega
          simp at hlt w1
          simp -dsimp [e1, e2, e3, e8, e6, e9, e10, k3, k6, k8, hlt, hX, cT, w1, hs1, hz2, hn, h40]
        · cases hSh : shBL fr y k b 0 (ks.take i) with
          | true =>
            rw [hSh] at hs1 e9
            simp -dsimp [e1, e2, e3, e8, e6, e9, e10, k3, k6, k8, hc, hlt, hX, cT, w1, hs1, hn, hr]
          | false =>
            rw [hSh] at hs1 e9
            simp -dsimp [e1, e2, e3, e8, e6, e9, e10, k3, k6, k8, hc, hlt, hX, cT, w1, hs1, hn, hr]
      · have e : i = ks.length := by omega
        subst e
        rw [List.take_length] at e9
        rcases hc with ⟨hz, rfl⟩ | ⟨hi0, v, rfl, hc⟩
        · have hm : ml = [] := List.length_eq_zero_iff.1 (by omega)
          have hkz : ks = [] := List.length_eq_zero_iff.1 hz
          simp -dsimp [e1, e2, e3, e8, e6, e9, e10, k3, k6, k8, hm, hkz]
        · rw [List.take_of_length_le (by simp; omega)] at hc
          simp -dsimp [e1, e2, e3, e8, e6, e9, e10, k3, k6, k8, hc]
theorem shiftE_is {t : T} {y fr : Int} (hc : checkM t = 0) (hy : 0 ≤ y ∧ y ≤ 65535) (hf : 0 ≤ fr ∧ fr ≤ 65535) : shiftE t y fr = if shB fr y t 0 = true then 0 else 6 := by
  rw [shiftE, if_pos hc, if_pos ((inB_iff _ _ _).2 hy), if_pos ((inB_iff _ _ _).2 hf), shE_is fr y t 0 0 (.inl rfl)]
theorem rshift_ok (t : T) (y fr : Int) (hn : nodes t ≤ 1048576) : Pure Try.prog n_porismref01_Shift [.agg (cT t), .int .i64 y, .int .i64 fr] [.agg (cT (shiftT t y fr)), .int .i64 (shiftE t y fr)] := by
  refine p_porismref01_Shift rfl fun hs => ?_
  have hC := rcheck_ok t
  simp only [cT] at hC
  simp -dsimp [x_porismref01_Shift, cT]
  refine call_of hC ?_
  by_cases hc : checkM t = 0
  case neg =>
    have hE : shiftE t y fr = checkM t := by rw [shiftE, if_neg hc]
    have hT : shiftT t y fr = zT := by rw [shiftT, hE, if_neg hc]
    simp -dsimp [hc, hE, hT, zT, cT]
  simp -dsimp [hc]
  refine call_of (rin_ok y 0 65535) ?_
  by_cases hy : inB y 0 65535 = true
  case neg =>
    have hy' : inB y 0 65535 = false := by simpa using hy
    have hE : shiftE t y fr = 1 := by rw [shiftE, if_pos hc, if_neg hy]
    have hT : shiftT t y fr = zT := by rw [shiftT, hE, if_neg (by omega)]
    simp -dsimp [hc, hy', hE, hT, zT, cT]
  simp -dsimp [hc, hy]
  refine call_of (rin_ok fr 0 65535) ?_
  by_cases hf : inB fr 0 65535 = true
  case neg =>
    have hf' : inB fr 0 65535 = false := by simpa using hf
    have hE : shiftE t y fr = 1 := by rw [shiftE, if_pos hc, if_pos hy, if_neg hf]
    have hT : shiftT t y fr = zT := by rw [shiftT, hE, if_neg (by omega)]
    simp -dsimp [hc, hy, hf', hE, hT, zT, cT]
  have hE := shiftE_is hc ((inB_iff _ _ _).1 hy) ((inB_iff _ _ _).1 hf)
  have hM := move_ok y fr ((inB_iff _ _ _).1 hy) ((inB_iff _ _ _).1 hf) t 0 (formed_of hc) (by omega) (by omega)
  rw [Int.add_zero] at hM
  simp only [cT] at hM
  simp -dsimp [hc, hy, hf]
  refine call_of hM ?_
  cases hB : shB fr y t 0 with
  | true =>
    rw [hB, if_pos rfl] at hE
    have hT : shiftT t y fr = mapT (shF fr y) t 0 := shift_at hE
    simp -dsimp [hc, hy, hf, hB, hE, hT, cT]
  | false =>
    rw [hB, if_neg (by simp)] at hE
    have hT : shiftT t y fr = zT := by rw [shiftT, hE, if_neg (by omega)]
    simp -dsimp [hc, hy, hf, hB, hE, hT, cT, zT]
theorem up_ok (t : T) (y : Int) (hy : 0 ≤ y ∧ y ≤ 65535) (hf : formedM t = true) (hn : nodes t ≤ 1048576) : Pure Try.prog n_porismref01_Up [.agg (cT t), .int .i64 y] [.agg (cT (mapT (shF 0 y) t 0))] := by
  refine p_porismref01_Up rfl fun hs => ?_
  have hM := move_ok y 0 hy (by omega) t 0 hf (by omega) (by omega)
  simp only [cT, Int.add_zero] at hM
  simp -dsimp [x_porismref01_Up, cT]
  refine call_of hM ?_
  simp -dsimp [cT]
theorem in20_ok (n lo hi : Int) : Pure Try.prog n_porismref20_in [.int .i64 n, .int .i64 lo, .int .i64 hi] [.bool (decide (lo ≤ n) && decide (n ≤ hi))] := by
  refine p_porismref20_in rfl fun hs => ?_
  simp -dsimp [x_porismref20_in]
  (first | refine Ask_b ?_ ?_ | refine Cnd_b ?_ ?_) <;> intro h <;> (try simp only [decide_eq_true_eq, decide_eq_false_iff_not, beq_iff_eq, beq_eq_false_iff_ne, bne_iff_ne, bne_eq_false_iff_eq, Bool.not_eq_true', Bool.not_eq_false', Bool.and_eq_true, Bool.or_eq_true, Bool.and_eq_false_iff, Bool.or_eq_false_iff] at h) <;> simp -dsimp [h]
theorem small_ok (n : Int) (h : 0 ≤ n ∧ n ≤ 65000) : Pure Try.prog n_porismref20_small [.int .i64 n] [.int .i64 n] := by
  refine p_porismref20_small rfl fun hs => ?_
  have hI := in20_ok n 0 65000
  simp -dsimp [x_porismref20_small]
  refine call_of hI ?_
  simp -dsimp [h.1, h.2]
def extA (t : T) : Ar := ⟨false, t, [], 0, []⟩
theorem ext_ok (t : T) : Pure Try.prog n_porismref20_ext [.agg (cT t)] [.agg (cAr (extA t))] := by
  refine p_porismref20_ext rfl fun hs => ?_
  simp -dsimp [x_porismref20_ext, cT, cAr, extA, eTs]
theorem app_ok (f a : T) : Pure Try.prog n_porismref20_app [.agg (cT f), .agg (cT a)] [.agg (cT (.mk 6 0 [f, a]))] := by
  refine p_porismref20_app rfl fun hs => ?_
  have hT := rt_ok 6 [f, a] (by simp [maxRoom])
  simp only [cT, eTs, List.map_cons, List.map_nil, eT_eq, tk, tn, tks] at hT
  simp -dsimp [x_porismref20_app, cT]
  refine call_of hT ?_
  simp -dsimp [cT, eT_eq]
/-- Trees, over two constants. -/
def treeB (a b : Int) : Bl := ⟨[⟨[], 0, false, zT⟩], [⟨0, [extA (tC a), ⟨true, zT, [.mk 6 0 [tC b, tV 0]], 0, []⟩], [], zT⟩], 0⟩
theorem tree_ok (a b : Int) (ha : 0 ≤ a ∧ a ≤ 65000) (hb : 0 ≤ b ∧ b ≤ 65000) : Pure Try.prog n_porismref20_Tree [.int .i64 a, .int .i64 b] [.agg (declC (treeB a b))] := by
  refine p_porismref20_Tree rfl fun hs => ?_
  have h1 := small_ok a ha
  have h2 := small_ok b hb
  have hC := rc_ok
  have hX := ext_ok (tC a)
  have hV := rv_ok 0
  have hA := app_ok (tC b) (tV 0)
  have hD := decl_ok (treeB a b)
  simp only [declC, treeB, extA, cBl, eBl, eSos, eCos, eSo, cSo, eCo, cCo, eArs, eAr, cAr, cT, tC, tV, zT, eTs, List.map_cons, List.map_nil, eT_eq, tk, tn, tks, List.cons_append, List.nil_append] at hC hX hV hA hD ⊢
  simp -dsimp [x_porismref20_Tree]
  refine call_of h1 ?_
  simp -dsimp
  refine call_of h2 ?_
  simp -dsimp
  refine call_of (hC a) ?_
  simp -dsimp
  refine call_of hX ?_
  simp -dsimp
  refine call_of (hC b) ?_
  simp -dsimp
  refine call_of hV ?_
  simp -dsimp
  refine call_of hA ?_
  simp -dsimp
  refine call_of hD ?_
  simp -dsimp
/-- A universe without further codes: of functions alone. -/
def pi20 (el : Int) : T := .mk 4 0 [.mk 6 0 [tC el, tV 1], .mk 6 0 [tC el, .mk 6 0 [tV 1, tV 0]]]
def tarskiB (base : Int) : Bl := ⟨[⟨[], 1, true, .mk 2 0 []⟩], [⟨0, [recA 0 [], ⟨true, zT, [.mk 6 0 [tC (base + 1), tV 0]], 0, []⟩], [], pi20 (base + 1)⟩], 0⟩
theorem tarski_ok (base : Int) (hb : 0 ≤ base ∧ base ≤ 65000) : Pure Try.prog n_porismref20_Tarski [.int .i64 base, .sl 1 []] [.agg (declC (tarskiB base)), .int .i64 0] := by
  refine p_porismref20_Tarski rfl fun hs => ?_
  have hI := in20_ok base 0 65000
  have w1 : IntKind.i64.wrap (base + 1) = base + 1 := wrap_id (by omega) (by omega)
  have hC := rc_ok (base + 1)
  have hU := ru_ok 0
  have hV := rv_ok
  have hR := rec_ok 0 [] (by simp)
  have hA1 := app_ok (tC (base + 1)) (tV 0)
  have hA2 := app_ok (tC (base + 1)) (tV 1)
  have hA3 := app_ok (tV 1) (tV 0)
  have hA4 := app_ok (tC (base + 1)) (.mk 6 0 [tV 1, tV 0])
  have hT := rt_ok 4 [.mk 6 0 [tC (base + 1), tV 1], .mk 6 0 [tC (base + 1), .mk 6 0 [tV 1, tV 0]]] (by simp [maxRoom])
  have hD := decl_ok (tarskiB base)
  simp only [declC, tarskiB, pi20, recA, cBl, eBl, eSos, eCos, eSo, cSo, eCo, cCo, eArs, eAr, cAr, cT, tC, tV, zT, eTs, List.map_cons, List.map_nil, eT_eq, tk, tn, tks, List.cons_append, List.nil_append] at hC hU hV hR hA1 hA2 hA3 hA4 hT hD ⊢
  simp -dsimp [x_porismref20_Tarski]
  refine call_of hI ?_
  simp -dsimp [hb.1, hb.2]
  refine wp_upto 0 (fun i st => st.s 0 = .d (.int .i64 base) ∧ st.s 1 = .d (.sl 1 []) ∧ st.s 6 = .d (.bool true) ∧ st.s 7 = .d (.int .i64 i) ∧ st.s 4 = .ptr 4 1 0 ∧
    st.h 4 = ⟨1, .box [.d (.int .i64 0), .d (.int .i64 0), .d (.int .i64 0), .fsl 3 [], .d (.int .i64 0), .d (.int .i64 0), .fsl 3 [], .fsl 6 [], .fsl 6 [], .d (.int .i64 0)] false⟩) ?_ ?_
  · simp -dsimp [hb.1, hb.2]
  · rintro i ⟨s, hp⟩ hi ⟨g0, g1, g6, g7, g4, k4⟩
    dsimp only at g0 g1 g6 g7 g4 k4
    have : i = 0 := by omega
    subst this
    simp -dsimp [g0, g1, g6, g7, g4, k4, w1]
    refine call_of hC ?_
    simp -dsimp [g0, g1, g6, g7, g4, k4, w1]
    refine call_of hU ?_
    simp -dsimp [g0, g1, g6, g7, g4, k4, w1]
    refine wp_upto 0 (fun i st => st.s 1 = .d (.sl 1 []) ∧ st.s 4 = .ptr 4 1 0 ∧ st.s 8 = .ptr 8 ((hp 8).ver + 1) 0 ∧ st.s 9 = .ptr 9 ((hp 9).ver + 1) 0 ∧ st.s 10 = .d (.int .i64 i) ∧
      st.h 4 = ⟨1, .box [.d (.int .i64 0), .d (.int .i64 0), .d (.int .i64 0), .fsl 3 [], .d (.int .i64 0), .d (.int .i64 0), .fsl 3 [], .fsl 6 [], .fsl 6 [], .d (.int .i64 0)] false⟩ ∧
      st.h 8 = ⟨(hp 8).ver + 1, .box [.d (.int .i64 3), .d (.int .i64 (base + 1)), .d (.sl 3 [])] false⟩ ∧
      st.h 9 = ⟨(hp 9).ver + 1, .box [.fsl 6 [.agg [.sl 7 [], .int .i64 1, .bool true, .int .i64 2, .int .i64 0, .sl 3 []]], .fsl 6 [], .d (.int .i64 0)] false⟩) ?_ ?_
    · simp -dsimp [g0, g1, g6, g7, g4, k4, w1]
    · clear g0 g1 g6 g7 g4 k4
      rintro i ⟨s, hq⟩ hi ⟨g1, g4, g8, g9, g10, k4, k8, k9⟩
      dsimp only at g1 g4 g8 g9 g10 k4 k8 k9
      have : i = 0 := by omega
      subst this
      have h96 : 96 ≤ maxRoom := by simp only [maxRoom]; omega
      simp -dsimp [g1, g4, g8, g9, g10, k4, k8, k9]
      refine call_of hR ?_
      simp -dsimp [g1, g4, g8, g9, g10, k4, k8, k9]
      refine call_of (hV 0) ?_
      simp -dsimp [g1, g4, g8, g9, g10, k4, k8, k9]
      refine call_of hA1 ?_
      simp -dsimp [g1, g4, g8, g9, g10, k4, k8, k9]
      refine call_of (hV 1) ?_
      simp -dsimp [g1, g4, g8, g9, g10, k4, k8, k9]
      refine call_of hA2 ?_
      simp -dsimp [g1, g4, g8, g9, g10, k4, k8, k9]
      refine call_of (hV 1) ?_
      simp -dsimp [g1, g4, g8, g9, g10, k4, k8, k9]
      refine call_of (hV 0) ?_
      simp -dsimp [g1, g4, g8, g9, g10, k4, k8, k9]
      refine call_of hA3 ?_
      simp -dsimp [g1, g4, g8, g9, g10, k4, k8, k9]
      refine call_of hA4 ?_
      simp -dsimp [g1, g4, g8, g9, g10, k4, k8, k9]
      refine call_of hT ?_
      simp -dsimp [g1, g4, g8, g9, g10, k4, k8, k9, h96]
      refine call_of hD ?_
      simp -dsimp [g1, g4, g8, g9, g10, k4, k8, k9]
end
end Ev
end Go.Proofs.Ytomlkbohcoinoaa
