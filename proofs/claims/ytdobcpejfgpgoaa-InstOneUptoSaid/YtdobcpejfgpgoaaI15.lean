/- InstScopes. -/
import Derived.Test.YtdobcpejfgpgoaaI11
import Derived.Test.YtdobcpejfgpgoaaI12
namespace Go.Proofs.Ytdobcpejfgpgoaa
namespace Ev
open Go
set_option maxRecDepth 100000
set_option linter.unusedSimpArgs false
set_option linter.unusedVariables false
attribute [local simp ↓] wx_skip wx_region wx_seq wx_block wx_exit wx_ret wx_cond wx_loop wo_nil wo_run wo_ask wx_draw wt_nil wt_run_t wt_run_f wt_ask_t wt_ask_f rb_mv rb_nilrow rb_pick rb_alloc rb_box rb_load rb_store rb_nilck rb_bin rb_binb rb_un rb_conv rb_mkf rb_mks rb_slice rb_faddr rb_fld rb_iaddr rb_ext rb_len rb_app rb_mm rb_build rb_bslice run_callC upd_eq upd_ne
attribute [local simp] runB_some runB_none Tch_nil Tch_cons Chk_t Cnd_t Cnd_f Ask_tt Ask_ff Ask_tf Ask_ft Ask_skip act ev_t ev_c evs sks caps2 touch_call List.cons_append List.nil_append putS binI binB int_add int_sub int_mul int_quo int_rem int_or int_eql int_neq int_lss int_leq int_gtr int_geq shiftD Ex.then Ex.inBlock Ends resL resX allD toD_d toD_fsl sk_d sk_fsl none_ loadA cut wrapA wrapD avc_d avc_agg avc_fsl avc_rsl avc_ptr avc_eptr avc_clo dc_agg dc_int dc_bool dc_str dc_sl dc_nilp dc_rp dc_clo on_int on_bool on_str on_sl on_nilp on_rp on_clo on_fsl on_rsl on_ptr on_eptr on_cloA newE elemsA elemsS storeA put frz_nil deep callee resA initS touchOp fits compat rd wr key1 buildA partsD partsK idx frz_at Body.frz lk_hit lk_miss toD6_agg toD5_agg toD4_agg toD6_clo toD5_clo toD4_clo toD6_ptr toD5_ptr toD4_ptr sk6_agg sk5_agg sk4_agg sk6_clo sk5_clo sk4_clo sk6_ptr sk5_ptr sk4_ptr toD_rsl sk_rsl
attribute [local simp] allD_map_d sks_map_d tk tn tks


mutual
def wiT : T → Int → Int → Bool
  | .mk k n ks, v, c => if k = 1 then decide (n < v) else if k = 2 then decide (n ≤ 6) else if k = 3 then decide (n < c) else wiL k v c 0 ks
def wiL (k v c : Int) : Nat → List T → Bool
  | _, [] => true
  | i, x :: xs => wiT x (v + bindsM k i) c && wiL k v c (i + 1) xs
end
theorem within_is (c : Int) (t : T) : ∀ v : Int, 0 ≤ v → v + nodes t ≤ 4194304 → withinM t v c = wiT t v c := by
  refine T.ind (p := fun t => ∀ v : Int, 0 ≤ v → v + nodes t ≤ 4194304 → withinM t v c = wiT t v c) ?_ t
  intro k n ks ih v h0 hb
  rw [withinM, wiT]
  split
  · rfl
  split
  · rfl
  split
  · rfl
  have go : ∀ (l : List T) (i : Nat), (∀ x ∈ l, x ∈ ks) → withinL k v c i l = wiL k v c i l := by
    intro l
    induction l with
    | nil => intro i _; rw [withinL, wiL]
    | cons x xs ihx =>
      intro i hm
      have hx := hm x (by simp)
      have hxn := nodes_kid (k := k) (n := n) hx
      have hbl := binds_le k i
      rw [withinL, wiL, w64_id (by omega) (by omega), ih x hx _ (by omega) (by omega), ihx (i + 1) fun y hy => hm y (by simp [hy])]
  exact go ks 0 fun x hx => hx
/-- Kid by Kid. -/
theorem wiL_at (k v c : Int) : ∀ (l : List T) (i : Nat), wiL k v c i l = true ↔ ∀ (j : Nat) (hj : j < l.length), wiT l[j] (v + bindsM k (i + j : Nat)) c = true
  | [], i => by simp [wiL]
  | x :: xs, i => by
    rw [wiL, Bool.and_eq_true, wiL_at k v c xs (i + 1)]
    constructor
    · rintro ⟨h1, h2⟩ j hj
      cases j with
      | zero => simpa using h1
      | succ j =>
        have := h2 j (by simpa using hj)
        rw [show i + 1 + j = i + (j + 1) by omega] at this
        simpa using this
    · intro h
      refine ⟨h 0 (Nat.succ_pos _), fun j hj => ?_⟩
      have := h (j + 1) (by simpa using hj)
      rw [show i + (j + 1) = i + 1 + j by omega] at this
      simpa using this
/-- What a map makes of what is in scope is in scope. -/
theorem wi_map (f : Int → Int → T) (c v w : Int) (hv : ∀ n b : Int, 0 ≤ n → n ≤ 65535 → 0 ≤ b → b ≤ 4194304 → n < v + b → wiT (f n b) (w + b) c = true) (t : T) :
    ∀ b : Int, formedM t = true → 0 ≤ b → b + nodes t ≤ 4194304 → wiT t (v + b) c = true → wiT (mapT f t b) (w + b) c = true := by
  refine T.ind (p := fun t => ∀ b : Int, formedM t = true → 0 ≤ b → b + nodes t ≤ 4194304 → wiT t (v + b) c = true → wiT (mapT f t b) (w + b) c = true) ?_ t
  intro k n ks ih b hfm h0 hb hw
  rw [wiT] at hw
  rw [mapT]
  by_cases h1 : k = 1
  · have hn := var_formed h1 hfm
    rw [if_pos h1] at hw ⊢
    exact hv n b hn.1 hn.2 h0 (by omega) (by simpa using hw)
  · rw [if_neg h1] at hw ⊢
    rw [wiT, if_neg h1]
    split
    · rename_i h2; rw [if_pos h2] at hw; exact hw
    · rename_i h2
      rw [if_neg h2] at hw
      split
      · rename_i h3; rw [if_pos h3] at hw; exact hw
      · rename_i h3
        rw [if_neg h3] at hw
        rw [wiL_at] at hw ⊢
        intro j hj
        rw [mapL_len] at hj
        have hxn := nodes_kid (k := k) (n := n) (List.getElem_mem hj)
        have hbl := binds_le k j
        rw [mapL_get _ _ _ _ _ _ hj]
        have := hw j hj
        rw [Nat.zero_add] at this ⊢
        have e1 : v + b + bindsM k j = v + (b + bindsM k j) := by omega
        have e2 : w + b + bindsM k j = w + (b + bindsM k j) := by omega
        rw [e1] at this
        rw [e2]
        exact ih ks[j] (List.getElem_mem _) _ (kids_formed hfm _ (List.getElem_mem _)) (by omega) (by omega) this
/-- Its free variables. -/
theorem wi_free (c : Int) (t : T) : ∀ v b : Int, formedM t = true → 0 ≤ b → 0 ≤ v → wiT t v c = true → freeT t b < v + nodes t := by
  refine T.ind (p := fun t => ∀ v b : Int, formedM t = true → 0 ≤ b → 0 ≤ v → wiT t v c = true → freeT t b < v + nodes t) ?_ t
  intro k n ks ih v b hfm hb hv0 hw
  rw [wiT] at hw
  rw [freeT]
  by_cases h1 : k = 1
  · have hks := var_leaf h1 hfm
    subst hks
    rw [if_pos h1] at hw
    rw [freeL, leaf_nodes]
    have : n < v := by simpa using hw
    split <;> omega
  · rw [if_neg (fun h => h1 h.1)]
    rw [if_neg h1] at hw
    have hnn : nodes (.mk k n ks) = (ks.map nodes).sum + 1 := by rw [nodes]
    by_cases h2 : k = 2 ∨ k = 3
    · have hk0 : kidsM k = 0 := by rcases h2 with rfl | rfl <;> rfl
      have hks : ks = [] := by
        rw [formedM_is, hk0] at hfm
        split at hfm
        · exact List.length_eq_zero_iff.1 (by omega)
        · cases hfm
      subst hks
      rw [freeL]
      omega
    · rw [if_neg (by omega), if_neg (by omega), wiL_at] at hw
      have go : ∀ (l : List T) (i : Nat) (a : Int), (∀ (j : Nat) (hj : j < l.length), l[j] ∈ ks ∧ wiT l[j] (v + bindsM k (i + j : Nat)) c = true) → a < v + nodes (.mk k n ks) → freeL k b i a l < v + nodes (.mk k n ks) := by
        intro l
        induction l with
        | nil => intro i a _ h; rw [freeL]; exact h
        | cons x xs ihx =>
          intro i a hm ha
          obtain ⟨hx, hwx⟩ := hm 0 (by simp)
          simp only [List.getElem_cons_zero, Nat.add_zero] at hx hwx
          have hxn := nodes_kid (k := k) (n := n) hx
          have hbl := binds_le k i
          have h3 := ih x hx (v + bindsM k i) (b + bindsM k i) (kids_formed hfm x hx) (by omega) (by omega) hwx
          rw [freeL]
          refine ihx (i + 1) _ (fun j hj => ?_) ?_
          · have := hm (j + 1) (by simpa using hj)
            rw [show i + (j + 1) = i + 1 + j by omega] at this
            simpa using this
          · rw [mx_eq]
            omega
      exact go ks 0 (-1) (fun j hj => ⟨List.getElem_mem _, hw j hj⟩) (by omega)
theorem scope_is {t : T} {v : Int} (h0 : 0 ≤ v) (h1 : v ≤ 65536) (hn : nodes t ≤ 1048576) : scopeM t v 65536 = true ↔ checkM t = 0 ∧ wiT t v 65536 = true := by
  rw [scopeM, if_neg (by omega), if_neg (by omega), if_neg (show ¬65536 < v by omega), within_is 65536 t v h0 (by omega)]
  by_cases h : checkM t = 0
  · rw [if_pos h]; simp [h]
  · rw [if_neg h]; simp [h]
end Ev
end Go.Proofs.Ytdobcpejfgpgoaa
