/- Terms, in plain numbers: nodes, depths, right terms, scopes. -/
import Derived.Test.YtnkbhmafebngjaaR0
namespace Go.Proofs.Ytnkbhmafebngjaa
namespace Ev
open Go
set_option maxRecDepth 100000
set_option linter.unusedSimpArgs false
set_option linter.unusedVariables false
attribute [local simp ↓] wx_skip wx_region wx_seq wx_block wx_exit wx_ret wx_cond wx_loop wo_nil wo_run wo_ask wx_draw wt_nil wt_run_t wt_run_f wt_ask_t wt_ask_f rb_mv rb_nilrow rb_pick rb_alloc rb_box rb_load rb_store rb_nilck rb_bin rb_binb rb_un rb_conv rb_mkf rb_mks rb_slice rb_faddr rb_fld rb_iaddr rb_ext rb_len rb_app rb_mm rb_build rb_bslice run_callC upd_eq upd_ne
attribute [local simp] runB_some runB_none Tch_nil Tch_cons Chk_t Cnd_t Cnd_f Ask_tt Ask_ff Ask_tf Ask_ft Ask_skip act ev_t ev_c evs sks caps2 touch_call List.cons_append List.nil_append putS binI binB int_add int_sub int_mul int_quo int_rem int_or int_eql int_neq int_lss int_leq int_gtr int_geq shiftD Ex.then Ex.inBlock Ends resL resX allD toD_d toD_fsl sk_d sk_fsl none_ loadA cut wrapA wrapD avc_d avc_agg avc_fsl avc_rsl avc_ptr avc_eptr avc_clo dc_agg dc_int dc_bool dc_str dc_sl dc_nilp dc_rp dc_clo on_int on_bool on_str on_sl on_nilp on_rp on_clo on_fsl on_rsl on_ptr on_eptr on_cloA newE elemsA elemsS storeA put frz_nil deep callee resA initS touchOp fits compat rd wr key1 buildA partsD partsK idx frz_at Body.frz lk_hit lk_miss toD6_agg toD5_agg toD4_agg toD6_clo toD5_clo toD4_clo toD6_ptr toD5_ptr toD4_ptr sk6_agg sk5_agg sk4_agg sk6_clo sk5_clo sk4_clo sk6_ptr sk5_ptr sk4_ptr toD_rsl sk_rsl
attribute [local simp] tk tn tks
def nodes : T → Nat | .mk _ _ ks => (ks.map nodes).sum + 1
theorem sum_mem {l : List Nat} {x : Nat} (h : x ∈ l) : x ≤ l.sum := by
  induction l with
  | nil => cases h
  | cons y l ih =>
    rw [List.sum_cons]
    rcases List.mem_cons.1 h with rfl | h
    · omega
    · have := ih h; omega
theorem nodes_kid {k n : Int} {ks : List T} {x : T} (h : x ∈ ks) : nodes x + 1 ≤ nodes (.mk k n ks) := by
  rw [nodes]
  have := sum_mem (List.mem_map.2 ⟨x, h, rfl⟩ : nodes x ∈ ks.map nodes)
  omega
theorem binds_le (k i : Int) : 0 ≤ bindsM k i ∧ bindsM k i ≤ 1 := by
  rw [bindsM]
  split <;> omega
/-- No node has too many kids. -/
inductive Slim : T → Prop
  | mk (k n : Int) (ks : List T) (hl : ks.length ≤ 1000) (h : ∀ x ∈ ks, Slim x) : Slim (.mk k n ks)
theorem Slim.kids {k n : Int} {ks : List T} (h : Slim (.mk k n ks)) : ks.length ≤ 1000 ∧ ∀ x ∈ ks, Slim x := by
  cases h with
  | mk _ _ _ h1 h2 => exact ⟨h1, h2⟩
theorem kidsM_le (k : Int) : kidsM k ≤ 3 := by
  rw [kidsM]
  repeat' split
  all_goals omega
theorem var_formed {k n : Int} {ks : List T} (h1 : k = 1) (hfm : formedM (.mk k n ks) = true) : 0 ≤ n ∧ n ≤ 65535 := by
  rw [formedM_is, h1] at hfm
  have h0 : kidsM 1 = 0 := rfl
  rw [h0] at hfm
  split at hfm
  · simp only [if_true, Bool.and_eq_true] at hfm
    exact (inB_iff _ _ _).1 hfm.1
  · cases hfm
theorem kids_formed {k n : Int} {ks : List T} (hfm : formedM (.mk k n ks) = true) : ∀ x ∈ ks, formedM x = true := by
  rw [formedM_is] at hfm
  refine List.all_eq_true.1 ?_
  split at hfm
  · split at hfm
    · rw [Bool.and_eq_true] at hfm; exact hfm.2
    · split at hfm
      · exact hfm
      · cases hfm
  · cases hfm
theorem slim_of (t : T) : formedM t = true → Slim t := by
  refine T.ind (p := fun t => formedM t = true → Slim t) ?_ t
  intro k n ks ih h
  rw [formedM_is] at h
  have hk := kidsM_le k
  by_cases h1 : (ks.length : Int) = kidsM k
  · rw [if_pos h1] at h
    have ha : ks.all formedM = true := by
      by_cases h2 : kidsM k = 0
      · rw [if_pos h2, Bool.and_eq_true] at h; exact h.2
      · rw [if_neg h2] at h
        by_cases h3 : n = 0
        · rw [if_pos h3] at h; exact h
        · rw [if_neg h3] at h; cases h
    exact .mk k n ks (by omega) fun x hx => ih x hx (List.all_eq_true.1 ha x hx)
  · rw [if_neg h1] at h; cases h
theorem formed_of {t : T} (h : checkM t = 0) : formedM t = true := by
  rw [checkM] at h
  split at h
  · simp at h
  · split at h
    · simp at h
    · split at h
      · assumption
      · simp at h
theorem w64_id {n : Int} (h1 : -9223372036854775808 ≤ n) (h2 : n < 9223372036854775808) : w64 n = n := wrap_id h1 (by omega)
def dmax (l : List Nat) : Nat := l.foldr max 0
def depthN : T → Nat | .mk _ _ ks => dmax (ks.map depthN) + 1
theorem mx_eq (a b : Int) : mx a b = max a b := by rw [mx]; split <;> omega
theorem foldl_sum : ∀ (l : List T) (a : Int), 0 ≤ a → a + (l.map nodes).sum ≤ 1099511627776 → (∀ x ∈ l, sizeM x = nodes x) → (l.map sizeM).foldl (fun a s => w64 (a + s)) a = a + (l.map nodes).sum
  | [], a, _, _, _ => by simp
  | x :: xs, a, h0, hb, h => by
    have hx := h x (by simp)
    simp only [List.map_cons, List.foldl_cons, List.sum_cons] at hb ⊢
    rw [hx, w64_id (by omega) (by omega), foldl_sum xs (a + nodes x) (by omega) (by omega) fun y hy => h y (by simp [hy])]
    omega
theorem size_is (t : T) : nodes t ≤ 1099511627776 → sizeM t = nodes t := by
  refine T.ind (p := fun t => nodes t ≤ 1099511627776 → sizeM t = nodes t) ?_ t
  intro k n ks ih hb
  have hk : ∀ x ∈ ks, sizeM x = nodes x := fun x hx => ih x hx (by have := nodes_kid (k := k) (n := n) hx; omega)
  rw [nodes] at hb
  rw [sizeM, foldl_sum ks 1 (by omega) (by omega) hk, nodes]
  omega
theorem dmax_mem {l : List Nat} {x : Nat} (h : x ∈ l) : x ≤ dmax l := by
  induction l with
  | nil => cases h
  | cons y l ih =>
    simp only [dmax, List.foldr_cons] at ih ⊢
    rcases List.mem_cons.1 h with rfl | h
    · omega
    · have := ih h; omega
theorem dmax_le {l : List Nat} {m : Nat} (h : ∀ x ∈ l, x ≤ m) : dmax l ≤ m := by
  induction l with
  | nil => simp [dmax]
  | cons y l ih =>
    have h1 := h y (by simp)
    have h2 := ih fun x hx => h x (by simp [hx])
    simp only [dmax, List.foldr_cons] at h2 ⊢
    omega
theorem depth_le (t : T) : depthN t ≤ nodes t := by
  refine T.ind (p := fun t => depthN t ≤ nodes t) ?_ t
  intro k n ks ih
  rw [depthN, nodes]
  have : dmax (ks.map depthN) ≤ (ks.map nodes).sum := dmax_le fun x hx => by
    obtain ⟨y, hy, rfl⟩ := List.mem_map.1 hx
    have := sum_mem (List.mem_map.2 ⟨y, hy, rfl⟩ : nodes y ∈ ks.map nodes)
    have := ih y hy
    omega
  omega
theorem foldl_dmax : ∀ (l : List T) (a : Int), 0 ≤ a → (∀ x ∈ l, depthM x = depthN x) → (l.map depthM).foldl mx a = max a (dmax (l.map depthN))
  | [], a, h0, _ => by simp [dmax]; omega
  | x :: xs, a, h0, h => by
    have hx := h x (by simp)
    simp only [List.map_cons, List.foldl_cons, dmax, List.foldr_cons]
    rw [hx, mx_eq, foldl_dmax xs _ (by omega) fun y hy => h y (by simp [hy])]
    simp only [dmax]
    omega
theorem depth_is (t : T) : nodes t ≤ 1099511627776 → depthM t = depthN t := by
  refine T.ind (p := fun t => nodes t ≤ 1099511627776 → depthM t = depthN t) ?_ t
  intro k n ks ih hb
  have hk : ∀ x ∈ ks, depthM x = depthN x := fun x hx => ih x hx (by have := nodes_kid (k := k) (n := n) hx; omega)
  have hd := depth_le (.mk k n ks)
  rw [depthN] at hd
  rw [depthM, foldl_dmax ks 0 (by omega) hk, depthN, w64_id (by omega) (by omega)]
  omega
theorem leaf_nodes (k n : Int) : nodes (.mk k n []) = 1 := by rw [nodes]; rfl
theorem leaf_depth (k n : Int) : depthN (.mk k n []) = 1 := by rw [depthN]; rfl
theorem var_leaf {k n : Int} {ks : List T} (h1 : k = 1) (hfm : formedM (.mk k n ks) = true) : ks = [] := by
  rw [formedM_is, h1] at hfm
  have h0 : kidsM 1 = 0 := rfl
  rw [h0] at hfm
  split at hfm
  · exact List.length_eq_zero_iff.1 (by omega)
  · cases hfm
theorem check_iff {t : T} (h : nodes t ≤ 1048576) : checkM t = 0 ↔ nodes t ≤ 6000 ∧ depthN t ≤ 200 ∧ formedM t = true := by
  rw [checkM, size_is _ (by omega), depth_is _ (by omega)]
  by_cases h1 : (6000 : Int) < nodes t
  · rw [if_pos h1]
    constructor
    · intro h; cases h
    · omega
  · rw [if_neg h1]
    by_cases h2 : (200 : Int) < depthN t
    · rw [if_pos h2]
      constructor
      · intro h; cases h
      · omega
    · rw [if_neg h2]
      cases formedM t
      · simp
      · simp; omega
theorem nodes2 (k n : Int) (a b : T) : nodes (.mk k n [a, b]) = nodes a + nodes b + 1 := by rw [nodes]; simp
/-- The bound, on terms. -/
theorem nodes_bulk (t : T) : nodes t ≤ bulk (eT t) := by
  refine T.ind (p := fun t => nodes t ≤ bulk (eT t)) ?_ t
  intro k n ks ih
  rw [nodes, eT_eq]
  simp only [cT, tks, bulk, List.map_cons, List.map_nil, List.sum_cons, List.sum_nil, List.map_map]
  have : ∀ l : List T, (∀ x ∈ l, nodes x ≤ bulk (eT x)) → (l.map nodes).sum ≤ (l.map (bulk ∘ eT)).sum := by
    intro l
    induction l with
    | nil => intro _; simp
    | cons x xs ihx =>
      intro h
      have h1 := h x (by simp)
      have h2 := ihx fun y hy => h y (by simp [hy])
      simp only [List.map_cons, List.sum_cons, Function.comp] at h2 ⊢
      omega
  have := this ks ih
  omega
theorem term_bulk (t : T) : nodes t ≤ bulk (.agg (cT t)) := by rw [← eT_eq]; exact nodes_bulk t
theorem terms_bulk (l : List T) : (∀ x ∈ l, nodes x ≤ bulk (eTs l)) ∧ l.length ≤ bulk (eTs l) := by
  simp only [eTs, bulk, List.map_map]
  have h1 : ∀ x ∈ l, nodes x ≤ (l.map (bulk ∘ eT)).sum := fun x hx => by
    have := sum_mem (List.mem_map.2 ⟨x, hx, rfl⟩ : (bulk ∘ eT) x ∈ l.map (bulk ∘ eT))
    have h2 := nodes_bulk x
    simp only [Function.comp] at this
    omega
  have h2 : l.length ≤ (l.map (bulk ∘ eT)).sum := by
    clear h1
    induction l with
    | nil => simp
    | cons x xs ih =>
      have h3 := nodes_bulk x
      have h4 : 1 ≤ nodes x := by cases x; rw [nodes]; omega
      simp only [List.length_cons, List.map_cons, List.sum_cons, Function.comp] at ih ⊢
      omega
  exact ⟨fun x hx => by have := h1 x hx; omega, by omega⟩
mutual
def wiT : T → Int → Int → Bool
  | .mk k n ks, v, c => if k = 1 then decide (n < v) else if k = 2 then decide (n ≤ 6) else if k = 3 then decide (n < c) else wiL k v c 0 ks
def wiL (k v c : Int) : Nat → List T → Bool
  | _, [] => true
  | i, x :: xs => wiT x (v + bindsM k i) c && wiL k v c (i + 1) xs
end
theorem within_is (c : Int) (t : T) : ∀ v : Int, 0 ≤ v → v + nodes t ≤ 4194304 → withinM t v c = wiT t v c := by
  refine T.ind (p := fun t => ∀ v : Int, 0 ≤ v → v + nodes t ≤ 4194304 → withinM t v c = wiT t v c) ?_ t
  intro k n ks ih v h0 hb
  rw [withinM, wiT]
  split
  · rfl
  split
  · rfl
  split
  · rfl
  have go : ∀ (l : List T) (i : Nat), (∀ x ∈ l, x ∈ ks) → withinL k v c i l = wiL k v c i l := by
    intro l
    induction l with
    | nil => intro i _; rw [withinL, wiL]
    | cons x xs ihx =>
      intro i hm
      have hx := hm x (by simp)
      have hxn := nodes_kid (k := k) (n := n) hx
      have hbl := binds_le k i
      rw [withinL, wiL, w64_id (by omega) (by omega), ih x hx _ (by omega) (by omega), ihx (i + 1) fun y hy => hm y (by simp [hy])]
  exact go ks 0 fun x hx => hx
/-- Kid by Kid. -/
theorem wiL_at (k v c : Int) : ∀ (l : List T) (i : Nat), wiL k v c i l = true ↔ ∀ (j : Nat) (hj : j < l.length), wiT l[j] (v + bindsM k (i + j : Nat)) c = true
  | [], i => by simp [wiL]
  | x :: xs, i => by
    rw [wiL, Bool.and_eq_true, wiL_at k v c xs (i + 1)]
    constructor
    · rintro ⟨h1, h2⟩ j hj
      cases j with
      | zero => simpa using h1
      | succ j =>
        have := h2 j (by simpa using hj)
        rw [show i + 1 + j = i + (j + 1) by omega] at this
        simpa using this
    · intro h
      refine ⟨h 0 (Nat.succ_pos _), fun j hj => ?_⟩
      have := h (j + 1) (by simpa using hj)
      rw [show i + (j + 1) = i + 1 + j by omega] at this
      simpa using this
theorem scope_is {t : T} {v : Int} (h0 : 0 ≤ v) (h1 : v ≤ 65536) (hn : nodes t ≤ 1048576) : scopeM t v 65536 = true ↔ checkM t = 0 ∧ wiT t v 65536 = true := by
  rw [scopeM, if_neg (by omega), if_neg (by omega), if_neg (show ¬65536 < v by omega), within_is 65536 t v h0 (by omega)]
  by_cases h : checkM t = 0
  · rw [if_pos h]; simp [h]
  · rw [if_neg h]; simp [h]
end Ev
end Go.Proofs.Ytnkbhmafebngjaa
