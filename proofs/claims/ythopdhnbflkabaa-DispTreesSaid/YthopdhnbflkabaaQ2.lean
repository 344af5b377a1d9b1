/- Variables counted, scopes, shifts. -/
import Derived.Test.YthopdhnbflkabaaQ1
namespace Go.Proofs.Ythopdhnbflkabaa
namespace Ev
open Go
set_option maxRecDepth 100000
set_option linter.unusedSimpArgs false
set_option linter.unusedVariables false
attribute [local simp ↓] wx_skip wx_region wx_seq wx_block wx_exit wx_ret wx_cond wx_loop wo_nil wo_run wo_ask wx_draw wt_nil wt_run_t wt_run_f wt_ask_t wt_ask_f rb_mv rb_nilrow rb_pick rb_alloc rb_box rb_load rb_store rb_nilck rb_bin rb_binb rb_un rb_conv rb_mkf rb_mks rb_slice rb_faddr rb_fld rb_iaddr rb_ext rb_len rb_app rb_mm rb_build rb_bslice run_callC upd_eq upd_ne
attribute [local simp] runB_some runB_none Tch_nil Tch_cons Chk_t Cnd_t Cnd_f Ask_tt Ask_ff Ask_tf Ask_ft Ask_skip act ev_t ev_c evs sks caps2 touch_call List.cons_append List.nil_append putS binI binB int_add int_sub int_mul int_quo int_rem int_or int_eql int_neq int_lss int_leq int_gtr int_geq shiftD Ex.then Ex.inBlock Ends resL resX allD toD_d toD_fsl sk_d sk_fsl none_ loadA cut wrapA wrapD avc_d avc_agg avc_fsl avc_rsl avc_ptr avc_eptr avc_clo dc_agg dc_int dc_bool dc_str dc_sl dc_nilp dc_rp dc_clo on_int on_bool on_str on_sl on_nilp on_rp on_clo on_fsl on_rsl on_ptr on_eptr on_cloA newE elemsA elemsS storeA put frz_nil deep callee resA initS touchOp fits compat rd wr key1 buildA partsD partsK idx frz_at Body.frz lk_hit lk_miss toD6_agg toD5_agg toD4_agg toD6_clo toD5_clo toD4_clo toD6_ptr toD5_ptr toD4_ptr sk6_agg sk5_agg sk4_agg sk6_clo sk5_clo sk4_clo sk6_ptr sk5_ptr sk4_ptr toD_rsl sk_rsl resK EndsP EndsMP fitVs fitCs fitC keysV keysC keyC cellsA1 skVs skCs skC1 resO tupA valsV cellsV oneV rowsV rowsC RV.cells nk rowsH_one rowsH_two rowsH_none
attribute [local simp] allD_map_d sks_map_d tk tn tks initA EndsM
mutual
def cntT : T → Int → Int → Int
  | .mk k m ks, n, b => cntL k n b 0 (if k = 1 ∧ m = n + b then 1 else 0) ks
def cntL (k n b : Int) : Nat → Int → List T → Int
  | _, a, [] => a
  | i, a, x :: xs => cntL k n b (i + 1) (a + cntT x n (b + bindsM k i)) xs
end
theorem cnt_le (t : T) : ∀ n b, 0 ≤ cntT t n b ∧ cntT t n b ≤ nodes t := by
  refine T.ind (p := fun t => ∀ n b, 0 ≤ cntT t n b ∧ cntT t n b ≤ nodes t) ?_ t
  intro k m ks ih n b
  rw [cntT, nodes]
  have h0 : 0 ≤ (if k = 1 ∧ m = n + b then (1 : Int) else 0) ∧ (if k = 1 ∧ m = n + b then (1 : Int) else 0) ≤ 1 := by split <;> omega
  generalize (if k = 1 ∧ m = n + b then (1 : Int) else 0) = a at h0
  have go : ∀ (l : List T) (i : Nat) (a : Int), (∀ x ∈ l, x ∈ ks) → a ≤ cntL k n b i a l ∧ cntL k n b i a l ≤ a + (l.map nodes).sum := by
    intro l
    induction l with
    | nil => intro i a _; simp [cntL]
    | cons x xs ihx =>
      intro i a hm
      have h1 := ih x (hm x (by simp)) n (b + bindsM k i)
      have h2 := ihx (i + 1) (a + cntT x n (b + bindsM k i)) fun y hy => hm y (by simp [hy])
      simp only [cntL, List.map_cons, List.sum_cons]
      omega
  have := go ks 0 a fun x hx => hx
  omega
end Ev
end Go.Proofs.Ythopdhnbflkabaa
