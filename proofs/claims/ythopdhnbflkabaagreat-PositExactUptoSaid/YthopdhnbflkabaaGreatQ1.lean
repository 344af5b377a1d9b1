/- Substitution: what comes of it. -/
import Derived.Test.YthopdhnbflkabaaGreatSA
namespace Go.Proofs.YthopdhnbflkabaaGreat
namespace Ev
open Go
set_option maxRecDepth 100000
set_option linter.unusedSimpArgs false
set_option linter.unusedVariables false
attribute [local simp ↓] wx_skip wx_region wx_seq wx_block wx_exit wx_ret wx_cond wx_loop wo_nil wo_run wo_ask wx_draw wt_nil wt_run_t wt_run_f wt_ask_t wt_ask_f rb_mv rb_nilrow rb_pick rb_alloc rb_box rb_load rb_store rb_nilck rb_bin rb_binb rb_un rb_conv rb_mkf rb_mks rb_slice rb_faddr rb_fld rb_iaddr rb_ext rb_len rb_app rb_mm rb_build rb_bslice run_callC upd_eq upd_ne
attribute [local simp] runB_some runB_none Tch_nil Tch_cons Chk_t Cnd_t Cnd_f Ask_tt Ask_ff Ask_tf Ask_ft Ask_skip act ev_t ev_c evs sks caps2 touch_call List.cons_append List.nil_append putS binI binB int_add int_sub int_mul int_quo int_rem int_or int_eql int_neq int_lss int_leq int_gtr int_geq shiftD Ex.then Ex.inBlock Ends resL resX allD toD_d toD_fsl sk_d sk_fsl none_ loadA cut wrapA wrapD avc_d avc_agg avc_fsl avc_rsl avc_ptr avc_eptr avc_clo dc_agg dc_int dc_bool dc_str dc_sl dc_nilp dc_rp dc_clo on_int on_bool on_str on_sl on_nilp on_rp on_clo on_fsl on_rsl on_ptr on_eptr on_cloA newE elemsA elemsS storeA put frz_nil deep callee resA initS touchOp fits compat rd wr key1 buildA partsD partsK idx frz_at Body.frz lk_hit lk_miss toD6_agg toD5_agg toD4_agg toD6_clo toD5_clo toD4_clo toD6_ptr toD5_ptr toD4_ptr sk6_agg sk5_agg sk4_agg sk6_clo sk5_clo sk4_clo sk6_ptr sk5_ptr sk4_ptr toD_rsl sk_rsl resK EndsP EndsMP fitVs fitCs fitC keysV keysC keyC cellsA1 skVs skCs skC1 resO tupA valsV cellsV oneV rowsV rowsC RV.cells nk rowsH_one rowsH_two rowsH_none
attribute [local simp] allD_map_d sks_map_d tk tn tks initA EndsM
mutual
def mapT (f : Int → Int → T) : T → Int → T
  | .mk k n ks, b => if k = 1 then f n b else .mk k n (mapL f k b 0 ks)
def mapL (f : Int → Int → T) (k b : Int) : Nat → List T → List T
  | _, [] => []
  | i, x :: xs => mapT f x (b + bindsM k i) :: mapL f k b (i + 1) xs
end
/-- An argument, with what is reckoned of it. -/
structure Ag where
  t : T
  size : Int
  depth : Int
  free : Int
def cAg (a : Ag) : List D := cT a.t ++ [.int .i64 a.size, .int .i64 a.depth, .int .i64 a.free]
def eAg (a : Ag) : D := .agg (cAg a)
@[simp] theorem eAg_cells (a : Ag) : (eAg a).cells = cAg a := rfl
structure St3 where
  sc : Bool
  sz : Int
  dp : Int
def zT : T := .mk 0 0 []
theorem rt_ok (k : Int) (l : List T) (hl : l.length * 40 ≤ maxRoom) : Pure Tryz.prog n_porismref01_T [.int .i64 k, eTs l] [.agg (cT (.mk k 0 l))] := by
  refine p_porismref01_T rfl fun hs => ?_
  simp -dsimp [x_porismref01_T, cT, eTs, hl]
theorem map_map (f g h : Int → Int → T) (e : Int) (hv : ∀ n b : Int, 0 ≤ n → n ≤ 65535 → 0 ≤ b → b ≤ 4194304 → mapT f (g n b) (b + e) = h n b) (t : T) : ∀ b : Int, formedM t = true → 0 ≤ b → b + nodes t ≤ 4194304 → mapT f (mapT g t b) (b + e) = mapT h t b := by
  refine T.ind (p := fun t => ∀ b : Int, formedM t = true → 0 ≤ b → b + nodes t ≤ 4194304 → mapT f (mapT g t b) (b + e) = mapT h t b) ?_ t
  intro k n ks ih b hfm h0 hb
  rw [mapT, mapT]
  by_cases h1 : k = 1
  · have hn := var_formed h1 hfm
    rw [if_pos h1, if_pos h1, hv n b hn.1 hn.2 h0 (by omega)]
  · rw [if_neg h1, if_neg h1, mapT, if_neg h1]
    congr 1
    have go : ∀ (xs : List T) (i : Nat), (∀ x ∈ xs, x ∈ ks) → mapL f k (b + e) i (mapL g k b i xs) = mapL h k b i xs := by
      intro xs
      induction xs with
      | nil => intro i _; simp [mapL]
      | cons x xs ihx =>
        intro i hm
        have hx := hm x (by simp)
        have hxn := nodes_kid (k := k) (n := n) hx
        have hbl := binds_le k i
        have e1 : b + e + bindsM k i = b + bindsM k i + e := by omega
        rw [mapL, mapL, mapL, e1, ih x hx _ (kids_formed hfm x hx) (by omega) (by omega), ihx (i + 1) fun y hy => hm y (by simp [hy])]
    exact go ks 0 fun x hx => hx
def mv (y : Int) (n b : Int) : T := .mk 1 (if b ≤ n then w64 (n + y) else n) []
end Ev
end Go.Proofs.YthopdhnbflkabaaGreat
