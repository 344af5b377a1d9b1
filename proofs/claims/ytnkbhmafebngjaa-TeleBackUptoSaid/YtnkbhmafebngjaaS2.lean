/- Sizes and depths of terms; what is played. -/
import Derived.Test.YtnkbhmafebngjaaS0
namespace Go.Proofs.Ytnkbhmafebngjaa
namespace Ev
open Go
set_option maxRecDepth 100000
set_option linter.unusedSimpArgs false
set_option linter.unusedVariables false
attribute [local simp ↓] wx_skip wx_region wx_seq wx_block wx_exit wx_ret wx_cond wx_loop wo_nil wo_run wo_ask wx_draw wt_nil wt_run_t wt_run_f wt_ask_t wt_ask_f rb_mv rb_nilrow rb_pick rb_alloc rb_box rb_load rb_store rb_nilck rb_bin rb_binb rb_un rb_conv rb_mkf rb_mks rb_slice rb_faddr rb_fld rb_iaddr rb_ext rb_len rb_app rb_mm rb_build rb_bslice run_callC upd_eq upd_ne
attribute [local simp] runB_some runB_none Tch_nil Tch_cons Chk_t Cnd_t Cnd_f Ask_tt Ask_ff Ask_tf Ask_ft Ask_skip act ev_t ev_c evs sks caps2 touch_call List.cons_append List.nil_append putS binI binB int_add int_sub int_mul int_quo int_rem int_or int_eql int_neq int_lss int_leq int_gtr int_geq shiftD Ex.then Ex.inBlock Ends resL resX allD toD_d toD_fsl sk_d sk_fsl none_ loadA cut wrapA wrapD avc_d avc_agg avc_fsl avc_rsl avc_ptr avc_eptr avc_clo dc_agg dc_int dc_bool dc_str dc_sl dc_nilp dc_rp dc_clo on_int on_bool on_str on_sl on_nilp on_rp on_clo on_fsl on_rsl on_ptr on_eptr on_cloA newE elemsA elemsS storeA put frz_nil deep callee resA initS touchOp fits compat rd wr key1 buildA partsD partsK idx frz_at Body.frz lk_hit lk_miss toD6_agg toD5_agg toD4_agg toD6_clo toD5_clo toD4_clo toD6_ptr toD5_ptr toD4_ptr sk6_agg sk5_agg sk4_agg sk6_clo sk5_clo sk4_clo sk6_ptr sk5_ptr sk4_ptr toD_rsl sk_rsl

def sizeM : T → Int
  | .mk _ _ ks => (ks.map sizeM).foldl (fun a s => w64 (a + s)) 1
theorem sizeM_eq (t : T) : sizeM t = (t.kids.map sizeM).foldl (fun a s => w64 (a + s)) 1 := by cases t; rw [sizeM]; rfl
def mx (a b : Int) : Int := if a < b then b else a
def depthM : T → Int
  | .mk _ _ ks => w64 ((ks.map depthM).foldl mx 0 + 1)
theorem depthM_eq (t : T) : depthM t = w64 ((t.kids.map depthM).foldl mx 0 + 1) := by cases t; rw [depthM]; rfl

theorem kids_small {t : T} (h : ∀ d ∈ [D.agg (cT t)], small 8 d) : t.kids.length ≤ 9223372036854775807 := by
  have := h (D.agg (cT t)) (by simp)
  simp -dsimp [cT, small] at this
  exact this.1

theorem take_snoc {α : Type} {l : List α} {i : Nat} {x : α} (h : l[i]? = some x) : l.take (i + 1) = l.take i ++ [x] := by simp -dsimp [List.take_add_one, h]

theorem foldl_next {α β : Type} (f : β → α → β) (b : β) (l : List α) (i : Nat) (x : α) (h : l[i]? = some x) : (l.take (i + 1)).foldl f b = f ((l.take i).foldl f b) x := by
  rw [take_snoc h, List.foldl_append]; rfl

theorem size_ok (t : T) : Pure Try.prog n_porismref01_Size [.agg (cT t)] [.int .i64 (sizeM t)] := by
  refine T.ind (p := fun t => Pure Try.prog n_porismref01_Size [.agg (cT t)] [.int .i64 (sizeM t)]) ?_ t
  intro k n ks ih
  refine p_porismref01_Size rfl fun hs => ?_
  have hl := kids_small hs
  simp -dsimp [T.kids] at hl
  simp -dsimp [x_porismref01_Size, cT, T.kind, T.num, T.kids]
  refine wp_upto ks.length (fun i st => st.s 1 = .ptr 1 1 0 ∧ st.h 1 = ⟨1, .box [.d (.int .i64 k), .d (.int .i64 n), .d (.sl 3 (ks.map eT))] false⟩ ∧ st.s 4 = .d (.int .i64 i) ∧ st.s 3 = .d (.int .i64 (((ks.map sizeM).take i).foldl (fun a s => w64 (a + s)) 1))) ?_ ?_
  · simp
  · rintro i ⟨s, hp⟩ hi ⟨h1, h2, h3, h4⟩
    dsimp only at h1 h2 h3 h4
    rcases Nat.lt_or_ge i ks.length with hlt | hge
    · have w1 : IntKind.i64.wrap ((i : Int) + 1) = (i : Int) + 1 := wrap_id (by omega) (by omega)
      simp -dsimp [h1, h2, h3, h4, hlt, cT]
      refine call_of (ih ks[i] (List.getElem_mem _)) ?_
      have hf := foldl_next (fun a s => w64 (a + s)) 1 (ks.map sizeM) i (sizeM ks[i]) (by simp [hlt])
      simp -dsimp [h1, h2, h3, h4, hlt, w1, hf]
      rfl
    · have e : i = ks.length := by omega
      subst e
      have ht : (ks.map sizeM).take ks.length = ks.map sizeM := List.take_of_length_le (by simp)
      simp -dsimp [h1, h2, h3, h4, sizeM, ht]

theorem foldl_mx (l : List Int) (i : Nat) (x : Int) (h : l[i]? = some x) : (l.take (i + 1)).foldl mx 0 = mx ((l.take i).foldl mx 0) x := foldl_next _ _ _ _ _ h

theorem depth_ok (t : T) : Pure Try.prog n_porismref01_Depth [.agg (cT t)] [.int .i64 (depthM t)] := by
  refine T.ind (p := fun t => Pure Try.prog n_porismref01_Depth [.agg (cT t)] [.int .i64 (depthM t)]) ?_ t
  intro k n ks ih
  refine p_porismref01_Depth rfl fun hs => ?_
  have hl := kids_small hs
  simp [T.kids] at hl
  simp -dsimp [x_porismref01_Depth, cT, T.kind, T.num, T.kids]
  refine wp_upto ks.length (fun i st => st.s 1 = .ptr 1 1 0 ∧ st.h 1 = ⟨1, .box [.d (.int .i64 k), .d (.int .i64 n), .d (.sl 3 (ks.map eT))] false⟩ ∧ st.s 4 = .d (.int .i64 i) ∧ st.s 3 = .d (.int .i64 (((ks.map depthM).take i).foldl mx 0))) ?_ ?_
  · simp -dsimp
  · rintro i ⟨s, hp⟩ hi ⟨h1, h2, h3, h4⟩
    dsimp only at h1 h2 h3 h4
    rcases Nat.lt_or_ge i ks.length with hlt | hge
    · have w1 : IntKind.i64.wrap ((i : Int) + 1) = (i : Int) + 1 := wrap_id (by omega) (by omega)
      simp -dsimp [h1, h2, h3, h4, hlt, cT]
      refine call_of (ih ks[i] (List.getElem_mem _)) ?_
      have hf := foldl_mx (ks.map depthM) i (depthM ks[i]) (by simp [hlt])
      simp -dsimp [h1, h2, h3, h4, hlt, w1, hf]
      rfl
    · have e : i = ks.length := by omega
      subst e
      have ht : (ks.map depthM).take ks.length = ks.map depthM := List.take_of_length_le (by simp)
      simp -dsimp [h1, h2, h3, h4, depthM, ht]
      rfl

/-- What is played, of terms. -/
def heavy02 (l : List T) : Bool := decide ((60 : Int) < (l.length : Int)) || l.any (fun t => decide (300 < depthM t)) || decide (9000 < (l.map sizeM).foldl (fun a s => w64 (a + s)) 0)
theorem heavy02_ok (l : List T) : Pure Try.prog n_porismlaw02_Heavy [eTs l] [.bool (heavy02 l)] := by
  refine p_porismlaw02_Heavy rfl fun hs => ?_
  simp -dsimp [x_porismlaw02_Heavy, eTs]
  (first | refine Ask_b ?_ ?_ | refine Cnd_b ?_ ?_) <;> intro h1 <;> (try simp only [decide_eq_true_eq, decide_eq_false_iff_not, beq_iff_eq, beq_eq_false_iff_ne, bne_iff_ne, bne_eq_false_iff_eq, Bool.not_eq_true', Bool.not_eq_false', Bool.and_eq_true, Bool.or_eq_true, Bool.and_eq_false_iff, Bool.or_eq_false_iff] at h1) <;> simp -dsimp [h1, heavy02]
  have hl : l.length ≤ 60 := by omega
  refine wp_upto l.length (fun i st => st.s 0 = .d (.sl 3 (l.map eT)) ∧ st.s 4 = .d (.int .i64 i) ∧ st.s 3 = .d (.int .i64 (((l.map sizeM).take i).foldl (fun a s => w64 (a + s)) 0)) ∧ (l.take i).any (fun t => decide (300 < depthM t)) = false) ?_ ?_
  · simp -dsimp
  · rintro i ⟨s, hp⟩ hi ⟨h2, h3, h4, h5⟩
    dsimp only at h2 h3 h4 h5
    rcases Nat.lt_or_ge i l.length with hlt | hge
    · have w1 : IntKind.i64.wrap ((i : Int) + 1) = (i : Int) + 1 := wrap_id (by omega) (by omega)
      simp -dsimp [h2, h3, h4, hlt, cT]
      refine call_of (depth_ok l[i]) ?_
      simp -dsimp [h2, h3, h4, hlt]
      (first | refine Ask_b ?_ ?_ | refine Cnd_b ?_ ?_) <;> intro h6 <;> (try simp only [decide_eq_true_eq, decide_eq_false_iff_not, beq_iff_eq, beq_eq_false_iff_ne, bne_iff_ne, bne_eq_false_iff_eq, Bool.not_eq_true', Bool.not_eq_false', Bool.and_eq_true, Bool.or_eq_true, Bool.and_eq_false_iff, Bool.or_eq_false_iff] at h6) <;> simp -dsimp [h6, heavy02]
      · exact .inl (.inr ⟨l[i], List.getElem_mem _, h6⟩)
      · simp -dsimp [h2, h3, h4, hlt, h6, cT]
        refine call_of (size_ok l[i]) ?_
        have hf := foldl_next (fun a s => w64 (a + s)) 0 (l.map sizeM) i (sizeM l[i]) (by simp [hlt])
        have h7 : (l.take (i + 1)).any (fun t => decide (300 < depthM t)) = false := by
          rw [take_snoc (List.getElem?_eq_getElem hlt), List.any_append, h5]
          simp [h6]
        simp -dsimp [h2, h3, h4, hlt, w1, hf]
        exact ⟨rfl, by simpa using h7⟩
    · have e : i = l.length := by omega
      subst e
      have ht : (l.map sizeM).take l.length = l.map sizeM := List.take_of_length_le (by simp)
      simp -dsimp [h2, h3, h4, heavy02, ht]
      rintro (h | ⟨x, hx, h⟩)
      · exact absurd h h1
      · rw [List.take_length] at h5
        have := List.any_eq_false.1 h5 x hx
        simp at this
        omega
end Ev
end Go.Proofs.Ytnkbhmafebngjaa
